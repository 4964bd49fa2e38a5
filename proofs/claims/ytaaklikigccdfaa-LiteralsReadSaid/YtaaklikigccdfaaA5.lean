import Derived.Test.YtaaklikigccdfaaA4
set_option linter.unusedVariables false
set_option linter.unusedSimpArgs false
namespace Go.Proofs.Ytaaklikigccdfaa
open Go Go.Sx Go.Proofs
/-! balerref09.Read. -/
set_option maxRecDepth 10000
set_option maxHeartbeats 40000000
theorem refread9_con (b : List Int) (cap : Nat) (hby : ∀ x ∈ b, isByte x) (hl : b.length ≤ 140737488355328) (hcap : b.length ≤ cap) (hcm : cap ≤ 9223372036854775807) :
    Con Try.prog 7 [.slice 0 .z 1 b.length cap] [.ro .u8 b] (fun v H R => R = [] ∧ ((shortW b ∧ H = [.ro .u8 b] ∧ v = .tup [.val (.slice none 0 0), .int .i64 0, .int .i64 10]) ∨
      (¬ shortW b ∧ (∀ l, ¬ RdW 257 b l) ∧ H = [.ro .u8 b] ∧ v = .tup [.val (.slice none 0 0), .int .i64 0, .int .i64 11]) ∨
      (¬ shortW b ∧ ∃ l c', RdW 257 b l ∧ H = [.ro .u8 b, .buf 5 .u8 l c'] ∧ v = .tup [.slice 1 .z 1 l.length c', .int .i64 (1 + hnW b), .int .i64 0]))) := by
  have hh := byte_bit hby 0
  unfold isByte at hh
  obtain ⟨h, hh0⟩ : ∃ h, h = b.getD 0 0 := ⟨_, rfl⟩
  rw [← hh0] at hh
  have hhn : hnW b = if 128 ≤ h then (h - 126) / 2 else h := by unfold hnW; rw [← hh0]
  have htp : ∀ F, toldP F b = if 128 ≤ h then some (nibs b (h - 127).toNat) else bst F ((b.drop 1).take h.toNat) := fun F => by unfold toldP; rw [← hh0]
  obtain ⟨n, hn⟩ : ∃ n, n = hnW b := ⟨_, rfl⟩
  rw [← hn] at hhn
  have hsh : shortW b ↔ b.length = 0 ∨ (b.length : Int) - 1 < n := by unfold shortW; rw [← hn]
  rw [← hn]
  by_cases h0 : b.length = 0
  · have hs := hsh.2 (.inl h0)
    refine con_gen (con_picks (con_drop (con_walk hmix fn7 ?_)))
    intro vb vc vw vtoN vofN vaddN vsubN vmaxI vminI vcutN vgd vst vln vrep vsub vonto vsplice vstrEq vbyteV vnotB veqB hw qb qc qw qtoN qofN qaddN qsubN qmaxI qminI qcutN qgd qst qln qrep qsub qonto qsplice qstrEq qbyteV qnotB qeqB
    have hm := hmix; generalize Try.prog = P at *
    generalize shortW b = SH at *
    generalize RdW 257 b = RW at *
    generalize b.length = bl at *
    subst h0
    have e : vc .eql (vofN 0) 0 = true := by rw [qc, qofN]; rfl
    cbv
    rw [e]
    cbv
    exact ⟨[0], .tup [.val (.slice none 0 0), .lit .i64 0, .lit .i64 10], [.ro .u8 b], rfl, rfl, rfl, rfl, ⟨rfl, trivial⟩, rfl, .inl ⟨hs, rfl, rfl⟩⟩
  by_cases h128 : 128 ≤ h
  · have hRW : ∀ l, RdW 257 b l ↔ OkE (nibs b (h - 127).toNat) l := by
      intro l
      unfold RdW
      rw [htp, if_pos h128]
      exact ⟨fun ⟨t, h1, h2⟩ => by rw [Option.some.injEq] at h1; subst h1; exact h2, fun h => ⟨_, rfl, h⟩⟩
    rw [if_pos h128] at hhn
    obtain ⟨nN, hnN⟩ : ∃ nN : Nat, n = nN := ⟨n.toNat, by omega⟩
    obtain ⟨kN, hkN⟩ : ∃ kN : Nat, h - 127 = kN := ⟨(h - 127).toNat, by omega⟩
    rw [hkN, Int.toNat_natCast] at hRW
    have hk2 : kN ≤ 2 * nN ∧ 2 * nN ≤ kN + 1 ∧ kN ≤ 128 ∧ nN ≤ 64 := by omega
    have hends := fun (c : Nat) => refwhole_con (nibs b kN) c (nibs_u8 hby _)
    rw [nibs_len] at hends
    have hnl : ∀ k, (nibs b k).length = k := nibs_len b
    have hns : ∀ k, nibs b (k + 1) = nibs b k ++ [nibW b k] := nibs_succ b
    have hnb : ∀ i, nibW b i = if i % 2 = 0 then b.getD (1 + i / 2) 0 / 16 else b.getD (1 + i / 2) 0 % 16 := fun i => rfl
    have hbb := byte_bit hby
    unfold isByte at hbb
    refine con_gen (con_picks (con_drop (con_walk hmix fn7 ?_)))
    intro vb vc vw vtoN vofN vaddN vsubN vmaxI vminI vcutN vgd vst vln vrep vsub vonto vsplice vstrEq vbyteV vnotB veqB hw qb qc qw qtoN qofN qaddN qsubN qmaxI qminI qcutN qgd qst qln qrep qsub qonto qsplice qstrEq qbyteV qnotB qeqB
    have hm := hmix; generalize Try.prog = P at *
    generalize shortW b = SH at *
    generalize RdW 257 b = RW at *
    generalize nibW b = NB at *
    have hnib0 : nibs b 0 = [] := rfl
    generalize nibs b = NBS at *
    generalize OkE (NBS kN) = OK at *
    generalize hbl : b.length = bl at *
    have hgd : ∀ i, vgd b i = b.getD i 0 := fun i => by rw [qgd]
    have hlnb : vln b = bl := by simp only [qln, hbl]
    have hlnq : ∀ l, vln l = l.length := fun l => by rw [qln]
    have haddq : ∀ a b, vaddN a b = a + b := fun a b => by rw [qaddN]
    obtain ⟨bI, hbI⟩ : ∃ bI : Int, bI = bl := ⟨_, rfl⟩
    have ebl : vofN bl = bI := by rw [qofN, hbI]
    have e0 : vc .eql bI 0 = false := by rw [qc, eql_false]; omega
    have ewh : vw .i64 h = h := by rw [qw]; exact wrap_i64 (by omega) (by omega)
    have e128 : vc .geq h 128 = true := by rw [qc, geq_true]; exact h128
    have e128' : vc .lss h 128 = false := by rw [qc, lss_false]; omega
    have es1 : vb .sub .i64 h 127 = h - 127 := by rw [qb, sub_i64 (by omega) (by omega)]
    have es2 : vb .add .i64 (h - 127) 1 = h - 126 := by rw [qb, add_i64 (by omega) (by omega)]; omega
    have eq1 : vb .quo .i64 (h - 126) 2 = n := by rw [qb, quo_i64 (by omega) (by omega) (by omega), hhn]
    have ea1 : vb .add .i64 1 n = 1 + n := by rw [qb, add_i64 (by omega) (by omega)]
    have eah : vb .add .i64 1 h = 1 + h := by rw [qb, add_i64 (by omega) (by omega)]
    obtain ⟨h126, hh126⟩ : ∃ x, x = h - 126 := ⟨_, rfl⟩
    rw [← hh126] at es2 eq1
    obtain ⟨h127, hh127⟩ : ∃ x, x = h - 127 := ⟨_, rfl⟩
    rw [← hh127] at es1 es2
    obtain ⟨n1, hn1⟩ : ∃ x, x = 1 + n := ⟨_, rfl⟩
    rw [← hn1] at ea1 ⊢
    cbv
    rw [ebl, e0]
    cbv
    rw [haddq, hlnb, hgd, ← hh0, ewh, e128]
    refine ⟨⟨by omega, by omega⟩, ⟨by omega⟩, ⟨by omega⟩, ?_⟩
    cbv
    rw [es1, es2, eq1, ea1, ebl]
    generalize hz1 : vc .lss bI n1 = z1
    cases z1
    rotate_left
    · rw [qc, lss_true] at hz1
      cbv
      exact ⟨[0], .tup [.val (.slice none 0 0), .lit .i64 0, .lit .i64 10], [.ro .u8 b], rfl, rfl, rfl, rfl, ⟨rfl, trivial⟩, rfl, .inl ⟨hsh.2 (.inr (by ((try simp only [nc] at *); omega))), rfl, rfl⟩⟩
    rw [qc, lss_false] at hz1
    have hnsh : ¬ SH := fun h => by rcases hsh.1 h with h | h <;> ((try simp only [nc] at *); omega)
    cbv
    rw [e128]
    cbv
    refine WX.cv (Cv.nilT 6 5 .u8 (by rfl) (by cbv; try exact ⟨fun _ => rfl, trivial⟩) (Cv.here ?_))
    cbv
    refine loop_fam (α := Int × Nat × Nat × List Int) [31, 32, 33, 34, 35, 36, 37, 38, 39, 40, 41, 42, 43, 44, 45, 46, 47, 48, 49, 50, 51, 52] [1] (fun (k, m, c, L) => [(8, .int .i64 k), (6, .slice 1 .z 1 m c)]) (fun (k, m, c, L) => [(1, .buf 5 .u8 L c)])
      (fun (k, m, c, L) => ∃ i : Nat, k = i ∧ i ≤ kN ∧ L = NBS i ∧ m = i ∧ m ≤ c) (fun (k, _) => kN - k.toNat) hw hm ?_ ?_
    · refine Cv.genAt [8] [] (Cv.fold [31, 32, 33, 34, 35, 36, 37, 38, 39, 40, 41, 42, 43, 44, 45, 46, 47, 48, 49, 50, 51, 52] 2 [1] (by exact Nat.le_refl _) (by exact Nat.le_of_ble_eq_true rfl) (by rfl) (by cbv) ?_)
      intro js
      refine ⟨(_, _, _, _), ?_, js, rfl⟩
      exact ⟨0, rfl, by omega, hnib0.symm, rfl, Nat.le_refl _⟩
    · rintro ⟨k, m, c, L⟩ js ⟨i, hk, hi, hL, hm2, hmc⟩
      cbv
      rw [es1]
      generalize hz2 : vc .lss k h127 = z2
      cases z2
      rotate_left
      · rw [qc, lss_true] at hz2
        have hlt : i < kN := by ((try simp only [nc] at *); omega)
        obtain ⟨k1, hk1⟩ : ∃ k1 : Int, k1 = ((i + 1 : Nat) : Int) := ⟨_, rfl⟩
        have ek1 : vb .add .i64 k 1 = k1 := by (try simp only [nc] at *); rw [qb, add_i64 (by omega) (by omega)]; omega
        have hmu : ∀ _ : Unit, kN - k1.toNat < kN - k.toNat := fun _ => by ((try simp only [nc] at *); omega)
        obtain ⟨kq, hkq⟩ : ∃ kq : Int, kq = k / 2 := ⟨_, rfl⟩
        have eqq : vb .quo .i64 k 2 = kq := by (try simp only [nc] at *); rw [qb, quo_i64 (by omega) (by omega) (by omega), hkq]
        obtain ⟨kr, hkr⟩ : ∃ kr : Int, kr = k % 2 := ⟨_, rfl⟩
        have eqr : vb .rem .i64 k 2 = kr := by (try simp only [nc] at *); rw [qb, rem_i64 (by omega), hkr]
        obtain ⟨at1, hat1⟩ : ∃ at1 : Int, at1 = 1 + kq := ⟨_, rfl⟩
        have eat : vb .add .i64 1 kq = at1 := by (try simp only [nc] at *); rw [qb, add_i64 (by omega) (by omega), hat1]
        have htat : vtoN at1 = 1 + i / 2 := by simp only [qtoN]; ((try simp only [nc] at *); omega)
        have hinB : 0 ≤ at1 ∧ at1 < (bl : Int) := by ((try simp only [nc] at *); omega)
        have hlt2 : 1 + i / 2 < bl := by ((try simp only [nc] at *); omega)
        obtain ⟨sh1, hsh1⟩ : ∃ x : Int, x = 1 - kr := ⟨_, rfl⟩
        have esh1 : vb .sub .i64 1 kr = sh1 := by (try simp only [nc] at *); rw [qb, sub_i64 (by omega) (by omega), hsh1]
        obtain ⟨sh4, hsh4⟩ : ∃ x : Int, x = 4 * sh1 := ⟨_, rfl⟩
        have esh4 : vb .mul .i64 4 sh1 = sh4 := by (try simp only [nc] at *); rw [qb, mul_i64 (by omega) (by omega), hsh4]
        have hkr01 : kr = 0 ∨ kr = 1 := by ((try simp only [nc] at *); omega)
        have esw : vw .u64 sh4 = sh4 := by (try simp only [nc] at *); rw [qw]; exact wrap_u64 (by omega) (by omega)
        have hsh0 : 0 ≤ sh4 := by ((try simp only [nc] at *); omega)
        have hb1 := hbb (1 + i / 2)
        have hs1 := hns i
        rw [← hL] at hs1
        have hnbi := hnb i
        generalize hxx : b.getD (1 + i / 2) 0 = x at *
        obtain ⟨y, hy⟩ : ∃ y, y = NB i := ⟨_, rfl⟩
        rw [← hy] at hs1 hnbi
        have e1 : vb .and .u8 (vb .shr .u8 x sh4) 15 = y := by
          have hband : ∀ z : Int, 0 ≤ z → z < 256 → vb .and .u8 z 15 = z % 16 := fun z h0 h1 => by
            rw [qb, show (15 : Int) = 2 ^ 4 - 1 by decide, and_mask rfl 4 (by decide) h0 (by show z < 256; exact h1)]; rfl
          rcases hkr01 with h | h
          · have h4 : sh4 = 4 := by omega
            have hi2 : i % 2 = 0 := by ((try simp only [nc] at *); omega)
            rw [if_pos hi2] at hnbi
            have e4 : vb .shr .u8 x 4 = x / 16 := by rw [qb, shr_eq (by decide)]; rfl
            rw [h4, e4, hband _ (by omega) (by omega), hnbi]
            omega
          · have h4 : sh4 = 0 := by omega
            have hi2 : ¬ i % 2 = 0 := by ((try simp only [nc] at *); omega)
            rw [if_neg hi2] at hnbi
            have e4 : vb .shr .u8 x 0 = x := by rw [qb, shr_eq (by decide)]; simp
            rw [h4, e4, hband _ (by omega) (by omega), hnbi]
        obtain ⟨L2, hL2⟩ : ∃ L2, L2 = NBS (i + 1) := ⟨_, rfl⟩
        rw [← hL2] at hs1
        have hlL : L.length = m := by rw [hL, hm2]; exact hnl _
        have hont : vonto L m (vsub [y] 0 1) = L2 := by
          rw [hs1, qonto, qsub, ← hlL]; simp
        have hln2 : vln [y] = 1 := by rw [qln]; rfl
        have ha2 := haddq m 1
        obtain ⟨m2, hm2'⟩ : ∃ m2, m2 = m + 1 := ⟨_, rfl⟩
        rw [← hm2'] at ha2
        have hm2b : m2 * 1 ≤ 140737488355328 := by omega
        cbv
        rw [eqq, eat, htat, haddq, hgd, hlnb, hxx, eqr, esh1, esh4, esw, e1]
        refine ⟨⟨hinB⟩, ⟨by omega⟩, ⟨by omega⟩, ⟨hsh0⟩, ⟨by rw [haddq, hln2]; exact Nat.le_refl _⟩, ⟨by rw [hlnq, hlL]; exact Nat.le_refl _⟩, ⟨Nat.le_refl _⟩, ⟨by rw [ha2]; exact hm2b⟩, ?_⟩
        intro c2 js2 hle
        have hle' : m2 ≤ c2 := by have := hle.out; simp only at this; rw [ha2] at this; exact this
        cbv
        rw [hont, ha2, ek1]
        refine Cv.fold [31, 32, 33, 34, 35, 36, 37, 38, 39, 40, 41, 42, 43, 44, 45, 46, 47, 48, 49, 50, 51, 52] 2 [1] (by exact Nat.le_refl _) (by exact Nat.le_of_ble_eq_true rfl) (by rfl) (by cbv) ?_
        intro js
        refine ⟨(_, _, _, _), ?_, js, rfl⟩
        exact ⟨⟨i + 1, hk1, hlt, hL2, by omega, hle'⟩, hmu ()⟩
      · rw [qc, lss_false] at hz2
        have hin : i = kN := by ((try simp only [nc] at *); omega)
        subst hin
        have hec := hends c
        rw [← hL, ← hm2] at hec
        have hnt : vnotB true = false := by rw [qnotB]; rfl
        have hnf : vnotB false = true := by rw [qnotB]; rfl
        cbv
        refine call_con (ρ := [(1, .z)]) hec ⟨by rfl, by rfl, by rfl, by cbv; exact ⟨view_refl _, trivial⟩⟩ ?_
        rintro v H R js3 ⟨rfl, ⟨l, c3, hok, rfl, rfl⟩ | ⟨hno, ⟨rfl, rfl⟩ | ⟨l3, c3, n3, rfl, rfl⟩⟩⟩
        · obtain ⟨ll, hll⟩ : ∃ ll, ll = l.length := ⟨_, rfl⟩
          rw [← hll]
          cbv
          rw [hnt]
          cbv
          subst hll
          exact ⟨[0, 2], .tup [.slice 1 .z 1 l.length c3, .int .i64 n1, .lit .i64 0], [.ro .u8 b, .buf 5 .u8 l c3], rfl, rfl, rfl, rfl, ⟨rfl, rfl, trivial⟩, rfl, .inr (.inr ⟨hnsh, l, c3, (hRW l).2 hok, rfl, rfl⟩)⟩
        · cbv
          rw [hnf]
          cbv
          exact ⟨[0], .tup [.val (.slice none 0 0), .lit .i64 0, .lit .i64 11], [.ro .u8 b], rfl, rfl, rfl, rfl, ⟨rfl, trivial⟩, rfl, .inr (.inl ⟨hnsh, fun l h => hno l ((hRW l).1 h), rfl, rfl⟩)⟩
        · cbv
          rw [hnf]
          cbv
          exact ⟨[0], .tup [.val (.slice none 0 0), .lit .i64 0, .lit .i64 11], [.ro .u8 b], rfl, rfl, rfl, rfl, ⟨rfl, trivial⟩, rfl, .inr (.inl ⟨hnsh, fun l h => hno l ((hRW l).1 h), rfl, rfl⟩)⟩

  · have hRW : ∀ l, RdW 257 b l ↔ ∃ t, bst 257 ((b.drop 1).take h.toNat) = some t ∧ OkE t l := by
      intro l
      unfold RdW
      rw [htp, if_neg h128]
    rw [if_neg h128] at hhn
    obtain ⟨nN, hnN⟩ : ∃ nN : Nat, n = nN := ⟨n.toNat, by omega⟩
    have hht : h.toNat = nN := by omega
    rw [hht] at hRW
    by_cases hs1 : (b.length : Int) - 1 < n
    · have hs := hsh.2 (.inr hs1)
      refine con_gen (con_picks (con_drop (con_walk hmix fn7 ?_)))
      intro vb vc vw vtoN vofN vaddN vsubN vmaxI vminI vcutN vgd vst vln vrep vsub vonto vsplice vstrEq vbyteV vnotB veqB hw qb qc qw qtoN qofN qaddN qsubN qmaxI qminI qcutN qgd qst qln qrep qsub qonto qsplice qstrEq qbyteV qnotB qeqB
      have hm := hmix; generalize Try.prog = P at *
      generalize shortW b = SH at *
      generalize RdW 257 b = RW at *
      generalize hbl : b.length = bl at *
      have hgd : ∀ i, vgd b i = b.getD i 0 := fun i => by rw [qgd]
      have hlnb : vln b = bl := by simp only [qln, hbl]
      have haddq : ∀ a b, vaddN a b = a + b := fun a b => by rw [qaddN]
      obtain ⟨bI, hbI⟩ : ∃ bI : Int, bI = bl := ⟨_, rfl⟩
      have ebl : vofN bl = bI := by rw [qofN, hbI]
      have e0 : vc .eql bI 0 = false := by rw [qc, eql_false]; omega
      have ewh : vw .i64 h = h := by rw [qw]; exact wrap_i64 (by omega) (by omega)
      have e128 : vc .geq h 128 = false := by rw [qc, geq_false]; exact h128
      have eah : vb .add .i64 1 h = 1 + h := by rw [qb, add_i64 (by omega) (by omega)]
      obtain ⟨h1, hh1⟩ : ∃ x, x = 1 + h := ⟨_, rfl⟩
      rw [← hh1] at eah
      have hz1 : vc .lss bI h1 = true := by rw [qc, lss_true]; omega
      cbv
      rw [ebl, e0]
      cbv
      rw [haddq, hlnb, hgd, ← hh0, ewh, e128]
      refine ⟨⟨by omega, by omega⟩, ⟨by omega⟩, ⟨by omega⟩, ?_⟩
      cbv
      rw [eah, ebl, hz1]
      cbv
      exact ⟨[0], .tup [.val (.slice none 0 0), .lit .i64 0, .lit .i64 10], [.ro .u8 b], rfl, rfl, rfl, rfl, ⟨rfl, trivial⟩, rfl, .inl ⟨hs, rfl, rfl⟩⟩
    have hnsh0 : ¬ shortW b := fun h => by rcases hsh.1 h with h | h <;> omega
    have hml : ((b.drop 1).take nN).length = nN := by rw [List.length_take, List.length_drop]; omega
    have hmb : ∀ x ∈ (b.drop 1).take nN, isByte x := fun x hx => hby x (List.mem_of_mem_drop (List.mem_of_mem_take hx))
    have hvm := view_mid b nN cap (by omega) hcap
    have hbs := fun c h => refstates_con ((b.drop 1).take nN) c hmb (by omega) h
    rw [hml] at hbs
    have hu8 := fun L => @bst_u8 257 ((b.drop 1).take nN) L
    have hends := fun (L : List Int) (c : Nat) (hL : bst 257 ((b.drop 1).take nN) = some L) => refwhole_con L c (bst_u8 hL).1
    refine con_gen (con_picks (con_drop (con_walk hmix fn7 ?_)))
    intro vb vc vw vtoN vofN vaddN vsubN vmaxI vminI vcutN vgd vst vln vrep vsub vonto vsplice vstrEq vbyteV vnotB veqB hw qb qc qw qtoN qofN qaddN qsubN qmaxI qminI qcutN qgd qst qln qrep qsub qonto qsplice qstrEq qbyteV qnotB qeqB
    have hm := hmix; generalize Try.prog = P at *
    generalize shortW b = SH at *
    generalize RdW 257 b = RW at *
    generalize bst 257 ((b.drop 1).take nN) = RES at *
    generalize (b.drop 1).take nN = b1 at *
    generalize hOE : OkE = OE at *
    generalize hbl : b.length = bl at *
    have hgd : ∀ i, vgd b i = b.getD i 0 := fun i => by rw [qgd]
    have hlnb : vln b = bl := by simp only [qln, hbl]
    have haddq : ∀ a b, vaddN a b = a + b := fun a b => by rw [qaddN]
    obtain ⟨bI, hbI⟩ : ∃ bI : Int, bI = bl := ⟨_, rfl⟩
    have ebl : vofN bl = bI := by rw [qofN, hbI]
    have e0 : vc .eql bI 0 = false := by rw [qc, eql_false]; omega
    have ewh : vw .i64 h = h := by rw [qw]; exact wrap_i64 (by omega) (by omega)
    have e128 : vc .geq h 128 = false := by rw [qc, geq_false]; exact h128
    have e128' : vc .lss h 128 = true := by rw [qc, lss_true]; omega
    have ea1 : vb .add .i64 1 h = 1 + n := by rw [qb, add_i64 (by omega) (by omega), hhn]
    obtain ⟨n1, hn1⟩ : ∃ x, x = 1 + n := ⟨_, rfl⟩
    rw [← hn1] at ea1 ⊢
    have hz1 : vc .lss bI n1 = false := by rw [qc, lss_false]; omega
    have htn1 : vtoN n1 = 1 + nN := by simp only [qtoN, hn1, hnN]; ((try simp only [nc] at *); omega)
    have hcut : vcutN 0 1 cap = if cap = 1 then 0 else 0 + 1 := by rw [qcutN]
    have hsb1 : vsubN (1 + nN) 1 = nN := by rw [qsubN]; simp only; omega
    have hcp : nN ≤ vsubN cap 1 := by rw [qsubN]; simp only; omega
    rw [← hcut] at hvm
    obtain ⟨o1, ho1⟩ : ∃ o1, o1 = vcutN 0 1 cap := ⟨_, rfl⟩
    rw [← ho1] at hvm
    obtain ⟨c1, hc1⟩ : ∃ c1, c1 = vsubN cap 1 := ⟨_, rfl⟩
    rw [← hc1] at hcp
    have hbs1 := hbs c1 hcp
    have hnt : vnotB true = false := by rw [qnotB]; rfl
    have hnf : vnotB false = true := by rw [qnotB]; rfl
    cbv
    rw [ebl, e0]
    cbv
    rw [haddq, hlnb, hgd, ← hh0, ewh, e128]
    refine ⟨⟨by omega, by omega⟩, ⟨by omega⟩, ⟨by omega⟩, ?_⟩
    cbv
    rw [ea1, ebl, hz1]
    cbv
    rw [e128]
    cbv
    rw [htn1, ← ho1, hsb1, ← hc1]
    refine ⟨⟨by ((try simp only [nc] at *); omega), by ((try simp only [nc] at *); omega)⟩, ⟨by omega, by ((try simp only [nc] at *); omega)⟩, ?_⟩
    refine call_con (ρ := [(0, .n o1)]) hbs1 ⟨by rfl, by rfl, by rfl, by cbv; exact ⟨hvm, trivial⟩⟩ ?_
    rintro v H R js ⟨rfl, ⟨hres, rfl, rfl⟩ | ⟨L, c2, hres, rfl, rfl⟩⟩
    · cbv
      rw [hnf]
      cbv
      have hno : ∀ l, ¬ RW l := fun l h => by
        obtain ⟨t, h1, _⟩ := (hRW l).1 h
        rw [hres] at h1
        cases h1
      exact ⟨[0], .tup [.val (.slice none 0 0), .lit .i64 0, .lit .i64 11], [.ro .u8 b], rfl, rfl, rfl, rfl, ⟨rfl, trivial⟩, rfl, .inr (.inl ⟨hnsh0, hno, rfl, rfl⟩)⟩
    · have hec := hends L c2 hres
      have hRW' : ∀ l, RW l ↔ OE L l := fun l => by
        rw [hRW, hres]
        exact ⟨fun ⟨t, h1, h2⟩ => by rw [Option.some.injEq] at h1; subst h1; exact h2, fun h => ⟨_, rfl, h⟩⟩
      obtain ⟨Ln, hLn⟩ : ∃ Ln, Ln = L.length := ⟨_, rfl⟩
      rw [← hLn] at hec ⊢
      generalize OE L = OK at *
      cbv
      refine call_con (ρ := [(1, .z)]) hec ⟨by rfl, by rfl, by rfl, by cbv; exact ⟨view_refl _, trivial⟩⟩ ?_
      rintro v H R js3 ⟨rfl, ⟨l, c3, hok, rfl, rfl⟩ | ⟨hno, ⟨rfl, rfl⟩ | ⟨l3, c3, n3, rfl, rfl⟩⟩⟩
      · obtain ⟨ll, hll⟩ : ∃ ll, ll = l.length := ⟨_, rfl⟩
        rw [← hll]
        cbv
        rw [hnt]
        cbv
        subst hll
        exact ⟨[0, 2], .tup [.slice 1 .z 1 l.length c3, .int .i64 n1, .lit .i64 0], [.ro .u8 b, .buf 5 .u8 l c3], rfl, rfl, rfl, rfl, ⟨rfl, rfl, trivial⟩, rfl, .inr (.inr ⟨hnsh0, l, c3, (hRW' l).2 hok, rfl, rfl⟩)⟩
      · cbv
        rw [hnf]
        cbv
        exact ⟨[0], .tup [.val (.slice none 0 0), .lit .i64 0, .lit .i64 11], [.ro .u8 b], rfl, rfl, rfl, rfl, ⟨rfl, trivial⟩, rfl, .inr (.inl ⟨hnsh0, fun l h => hno l ((hRW' l).1 h), rfl, rfl⟩)⟩
      · cbv
        rw [hnf]
        cbv
        exact ⟨[0], .tup [.val (.slice none 0 0), .lit .i64 0, .lit .i64 11], [.ro .u8 b], rfl, rfl, rfl, rfl, ⟨rfl, trivial⟩, rfl, .inr (.inl ⟨hnsh0, fun l h => hno l ((hRW' l).1 h), rfl, rfl⟩)⟩

end Go.Proofs.Ytaaklikigccdfaa
namespace Go.Proofs.Ytaaklikigccdfaa
open Go Go.Sx Go.Proofs
/-! A step more changes nothing that counts. -/
theorem byS_succ {A B C : Nat → Int} {b : List Int} : ∀ (F : Nat) (a o p : Int) (l L : List Int), byS A B C b F a o p l = some L → byS A B C b (F + 1) a o p l = some L
  | 0, a, o, p, l, L, h => by simp [byS] at h
  | F + 1, a, o, p, l, L, h => by
    rw [byS] at h ⊢
    split
    · rename_i hc
      rw [if_pos hc] at h
      exact h
    · rename_i hc
      rw [if_neg hc] at h
      exact byS_succ F _ _ _ _ L h
theorem byS_last {A B C : Nat → Int} {b : List Int} : ∀ (F : Nat) (a o p : Int) (l L : List Int), byS A B C b (F + 1) a o p l = some L → byS A B C b F a o p l = none → L.length = l.length + F + 2
  | 0, a, o, p, l, L, h, h0 => by
    simp only [byS] at h
    split at h
    · rw [Option.some.injEq] at h
      subst h
      simp
    · cases h
  | F + 1, a, o, p, l, L, h, h0 => by
    rw [byS] at h h0
    split at h
    · rename_i hc
      rw [if_pos hc] at h0
      cases h0
    · rename_i hc
      rw [if_neg hc] at h0
      have := byS_last F _ _ _ _ L h h0
      rw [List.length_append, List.length_singleton] at this
      omega
theorem bst_succ {F : Nat} {b L : List Int} (h : bst F b = some L) : bst (F + 1) b = some L := by
  unfold bst at h ⊢
  generalize hRR : readR b 6 11 = r at h ⊢
  obtain ⟨cs, log, used, e⟩ := r
  simp only at h ⊢
  split at h
  · cases h
  rename_i h1
  split at h
  · cases h
  rename_i h2
  split at h
  · cases h
  rename_i h3
  split at h
  · cases h
  rename_i h4
  rw [if_neg h1, if_neg h2, if_neg h3, if_neg h4]
  exact byS_succ F _ _ _ _ L h
theorem bst_last {F : Nat} {b L : List Int} (h : bst (F + 1) b = some L) (h0 : bst F b = none) : L.length = F + 2 := by
  unfold bst at h h0
  generalize hRR : readR b 6 11 = r at h h0
  obtain ⟨cs, log, used, e⟩ := r
  simp only at h h0
  split at h
  · cases h
  rename_i h1
  split at h
  · cases h
  rename_i h2
  split at h
  · cases h
  rename_i h3
  split at h
  · cases h
  rename_i h4
  rw [if_neg h1, if_neg h2, if_neg h3, if_neg h4] at h0
  have := byS_last F _ _ _ _ L h h0
  simpa using this
theorem RdW_iff (b l : List Int) : RdW 256 b l ↔ RdW 257 b l := by
  unfold RdW toldP
  by_cases h : 128 ≤ b.getD 0 0
  · simp only [if_pos h]
  · simp only [if_neg h]
    constructor
    · rintro ⟨t, ht, ho⟩
      exact ⟨t, bst_succ ht, ho⟩
    · rintro ⟨t, ht, ho⟩
      cases hb : bst 256 ((b.drop 1).take (b.getD 0 0).toNat) with
      | none =>
        have := bst_last ht hb
        have := ho.1
        omega
      | some L =>
        have := bst_succ hb
        rw [ht] at this
        rw [Option.some.injEq] at this
        exact ⟨L, rfl, by rw [← this]; exact ho⟩
theorem RdW.uniq {F : Nat} {b l l' : List Int} (h : RdW F b l) (h' : RdW F b l') : l = l' := by
  obtain ⟨t, h1, h2⟩ := h
  obtain ⟨t', h3, h4⟩ := h'
  rw [h1, Option.some.injEq] at h3
  subst h3
  exact h2.uniq h4
end Go.Proofs.Ytaaklikigccdfaa
namespace Go.Proofs.Ytaaklikigccdfaa
open Go Go.Sx Go.Proofs
/-! A literals section, plainly. -/
set_option maxRecDepth 10000
set_option maxHeartbeats 40000000
theorem RdW_u8 {F : Nat} {b l : List Int} (hby : ∀ x ∈ b, isByte x) (h : RdW F b l) : (∀ c ∈ l, isU8 c) ∧ l.length ≤ 256 ∧ ∃ M, Wt l M := by
  obtain ⟨t, ht, h1, h2, _, ⟨k, _, rfl⟩, M, hW⟩ := h
  have htu : ∀ c ∈ t, isU8 c := by
    unfold toldP at ht
    split at ht
    · rw [Option.some.injEq] at ht
      rw [← ht]
      exact nibs_u8 hby _
    · exact (bst_u8 ht).1
  refine ⟨fun c hc => ?_, by rw [List.length_append, List.length_singleton]; omega, M, hW⟩
  rcases List.mem_append.1 hc with hc | hc
  · exact htu c hc
  · rw [List.mem_singleton] at hc
    have := hW.2.2.2.1 t.length (by rw [List.length_append, List.length_singleton]; omega)
    rw [List.getD_eq_getElem?_getD, List.getElem?_append_right (Nat.le_refl _), Nat.sub_self] at this
    simp only [List.getElem?_cons_zero, Option.getD_some] at this
    unfold isU8
    omega
theorem hnW_nn {b : List Int} (hby : ∀ x ∈ b, isByte x) : 0 ≤ hnW b := by
  have h := byte_bit hby 0
  unfold isByte at h
  unfold hnW
  split <;> omega
open Classical in
/-- The weights that c begins with. -/
noncomputable def rdw (c : List Int) : Option (List Int) := if h : ¬ shortW c ∧ ∃ l, RdW 256 c l then some h.2.choose else none
theorem rdw_some {c l : List Int} (h : ¬ shortW c) (hl : RdW 256 c l) : rdw c = some l := by
  have hh : ¬ shortW c ∧ ∃ l, RdW 256 c l := ⟨h, l, hl⟩
  unfold rdw
  rw [dif_pos hh, RdW.uniq hh.2.choose_spec hl]
theorem rdw_short {c : List Int} (h : shortW c) : rdw c = none := dif_neg (fun k => k.1 h)
theorem rdw_bad {c : List Int} (h : ∀ l, ¬ RdW 256 c l) : rdw c = none := dif_neg (fun k => h _ k.2.choose_spec)
theorem rdw_spec {c l : List Int} (h : rdw c = some l) : ¬ shortW c ∧ RdW 256 c l := by
  unfold rdw at h
  split at h
  · rename_i hh
    rw [Option.some.injEq] at h
    rw [← h]
    exact ⟨hh.1, hh.2.choose_spec⟩
  · cases h
theorem rdw_con (c : List Int) (cap : Nat) (hb : ∀ x ∈ c, isU8 x) (hl : c.length ≤ 140737488355328) (hcap : c.length ≤ cap) (hcm : cap ≤ 9223372036854775807) :
    Con Try.prog 6 [.slice 0 .z 1 c.length cap] [.ro .u8 c] (fun v H R => R = [] ∧ ((∃ e : Int, e ≠ 0 ∧ rdw c = none ∧ H = [.ro .u8 c] ∧ v = .tup [.val (.slice none 0 0), .int .i64 0, .int .i64 e]) ∨
      ∃ l c', rdw c = some l ∧ H = [.ro .u8 c, .buf 5 .u8 l c'] ∧ v = .tup [.slice 1 .z 1 l.length c', .int .i64 (1 + hnW c), .int .i64 0])) := by
  refine (read9_con c cap (isU8_byte hb) hl hcap hcm).mono ?_
  rintro v H R ⟨rfl, ⟨h1, rfl, rfl⟩ | ⟨h1, h2, rfl, rfl⟩ | ⟨h1, l, c', h2, rfl, rfl⟩⟩
  · exact ⟨rfl, .inl ⟨10, by decide, rdw_short h1, rfl, rfl⟩⟩
  · exact ⟨rfl, .inl ⟨11, by decide, rdw_bad h2, rfl, rfl⟩⟩
  · exact ⟨rfl, .inr ⟨l, c', rdw_some h1 h2, rfl, rfl⟩⟩
theorem refrdw_con (c : List Int) (cap : Nat) (hb : ∀ x ∈ c, isU8 x) (hl : c.length ≤ 140737488355328) (hcap : c.length ≤ cap) (hcm : cap ≤ 9223372036854775807) :
    Con Try.prog 7 [.slice 0 .z 1 c.length cap] [.ro .u8 c] (fun v H R => R = [] ∧ ((∃ e : Int, e ≠ 0 ∧ rdw c = none ∧ H = [.ro .u8 c] ∧ v = .tup [.val (.slice none 0 0), .int .i64 0, .int .i64 e]) ∨
      ∃ l c', rdw c = some l ∧ H = [.ro .u8 c, .buf 5 .u8 l c'] ∧ v = .tup [.slice 1 .z 1 l.length c', .int .i64 (1 + hnW c), .int .i64 0])) := by
  refine (refread9_con c cap (isU8_byte hb) hl hcap hcm).mono ?_
  rintro v H R ⟨rfl, ⟨h1, rfl, rfl⟩ | ⟨h1, h2, rfl, rfl⟩ | ⟨h1, l, c', h2, rfl, rfl⟩⟩
  · exact ⟨rfl, .inl ⟨10, by decide, rdw_short h1, rfl, rfl⟩⟩
  · exact ⟨rfl, .inl ⟨11, by decide, rdw_bad (fun l h => h2 l ((RdW_iff c l).1 h)), rfl, rfl⟩⟩
  · exact ⟨rfl, .inr ⟨l, c', rdw_some h1 ((RdW_iff c l).2 h2), rfl, rfl⟩⟩
/-- What is read: an error; literals, the weights kept as they came; a byte many times; literals and new weights. -/
inductive LitR where
  | bad (e : Int)
  | keep (L : List Int) (u : Int)
  | rep (x : Int) (n : Nat) (u : Int)
  | own (L l : List Int) (u : Int)
def bhH (b : List Int) : Int := if kdH b = 0 then szH b else if kdH b = 1 then 1 else pkH b
def kept (u : Int) : Option (List Int) → LitR
  | none => .bad 11
  | some L => .keep L u
def owned (l : List Int) (u : Int) : Option (List Int) → LitR
  | none => .bad 11
  | some L => .own L l u
/-- What follows the head: the section's bytes c. -/
noncomputable def bodyL (kd sz rw u : Int) (c w : List Int) : LitR :=
  if kd = 0 then .keep c u else if kd = 1 then .rep (c.getD 0 0) sz.toNat u
  else if kd = 2 then match rdw c with
    | none => .bad 11
    | some l => owned l u (rowsR l (c.drop (1 + hnW c).toNat) sz rw)
  else kept u (rowsR w c sz rw)
noncomputable def RdL (b w : List Int) (most : Int) : LitR :=
  if most < 0 ∨ 131072 < most then .bad 2 else if b.length = 0 then .bad 10 else if (b.length : Int) < usH b then .bad 10
  else if most < szH b then .bad 11 else if (b.length : Int) < usH b + bhH b then .bad 10
  else bodyL (kdH b) (szH b) (rwH b) (usH b + bhH b) (seg b (usH b) (bhH b).toNat) w
theorem szH_nn (b : List Int) : 0 ≤ szH b := by
  unfold szH
  exact Int.emod_nonneg _ (Int.ne_of_gt (Int.pow_pos (by decide)))
theorem btH_le (b : List Int) : 1 ≤ btH b ∧ btH b ≤ 20 := by
  unfold btH
  split <;> split <;> first | omega | (split <;> omega)
theorem pkH_range {b : List Int} (hb : ∀ c ∈ b, isU8 c) : 0 ≤ pkH b ∧ pkH b ≤ 262143 := by
  unfold pkH
  split
  · omega
  · rename_i hk
    have hf := kfH hb
    rcases (show fmH b = 0 ∨ fmH b = 1 ∨ fmH b = 2 ∨ fmH b = 3 by omega) with hf | hf | hf | hf
    · have h := numA_range hb 3
      rw [show nmH b = numA b 3 / 16 by unfold nmH usH; rw [if_neg hk, hf]; rfl, show btH b = 10 by unfold btH; rw [if_neg hk, hf]; rfl, show (2 : Int) ^ 10 = 1024 by decide]
      rw [show (2 : Int) ^ (8 * 3) = 16777216 by decide] at h
      omega
    · have h := numA_range hb 3
      rw [show nmH b = numA b 3 / 16 by unfold nmH usH; rw [if_neg hk, hf]; rfl, show btH b = 10 by unfold btH; rw [if_neg hk, hf]; rfl, show (2 : Int) ^ 10 = 1024 by decide]
      rw [show (2 : Int) ^ (8 * 3) = 16777216 by decide] at h
      omega
    · have h := numA_range hb 4
      rw [show nmH b = numA b 4 / 16 by unfold nmH usH; rw [if_neg hk, hf]; rfl, show btH b = 14 by unfold btH; rw [if_neg hk, hf]; rfl, show (2 : Int) ^ 14 = 16384 by decide]
      rw [show (2 : Int) ^ (8 * 4) = 4294967296 by decide] at h
      omega
    · have h := numA_range hb 5
      rw [show nmH b = numA b 5 / 16 by unfold nmH usH; rw [if_neg hk, hf]; rfl, show btH b = 18 by unfold btH; rw [if_neg hk, hf]; rfl, show (2 : Int) ^ 18 = 262144 by decide]
      rw [show (2 : Int) ^ (8 * 5) = 1099511627776 by decide] at h
      omega
theorem view_seg_drop {b : List Int} {o n h x : Nat} (hn : o + n ≤ b.length) (hh : h ≤ n) (hx : x = o + h ∨ h = n ∧ x ≤ b.length) : View x ((seg b o n).drop h) b := by
  have hl : ((seg b o n).drop h).length = n - h := by rw [List.length_drop, seg_len hn]
  refine ⟨?_, fun i hi => ?_⟩
  · rw [hl]; omega
  · rw [hl] at hi
    rw [List.getD_eq_getElem?_getD, List.getElem?_drop, ← List.getD_eq_getElem?_getD, seg_get b o (by omega)]
    rcases hx with rfl | ⟨rfl, _⟩
    · rw [Nat.add_assoc]
    · omega
theorem RdL_facts (b w : List Int) (most : Int) :
    (most < 0 ∨ 131072 < most → RdL b w most = .bad 2) ∧ (¬ (most < 0 ∨ 131072 < most) → b.length = 0 → RdL b w most = .bad 10) ∧
    (¬ (most < 0 ∨ 131072 < most) → ¬ b.length = 0 → (b.length : Int) < usH b → RdL b w most = .bad 10) ∧
    (¬ (most < 0 ∨ 131072 < most) → ¬ b.length = 0 → ¬ (b.length : Int) < usH b → most < szH b → RdL b w most = .bad 11) ∧
    (¬ (most < 0 ∨ 131072 < most) → ¬ b.length = 0 → ¬ (b.length : Int) < usH b → ¬ most < szH b → (b.length : Int) < usH b + bhH b → RdL b w most = .bad 10) ∧
    (¬ (most < 0 ∨ 131072 < most) → ¬ b.length = 0 → ¬ (b.length : Int) < usH b → ¬ most < szH b → ¬ (b.length : Int) < usH b + bhH b →
      RdL b w most = bodyL (kdH b) (szH b) (rwH b) (usH b + bhH b) (seg b (usH b) (bhH b).toNat) w) := by
  unfold RdL
  refine ⟨fun h => if_pos h, fun h h1 => ?_, fun h h1 h2 => ?_, fun h h1 h2 h3 => ?_, fun h h1 h2 h3 h4 => ?_, fun h h1 h2 h3 h4 => ?_⟩
  · rw [if_neg h, if_pos h1]
  · rw [if_neg h, if_neg h1, if_pos h2]
  · rw [if_neg h, if_neg h1, if_neg h2, if_pos h3]
  · rw [if_neg h, if_neg h1, if_neg h2, if_neg h3, if_pos h4]
  · rw [if_neg h, if_neg h1, if_neg h2, if_neg h3, if_neg h4]
end Go.Proofs.Ytaaklikigccdfaa
namespace Go.Proofs.Ytaaklikigccdfaa
open Go Go.Sx Go.Proofs
/-! literals.Read. -/
set_option maxRecDepth 10000
set_option maxHeartbeats 40000000
/-- The reader's answer. -/
def PRd (b w : List Int) (cap2 : Nat) : LitR → SV → List SB → Prop
  | .bad e, v, H => v = .tup [.val (.slice none 0 0), .val (.slice none 0 0), .int .i64 0, .int .i64 e] ∧ H = [.ro .u8 b, .ro .u8 w]
  | .keep L u, v, H => ∃ c, v = .tup [.slice 2 .z 1 L.length c, .slice 1 .z 1 w.length cap2, .int .i64 u, .int .i64 0] ∧ H = [.ro .u8 b, .ro .u8 w, .buf 5 .u8 L c]
  | .rep x n u, v, H => ∃ L c, n ≤ L.length ∧ L.take n = List.replicate n x ∧ v = .tup [.slice 2 .z 1 n c, .slice 1 .z 1 w.length cap2, .int .i64 u, .int .i64 0] ∧ H = [.ro .u8 b, .ro .u8 w, .ints 5 .u8 L]
  | .own L l u, v, H => ∃ c c3, v = .tup [.slice 2 .z 1 L.length c, .slice 3 .z 1 l.length c3, .int .i64 u, .int .i64 0] ∧ H = [.ro .u8 b, .ro .u8 w, .buf 5 .u8 L c, .buf 5 .u8 l c3]
def plainC : List SV := [.int .i64 1, .int .i64 5, .int .i64 0, .int .i64 2, .int .i64 12, .int .i64 0, .int .i64 1, .int .i64 5, .int .i64 0, .int .i64 3, .int .i64 20, .int .i64 0]
def packedC : List SV := [.int .i64 3, .int .i64 10, .int .i64 1, .int .i64 3, .int .i64 10, .int .i64 4, .int .i64 4, .int .i64 14, .int .i64 4, .int .i64 5, .int .i64 18, .int .i64 4]
theorem idx_plain {b : List Int} (hb : ∀ c ∈ b, isU8 c) (h : kdH b < 2) : takeA 3 (dropA 3 (fmH b).toNat plainC) = [.int .i64 (usH b), .int .i64 (btH b), .int .i64 (rwH b)] := by
  have hf := kfH hb
  rcases (show fmH b = 0 ∨ fmH b = 1 ∨ fmH b = 2 ∨ fmH b = 3 by omega) with hf | hf | hf | hf <;>
  · unfold usH btH rwH
    simp only [if_pos h, hf]
    rfl
theorem idx_packed {b : List Int} (hb : ∀ c ∈ b, isU8 c) (h : ¬ kdH b < 2) : takeA 3 (dropA 3 (fmH b).toNat packedC) = [.int .i64 (usH b), .int .i64 (btH b), .int .i64 (rwH b)] := by
  have hf := kfH hb
  rcases (show fmH b = 0 ∨ fmH b = 1 ∨ fmH b = 2 ∨ fmH b = 3 by omega) with hf | hf | hf | hf <;>
  · unfold usH btH rwH
    simp only [if_neg h, hf]
    rfl
theorem idx_any {b : List Int} (hb : ∀ c ∈ b, isU8 c) : ∃ p q r : Int, takeA 3 (dropA 3 (fmH b).toNat plainC) = [.int .i64 p, .int .i64 q, .int .i64 r] := by
  have hf := kfH hb
  rcases (show fmH b = 0 ∨ fmH b = 1 ∨ fmH b = 2 ∨ fmH b = 3 by omega) with hf | hf | hf | hf <;>
  · rw [hf]
    exact ⟨_, _, _, rfl⟩
theorem joinG {A B : Prop} (G : Prop) (h1 : G → A) (h2 : G → B) (h : G) : A ∧ B := ⟨h1 h, h2 h⟩
theorem us1_kd {b : List Int} (h : usH b = 1) : kdH b < 2 := by
  unfold usH at h
  split at h
  · assumption
  · split at h
    · omega
    · split at h <;> omega
theorem pk_of {b : List Int} (h : ¬ kdH b < 2) : pkH b = nmH b / 2 ^ btH b := by unfold pkH; rw [if_neg h]
-- READ

theorem read_a (b w : List Int) (cap cap2 : Nat) (most : Int) (hb : ∀ c ∈ b, isU8 c) (hw8 : ∀ c ∈ w, isU8 c) (hbl : b.length ≤ 140737488355328) (hwl : w.length ≤ 140737488355328) (hcap : b.length ≤ cap) (hcm : cap ≤ 9223372036854775807) (hk : kdH b < 2) (hb0 : ¬ b.length = 0) (hmo : ¬ (most < 0 ∨ 131072 < most)) :
    Con Try.prog 9 [.slice 0 .z 1 b.length cap, .slice 1 .z 1 w.length cap2, .int .i64 most] [.ro .u8 b, .ro .u8 w] (fun v H R => R = [] ∧ PRd b w cap2 (RdL b w most) v H) := by
  obtain ⟨f2, f10, f10a, f11, f10b, fB⟩ := RdL_facts b w most
  have hk4 := kfH hb
  have hsz0 := szH_nn b
  have hpk := pkH_range hb
  have hus := usH_le b
  have hBH : bhH b = if kdH b = 0 then szH b else if kdH b = 1 then 1 else pkH b := rfl
  obtain ⟨X, hX⟩ : ∃ X, X = RdL b w most := ⟨_, rfl⟩
  have pbad : ∀ e, X = .bad e → PRd b w cap2 X (.tup [.val (.slice none 0 0), .val (.slice none 0 0), .int .i64 0, .int .i64 e]) [.ro .u8 b, .ro .u8 w] := by
    intro e h; rw [h]; exact ⟨rfl, rfl⟩
  have pkeep : ∀ L u c, X = .keep L u → PRd b w cap2 X (.tup [.slice 2 .z 1 L.length c, .slice 1 .z 1 w.length cap2, .int .i64 u, .int .i64 0]) [.ro .u8 b, .ro .u8 w, .buf 5 .u8 L c] := by
    intro L u c h; rw [h]; exact ⟨c, rfl, rfl⟩
  have prep : ∀ x n u L c, n ≤ L.length → L.take n = List.replicate n x → X = .rep x n u → PRd b w cap2 X (.tup [.slice 2 .z 1 n c, .slice 1 .z 1 w.length cap2, .int .i64 u, .int .i64 0]) [.ro .u8 b, .ro .u8 w, .ints 5 .u8 L] := by
    intro x n u L c h1 h2 h; rw [h]; exact ⟨L, c, h1, h2, rfl, rfl⟩
  have pown : ∀ L l u c c3, X = .own L l u → PRd b w cap2 X (.tup [.slice 2 .z 1 L.length c, .slice 3 .z 1 l.length c3, .int .i64 u, .int .i64 0]) [.ro .u8 b, .ro .u8 w, .buf 5 .u8 L c, .buf 5 .u8 l c3] := by
    intro L l u c c3 h; rw [h]; exact ⟨c, c3, rfl, rfl⟩
  obtain ⟨US, hUS⟩ : ∃ US : Int, US = (usH b : Int) := ⟨_, rfl⟩
  obtain ⟨bI, hbI⟩ : ∃ bI : Int, bI = (b.length : Int) := ⟨_, rfl⟩
  rw [← hUS, ← hbI] at f10a f11 f10b fB
  rw [← hX] at f2 f10 f10a f11 f10b fB ⊢
  have hrowsA := rows_con
  have hrdA := rdw_con
  have hrepA := repeat_con
  have hseg := fun o n h => @seg_len b o n h
  have hvs := fun o n x h hx => @view_seg b o n x h hx
  have hsm := fun o n => @seg_mem b o n isU8 hb
  have hsegd : ∀ o n, seg b o n = (b.drop o).take n := fun _ _ => rfl
  replace f10a := fun (_ : Unit) => f10a hmo hb0
  replace f11 := fun (_ : Unit) => f11 hmo hb0
  replace f10b := fun (_ : Unit) => f10b hmo hb0
  replace fB := fun (_ : Unit) => fB hmo hb0
  clear f2 f10
  have hplain := plain_con
  have hpacked := packed_con
  have hidx := idx_plain hb hk
  have hx8 := getD_u8 hb 0
  unfold isU8 at hx8
  have hkd : ∀ _ : Unit, kdH b = b.getD 0 0 % 4 := fun _ => rfl
  have hfd : ∀ _ : Unit, fmH b = b.getD 0 0 / 4 % 4 := fun _ => rfl
  have hbt := btH_le b
  have hnr := nmH_range hb
  have hAr := numA_range hb (usH b)
  have hnum := fun c h => number_take b (usH b) c hb h (by omega)
  have hvt := view_take b (usH b)
  have hA40 : numA b (usH b) < 2 ^ 40 := Int.lt_of_lt_of_le hAr.2 (by
    have := Nat.pow_le_pow_right (n := 2) (by decide) (show 8 * usH b ≤ 40 by omega)
    exact_mod_cast this)
  have hnm : ∀ _ : Unit, nmH b = if usH b = 1 then b.getD 0 0 / 8 else numA b (usH b) / 16 := fun _ => rfl
  have hszd : ∀ _ : Unit, szH b = nmH b % 2 ^ btH b := fun _ => rfl
  obtain ⟨pw, hpw⟩ : ∃ pw : Int, pw = 2 ^ btH b := ⟨_, rfl⟩
  have hpw1 : 1 ≤ pw := by rw [hpw]; exact Int.pow_pos (by decide)
  have hpw2 : pw ≤ 2 ^ 20 := by
    rw [hpw]
    have := Nat.pow_le_pow_right (n := 2) (by decide) (show btH b ≤ 20 by omega)
    exact_mod_cast this
  rw [← hpw] at hszd
  have hszl : szH b < pw := by rw [hszd ()]; exact Int.emod_lt_of_pos _ (by omega)
  obtain ⟨NP, hNP⟩ : ∃ NP : Int, NP = nmH b / pw := ⟨_, rfl⟩
  have hNP0 : 0 ≤ NP ∧ NP < 2 ^ 40 := by
    rw [hNP]
    exact ⟨Int.ediv_nonneg hnr.1 (by omega), Int.lt_of_le_of_lt (Int.ediv_le_self _ hnr.1) hnr.2⟩
  rw [show (2 : Int) ^ 40 = 1099511627776 by decide] at hA40 hnr hNP0
  rw [show (2 : Int) ^ 20 = 1048576 by decide] at hpw2
  obtain ⟨BT, hBT⟩ : ∃ BT : Int, BT = (btH b : Int) := ⟨_, rfl⟩
  have hus1 := fun (_ : Unit) => @us1_kd b
  have emask := fun (x : Int) (h0 : 0 ≤ x) (h1 : x < 18446744073709551616) => @and_mask .u64 rfl x (btH b) (by show btH b ≤ 64; omega) h0 h1
  have eshl : bV .shl .u64 1 BT = pw := by
    have ht : BT.toNat = btH b := by omega
    rw [shl_u rfl (by decide) (by show BT ≤ ((64 : Nat) : Int); omega) (by rw [ht, Int.one_mul, ← hpw]; show pw < (2 : Int) ^ 64; omega), ht, Int.one_mul, hpw]
  replace hBH := fun (_ : Unit) => hBH
  rw [← hUS, ← hBT] at hidx
  rw [← hpw] at emask
  refine con_gen (con_picks (con_drop (con_walk hmix fn9 ?_)))
  intro vb vc vw vtoN vofN vaddN vsubN vmaxI vminI vcutN vgd vst vln vrep vsub vonto vsplice vstrEq vbyteV vnotB veqB hw qb qc qw qtoN qofN qaddN qsubN qmaxI qminI qcutN qgd qst qln qrep qsub qonto qsplice qstrEq qbyteV qnotB qeqB
  have hm := hmix; generalize Try.prog = P at *
  generalize PRd b w cap2 X = PP at *
  generalize hSG : seg b = SG at *
  generalize kdH b = K at *
  generalize fmH b = F at *
  generalize szH b = SZ at *
  generalize pkH b = PK at *
  generalize rwH b = RW at *
  generalize numA b (usH b) = A at *
  generalize b.take (usH b) = bt at *
  generalize usH b = uN at *
  generalize bhH b = BH at *
  generalize nmH b = NM at *
  generalize btH b = bN at *
  generalize hxx : b.getD 0 0 = x at *
  generalize hwl' : w.length = wl at *
  generalize hbl' : b.length = bl at *
  have hgd : ∀ i, vgd b i = b.getD i 0 := fun i => by rw [qgd]
  have hlnq : ∀ l, vln l = l.length := fun l => by rw [qln]
  have hlnb : vln b = bl := by simp only [qln, hbl']
  have haddq : ∀ a b, vaddN a b = a + b := fun a b => by rw [qaddN]
  have ebl : vofN bl = bI := by rw [qofN, hbI]
  have em1 : vc .lss most 0 = false := by rw [qc, lss_false]; omega
  have em2 : vc .gtr most 131072 = false := by rw [qc, gtr_false]; omega
  have eb0 : vc .eql bI 0 = false := by rw [qc, eql_false]; omega
  obtain ⟨x4, hx4⟩ : ∃ z, z = x / 4 := ⟨_, rfl⟩
  have hx4r : 0 ≤ x4 ∧ x4 < 256 := by omega
  have hin : 0 ≤ F ∧ F < 4 := by rw [hfd ()]; omega
  have ea1 : vb .and .u8 x 3 = K := by rw [qb, show (3 : Int) = 2 ^ 2 - 1 by decide, and_mask rfl 2 (by decide) hx8.1 (by show x < 256; omega)]; exact (hkd ()).symm
  have es1 : vb .shr .u8 x 2 = x4 := by rw [qb, shr_eq (by decide), hx4]; rfl
  have ea2 : vb .and .u8 x4 3 = F := by rw [qb, show (3 : Int) = 2 ^ 2 - 1 by decide, and_mask (k := .u8) rfl 2 (by decide) hx4r.1 hx4r.2]; show x4 % 4 = F; rw [hfd (), hx4]
  obtain ⟨fN, hfN⟩ : ∃ fN, fN = F.toNat := ⟨_, rfl⟩
  have htF : vtoN F = fN := by rw [qtoN, hfN]
  rw [← hfN] at hidx
  cbv at hidx
  have hb1 : 0 < bl := by omega
  have hbz : (0 : Int) < bl := by omega
  have hlb0 : 0 < vln b := by rw [hlnb]; exact hb1
  have hvx : SV.int .u8 (vgd b 0) = SV.int .u8 x := by rw [hgd, hxx]
  cbv
  rw [em1]
  cbv
  rw [em2]
  cbv
  rw [ebl, eb0]
  cbv
  rw [haddq, hlnb, hgd, hxx, ea1, es1, ea2]
  refine ⟨⟨Int.le_refl 0, hbz⟩, ⟨hb1⟩, ⟨hb1⟩, ?_⟩
  refine ⟨⟨Int.le_refl 0, hbz⟩, ⟨hb1⟩, ⟨hb1⟩, ?_⟩
  apply joinG
  · intro key
    refine call_con (ρ := []) hplain ⟨by rfl, by rfl, by rfl, by cbv⟩ ?_
    rintro v H R js ⟨rfl, rfl, rfl⟩
    cbv
    rw [htF, hidx]
    cbv
    refine ⟨⟨⟨hlb0⟩, hvx⟩, ⟨hin⟩, ⟨⟨hlb0⟩, hvx⟩, ?_⟩
    exact key
  · intro key
    refine ⟨⟨⟨hb1⟩, trivial⟩, ?_⟩
    refine call_con (ρ := []) hplain ⟨by rfl, by rfl, by rfl, by cbv⟩ ?_
    rintro v H R js ⟨rfl, rfl, rfl⟩
    cbv
    rw [htF, hidx]
    cbv
    refine ⟨⟨⟨hlb0⟩, hvx⟩, ⟨hin⟩, ?_⟩
    exact key
  have ege : vc .geq K 2 = false := by rw [qc, geq_false]; omega
  rw [ege]
  cbv
  rw [ebl]
  generalize hz1 : vc .lss bI US = z1
  cases z1
  rotate_left
  · rw [qc, lss_true] at hz1
    cbv
    exact ⟨[0, 1], .tup [.val (.slice none 0 0), .val (.slice none 0 0), .lit .i64 0, .lit .i64 10], [.ro .u8 b, .ro .u8 w], rfl, rfl, rfl, rfl, ⟨rfl, rfl, trivial⟩, rfl, pbad 10 (f10a () hz1)⟩
  rw [qc, lss_false] at hz1
  have hlu : ¬ bI < US := hz1
  try simp only [nc] at *
  have hub : uN ≤ bl := by omega
  have htU0 : vtoN US = uN := by rw [qtoN, hUS]; exact Int.toNat_natCast uN
  have huc : uN ≤ cap := by omega
  obtain ⟨A4, hA4⟩ : ∃ A4, A4 = A / 16 := ⟨_, rfl⟩
  have eA4 : vb .shr .u64 A 4 = A4 := by rw [qb, shr_eq (by decide), hA4]; rfl
  cbv
  rw [htU0]
  refine ⟨⟨by ((try simp only [nc] at *); omega), by ((try simp only [nc] at *); omega)⟩, ?_⟩
  refine call_con (ρ := [(0, .z)]) (hnum cap hub) ⟨by rfl, by rfl, by rfl, by cbv; exact ⟨hvt hub, trivial⟩⟩ ?_
  rintro v H R js ⟨rfl, rfl, rfl⟩
  cbv
  rw [eA4]
  try simp only [nc] at *
  by_cases hU1 : uN = 1
  · have eU : vc .eql US 1 = true := by rw [qc, eql_true]; omega
    have hNM : NM = x / 8 := by rw [hnm (), if_pos hU1]
    have eNM : vb .shr .u8 x 3 = NM := by rw [qb, shr_eq (by decide), hNM]; rfl
    have ewNM : vw .u64 NM = NM := by rw [qw]; exact wrap_u64 (by omega) (by omega)
    rw [eU]
    cbv
    rw [haddq, hlnb, hgd, hxx, eNM, ewNM]
    refine ⟨⟨Int.le_refl 0, hbz⟩, ⟨hb1⟩, ⟨hb1⟩, ?_⟩

    try simp only [nc] at *
    have hBT0 : 0 ≤ BT := by omega
    have ewb : vw .u64 BT = BT := by rw [qw]; exact wrap_u64 (by omega) (by omega)
    have esh : vb .shl .u64 1 BT = pw := by rw [qb]; exact eshl
    obtain ⟨pm, hpm⟩ : ∃ pm, pm = pw - 1 := ⟨_, rfl⟩
    have esu : vb .sub .u64 pw 1 = pm := by rw [qb, hpm]; exact wrap_u64 (by omega) (by omega)
    have ema : vb .and .u64 NM pm = SZ := by rw [qb, hpm, emask NM hnr.1 (by omega), hszd ()]
    have ews : vw .i64 SZ = SZ := by rw [qw]; exact wrap_i64 (by omega) (by omega)
    have enp : vb .shr .u64 NM BT = NP := by
      have ht : BT.toNat = bN := by omega
      have h0 : BT ≤ ((64 : Nat) : Int) := by omega
      rw [qb, shr_eq h0, ht, ← hpw, hNP]
    have ewn : vw .i64 NP = NP := by rw [qw]; exact wrap_i64 (by omega) (by omega)
    rw [ewb, esh, esu, ema, ews]
    refine ⟨⟨hBT0⟩, ?_⟩
    generalize hz4 : vc .gtr SZ most = z4
    cases z4
    rotate_left
    · rw [qc, gtr_true] at hz4
      cbv
      exact ⟨[0, 1], .tup [.val (.slice none 0 0), .val (.slice none 0 0), .lit .i64 0, .lit .i64 11], [.ro .u8 b, .ro .u8 w], rfl, rfl, rfl, rfl, ⟨rfl, rfl, trivial⟩, rfl, pbad 11 (f11 () hlu (by omega))⟩
    rw [qc, gtr_false] at hz4
    try simp only [nc] at *
    have hszm : ¬ most < SZ := by omega
    cbv
    rw [ewb, enp, ewn]
    refine ⟨⟨hBT0⟩, ?_⟩
    rcases (show K = 0 ∨ K = 1 by omega) with hK | hK
    · have eK0 : vc .eql K 0 = true := by rw [qc, eql_true]; omega
      rw [eK0]
      cbv

      try simp only [nc] at *
      have hBB : BH = SZ := by rw [hBH ()]; exact if_pos hK
      obtain ⟨uI, huI⟩ : ∃ uI, uI = US + SZ := ⟨_, rfl⟩
      have euI : vb .add .i64 US SZ = uI := by rw [qb, add_i64 (by omega) (by omega), huI]
      replace f10b := f10b () hlu hszm
      replace fB := fB () hlu hszm
      rw [hBB] at f10b fB
      rw [← huI] at f10b fB
      rw [ebl, euI]
      generalize hz5 : vc .lss bI uI = z5
      cases z5
      rotate_left
      · rw [qc, lss_true] at hz5
        cbv
        exact ⟨[0, 1], .tup [.val (.slice none 0 0), .val (.slice none 0 0), .lit .i64 0, .lit .i64 10], [.ro .u8 b, .ro .u8 w], rfl, rfl, rfl, rfl, ⟨rfl, rfl, trivial⟩, rfl, pbad 10 (f10b (by omega))⟩
      rw [qc, lss_false] at hz5
      try simp only [nc] at *
      have fB := fB hz5
      clear f10b
      obtain ⟨nN, hnN⟩ : ∃ nN : Nat, SZ = (nN : Int) := ⟨(SZ : Int).toNat, by omega⟩
      have htB : (SZ : Int).toNat = nN := by rw [hnN]; exact Int.toNat_natCast nN
      rw [htB] at fB
      have htU : vtoN US = uN := by rw [qtoN, hUS]; exact Int.toNat_natCast uN
      obtain ⟨eN, heN⟩ : ∃ eN : Nat, eN = uN + nN := ⟨_, rfl⟩
      have hue : uI = (eN : Int) := by omega
      have htu : vtoN uI = eN := by rw [qtoN, hue]; exact Int.toNat_natCast eN
      have hsb : vsubN eN uN = nN := by rw [qsubN]; simp only; omega
      obtain ⟨o1, ho1⟩ : ∃ o1, o1 = vcutN 0 uN eN := ⟨_, rfl⟩
      have ho : o1 = uN ∨ nN = 0 ∧ o1 ≤ bl := by
        have e : o1 = if eN = uN then 0 else 0 + uN := by rw [ho1, qcutN]
        by_cases h : eN = uN
        · rw [if_pos h] at e; right; constructor <;> omega
        · rw [if_neg h] at e; left; omega
      have hebl : eN ≤ bl := by omega
      have hsl := hseg uN nN (by omega)
      have hv1 := hvs uN nN o1 (by omega) ho
      have hsm1 := hsm uN nN
      have hsd1 := hsegd uN nN
      generalize hsg : SG uN nN = sg at *

      have fC : X = .keep sg uI := by rw [fB]; unfold bodyL; rw [if_pos hK]
      clear fB
      have hvs1 : vsub b o1 nN = sg := by
        rw [qsub, hsd1]
        rcases ho with rfl | ⟨h, _⟩
        · rfl
        · simp only [h, List.take_zero]
      have ha0 : vaddN 0 nN = nN := by rw [haddq, Nat.zero_add]
      have hon : ∀ l, vonto [] 0 l = l := fun l => by rw [qonto]; simp
      cbv
      rw [htU, htu, ← ho1, hsb]
      refine ⟨⟨by ((try simp only [nc] at *); omega), by ((try simp only [nc] at *); omega)⟩, ⟨by ((try simp only [nc] at *); omega), by ((try simp only [nc] at *); omega)⟩, ⟨by ((try simp only [nc] at *); omega), by ((try simp only [nc] at *); omega)⟩, ?_⟩
      rw [eK0]
      cbv
      refine ⟨⟨by rw [haddq, hlnb]; ((try simp only [nc] at *); omega)⟩, ⟨Nat.zero_le _⟩, ⟨Nat.zero_le _⟩, ⟨by rw [haddq]; ((try simp only [nc] at *); omega)⟩, ?_⟩
      intro c1 js1 hle
      cbv
      rw [hvs1, hon, ha0]
      subst hsl
      exact ⟨[0, 1, 3], .tup [.slice 2 .z 1 sg.length c1, .slice 1 .z 1 wl cap2, .int .i64 uI, .lit .i64 0], [.ro .u8 b, .ro .u8 w, .buf 5 .u8 sg c1], rfl, rfl, rfl, rfl, ⟨rfl, rfl, rfl, trivial⟩, rfl, pkeep sg uI c1 fC⟩
    · have eK0 : vc .eql K 0 = false := by rw [qc, eql_false]; omega
      have eK1 : vc .eql K 1 = true := by rw [qc, eql_true]; omega
      rw [eK0]
      cbv
      rw [eK1]
      cbv

      try simp only [nc] at *
      have hBB : BH = 1 := by rw [hBH ()]; rw [if_neg (by omega), if_pos hK]
      obtain ⟨uI, huI⟩ : ∃ uI, uI = US + 1 := ⟨_, rfl⟩
      have euI : vb .add .i64 US 1 = uI := by rw [qb, add_i64 (by omega) (by omega), huI]
      replace f10b := f10b () hlu hszm
      replace fB := fB () hlu hszm
      rw [hBB] at f10b fB
      rw [← huI] at f10b fB
      rw [ebl, euI]
      generalize hz5 : vc .lss bI uI = z5
      cases z5
      rotate_left
      · rw [qc, lss_true] at hz5
        cbv
        exact ⟨[0, 1], .tup [.val (.slice none 0 0), .val (.slice none 0 0), .lit .i64 0, .lit .i64 10], [.ro .u8 b, .ro .u8 w], rfl, rfl, rfl, rfl, ⟨rfl, rfl, trivial⟩, rfl, pbad 10 (f10b (by omega))⟩
      rw [qc, lss_false] at hz5
      try simp only [nc] at *
      have fB := fB hz5
      clear f10b
      obtain ⟨nN, hnN⟩ : ∃ nN : Nat, 1 = (nN : Int) := ⟨(1 : Int).toNat, by omega⟩
      have htB : (1 : Int).toNat = nN := by rw [hnN]; exact Int.toNat_natCast nN
      rw [htB] at fB
      have htU : vtoN US = uN := by rw [qtoN, hUS]; exact Int.toNat_natCast uN
      obtain ⟨eN, heN⟩ : ∃ eN : Nat, eN = uN + nN := ⟨_, rfl⟩
      have hue : uI = (eN : Int) := by omega
      have htu : vtoN uI = eN := by rw [qtoN, hue]; exact Int.toNat_natCast eN
      have hsb : vsubN eN uN = nN := by rw [qsubN]; simp only; omega
      obtain ⟨o1, ho1⟩ : ∃ o1, o1 = vcutN 0 uN eN := ⟨_, rfl⟩
      have ho : o1 = uN ∨ nN = 0 ∧ o1 ≤ bl := by
        have e : o1 = if eN = uN then 0 else 0 + uN := by rw [ho1, qcutN]
        by_cases h : eN = uN
        · rw [if_pos h] at e; right; constructor <;> omega
        · rw [if_neg h] at e; left; omega
      have hebl : eN ≤ bl := by omega
      have hsl := hseg uN nN (by omega)
      have hv1 := hvs uN nN o1 (by omega) ho
      have hsm1 := hsm uN nN
      have hsd1 := hsegd uN nN
      generalize hsg : SG uN nN = sg at *

      obtain ⟨y, hy⟩ : ∃ y, y = sg.getD 0 0 := ⟨_, rfl⟩
      obtain ⟨zN, hzN⟩ : ∃ zN, zN = SZ.toNat := ⟨_, rfl⟩
      have fC : X = .rep y zN uI := by rw [fB]; unfold bodyL; rw [if_neg (by omega), if_pos hK, hy, hzN]
      clear fB
      have hn1 : nN = 1 := by omega
      have hsg1 : sg = [y] := by
        rw [hn1] at hsl
        match sg, hsl with
        | [z], _ => rw [hy]; rfl
      have hy8 : isU8 y := hsm1 y (by rw [hsg1]; exact List.mem_singleton.2 rfl)
      have hrep := hrepA y nN SZ hy8 ⟨hsz0, by omega⟩
      rw [← hzN] at hrep
      subst hsg1
      subst hn1
      cbv
      rw [htU, htu, ← ho1, hsb]
      refine ⟨⟨by ((try simp only [nc] at *); omega), by ((try simp only [nc] at *); omega)⟩, ⟨by ((try simp only [nc] at *); omega), by ((try simp only [nc] at *); omega)⟩, ⟨by ((try simp only [nc] at *); omega), by ((try simp only [nc] at *); omega)⟩, ?_⟩
      rw [eK0]
      cbv
      rw [eK1]
      cbv
      refine call_con (ρ := [(0, .n o1)]) hrep ⟨by rfl, by rfl, by rfl, by cbv; exact ⟨hv1, trivial⟩⟩ ?_
      rintro v H R js4 ⟨rfl, L, c, hL1, hL2, rfl, rfl⟩
      cbv
      exact ⟨[0, 1, 3], .tup [.slice 2 .z 1 zN c, .slice 1 .z 1 wl cap2, .int .i64 uI, .lit .i64 0], [.ro .u8 b, .ro .u8 w, .ints 5 .u8 L], rfl, rfl, rfl, rfl, ⟨rfl, rfl, rfl, trivial⟩, rfl, prep y zN uI L c hL1 hL2 fC⟩
  · have eU : vc .eql US 1 = false := by rw [qc, eql_false]; omega
    obtain rfl : NM = A4 := by rw [hnm (), if_neg hU1, hA4]
    rw [eU]
    cbv

    try simp only [nc] at *
    have hBT0 : 0 ≤ BT := by omega
    have ewb : vw .u64 BT = BT := by rw [qw]; exact wrap_u64 (by omega) (by omega)
    have esh : vb .shl .u64 1 BT = pw := by rw [qb]; exact eshl
    obtain ⟨pm, hpm⟩ : ∃ pm, pm = pw - 1 := ⟨_, rfl⟩
    have esu : vb .sub .u64 pw 1 = pm := by rw [qb, hpm]; exact wrap_u64 (by omega) (by omega)
    have ema : vb .and .u64 NM pm = SZ := by rw [qb, hpm, emask NM hnr.1 (by omega), hszd ()]
    have ews : vw .i64 SZ = SZ := by rw [qw]; exact wrap_i64 (by omega) (by omega)
    have enp : vb .shr .u64 NM BT = NP := by
      have ht : BT.toNat = bN := by omega
      have h0 : BT ≤ ((64 : Nat) : Int) := by omega
      rw [qb, shr_eq h0, ht, ← hpw, hNP]
    have ewn : vw .i64 NP = NP := by rw [qw]; exact wrap_i64 (by omega) (by omega)
    rw [ewb, esh, esu, ema, ews]
    refine ⟨⟨hBT0⟩, ?_⟩
    generalize hz4 : vc .gtr SZ most = z4
    cases z4
    rotate_left
    · rw [qc, gtr_true] at hz4
      cbv
      exact ⟨[0, 1], .tup [.val (.slice none 0 0), .val (.slice none 0 0), .lit .i64 0, .lit .i64 11], [.ro .u8 b, .ro .u8 w], rfl, rfl, rfl, rfl, ⟨rfl, rfl, trivial⟩, rfl, pbad 11 (f11 () hlu (by omega))⟩
    rw [qc, gtr_false] at hz4
    try simp only [nc] at *
    have hszm : ¬ most < SZ := by omega
    cbv
    rw [ewb, enp, ewn]
    refine ⟨⟨hBT0⟩, ?_⟩
    rcases (show K = 0 ∨ K = 1 by omega) with hK | hK
    · have eK0 : vc .eql K 0 = true := by rw [qc, eql_true]; omega
      rw [eK0]
      cbv

      try simp only [nc] at *
      have hBB : BH = SZ := by rw [hBH ()]; exact if_pos hK
      obtain ⟨uI, huI⟩ : ∃ uI, uI = US + SZ := ⟨_, rfl⟩
      have euI : vb .add .i64 US SZ = uI := by rw [qb, add_i64 (by omega) (by omega), huI]
      replace f10b := f10b () hlu hszm
      replace fB := fB () hlu hszm
      rw [hBB] at f10b fB
      rw [← huI] at f10b fB
      rw [ebl, euI]
      generalize hz5 : vc .lss bI uI = z5
      cases z5
      rotate_left
      · rw [qc, lss_true] at hz5
        cbv
        exact ⟨[0, 1], .tup [.val (.slice none 0 0), .val (.slice none 0 0), .lit .i64 0, .lit .i64 10], [.ro .u8 b, .ro .u8 w], rfl, rfl, rfl, rfl, ⟨rfl, rfl, trivial⟩, rfl, pbad 10 (f10b (by omega))⟩
      rw [qc, lss_false] at hz5
      try simp only [nc] at *
      have fB := fB hz5
      clear f10b
      obtain ⟨nN, hnN⟩ : ∃ nN : Nat, SZ = (nN : Int) := ⟨(SZ : Int).toNat, by omega⟩
      have htB : (SZ : Int).toNat = nN := by rw [hnN]; exact Int.toNat_natCast nN
      rw [htB] at fB
      have htU : vtoN US = uN := by rw [qtoN, hUS]; exact Int.toNat_natCast uN
      obtain ⟨eN, heN⟩ : ∃ eN : Nat, eN = uN + nN := ⟨_, rfl⟩
      have hue : uI = (eN : Int) := by omega
      have htu : vtoN uI = eN := by rw [qtoN, hue]; exact Int.toNat_natCast eN
      have hsb : vsubN eN uN = nN := by rw [qsubN]; simp only; omega
      obtain ⟨o1, ho1⟩ : ∃ o1, o1 = vcutN 0 uN eN := ⟨_, rfl⟩
      have ho : o1 = uN ∨ nN = 0 ∧ o1 ≤ bl := by
        have e : o1 = if eN = uN then 0 else 0 + uN := by rw [ho1, qcutN]
        by_cases h : eN = uN
        · rw [if_pos h] at e; right; constructor <;> omega
        · rw [if_neg h] at e; left; omega
      have hebl : eN ≤ bl := by omega
      have hsl := hseg uN nN (by omega)
      have hv1 := hvs uN nN o1 (by omega) ho
      have hsm1 := hsm uN nN
      have hsd1 := hsegd uN nN
      generalize hsg : SG uN nN = sg at *

      have fC : X = .keep sg uI := by rw [fB]; unfold bodyL; rw [if_pos hK]
      clear fB
      have hvs1 : vsub b o1 nN = sg := by
        rw [qsub, hsd1]
        rcases ho with rfl | ⟨h, _⟩
        · rfl
        · simp only [h, List.take_zero]
      have ha0 : vaddN 0 nN = nN := by rw [haddq, Nat.zero_add]
      have hon : ∀ l, vonto [] 0 l = l := fun l => by rw [qonto]; simp
      cbv
      rw [htU, htu, ← ho1, hsb]
      refine ⟨⟨by ((try simp only [nc] at *); omega), by ((try simp only [nc] at *); omega)⟩, ⟨by ((try simp only [nc] at *); omega), by ((try simp only [nc] at *); omega)⟩, ⟨by ((try simp only [nc] at *); omega), by ((try simp only [nc] at *); omega)⟩, ?_⟩
      rw [eK0]
      cbv
      refine ⟨⟨by rw [haddq, hlnb]; ((try simp only [nc] at *); omega)⟩, ⟨Nat.zero_le _⟩, ⟨Nat.zero_le _⟩, ⟨by rw [haddq]; ((try simp only [nc] at *); omega)⟩, ?_⟩
      intro c1 js1 hle
      cbv
      rw [hvs1, hon, ha0]
      subst hsl
      exact ⟨[0, 1, 3], .tup [.slice 2 .z 1 sg.length c1, .slice 1 .z 1 wl cap2, .int .i64 uI, .lit .i64 0], [.ro .u8 b, .ro .u8 w, .buf 5 .u8 sg c1], rfl, rfl, rfl, rfl, ⟨rfl, rfl, rfl, trivial⟩, rfl, pkeep sg uI c1 fC⟩
    · have eK0 : vc .eql K 0 = false := by rw [qc, eql_false]; omega
      have eK1 : vc .eql K 1 = true := by rw [qc, eql_true]; omega
      rw [eK0]
      cbv
      rw [eK1]
      cbv

      try simp only [nc] at *
      have hBB : BH = 1 := by rw [hBH ()]; rw [if_neg (by omega), if_pos hK]
      obtain ⟨uI, huI⟩ : ∃ uI, uI = US + 1 := ⟨_, rfl⟩
      have euI : vb .add .i64 US 1 = uI := by rw [qb, add_i64 (by omega) (by omega), huI]
      replace f10b := f10b () hlu hszm
      replace fB := fB () hlu hszm
      rw [hBB] at f10b fB
      rw [← huI] at f10b fB
      rw [ebl, euI]
      generalize hz5 : vc .lss bI uI = z5
      cases z5
      rotate_left
      · rw [qc, lss_true] at hz5
        cbv
        exact ⟨[0, 1], .tup [.val (.slice none 0 0), .val (.slice none 0 0), .lit .i64 0, .lit .i64 10], [.ro .u8 b, .ro .u8 w], rfl, rfl, rfl, rfl, ⟨rfl, rfl, trivial⟩, rfl, pbad 10 (f10b (by omega))⟩
      rw [qc, lss_false] at hz5
      try simp only [nc] at *
      have fB := fB hz5
      clear f10b
      obtain ⟨nN, hnN⟩ : ∃ nN : Nat, 1 = (nN : Int) := ⟨(1 : Int).toNat, by omega⟩
      have htB : (1 : Int).toNat = nN := by rw [hnN]; exact Int.toNat_natCast nN
      rw [htB] at fB
      have htU : vtoN US = uN := by rw [qtoN, hUS]; exact Int.toNat_natCast uN
      obtain ⟨eN, heN⟩ : ∃ eN : Nat, eN = uN + nN := ⟨_, rfl⟩
      have hue : uI = (eN : Int) := by omega
      have htu : vtoN uI = eN := by rw [qtoN, hue]; exact Int.toNat_natCast eN
      have hsb : vsubN eN uN = nN := by rw [qsubN]; simp only; omega
      obtain ⟨o1, ho1⟩ : ∃ o1, o1 = vcutN 0 uN eN := ⟨_, rfl⟩
      have ho : o1 = uN ∨ nN = 0 ∧ o1 ≤ bl := by
        have e : o1 = if eN = uN then 0 else 0 + uN := by rw [ho1, qcutN]
        by_cases h : eN = uN
        · rw [if_pos h] at e; right; constructor <;> omega
        · rw [if_neg h] at e; left; omega
      have hebl : eN ≤ bl := by omega
      have hsl := hseg uN nN (by omega)
      have hv1 := hvs uN nN o1 (by omega) ho
      have hsm1 := hsm uN nN
      have hsd1 := hsegd uN nN
      generalize hsg : SG uN nN = sg at *

      obtain ⟨y, hy⟩ : ∃ y, y = sg.getD 0 0 := ⟨_, rfl⟩
      obtain ⟨zN, hzN⟩ : ∃ zN, zN = SZ.toNat := ⟨_, rfl⟩
      have fC : X = .rep y zN uI := by rw [fB]; unfold bodyL; rw [if_neg (by omega), if_pos hK, hy, hzN]
      clear fB
      have hn1 : nN = 1 := by omega
      have hsg1 : sg = [y] := by
        rw [hn1] at hsl
        match sg, hsl with
        | [z], _ => rw [hy]; rfl
      have hy8 : isU8 y := hsm1 y (by rw [hsg1]; exact List.mem_singleton.2 rfl)
      have hrep := hrepA y nN SZ hy8 ⟨hsz0, by omega⟩
      rw [← hzN] at hrep
      subst hsg1
      subst hn1
      cbv
      rw [htU, htu, ← ho1, hsb]
      refine ⟨⟨by ((try simp only [nc] at *); omega), by ((try simp only [nc] at *); omega)⟩, ⟨by ((try simp only [nc] at *); omega), by ((try simp only [nc] at *); omega)⟩, ⟨by ((try simp only [nc] at *); omega), by ((try simp only [nc] at *); omega)⟩, ?_⟩
      rw [eK0]
      cbv
      rw [eK1]
      cbv
      refine call_con (ρ := [(0, .n o1)]) hrep ⟨by rfl, by rfl, by rfl, by cbv; exact ⟨hv1, trivial⟩⟩ ?_
      rintro v H R js4 ⟨rfl, L, c, hL1, hL2, rfl, rfl⟩
      cbv
      exact ⟨[0, 1, 3], .tup [.slice 2 .z 1 zN c, .slice 1 .z 1 wl cap2, .int .i64 uI, .lit .i64 0], [.ro .u8 b, .ro .u8 w, .ints 5 .u8 L], rfl, rfl, rfl, rfl, ⟨rfl, rfl, rfl, trivial⟩, rfl, prep y zN uI L c hL1 hL2 fC⟩

theorem read_b (b w : List Int) (cap cap2 : Nat) (most : Int) (hb : ∀ c ∈ b, isU8 c) (hw8 : ∀ c ∈ w, isU8 c) (hbl : b.length ≤ 140737488355328) (hwl : w.length ≤ 140737488355328) (hcap : b.length ≤ cap) (hcm : cap ≤ 9223372036854775807) (hk : ¬ kdH b < 2) (hb0 : ¬ b.length = 0) (hmo : ¬ (most < 0 ∨ 131072 < most)) :
    Con Try.prog 9 [.slice 0 .z 1 b.length cap, .slice 1 .z 1 w.length cap2, .int .i64 most] [.ro .u8 b, .ro .u8 w] (fun v H R => R = [] ∧ PRd b w cap2 (RdL b w most) v H) := by
  obtain ⟨f2, f10, f10a, f11, f10b, fB⟩ := RdL_facts b w most
  have hk4 := kfH hb
  have hsz0 := szH_nn b
  have hpk := pkH_range hb
  have hus := usH_le b
  have hBH : bhH b = if kdH b = 0 then szH b else if kdH b = 1 then 1 else pkH b := rfl
  obtain ⟨X, hX⟩ : ∃ X, X = RdL b w most := ⟨_, rfl⟩
  have pbad : ∀ e, X = .bad e → PRd b w cap2 X (.tup [.val (.slice none 0 0), .val (.slice none 0 0), .int .i64 0, .int .i64 e]) [.ro .u8 b, .ro .u8 w] := by
    intro e h; rw [h]; exact ⟨rfl, rfl⟩
  have pkeep : ∀ L u c, X = .keep L u → PRd b w cap2 X (.tup [.slice 2 .z 1 L.length c, .slice 1 .z 1 w.length cap2, .int .i64 u, .int .i64 0]) [.ro .u8 b, .ro .u8 w, .buf 5 .u8 L c] := by
    intro L u c h; rw [h]; exact ⟨c, rfl, rfl⟩
  have prep : ∀ x n u L c, n ≤ L.length → L.take n = List.replicate n x → X = .rep x n u → PRd b w cap2 X (.tup [.slice 2 .z 1 n c, .slice 1 .z 1 w.length cap2, .int .i64 u, .int .i64 0]) [.ro .u8 b, .ro .u8 w, .ints 5 .u8 L] := by
    intro x n u L c h1 h2 h; rw [h]; exact ⟨L, c, h1, h2, rfl, rfl⟩
  have pown : ∀ L l u c c3, X = .own L l u → PRd b w cap2 X (.tup [.slice 2 .z 1 L.length c, .slice 3 .z 1 l.length c3, .int .i64 u, .int .i64 0]) [.ro .u8 b, .ro .u8 w, .buf 5 .u8 L c, .buf 5 .u8 l c3] := by
    intro L l u c c3 h; rw [h]; exact ⟨c, c3, rfl, rfl⟩
  obtain ⟨US, hUS⟩ : ∃ US : Int, US = (usH b : Int) := ⟨_, rfl⟩
  obtain ⟨bI, hbI⟩ : ∃ bI : Int, bI = (b.length : Int) := ⟨_, rfl⟩
  rw [← hUS, ← hbI] at f10a f11 f10b fB
  rw [← hX] at f2 f10 f10a f11 f10b fB ⊢
  have hrowsA := rows_con
  have hrdA := rdw_con
  have hrepA := repeat_con
  have hseg := fun o n h => @seg_len b o n h
  have hvs := fun o n x h hx => @view_seg b o n x h hx
  have hsm := fun o n => @seg_mem b o n isU8 hb
  have hsegd : ∀ o n, seg b o n = (b.drop o).take n := fun _ _ => rfl
  replace f10a := fun (_ : Unit) => f10a hmo hb0
  replace f11 := fun (_ : Unit) => f11 hmo hb0
  replace f10b := fun (_ : Unit) => f10b hmo hb0
  replace fB := fun (_ : Unit) => fB hmo hb0
  clear f2 f10
  have hplain := plain_con
  have hpacked := packed_con
  have hidx := idx_packed hb hk
  have hpko := pk_of hk
  obtain ⟨p0, q0, r0, hidx0⟩ := idx_any hb
  have hx8 := getD_u8 hb 0
  unfold isU8 at hx8
  have hkd : ∀ _ : Unit, kdH b = b.getD 0 0 % 4 := fun _ => rfl
  have hfd : ∀ _ : Unit, fmH b = b.getD 0 0 / 4 % 4 := fun _ => rfl
  have hbt := btH_le b
  have hnr := nmH_range hb
  have hAr := numA_range hb (usH b)
  have hnum := fun c h => number_take b (usH b) c hb h (by omega)
  have hvt := view_take b (usH b)
  have hA40 : numA b (usH b) < 2 ^ 40 := Int.lt_of_lt_of_le hAr.2 (by
    have := Nat.pow_le_pow_right (n := 2) (by decide) (show 8 * usH b ≤ 40 by omega)
    exact_mod_cast this)
  have hnm : ∀ _ : Unit, nmH b = if usH b = 1 then b.getD 0 0 / 8 else numA b (usH b) / 16 := fun _ => rfl
  have hszd : ∀ _ : Unit, szH b = nmH b % 2 ^ btH b := fun _ => rfl
  obtain ⟨pw, hpw⟩ : ∃ pw : Int, pw = 2 ^ btH b := ⟨_, rfl⟩
  have hpw1 : 1 ≤ pw := by rw [hpw]; exact Int.pow_pos (by decide)
  have hpw2 : pw ≤ 2 ^ 20 := by
    rw [hpw]
    have := Nat.pow_le_pow_right (n := 2) (by decide) (show btH b ≤ 20 by omega)
    exact_mod_cast this
  rw [← hpw] at hszd
  have hszl : szH b < pw := by rw [hszd ()]; exact Int.emod_lt_of_pos _ (by omega)
  obtain ⟨NP, hNP⟩ : ∃ NP : Int, NP = nmH b / pw := ⟨_, rfl⟩
  have hNP0 : 0 ≤ NP ∧ NP < 2 ^ 40 := by
    rw [hNP]
    exact ⟨Int.ediv_nonneg hnr.1 (by omega), Int.lt_of_le_of_lt (Int.ediv_le_self _ hnr.1) hnr.2⟩
  rw [show (2 : Int) ^ 40 = 1099511627776 by decide] at hA40 hnr hNP0
  rw [show (2 : Int) ^ 20 = 1048576 by decide] at hpw2
  obtain ⟨BT, hBT⟩ : ∃ BT : Int, BT = (btH b : Int) := ⟨_, rfl⟩
  have hus1 := fun (_ : Unit) => @us1_kd b
  have emask := fun (x : Int) (h0 : 0 ≤ x) (h1 : x < 18446744073709551616) => @and_mask .u64 rfl x (btH b) (by show btH b ≤ 64; omega) h0 h1
  have eshl : bV .shl .u64 1 BT = pw := by
    have ht : BT.toNat = btH b := by omega
    rw [shl_u rfl (by decide) (by show BT ≤ ((64 : Nat) : Int); omega) (by rw [ht, Int.one_mul, ← hpw]; show pw < (2 : Int) ^ 64; omega), ht, Int.one_mul, hpw]
  replace hBH := fun (_ : Unit) => hBH
  rw [← hUS, ← hBT] at hidx
  rw [← hpw] at emask
  refine con_gen (con_picks (con_drop (con_walk hmix fn9 ?_)))
  intro vb vc vw vtoN vofN vaddN vsubN vmaxI vminI vcutN vgd vst vln vrep vsub vonto vsplice vstrEq vbyteV vnotB veqB hw qb qc qw qtoN qofN qaddN qsubN qmaxI qminI qcutN qgd qst qln qrep qsub qonto qsplice qstrEq qbyteV qnotB qeqB
  have hm := hmix; generalize Try.prog = P at *
  generalize PRd b w cap2 X = PP at *
  generalize hSG : seg b = SG at *
  generalize kdH b = K at *
  generalize fmH b = F at *
  generalize szH b = SZ at *
  generalize pkH b = PK at *
  generalize rwH b = RW at *
  generalize numA b (usH b) = A at *
  generalize b.take (usH b) = bt at *
  generalize usH b = uN at *
  generalize bhH b = BH at *
  generalize nmH b = NM at *
  generalize btH b = bN at *
  generalize hxx : b.getD 0 0 = x at *
  generalize hwl' : w.length = wl at *
  generalize hbl' : b.length = bl at *
  have hgd : ∀ i, vgd b i = b.getD i 0 := fun i => by rw [qgd]
  have hlnq : ∀ l, vln l = l.length := fun l => by rw [qln]
  have hlnb : vln b = bl := by simp only [qln, hbl']
  have haddq : ∀ a b, vaddN a b = a + b := fun a b => by rw [qaddN]
  have ebl : vofN bl = bI := by rw [qofN, hbI]
  have em1 : vc .lss most 0 = false := by rw [qc, lss_false]; omega
  have em2 : vc .gtr most 131072 = false := by rw [qc, gtr_false]; omega
  have eb0 : vc .eql bI 0 = false := by rw [qc, eql_false]; omega
  obtain ⟨x4, hx4⟩ : ∃ z, z = x / 4 := ⟨_, rfl⟩
  have hx4r : 0 ≤ x4 ∧ x4 < 256 := by omega
  have hin : 0 ≤ F ∧ F < 4 := by rw [hfd ()]; omega
  have ea1 : vb .and .u8 x 3 = K := by rw [qb, show (3 : Int) = 2 ^ 2 - 1 by decide, and_mask rfl 2 (by decide) hx8.1 (by show x < 256; omega)]; exact (hkd ()).symm
  have es1 : vb .shr .u8 x 2 = x4 := by rw [qb, shr_eq (by decide), hx4]; rfl
  have ea2 : vb .and .u8 x4 3 = F := by rw [qb, show (3 : Int) = 2 ^ 2 - 1 by decide, and_mask (k := .u8) rfl 2 (by decide) hx4r.1 hx4r.2]; show x4 % 4 = F; rw [hfd (), hx4]
  obtain ⟨fN, hfN⟩ : ∃ fN, fN = F.toNat := ⟨_, rfl⟩
  have htF : vtoN F = fN := by rw [qtoN, hfN]
  rw [← hfN] at hidx hidx0
  cbv at hidx
  cbv at hidx0
  have hb1 : 0 < bl := by omega
  have hbz : (0 : Int) < bl := by omega
  have hlb0 : 0 < vln b := by rw [hlnb]; exact hb1
  have hvx : SV.int .u8 (vgd b 0) = SV.int .u8 x := by rw [hgd, hxx]
  cbv
  rw [em1]
  cbv
  rw [em2]
  cbv
  rw [ebl, eb0]
  cbv
  rw [haddq, hlnb, hgd, hxx, ea1, es1, ea2]
  refine ⟨⟨Int.le_refl 0, hbz⟩, ⟨hb1⟩, ⟨hb1⟩, ?_⟩
  refine ⟨⟨Int.le_refl 0, hbz⟩, ⟨hb1⟩, ⟨hb1⟩, ?_⟩
  apply joinG
  · intro key
    refine call_con (ρ := []) hplain ⟨by rfl, by rfl, by rfl, by cbv⟩ ?_
    rintro v H R js ⟨rfl, rfl, rfl⟩
    cbv
    rw [htF, hidx0]
    cbv
    refine ⟨⟨⟨hlb0⟩, hvx⟩, ⟨hin⟩, ⟨⟨hlb0⟩, hvx⟩, ?_⟩
    exact key
  · intro key
    refine ⟨⟨⟨hb1⟩, trivial⟩, ?_⟩
    refine call_con (ρ := []) hplain ⟨by rfl, by rfl, by rfl, by cbv⟩ ?_
    rintro v H R js ⟨rfl, rfl, rfl⟩
    cbv
    rw [htF, hidx0]
    cbv
    refine ⟨⟨⟨hlb0⟩, hvx⟩, ⟨hin⟩, ?_⟩
    exact key
  have ege : vc .geq K 2 = true := by rw [qc, geq_true]; omega
  rw [ege]
  cbv
  rw [haddq, hlnb, hgd, hxx, es1, ea2]
  refine ⟨⟨Int.le_refl 0, hbz⟩, ⟨hb1⟩, ⟨hb1⟩, ?_⟩
  refine call_con (ρ := []) hpacked ⟨by rfl, by rfl, by rfl, by cbv⟩ ?_
  rintro v H R js ⟨rfl, rfl, rfl⟩
  cbv
  rw [htF, hidx]
  cbv
  refine ⟨⟨⟨hlb0⟩, hvx⟩, ⟨hin⟩, ?_⟩
  rw [ebl]
  generalize hz1 : vc .lss bI US = z1
  cases z1
  rotate_left
  · rw [qc, lss_true] at hz1
    cbv
    exact ⟨[0, 1], .tup [.val (.slice none 0 0), .val (.slice none 0 0), .lit .i64 0, .lit .i64 10], [.ro .u8 b, .ro .u8 w], rfl, rfl, rfl, rfl, ⟨rfl, rfl, trivial⟩, rfl, pbad 10 (f10a () hz1)⟩
  rw [qc, lss_false] at hz1
  have hlu : ¬ bI < US := hz1
  try simp only [nc] at *
  have hub : uN ≤ bl := by omega
  have htU0 : vtoN US = uN := by rw [qtoN, hUS]; exact Int.toNat_natCast uN
  have huc : uN ≤ cap := by omega
  obtain ⟨A4, hA4⟩ : ∃ A4, A4 = A / 16 := ⟨_, rfl⟩
  have eA4 : vb .shr .u64 A 4 = A4 := by rw [qb, shr_eq (by decide), hA4]; rfl
  cbv
  rw [htU0]
  refine ⟨⟨by ((try simp only [nc] at *); omega), by ((try simp only [nc] at *); omega)⟩, ?_⟩
  refine call_con (ρ := [(0, .z)]) (hnum cap hub) ⟨by rfl, by rfl, by rfl, by cbv; exact ⟨hvt hub, trivial⟩⟩ ?_
  rintro v H R js ⟨rfl, rfl, rfl⟩
  cbv
  rw [eA4]
  try simp only [nc] at *
  have hU1 : ¬ uN = 1 := fun h => hk (hus1 () h)
  have eU : vc .eql US 1 = false := by rw [qc, eql_false]; omega
  obtain rfl : NM = A4 := by rw [hnm (), if_neg hU1, hA4]
  obtain rfl : NP = PK := by rw [hpko, hNP, hpw]
  rw [eU]
  cbv

  try simp only [nc] at *
  have hBT0 : 0 ≤ BT := by omega
  have ewb : vw .u64 BT = BT := by rw [qw]; exact wrap_u64 (by omega) (by omega)
  have esh : vb .shl .u64 1 BT = pw := by rw [qb]; exact eshl
  obtain ⟨pm, hpm⟩ : ∃ pm, pm = pw - 1 := ⟨_, rfl⟩
  have esu : vb .sub .u64 pw 1 = pm := by rw [qb, hpm]; exact wrap_u64 (by omega) (by omega)
  have ema : vb .and .u64 NM pm = SZ := by rw [qb, hpm, emask NM hnr.1 (by omega), hszd ()]
  have ews : vw .i64 SZ = SZ := by rw [qw]; exact wrap_i64 (by omega) (by omega)
  have enp : vb .shr .u64 NM BT = NP := by
    have ht : BT.toNat = bN := by omega
    have h0 : BT ≤ ((64 : Nat) : Int) := by omega
    rw [qb, shr_eq h0, ht, ← hpw, hNP]
  have ewn : vw .i64 NP = NP := by rw [qw]; exact wrap_i64 (by omega) (by omega)
  rw [ewb, esh, esu, ema, ews]
  refine ⟨⟨hBT0⟩, ?_⟩
  generalize hz4 : vc .gtr SZ most = z4
  cases z4
  rotate_left
  · rw [qc, gtr_true] at hz4
    cbv
    exact ⟨[0, 1], .tup [.val (.slice none 0 0), .val (.slice none 0 0), .lit .i64 0, .lit .i64 11], [.ro .u8 b, .ro .u8 w], rfl, rfl, rfl, rfl, ⟨rfl, rfl, trivial⟩, rfl, pbad 11 (f11 () hlu (by omega))⟩
  rw [qc, gtr_false] at hz4
  try simp only [nc] at *
  have hszm : ¬ most < SZ := by omega
  cbv
  rw [ewb, enp, ewn]
  refine ⟨⟨hBT0⟩, ?_⟩
  rcases (show K = 2 ∨ K = 3 by omega) with hK | hK
  · have eK0 : vc .eql K 0 = false := by rw [qc, eql_false]; omega
    have eK1 : vc .eql K 1 = false := by rw [qc, eql_false]; omega
    have eK2 : vc .eql K 2 = true := by rw [qc, eql_true]; omega
    rw [eK0]
    cbv
    rw [eK1]
    cbv

    try simp only [nc] at *
    have hBB : BH = NP := by rw [hBH ()]; rw [if_neg (by omega), if_neg (by omega)]
    obtain ⟨uI, huI⟩ : ∃ uI, uI = US + NP := ⟨_, rfl⟩
    have euI : vb .add .i64 US NP = uI := by rw [qb, add_i64 (by omega) (by omega), huI]
    replace f10b := f10b () hlu hszm
    replace fB := fB () hlu hszm
    rw [hBB] at f10b fB
    rw [← huI] at f10b fB
    rw [ebl, euI]
    generalize hz5 : vc .lss bI uI = z5
    cases z5
    rotate_left
    · rw [qc, lss_true] at hz5
      cbv
      exact ⟨[0, 1], .tup [.val (.slice none 0 0), .val (.slice none 0 0), .lit .i64 0, .lit .i64 10], [.ro .u8 b, .ro .u8 w], rfl, rfl, rfl, rfl, ⟨rfl, rfl, trivial⟩, rfl, pbad 10 (f10b (by omega))⟩
    rw [qc, lss_false] at hz5
    try simp only [nc] at *
    have fB := fB hz5
    clear f10b
    obtain ⟨nN, hnN⟩ : ∃ nN : Nat, NP = (nN : Int) := ⟨(NP : Int).toNat, by omega⟩
    have htB : (NP : Int).toNat = nN := by rw [hnN]; exact Int.toNat_natCast nN
    rw [htB] at fB
    have htU : vtoN US = uN := by rw [qtoN, hUS]; exact Int.toNat_natCast uN
    obtain ⟨eN, heN⟩ : ∃ eN : Nat, eN = uN + nN := ⟨_, rfl⟩
    have hue : uI = (eN : Int) := by omega
    have htu : vtoN uI = eN := by rw [qtoN, hue]; exact Int.toNat_natCast eN
    have hsb : vsubN eN uN = nN := by rw [qsubN]; simp only; omega
    obtain ⟨o1, ho1⟩ : ∃ o1, o1 = vcutN 0 uN eN := ⟨_, rfl⟩
    have ho : o1 = uN ∨ nN = 0 ∧ o1 ≤ bl := by
      have e : o1 = if eN = uN then 0 else 0 + uN := by rw [ho1, qcutN]
      by_cases h : eN = uN
      · rw [if_pos h] at e; right; constructor <;> omega
      · rw [if_neg h] at e; left; omega
    have hebl : eN ≤ bl := by omega
    have hsl := hseg uN nN (by omega)
    have hv1 := hvs uN nN o1 (by omega) ho
    have hsm1 := hsm uN nN
    have hsd1 := hsegd uN nN
    generalize hsg : SG uN nN = sg at *

    have fBn : rdw sg = none → X = .bad 11 := fun h => by rw [fB]; unfold bodyL; rw [if_neg (by omega), if_neg (by omega), if_pos hK, h]
    have fBl : ∀ l, rdw sg = some l → X = owned l uI (rowsR l (sg.drop (1 + hnW sg).toNat) SZ RW) := fun l h => by rw [fB]; unfold bodyL; rw [if_neg (by omega), if_neg (by omega), if_pos hK, h]
    clear fB
    have hrd := hrdA sg nN hsm1 (by omega) (by omega) (by omega)
    have hspec := fun l (h : rdw sg = some l) => rdw_spec h
    have hnn := hnW_nn (isU8_byte hsm1)
    have hvd := fun h x hh hx => @view_seg_drop b uN nN h x (by omega) hh hx
    rw [hSG, hsg, hbl'] at hvd
    have hu8 := fun l h => @RdW_u8 256 sg l (isU8_byte hsm1) h
    have hsh : ∀ h : ¬ shortW sg, 1 + hnW sg ≤ nN := by
      intro h
      unfold shortW at h
      rw [hsl] at h
      by_cases h2 : (nN : Int) - 1 < hnW sg
      · exact (h (.inr h2)).elim
      · omega
    obtain ⟨hI, hhI⟩ : ∃ hI, hI = 1 + hnW sg := ⟨_, rfl⟩
    rw [← hhI] at fBl hrd hsh
    obtain ⟨hN, hhN⟩ : ∃ hN : Nat, hI = hN := ⟨hI.toNat, by omega⟩
    have hthN : hI.toNat = hN := by rw [hhN]; exact Int.toNat_natCast hN
    rw [hthN] at fBl
    rw [hsl] at hrd
    generalize hRDW : rdw sg = RDW at *
    cbv
    rw [htU, htu, ← ho1, hsb]
    refine ⟨⟨by ((try simp only [nc] at *); omega), by ((try simp only [nc] at *); omega)⟩, ⟨by ((try simp only [nc] at *); omega), by ((try simp only [nc] at *); omega)⟩, ⟨by ((try simp only [nc] at *); omega), by ((try simp only [nc] at *); omega)⟩, ?_⟩
    rw [eK0]
    cbv
    rw [eK1]
    cbv
    rw [eK2]
    cbv
    refine call_con (ρ := [(0, .n o1)]) hrd ⟨by rfl, by rfl, by rfl, by cbv; exact ⟨hv1, trivial⟩⟩ ?_
    rintro v H R js4 ⟨rfl, ⟨e, he, hr4, rfl, rfl⟩ | ⟨l, c3, hr4, rfl, rfl⟩⟩
    · have ez : vc .neq e 0 = true := by rw [qc, neq_true]; exact he
      cbv
      rw [ez]
      cbv
      exact ⟨[0, 1], .tup [.val (.slice none 0 0), .val (.slice none 0 0), .lit .i64 0, .lit .i64 11], [.ro .u8 b, .ro .u8 w], rfl, rfl, rfl, rfl, ⟨rfl, rfl, trivial⟩, rfl, pbad 11 (fBn hr4)⟩
    try simp only [nc] at *
    obtain ⟨hs1, hs2⟩ := hspec l hr4
    have hh := hsh hs1
    obtain ⟨hlu8, hl256, _⟩ := hu8 l hs2
    obtain ⟨o2, ho2⟩ : ∃ o2, o2 = vcutN o1 hN nN := ⟨_, rfl⟩
    obtain ⟨m2, hm2⟩ : ∃ m2, m2 = vsubN nN hN := ⟨_, rfl⟩
    have hm2' : m2 = nN - hN := by rw [hm2, qsubN]
    have ho2' : o2 = uN + hN ∨ hN = nN ∧ o2 ≤ bl := by
      have e : o2 = if nN = hN then o1 else o1 + hN := by rw [ho2, qcutN]
      by_cases h : nN = hN
      · rw [if_pos h] at e; right; constructor <;> omega
      · rw [if_neg h] at e; left; rcases ho with h' | ⟨h', _⟩ <;> omega
    have hv2 := hvd hN o2 (by omega) ho2'
    have hd2l : (sg.drop hN).length = m2 := by rw [List.length_drop, hsl, hm2']
    have hrows := hrowsA l (sg.drop hN) c3 m2 SZ RW hlu8 (by omega) (fun c hc => hsm1 c (List.mem_of_mem_drop hc)) (by rw [hd2l]; omega) (by rw [hd2l]; omega) (by omega) ⟨hsz0, by omega⟩
    rw [hd2l] at hrows
    have fC := fBl l hr4
    clear fBl fBn
    generalize rowsR l (sg.drop hN) SZ RW = RR at *
    generalize sg.drop hN = sg2 at *
    obtain ⟨ln, hln⟩ : ∃ ln, ln = l.length := ⟨_, rfl⟩
    rw [← hln] at hrows hl256 ⊢
    have htI : vtoN hI = hN := by rw [qtoN, hhN]; exact Int.toNat_natCast hN
    have ez : vc .neq 0 0 = false := by rw [qc]; rfl
    clear hs2 hs1 hu8 hspec
    cbv
    rw [ez]
    cbv
    rw [htI, ← ho2, ← hm2]
    refine ⟨⟨by ((try simp only [nc] at *); omega), by ((try simp only [nc] at *); omega)⟩, ?_⟩
    refine call_con (ρ := [(3, .z), (0, .n o2)]) hrows ⟨by rfl, by rfl, by rfl, by cbv; exact ⟨view_refl _, hv2, trivial⟩⟩ ?_
    rintro v H R js5 ⟨rfl, ⟨e, he, hr5, rfl, rfl⟩ | ⟨L, c5, hr5, rfl, rfl⟩⟩
    · have ez : vc .neq e 0 = true := by rw [qc, neq_true]; exact he
      cbv
      rw [ez]
      cbv
      exact ⟨[0, 1], .tup [.val (.slice none 0 0), .val (.slice none 0 0), .lit .i64 0, .lit .i64 11], [.ro .u8 b, .ro .u8 w], rfl, rfl, rfl, rfl, ⟨rfl, rfl, trivial⟩, rfl, pbad 11 (by rw [fC, hr5]; rfl)⟩
    · obtain ⟨Ln, hLn⟩ : ∃ Ln, Ln = L.length := ⟨_, rfl⟩
      have ez' : vc .neq 0 0 = false := by rw [qc]; rfl
      rw [← hLn]
      cbv
      rw [ez']
      cbv
      subst hLn
      subst hln
      exact ⟨[0, 1, 4, 3], .tup [.slice 2 .z 1 L.length c5, .slice 3 .z 1 l.length c3, .int .i64 uI, .lit .i64 0], [.ro .u8 b, .ro .u8 w, .buf 5 .u8 L c5, .buf 5 .u8 l c3], rfl, rfl, rfl, rfl, ⟨rfl, rfl, rfl, rfl, trivial⟩, rfl, pown L l uI c5 c3 (by rw [fC, hr5]; rfl)⟩
  · have eK0 : vc .eql K 0 = false := by rw [qc, eql_false]; omega
    have eK1 : vc .eql K 1 = false := by rw [qc, eql_false]; omega
    have eK2 : vc .eql K 2 = false := by rw [qc, eql_false]; omega
    rw [eK0]
    cbv
    rw [eK1]
    cbv

    try simp only [nc] at *
    have hBB : BH = NP := by rw [hBH ()]; rw [if_neg (by omega), if_neg (by omega)]
    obtain ⟨uI, huI⟩ : ∃ uI, uI = US + NP := ⟨_, rfl⟩
    have euI : vb .add .i64 US NP = uI := by rw [qb, add_i64 (by omega) (by omega), huI]
    replace f10b := f10b () hlu hszm
    replace fB := fB () hlu hszm
    rw [hBB] at f10b fB
    rw [← huI] at f10b fB
    rw [ebl, euI]
    generalize hz5 : vc .lss bI uI = z5
    cases z5
    rotate_left
    · rw [qc, lss_true] at hz5
      cbv
      exact ⟨[0, 1], .tup [.val (.slice none 0 0), .val (.slice none 0 0), .lit .i64 0, .lit .i64 10], [.ro .u8 b, .ro .u8 w], rfl, rfl, rfl, rfl, ⟨rfl, rfl, trivial⟩, rfl, pbad 10 (f10b (by omega))⟩
    rw [qc, lss_false] at hz5
    try simp only [nc] at *
    have fB := fB hz5
    clear f10b
    obtain ⟨nN, hnN⟩ : ∃ nN : Nat, NP = (nN : Int) := ⟨(NP : Int).toNat, by omega⟩
    have htB : (NP : Int).toNat = nN := by rw [hnN]; exact Int.toNat_natCast nN
    rw [htB] at fB
    have htU : vtoN US = uN := by rw [qtoN, hUS]; exact Int.toNat_natCast uN
    obtain ⟨eN, heN⟩ : ∃ eN : Nat, eN = uN + nN := ⟨_, rfl⟩
    have hue : uI = (eN : Int) := by omega
    have htu : vtoN uI = eN := by rw [qtoN, hue]; exact Int.toNat_natCast eN
    have hsb : vsubN eN uN = nN := by rw [qsubN]; simp only; omega
    obtain ⟨o1, ho1⟩ : ∃ o1, o1 = vcutN 0 uN eN := ⟨_, rfl⟩
    have ho : o1 = uN ∨ nN = 0 ∧ o1 ≤ bl := by
      have e : o1 = if eN = uN then 0 else 0 + uN := by rw [ho1, qcutN]
      by_cases h : eN = uN
      · rw [if_pos h] at e; right; constructor <;> omega
      · rw [if_neg h] at e; left; omega
    have hebl : eN ≤ bl := by omega
    have hsl := hseg uN nN (by omega)
    have hv1 := hvs uN nN o1 (by omega) ho
    have hsm1 := hsm uN nN
    have hsd1 := hsegd uN nN
    generalize hsg : SG uN nN = sg at *

    have fC : X = kept uI (rowsR w sg SZ RW) := by rw [fB]; unfold bodyL; rw [if_neg (by omega), if_neg (by omega), if_neg (by omega)]
    clear fB
    have hrows := hrowsA w sg cap2 nN SZ RW hw8 (by omega) hsm1 (by omega) (by omega) (by omega) ⟨hsz0, by omega⟩
    rw [hwl', hsl] at hrows
    generalize rowsR w sg SZ RW = RR at *
    cbv
    rw [htU, htu, ← ho1, hsb]
    refine ⟨⟨by ((try simp only [nc] at *); omega), by ((try simp only [nc] at *); omega)⟩, ⟨by ((try simp only [nc] at *); omega), by ((try simp only [nc] at *); omega)⟩, ⟨by ((try simp only [nc] at *); omega), by ((try simp only [nc] at *); omega)⟩, ?_⟩
    rw [eK0]
    cbv
    rw [eK1]
    cbv
    rw [eK2]
    cbv
    refine call_con (ρ := [(1, .z), (0, .n o1)]) hrows ⟨by rfl, by rfl, by rfl, by cbv; exact ⟨view_refl _, hv1, trivial⟩⟩ ?_
    rintro v H R js5 ⟨rfl, ⟨e, he, hr5, rfl, rfl⟩ | ⟨L, c5, hr5, rfl, rfl⟩⟩
    · have ez : vc .neq e 0 = true := by rw [qc, neq_true]; exact he
      cbv
      rw [ez]
      cbv
      exact ⟨[0, 1], .tup [.val (.slice none 0 0), .val (.slice none 0 0), .lit .i64 0, .lit .i64 11], [.ro .u8 b, .ro .u8 w], rfl, rfl, rfl, rfl, ⟨rfl, rfl, trivial⟩, rfl, pbad 11 (by rw [fC, hr5]; rfl)⟩
    · obtain ⟨Ln, hLn⟩ : ∃ Ln, Ln = L.length := ⟨_, rfl⟩
      have ez' : vc .neq 0 0 = false := by rw [qc]; rfl
      rw [← hLn]
      cbv
      rw [ez']
      cbv
      subst hLn
      exact ⟨[0, 1, 3], .tup [.slice 2 .z 1 L.length c5, .slice 1 .z 1 wl cap2, .int .i64 uI, .lit .i64 0], [.ro .u8 b, .ro .u8 w, .buf 5 .u8 L c5], rfl, rfl, rfl, rfl, ⟨rfl, rfl, rfl, trivial⟩, rfl, pkeep L uI c5 (by rw [fC, hr5]; rfl)⟩
theorem read_con (b w : List Int) (cap cap2 : Nat) (most : Int) (hb : ∀ c ∈ b, isU8 c) (hw8 : ∀ c ∈ w, isU8 c) (hbl : b.length ≤ 140737488355328) (hwl : w.length ≤ 140737488355328) (hcap : b.length ≤ cap) (hcm : cap ≤ 9223372036854775807) :
    Con Try.prog 9 [.slice 0 .z 1 b.length cap, .slice 1 .z 1 w.length cap2, .int .i64 most] [.ro .u8 b, .ro .u8 w] (fun v H R => R = [] ∧ PRd b w cap2 (RdL b w most) v H) := by
  obtain ⟨f2, f10, _⟩ := RdL_facts b w most
  by_cases hmo : most < 0 ∨ 131072 < most
  · rw [f2 hmo]
    refine con_gen (con_cut 2 (by simp) (con_drop (con_walk hmix fn9 ?_)))
    intro vb vc vw vtoN vofN vaddN vsubN vmaxI vminI vcutN vgd vst vln vrep vsub vonto vsplice vstrEq vbyteV vnotB veqB hw qb qc qw qtoN qofN qaddN qsubN qmaxI qminI qcutN qgd qst qln qrep qsub qonto qsplice qstrEq qbyteV qnotB qeqB
    have hm := hmix; generalize Try.prog = P at *
    clear f2 f10
    generalize b.length = bl at *
    generalize w.length = wl at *
    cbv
    generalize hz1 : vc .lss most 0 = z1
    cases z1
    rotate_left
    · cbv
    rw [qc, lss_false] at hz1
    have em2 : vc .gtr most 131072 = true := by rw [qc, gtr_true]; omega
    cbv
    rw [em2]
    cbv
  by_cases hb0 : b.length = 0
  · rw [f10 hmo hb0]
    refine con_gen (con_cut 2 (by simp) (con_drop (con_walk hmix fn9 ?_)))
    intro vb vc vw vtoN vofN vaddN vsubN vmaxI vminI vcutN vgd vst vln vrep vsub vonto vsplice vstrEq vbyteV vnotB veqB hw qb qc qw qtoN qofN qaddN qsubN qmaxI qminI qcutN qgd qst qln qrep qsub qonto qsplice qstrEq qbyteV qnotB qeqB
    have hm := hmix; generalize Try.prog = P at *
    clear f2 f10
    generalize b.length = bl at *
    generalize w.length = wl at *
    subst hb0
    have em1 : vc .lss most 0 = false := by rw [qc, lss_false]; omega
    have em2 : vc .gtr most 131072 = false := by rw [qc, gtr_false]; omega
    have e : vc .eql (vofN 0) 0 = true := by rw [qc, qofN]; rfl
    cbv
    rw [em1]
    cbv
    rw [em2]
    cbv
    rw [e]
    cbv
  by_cases hk : kdH b < 2
  · exact read_a b w cap cap2 most hb hw8 hbl hwl hcap hcm hk hb0 hmo
  · exact read_b b w cap cap2 most hb hw8 hbl hwl hcap hcm hk hb0 hmo
end Go.Proofs.Ytaaklikigccdfaa
namespace Go.Proofs.Ytaaklikigccdfaa
open Go Go.Sx Go.Proofs
/-! balerlaw11.wakes. -/
set_option maxRecDepth 10000
set_option maxHeartbeats 40000000
/-- The nil slices among a call's arguments, by the name n of an empty block. -/
def nilArgs (n : Nat) : List SV → List SV
  | [] => []
  | v :: l => (if isNil v then .slice n .z 1 0 0 else v) :: nilArgs n l
theorem denL_nilArgs (σ : Names) (n : Nat) : ∀ l : List SV, denL (more σ n none) (nilArgs n l) = denL (more σ n none) l
  | [] => rfl
  | v :: l => by
    simp only [nilArgs, denL, denL_nilArgs σ n l]
    split
    · rename_i h
      rw [isNil_eq h, den_nil]
    · rfl
theorem callX_nil {P : Program} {f : Nat} {args : List SV} {s : SS} {K : SV → SS → Prop} {X : XE → SS → Prop} (t : Nat) (k : IntKind) (hsc : scS s True) (hsa : scL s.h.length args = true)
    (h : CallX P f (nilArgs s.h.length args) (alloc (.buf t k [] 0) s) K X) : CallX P f args s K X := by
  refine ⟨h.go, fun σ w hok => ?_⟩
  obtain ⟨h1, h2, h3⟩ := hok.new (B := .buf t k [] 0) (p := none) hsc ⟨Nat.le_refl _, rfl, rfl, rfl, fun _ _ => rfl⟩ (fun q hq => by cases hq) (.inl ⟨rfl, rfl, rfl⟩)
  have := h.out _ w h1
  rw [rOf_eq hok h1 h2, denL_nilArgs, sc_denL (fun i hi => more_old hi) args hsa] at this
  refine this.mono ?_
  rintro e w' ⟨σ', s', k1, k2, k3, k4⟩
  exact ⟨σ', s', k1, h2.trans k2, k3.trans h3, k4⟩
theorem rd1 : RdL [24, 97, 98, 99] [] 9 = .keep [97, 98, 99] 4 := by
  have k : kdH [24, 97, 98, 99] = 0 := rfl
  have u : usH [24, 97, 98, 99] = 1 := rfl
  have z : szH [24, 97, 98, 99] = 3 := rfl
  have bb : bhH [24, 97, 98, 99] = 3 := rfl
  unfold RdL bodyL
  rw [k, u, z, bb]
  rfl
theorem rd2 : RdL [41, 97] [] 9 = .rep 97 5 2 := by
  have k : kdH [41, 97] = 1 := rfl
  have u : usH [41, 97] = 1 := rfl
  have z : szH [41, 97] = 5 := rfl
  have bb : bhH [41, 97] = 1 := rfl
  unfold RdL bodyL
  rw [k, u, z, bb]
  rfl
theorem rd3 : RdL [24, 97, 98] [] 9 = .bad 10 := by
  have k : kdH [24, 97, 98] = 0 := rfl
  have u : usH [24, 97, 98] = 1 := rfl
  have z : szH [24, 97, 98] = 3 := rfl
  have bb : bhH [24, 97, 98] = 3 := rfl
  unfold RdL
  rw [u, z, bb]
  rfl
theorem u8s (l : List Int) (h : l.all (fun c => decide (0 ≤ c ∧ c ≤ 255)) = true) : ∀ c ∈ l, isU8 c := fun c hc => by
  have := List.all_eq_true.1 h c hc
  unfold isU8
  exact of_decide_eq_true this
theorem wakes11_con : Con Try.prog 11 [] [] (fun v H R => v = .bool true ∧ H = [] ∧ R = []) := by
  have h1 := fun cap cap2 h h' => read_con [24, 97, 98, 99] [] cap cap2 9 (u8s _ rfl) (u8s _ rfl) (by decide) (by decide) h h'
  have h2 := fun cap cap2 h h' => read_con [41, 97] [] cap cap2 9 (u8s _ rfl) (u8s _ rfl) (by decide) (by decide) h h'
  have h3 := fun cap cap2 h h' => read_con [24, 97, 98] [] cap cap2 9 (u8s _ rfl) (u8s _ rfl) (by decide) (by decide) h h'
  simp only [rd1, PRd, List.length_cons, List.length_nil] at h1
  simp only [rd2, PRd, List.length_cons, List.length_nil] at h2
  simp only [rd3, PRd, List.length_cons, List.length_nil] at h3
  have f9 := fn9
  refine con_gen (con_cut 0 (by simp) (con_drop (con_walk hmix fn11 ?_)))
  intro vb vc vw vtoN vofN vaddN vsubN vmaxI vminI vcutN vgd vst vln vrep vsub vonto vsplice vstrEq vbyteV vnotB veqB hw qb qc qw qtoN qofN qaddN qsubN qmaxI qminI qcutN qgd qst qln qrep qsub qonto qsplice qstrEq qbyteV qnotB qeqB
  have hm := hmix; generalize Try.prog = P at *
  have hstr : ∀ l, vstrEq l l = true := fun l => by rw [qstrEq]; simp
  have ha0 : ∀ n, vaddN 0 n = n := fun n => by simp only [qaddN, Nat.zero_add]
  have hlnq : ∀ l, vln l = l.length := fun l => by simp only [qln]
  have hsubq : ∀ (l : List Int) q, vsub l 0 q = l.take q := fun l q => by simp only [qsub, List.drop_zero]
  have e00 : vc .eql 0 0 = true := by rw [qc]; rfl
  have e44 : vc .eql 4 4 = true := by rw [qc]; rfl
  have e22 : vc .eql 2 2 = true := by rw [qc]; rfl
  have e10 : vc .eql 10 10 = true := by rw [qc]; rfl
  have hsx : vsub [97, 98, 99] 0 3 = [97, 98, 99] := by rw [hsubq]; rfl
  cbv
  refine callX_nil 5 .u8 (by cbv) (by rfl) ?_
  refine call_con (ρ := [(0, .z), (1, .z)]) (h1 4 0 (by decide) (by decide)) ⟨by rfl, by rfl, by rfl, by cbv; exact ⟨view_refl _, view_refl _, trivial⟩⟩ ?_
  rintro v H R js ⟨rfl, c1, rfl, rfl⟩
  cbv
  refine callX_nil 5 .u8 (by cbv; try exact ⟨fun _ => rfl, trivial⟩) (by rfl) ?_
  refine call_con (ρ := [(3, .z), (4, .z)]) (h2 2 0 (by decide) (by decide)) ⟨by rfl, by rfl, by rfl, by cbv; exact ⟨view_refl _, view_refl _, trivial⟩⟩ ?_
  rintro v H R js2 ⟨rfl, L, c2, hL1, hL2, rfl, rfl⟩
  have hsl : vsub L 0 5 = [97, 97, 97, 97, 97] := by rw [hsubq, hL2]; rfl
  cbv
  refine callX_nil 5 .u8 (by cbv; try exact ⟨fun _ => rfl, trivial⟩) (by rfl) ?_
  refine call_con (ρ := [(6, .z), (7, .z)]) (h3 3 0 (by decide) (by decide)) ⟨by rfl, by rfl, by rfl, by cbv; exact ⟨view_refl _, view_refl _, trivial⟩⟩ ?_
  rintro v H R js3 ⟨rfl, rfl, rfl⟩
  cbv
  rw [e00]
  cbv
  refine ⟨⟨by rw [ha0, hlnq]; decide⟩, ?_⟩
  rw [hsx, hstr]
  cbv
  rw [e44]
  cbv
  rw [e00]
  cbv
  refine ⟨⟨by rw [ha0, hlnq]; exact hL1⟩, ?_⟩
  rw [hsl, hstr]
  cbv
  rw [e22]
  cbv
  rw [e10]
  cbv
end Go.Proofs.Ytaaklikigccdfaa
namespace Go.Proofs.Ytaaklikigccdfaa
open Go Go.Sx Go.Proofs
/-! balerref11.Read. -/
set_option maxRecDepth 10000
set_option maxHeartbeats 40000000
/-- The document's reader's answer. -/
def PRef (b w : List Int) (cap2 : Nat) : LitR → SV → List SB → Prop
  | .bad e, v, H => v = .tup [.val (.slice none 0 0), .val (.slice none 0 0), .int .i64 0, .int .i64 e] ∧ H = [.ro .u8 b, .ro .u8 w]
  | .keep L u, v, H => ∃ c, v = .tup [.slice 2 .z 1 L.length c, .slice 1 .z 1 w.length cap2, .int .i64 u, .int .i64 0] ∧ H = [.ro .u8 b, .ro .u8 w, .buf 5 .u8 L c]
  | .rep x n u, v, H => ∃ c, v = .tup [.slice 2 .z 1 n c, .slice 1 .z 1 w.length cap2, .int .i64 u, .int .i64 0] ∧ H = [.ro .u8 b, .ro .u8 w, .buf 5 .u8 (List.replicate n x) c]
  | .own L l u, v, H => ∃ c c3, v = .tup [.slice 2 .z 1 L.length c, .slice 3 .z 1 l.length c3, .int .i64 u, .int .i64 0] ∧ H = [.ro .u8 b, .ro .u8 w, .buf 5 .u8 L c, .buf 5 .u8 l c3]
theorem refread_con (b w : List Int) (cap cap2 : Nat) (most : Int) (hb : ∀ c ∈ b, isU8 c) (hw8 : ∀ c ∈ w, isU8 c) (hbl : b.length ≤ 140737488355328) (hwl : w.length ≤ 140737488355328) (hcap : b.length ≤ cap) (hcm : cap ≤ 9223372036854775807) :
    Con Try.prog 10 [.slice 0 .z 1 b.length cap, .slice 1 .z 1 w.length cap2, .int .i64 most] [.ro .u8 b, .ro .u8 w] (fun v H R => R = [] ∧ PRef b w cap2 (RdL b w most) v H) := by
  obtain ⟨f2, f10, f10a, f11, f10b, fB⟩ := RdL_facts b w most
  have hhead := fun h => refhead_con b cap hb h hbl hcap
  have hk4 := kfH hb
  have hsz0 := szH_nn b
  have hpk := pkH_range hb
  have hus := usH_le b
  have hBH : bhH b = if kdH b = 0 then szH b else if kdH b = 1 then 1 else pkH b := rfl
  obtain ⟨m, hm0⟩ := Msz.ex w
  have hbits := refbits9_con w cap2 m hw8 hwl hm0
  have hmz : m = 0 → ¬ ∃ M, Wt w M := by
    rintro rfl ⟨M, hW⟩
    rcases hm0 with ⟨K, hK, h⟩ | ⟨h, _⟩
    · have := hK.pos; omega
    · exact h M hW
  have hmn : m ≠ 0 → ∃ M, Wt w M := by
    intro h
    rcases hm0 with ⟨K, hK, _⟩ | ⟨_, h'⟩
    · exact ⟨K, hK⟩
    · exact (h h').elim
  have hrno := fun h => rowsR_no (hmz h)
  obtain ⟨X, hX⟩ : ∃ X, X = RdL b w most := ⟨_, rfl⟩
  have pbad : ∀ e, X = .bad e → PRef b w cap2 X (.tup [.val (.slice none 0 0), .val (.slice none 0 0), .int .i64 0, .int .i64 e]) [.ro .u8 b, .ro .u8 w] := by
    intro e h; rw [h]; exact ⟨rfl, rfl⟩
  have pkeep : ∀ L u c, X = .keep L u → PRef b w cap2 X (.tup [.slice 2 .z 1 L.length c, .slice 1 .z 1 w.length cap2, .int .i64 u, .int .i64 0]) [.ro .u8 b, .ro .u8 w, .buf 5 .u8 L c] := by
    intro L u c h; rw [h]; exact ⟨c, rfl, rfl⟩
  have prep : ∀ x n u c, X = .rep x n u → PRef b w cap2 X (.tup [.slice 2 .z 1 n c, .slice 1 .z 1 w.length cap2, .int .i64 u, .int .i64 0]) [.ro .u8 b, .ro .u8 w, .buf 5 .u8 (List.replicate n x) c] := by
    intro x n u c h; rw [h]; exact ⟨c, rfl, rfl⟩
  have pown : ∀ L l u c c3, X = .own L l u → PRef b w cap2 X (.tup [.slice 2 .z 1 L.length c, .slice 3 .z 1 l.length c3, .int .i64 u, .int .i64 0]) [.ro .u8 b, .ro .u8 w, .buf 5 .u8 L c, .buf 5 .u8 l c3] := by
    intro L l u c c3 h; rw [h]; exact ⟨c, c3, rfl, rfl⟩
  obtain ⟨US, hUS⟩ : ∃ US : Int, US = (usH b : Int) := ⟨_, rfl⟩
  obtain ⟨bI, hbI⟩ : ∃ bI : Int, bI = (b.length : Int) := ⟨_, rfl⟩
  rw [← hUS, ← hbI] at f10a f11 f10b fB hhead
  rw [← hX] at f2 f10 f10a f11 f10b fB ⊢
  have hrowsA := refrows_con
  have hbitsA := refbits9_con
  have hrdA := refrdw_con
  have hseg := fun o n h => @seg_len b o n h
  have hvs := fun o n x h hx => @view_seg b o n x h hx
  have hsm := fun o n => @seg_mem b o n isU8 hb
  have hsegd : ∀ o n, seg b o n = (b.drop o).take n := fun _ _ => rfl
  refine con_gen (con_picks (con_drop (con_walk hmix fn10 ?_)))
  intro vb vc vw vtoN vofN vaddN vsubN vmaxI vminI vcutN vgd vst vln vrep vsub vonto vsplice vstrEq vbyteV vnotB veqB hw qb qc qw qtoN qofN qaddN qsubN qmaxI qminI qcutN qgd qst qln qrep qsub qonto qsplice qstrEq qbyteV qnotB qeqB
  have hm := hmix; generalize Try.prog = P at *
  generalize PRef b w cap2 X = PP at *
  generalize hSG : seg b = SG at *
  generalize kdH b = K at *
  generalize szH b = SZ at *
  generalize pkH b = PK at *
  generalize rwH b = RW at *
  generalize usH b = uN at *
  generalize bhH b = BH at *
  generalize hwl' : w.length = wl at *
  generalize hbl' : b.length = bl at *
  have hgd : ∀ i, vgd b i = b.getD i 0 := fun i => by rw [qgd]
  have hlnq : ∀ l, vln l = l.length := fun l => by rw [qln]
  have hlnb : vln b = bl := by simp only [qln, hbl']
  have haddq : ∀ a b, vaddN a b = a + b := fun a b => by rw [qaddN]
  have hnf : vnotB false = true := by rw [qnotB]; rfl
  have hnt : vnotB true = false := by rw [qnotB]; rfl
  have ebl : vofN bl = bI := by rw [qofN, hbI]
  cbv
  generalize hz1 : vc .lss most 0 = z1
  cases z1
  rotate_left
  · rw [qc, lss_true] at hz1
    cbv
    exact ⟨[0, 1], .tup [.val (.slice none 0 0), .val (.slice none 0 0), .lit .i64 0, .lit .i64 2], [.ro .u8 b, .ro .u8 w], rfl, rfl, rfl, rfl, ⟨rfl, rfl, trivial⟩, rfl, pbad 2 (f2 (.inl hz1))⟩
  rw [qc, lss_false] at hz1
  cbv
  generalize hz2 : vc .gtr most 131072 = z2
  cases z2
  rotate_left
  · rw [qc, gtr_true] at hz2
    cbv
    exact ⟨[0, 1], .tup [.val (.slice none 0 0), .val (.slice none 0 0), .lit .i64 0, .lit .i64 2], [.ro .u8 b, .ro .u8 w], rfl, rfl, rfl, rfl, ⟨rfl, rfl, trivial⟩, rfl, pbad 2 (f2 (.inr hz2))⟩
  rw [qc, gtr_false] at hz2
  have hmo : ¬ (most < 0 ∨ 131072 < most) := by rintro (h | h) <;> ((try simp only [nc] at *); omega)
  have f10 := f10 hmo
  have f10a := f10a hmo
  have f11 := f11 hmo
  have f10b := f10b hmo
  have fB := fB hmo
  cbv
  rw [ebl]
  generalize hz3 : vc .eql bI 0 = z3
  cases z3
  rotate_left
  · rw [qc, eql_true] at hz3
    cbv
    exact ⟨[0, 1], .tup [.val (.slice none 0 0), .val (.slice none 0 0), .lit .i64 0, .lit .i64 10], [.ro .u8 b, .ro .u8 w], rfl, rfl, rfl, rfl, ⟨rfl, rfl, trivial⟩, rfl, pbad 10 (f10 (by ((try simp only [nc] at *); omega)))⟩
  rw [qc, eql_false] at hz3
  have hb0 : ¬ bl = 0 := by ((try simp only [nc] at *); omega)
  have f10a := f10a hb0
  have f11 := f11 hb0
  have f10b := f10b hb0
  have fB := fB hb0
  cbv
  refine call_con (ρ := [(0, .z)]) (hhead (by ((try simp only [nc] at *); omega))) ⟨by rfl, by rfl, by rfl, by cbv; exact ⟨view_refl _, trivial⟩⟩ ?_
  rintro v H R js ⟨rfl, rfl, ⟨hlu, rfl⟩ | ⟨hlu, rfl⟩⟩
  · cbv
    rw [hnf]
    cbv
    exact ⟨[0, 1], .tup [.val (.slice none 0 0), .val (.slice none 0 0), .lit .i64 0, .lit .i64 10], [.ro .u8 b, .ro .u8 w], rfl, rfl, rfl, rfl, ⟨rfl, rfl, trivial⟩, rfl, pbad 10 (f10a (by ((try simp only [nc] at *); omega)))⟩
  have hlu' : ¬ bI < US := by ((try simp only [nc] at *); omega)
  have f11 := f11 hlu'
  have f10b := f10b hlu'
  have fB := fB hlu'
  cbv
  rw [hnt]
  cbv
  generalize hz4 : vc .gtr SZ most = z4
  cases z4
  rotate_left
  · rw [qc, gtr_true] at hz4
    cbv
    exact ⟨[0, 1], .tup [.val (.slice none 0 0), .val (.slice none 0 0), .lit .i64 0, .lit .i64 11], [.ro .u8 b, .ro .u8 w], rfl, rfl, rfl, rfl, ⟨rfl, rfl, trivial⟩, rfl, pbad 11 (f11 (by ((try simp only [nc] at *); omega)))⟩
  rw [qc, gtr_false] at hz4
  have hszm : ¬ most < SZ := by ((try simp only [nc] at *); omega)
  have f10b := f10b hszm
  have fB := fB hszm
  cbv
  -- KINDS
  clear f2 f10 f10a f11 hhead hm0
  rcases (show K = 0 ∨ K = 1 ∨ K = 2 ∨ K = 3 by ((try simp only [nc] at *); omega)) with hK | hK | hK | hK
  · have eK0 : vc .eql K 0 = true := by rw [qc, eql_true]; omega
    have eK1 : vc .eql K 1 = false := by rw [qc, eql_false]; omega
    have eK2 : vc .eql K 2 = false := by rw [qc, eql_false]; omega
    have hBB : BH = SZ := by rw [hBH, if_pos hK]
    rw [eK0]
    cbv
    rw [eK1]
    cbv
    obtain ⟨bs, hbs⟩ : ∃ bs, bs = bI - US := ⟨_, rfl⟩
    have ebs : vb .sub .i64 bI US = bs := by rw [qb, sub_i64 (by ((try simp only [nc] at *); omega)) (by ((try simp only [nc] at *); omega)), hbs]
    obtain ⟨uI, huI⟩ : ∃ uI, uI = US + SZ := ⟨_, rfl⟩
    have euI : vb .add .i64 US SZ = uI := by rw [qb, add_i64 (by ((try simp only [nc] at *); omega)) (by ((try simp only [nc] at *); omega)), huI]
    rw [hBB] at f10b fB
    rw [← huI] at f10b fB
    rw [ebl, ebs]
    generalize hz5 : vc .lss bs SZ = z5
    cases z5
    rotate_left
    · rw [qc, lss_true] at hz5
      cbv
      exact ⟨[0, 1], .tup [.val (.slice none 0 0), .val (.slice none 0 0), .lit .i64 0, .lit .i64 10], [.ro .u8 b, .ro .u8 w], rfl, rfl, rfl, rfl, ⟨rfl, rfl, trivial⟩, rfl, pbad 10 (f10b (by ((try simp only [nc] at *); omega)))⟩
    rw [qc, lss_false] at hz5
    have fB := fB (by ((try simp only [nc] at *); omega))
    obtain ⟨nN, hnN⟩ : ∃ nN : Nat, SZ = (nN : Int) := ⟨(SZ : Int).toNat, by ((try simp only [nc] at *); omega)⟩
    have htB : (SZ : Int).toNat = nN := by rw [hnN]; exact Int.toNat_natCast nN
    rw [htB] at fB
    have htU : vtoN US = uN := by rw [qtoN, hUS]; exact Int.toNat_natCast uN
    obtain ⟨eN, heN⟩ : ∃ eN : Nat, eN = uN + nN := ⟨_, rfl⟩
    have htu : vtoN uI = eN := by rw [qtoN]; ((try simp only [nc] at *); omega)
    have hsb : vsubN eN uN = nN := by rw [qsubN]; simp only; omega
    obtain ⟨o1, ho1⟩ : ∃ o1, o1 = vcutN 0 uN cap := ⟨_, rfl⟩
    have ho : o1 = uN ∨ nN = 0 ∧ o1 ≤ bl := by
      have e : o1 = if cap = uN then 0 else 0 + uN := by rw [ho1, qcutN]
      by_cases h : cap = uN
      · rw [if_pos h] at e; right; constructor <;> ((try simp only [nc] at *); omega)
      · rw [if_neg h] at e; left; ((try simp only [nc] at *); omega)
    obtain ⟨cq, hcq⟩ : ∃ cq, cq = vsubN cap uN := ⟨_, rfl⟩
    have hcq' : cq = cap - uN := by rw [hcq, qsubN]
    have hsl := hseg uN nN (by ((try simp only [nc] at *); omega))
    have hv1 := hvs uN nN o1 (by ((try simp only [nc] at *); omega)) ho
    have hsm1 := hsm uN nN
    have hsd1 := hsegd uN nN
    generalize hsg : SG uN nN = sg at *
    have fB : X = .keep sg uI := by rw [fB]; unfold bodyL; rw [if_pos hK]
    have hvs1 : vsub b o1 nN = sg := by
      rw [qsub, hsd1]
      rcases ho with rfl | ⟨h, _⟩
      · rfl
      · simp only [h, List.take_zero]
    have ha0 : vaddN 0 nN = nN := by rw [haddq, Nat.zero_add]
    have hon : ∀ l, vonto [] 0 l = l := fun l => by rw [qonto]; simp
    cbv
    rw [euI, htU, htu, hsb, ← ho1, ← hcq]
    refine ⟨⟨by ((try simp only [nc] at *); omega), by ((try simp only [nc] at *); omega)⟩, ⟨by ((try simp only [nc] at *); omega), by ((try simp only [nc] at *); omega)⟩, ?_⟩
    rw [eK0]
    cbv
    refine ⟨⟨by rw [haddq, hlnb]; ((try simp only [nc] at *); omega)⟩, ⟨Nat.zero_le _⟩, ⟨Nat.zero_le _⟩, ⟨by rw [haddq]; ((try simp only [nc] at *); omega)⟩, ?_⟩
    intro c1 js1 hle
    cbv
    rw [hvs1, hon, ha0]
    subst hsl
    exact ⟨[0, 1, 3], .tup [.slice 2 .z 1 sg.length c1, .slice 1 .z 1 wl cap2, .int .i64 uI, .lit .i64 0], [.ro .u8 b, .ro .u8 w, .buf 5 .u8 sg c1], rfl, rfl, rfl, rfl, ⟨rfl, rfl, rfl, trivial⟩, rfl, pkeep sg uI c1 fB⟩
  · have eK0 : vc .eql K 0 = false := by rw [qc, eql_false]; omega
    have eK1 : vc .eql K 1 = true := by rw [qc, eql_true]; omega
    have eK2 : vc .eql K 2 = false := by rw [qc, eql_false]; omega
    have hBB : BH = 1 := by rw [hBH, if_neg (by ((try simp only [nc] at *); omega)), if_pos hK]
    rw [eK0]
    cbv
    rw [eK1]
    cbv
    obtain ⟨bs, hbs⟩ : ∃ bs, bs = bI - US := ⟨_, rfl⟩
    have ebs : vb .sub .i64 bI US = bs := by rw [qb, sub_i64 (by ((try simp only [nc] at *); omega)) (by ((try simp only [nc] at *); omega)), hbs]
    obtain ⟨uI, huI⟩ : ∃ uI, uI = US + 1 := ⟨_, rfl⟩
    have euI : vb .add .i64 US 1 = uI := by rw [qb, add_i64 (by ((try simp only [nc] at *); omega)) (by ((try simp only [nc] at *); omega)), huI]
    rw [hBB] at f10b fB
    rw [← huI] at f10b fB
    rw [ebl, ebs]
    generalize hz5 : vc .lss bs 1 = z5
    cases z5
    rotate_left
    · rw [qc, lss_true] at hz5
      cbv
      exact ⟨[0, 1], .tup [.val (.slice none 0 0), .val (.slice none 0 0), .lit .i64 0, .lit .i64 10], [.ro .u8 b, .ro .u8 w], rfl, rfl, rfl, rfl, ⟨rfl, rfl, trivial⟩, rfl, pbad 10 (f10b (by ((try simp only [nc] at *); omega)))⟩
    rw [qc, lss_false] at hz5
    have fB := fB (by ((try simp only [nc] at *); omega))
    obtain ⟨nN, hnN⟩ : ∃ nN : Nat, 1 = (nN : Int) := ⟨(1 : Int).toNat, by ((try simp only [nc] at *); omega)⟩
    have htB : (1 : Int).toNat = nN := by rw [hnN]; exact Int.toNat_natCast nN
    rw [htB] at fB
    have htU : vtoN US = uN := by rw [qtoN, hUS]; exact Int.toNat_natCast uN
    obtain ⟨eN, heN⟩ : ∃ eN : Nat, eN = uN + nN := ⟨_, rfl⟩
    have htu : vtoN uI = eN := by rw [qtoN]; ((try simp only [nc] at *); omega)
    have hsb : vsubN eN uN = nN := by rw [qsubN]; simp only; omega
    obtain ⟨o1, ho1⟩ : ∃ o1, o1 = vcutN 0 uN cap := ⟨_, rfl⟩
    have ho : o1 = uN ∨ nN = 0 ∧ o1 ≤ bl := by
      have e : o1 = if cap = uN then 0 else 0 + uN := by rw [ho1, qcutN]
      by_cases h : cap = uN
      · rw [if_pos h] at e; right; constructor <;> ((try simp only [nc] at *); omega)
      · rw [if_neg h] at e; left; ((try simp only [nc] at *); omega)
    obtain ⟨cq, hcq⟩ : ∃ cq, cq = vsubN cap uN := ⟨_, rfl⟩
    have hcq' : cq = cap - uN := by rw [hcq, qsubN]
    have hsl := hseg uN nN (by ((try simp only [nc] at *); omega))
    have hv1 := hvs uN nN o1 (by ((try simp only [nc] at *); omega)) ho
    have hsm1 := hsm uN nN
    have hsd1 := hsegd uN nN
    generalize hsg : SG uN nN = sg at *
    obtain ⟨x, hx⟩ : ∃ x, x = sg.getD 0 0 := ⟨_, rfl⟩
    obtain ⟨zN, hzN⟩ : ∃ zN, zN = SZ.toNat := ⟨_, rfl⟩
    have fB : X = .rep x zN uI := by rw [fB]; unfold bodyL; rw [if_neg (by ((try simp only [nc] at *); omega)), if_pos hK, hx, hzN]
    have hn1 : nN = 1 := by ((try simp only [nc] at *); omega)
    have ho2 : o1 = uN := by rcases ho with h | ⟨h, _⟩ <;> ((try simp only [nc] at *); omega)
    have hgx : b.getD o1 0 = x := by rw [hx, hsd1, ho2, List.getD_eq_getElem?_getD, List.getD_eq_getElem?_getD, List.getElem?_take, if_pos (by ((try simp only [nc] at *); omega)), List.getElem?_drop, Nat.add_zero]
    have hadd0 : vaddN o1 0 = o1 := by rw [haddq, Nat.add_zero]
    have hrs : ∀ i, List.replicate (i + 1) x = List.replicate i x ++ [x] := fun i => List.replicate_succ'
    have hr0 : List.replicate 0 x = [] := rfl
    have hrl : ∀ i, (List.replicate i x).length = i := fun i => List.length_replicate
    have prep := prep x zN uI
    generalize hRX : (fun i => List.replicate i x) = RX at *
    have hRX : ∀ i, List.replicate i x = RX i := fun i => by rw [← hRX]
    simp only [hRX] at prep hrs hr0 hrl
    cbv
    rw [euI, htU, htu, hsb, ← ho1, ← hcq]
    refine ⟨⟨by ((try simp only [nc] at *); omega), by ((try simp only [nc] at *); omega)⟩, ⟨by ((try simp only [nc] at *); omega), by ((try simp only [nc] at *); omega)⟩, ?_⟩
    rw [eK0]
    cbv
    rw [eK1]
    cbv
    refine WX.cv (Cv.nilT 6 5 .u8 (by rfl) (by cbv; try exact ⟨fun _ => rfl, trivial⟩) (Cv.here ?_))
    cbv
    refine loop_fam (α := Int × Nat × Nat × List Int) ([75, 76, 77, 78, 79, 80, 81, 82, 83, 84, 85, 86]) [3] (fun (k, n1, c, L) => [(14, .int .i64 k), (6, .slice 3 .z 1 n1 c)]) (fun (k, n1, c, L) => [(3, .buf 5 .u8 L c)])
      (fun (k, n1, c, L) => k = n1 ∧ n1 ≤ zN ∧ L = RX n1 ∧ n1 ≤ c) (fun (_, n1, _, _) => zN - n1) hw hm ?_ ?_
    · refine Cv.genAt [14] [] (Cv.fold [75, 76, 77, 78, 79, 80, 81, 82, 83, 84, 85, 86] 4 [3] (by exact Nat.le_refl _) (by exact Nat.le_of_ble_eq_true rfl) (by rfl) (by cbv) ?_)
      intro js
      refine ⟨(_, _, _, _), ?_, js, rfl⟩
      exact ⟨rfl, Nat.zero_le _, hr0.symm, Nat.le_refl _⟩
    · rintro ⟨k, n1, c, L⟩ js ⟨hk, hn1z, hL, hnc⟩
      cbv
      generalize hz6 : vc .lss k SZ = z6
      cases z6
      · rw [qc, lss_false] at hz6
        have hnz : n1 = zN := by ((try simp only [nc] at *); omega)
        cbv
        subst hnz
        subst hL
        exact ⟨[0, 1, 3], .tup [.slice 2 .z 1 n1 c, .slice 1 .z 1 wl cap2, .int .i64 uI, .lit .i64 0], [.ro .u8 b, .ro .u8 w, .buf 5 .u8 (RX n1) c], rfl, rfl, rfl, rfl, ⟨rfl, rfl, rfl, trivial⟩, rfl, prep c fB⟩
      · rw [qc, lss_true] at hz6
        have hlt : n1 < zN := by ((try simp only [nc] at *); omega)
        have hLl : L.length = n1 := by rw [hL]; exact hrl _
        have hln1 : vln [x] = 1 := by rw [qln]; rfl
        have ha1 : vaddN n1 1 = n1 + 1 := haddq _ _
        have ha01 : vaddN 0 1 = 1 := by rw [haddq]
        have hlnL : vln L = n1 := by rw [qln]; exact hLl
        have hont : vonto L n1 (vsub [x] 0 1) = RX (n1 + 1) := by
          have e1 : vsub [x] 0 1 = [x] := by rw [qsub]; rfl
          have e2 : L.take n1 = L := by rw [← hLl, List.take_length]
          rw [e1, qonto, hrs n1, ← hL]
          simp only [e2]
        obtain ⟨n2, hn2⟩ : ∃ n2, n2 = n1 + 1 := ⟨_, rfl⟩
        rw [← hn2] at ha1 hont
        obtain ⟨L2, hL2⟩ : ∃ L2, L2 = RX n2 := ⟨_, rfl⟩
        rw [← hL2] at hont
        obtain ⟨k1, hk1⟩ : ∃ k1 : Int, k1 = k + 1 := ⟨_, rfl⟩
        have ek1 : vb .add .i64 k 1 = k1 := by rw [qb, add_i64 (by ((try simp only [nc] at *); omega)) (by ((try simp only [nc] at *); omega)), hk1]
        have hmu : ∀ _ : Unit, zN - n2 < zN - n1 := fun _ => by ((try simp only [nc] at *); omega)
        have hn2b : n2 * 1 ≤ 140737488355328 := by ((try simp only [nc] at *); omega)
        cbv
        rw [hadd0, hgd, hgx]
        refine ⟨⟨by ((try simp only [nc] at *); omega), by ((try simp only [nc] at *); omega)⟩, ⟨by rw [hlnb]; ((try simp only [nc] at *); omega)⟩, ⟨by rw [hlnb]; ((try simp only [nc] at *); omega)⟩, ⟨by rw [ha01, hln1]; exact Nat.le_refl _⟩, ⟨by rw [hlnL]; exact Nat.le_refl _⟩, ⟨Nat.le_refl _⟩, ⟨by rw [ha1]; exact hn2b⟩, ?_⟩
        intro c1 js4 hle
        have hle' : n2 ≤ c1 := by have := hle.out; simp only at this; rw [ha1] at this; exact this
        cbv
        rw [hont, ha1, ek1]
        refine Cv.fold [75, 76, 77, 78, 79, 80, 81, 82, 83, 84, 85, 86] 4 [3] (by exact Nat.le_refl _) (by exact Nat.le_of_ble_eq_true rfl) (by rfl) (by cbv) ?_
        intro js
        refine ⟨(_, _, _, _), ?_, js, rfl⟩
        exact ⟨⟨by ((try simp only [nc] at *); omega), by ((try simp only [nc] at *); omega), hL2, hle'⟩, hmu ()⟩
  · have eK0 : vc .eql K 0 = false := by rw [qc, eql_false]; omega
    have eK1 : vc .eql K 1 = false := by rw [qc, eql_false]; omega
    have eK2 : vc .eql K 2 = true := by rw [qc, eql_true]; omega
    have hBB : BH = PK := by rw [hBH, if_neg (by ((try simp only [nc] at *); omega)), if_neg (by ((try simp only [nc] at *); omega))]
    rw [eK0]
    cbv
    rw [eK1]
    cbv
    obtain ⟨bs, hbs⟩ : ∃ bs, bs = bI - US := ⟨_, rfl⟩
    have ebs : vb .sub .i64 bI US = bs := by rw [qb, sub_i64 (by ((try simp only [nc] at *); omega)) (by ((try simp only [nc] at *); omega)), hbs]
    obtain ⟨uI, huI⟩ : ∃ uI, uI = US + PK := ⟨_, rfl⟩
    have euI : vb .add .i64 US PK = uI := by rw [qb, add_i64 (by ((try simp only [nc] at *); omega)) (by ((try simp only [nc] at *); omega)), huI]
    rw [hBB] at f10b fB
    rw [← huI] at f10b fB
    rw [ebl, ebs]
    generalize hz5 : vc .lss bs PK = z5
    cases z5
    rotate_left
    · rw [qc, lss_true] at hz5
      cbv
      exact ⟨[0, 1], .tup [.val (.slice none 0 0), .val (.slice none 0 0), .lit .i64 0, .lit .i64 10], [.ro .u8 b, .ro .u8 w], rfl, rfl, rfl, rfl, ⟨rfl, rfl, trivial⟩, rfl, pbad 10 (f10b (by ((try simp only [nc] at *); omega)))⟩
    rw [qc, lss_false] at hz5
    have fB := fB (by ((try simp only [nc] at *); omega))
    obtain ⟨nN, hnN⟩ : ∃ nN : Nat, PK = (nN : Int) := ⟨(PK : Int).toNat, by ((try simp only [nc] at *); omega)⟩
    have htB : (PK : Int).toNat = nN := by rw [hnN]; exact Int.toNat_natCast nN
    rw [htB] at fB
    have htU : vtoN US = uN := by rw [qtoN, hUS]; exact Int.toNat_natCast uN
    obtain ⟨eN, heN⟩ : ∃ eN : Nat, eN = uN + nN := ⟨_, rfl⟩
    have htu : vtoN uI = eN := by rw [qtoN]; ((try simp only [nc] at *); omega)
    have hsb : vsubN eN uN = nN := by rw [qsubN]; simp only; omega
    obtain ⟨o1, ho1⟩ : ∃ o1, o1 = vcutN 0 uN cap := ⟨_, rfl⟩
    have ho : o1 = uN ∨ nN = 0 ∧ o1 ≤ bl := by
      have e : o1 = if cap = uN then 0 else 0 + uN := by rw [ho1, qcutN]
      by_cases h : cap = uN
      · rw [if_pos h] at e; right; constructor <;> ((try simp only [nc] at *); omega)
      · rw [if_neg h] at e; left; ((try simp only [nc] at *); omega)
    obtain ⟨cq, hcq⟩ : ∃ cq, cq = vsubN cap uN := ⟨_, rfl⟩
    have hcq' : cq = cap - uN := by rw [hcq, qsubN]
    have hsl := hseg uN nN (by ((try simp only [nc] at *); omega))
    have hv1 := hvs uN nN o1 (by ((try simp only [nc] at *); omega)) ho
    have hsm1 := hsm uN nN
    have hsd1 := hsegd uN nN
    generalize hsg : SG uN nN = sg at *
    have fBn : rdw sg = none → X = .bad 11 := fun h => by rw [fB]; unfold bodyL; rw [if_neg (by ((try simp only [nc] at *); omega)), if_neg (by ((try simp only [nc] at *); omega)), if_pos hK, h]
    have fBl : ∀ l, rdw sg = some l → X = owned l uI (rowsR l (sg.drop (1 + hnW sg).toNat) SZ RW) := fun l h => by rw [fB]; unfold bodyL; rw [if_neg (by ((try simp only [nc] at *); omega)), if_neg (by ((try simp only [nc] at *); omega)), if_pos hK, h]
    clear fB
    have hrd := hrdA sg cq hsm1 (by ((try simp only [nc] at *); omega)) (by ((try simp only [nc] at *); omega)) (by ((try simp only [nc] at *); omega))
    have hspec := fun l (h : rdw sg = some l) => rdw_spec h
    have hnn := hnW_nn (isU8_byte hsm1)
    have hvd := fun h x hh hx => @view_seg_drop b uN nN h x (by ((try simp only [nc] at *); omega)) hh hx
    rw [hSG, hsg, hbl'] at hvd
    have hu8 := fun l h => @RdW_u8 256 sg l (isU8_byte hsm1) h
    have hsh : ∀ h : ¬ shortW sg, 1 + hnW sg ≤ nN := by
      intro h
      unfold shortW at h
      rw [hsl] at h
      by_cases h2 : (nN : Int) - 1 < hnW sg
      · exact (h (.inr h2)).elim
      · ((try simp only [nc] at *); omega)
    obtain ⟨hI, hhI⟩ : ∃ hI, hI = 1 + hnW sg := ⟨_, rfl⟩
    rw [← hhI] at fBl hrd hsh
    obtain ⟨hN, hhN⟩ : ∃ hN : Nat, hI = hN := ⟨hI.toNat, by ((try simp only [nc] at *); omega)⟩
    have hthN : hI.toNat = hN := by rw [hhN]; exact Int.toNat_natCast hN
    rw [hthN] at fBl
    rw [hsl] at hrd
    generalize hRDW : rdw sg = RDW at *
    cbv
    rw [euI, htU, htu, hsb, ← ho1, ← hcq]
    refine ⟨⟨by ((try simp only [nc] at *); omega), by ((try simp only [nc] at *); omega)⟩, ⟨by ((try simp only [nc] at *); omega), by ((try simp only [nc] at *); omega)⟩, ?_⟩
    rw [eK0]
    cbv
    rw [eK1]
    cbv
    rw [eK2]
    cbv
    refine call_con (ρ := [(0, .n o1)]) hrd ⟨by rfl, by rfl, by rfl, by cbv; exact ⟨hv1, trivial⟩⟩ ?_
    rintro v H R js4 ⟨rfl, ⟨e, he, hr4, rfl, rfl⟩ | ⟨l, c3, hr4, rfl, rfl⟩⟩
    · have ez : vc .neq e 0 = true := by rw [qc, neq_true]; exact he
      cbv
      rw [ez]
      cbv
      exact ⟨[0, 1], .tup [.val (.slice none 0 0), .val (.slice none 0 0), .lit .i64 0, .lit .i64 11], [.ro .u8 b, .ro .u8 w], rfl, rfl, rfl, rfl, ⟨rfl, rfl, trivial⟩, rfl, pbad 11 (fBn hr4)⟩
    obtain ⟨hs1, hs2⟩ := hspec l hr4
    have hh := hsh hs1
    obtain ⟨hlu8, hl256, M, hWl⟩ := hu8 l hs2
    have hM1 := hWl.pos
    have hbl9 := hbitsA l c3 M hlu8 (by omega) (.inl ⟨M, hWl, rfl⟩)
    obtain ⟨MI, hMI⟩ : ∃ MI : Int, MI = M := ⟨_, rfl⟩
    rw [← hMI] at hbl9
    obtain ⟨o2, ho2⟩ : ∃ o2, o2 = vcutN o1 hN cq := ⟨_, rfl⟩
    obtain ⟨m2, hm2⟩ : ∃ m2, m2 = vsubN nN hN := ⟨_, rfl⟩
    obtain ⟨c2, hc2⟩ : ∃ c2, c2 = vsubN cq hN := ⟨_, rfl⟩
    have hm2' : m2 = nN - hN := by rw [hm2, qsubN]
    have hc2' : c2 = cq - hN := by rw [hc2, qsubN]
    have ho2' : o2 = uN + hN ∨ hN = nN ∧ o2 ≤ bl := by
      have e : o2 = if cq = hN then o1 else o1 + hN := by rw [ho2, qcutN]
      by_cases h : cq = hN
      · rw [if_pos h] at e; right; constructor <;> ((try simp only [nc] at *); omega)
      · rw [if_neg h] at e; left; rcases ho with h' | ⟨h', _⟩ <;> ((try simp only [nc] at *); omega)
    have hv2 := hvd hN o2 (by ((try simp only [nc] at *); omega)) ho2'
    have hd2l : (sg.drop hN).length = m2 := by rw [List.length_drop, hsl, hm2']
    have hrows := hrowsA l (sg.drop hN) c3 c2 M SZ RW hlu8 hWl (fun c hc => hsm1 c (List.mem_of_mem_drop hc)) (by rw [hd2l]; ((try simp only [nc] at *); omega)) (by rw [hd2l]; ((try simp only [nc] at *); omega)) (by ((try simp only [nc] at *); omega)) ⟨hsz0, by ((try simp only [nc] at *); omega)⟩
    rw [hd2l] at hrows
    have fB := fBl l hr4
    clear fBl fBn
    generalize rowsR l (sg.drop hN) SZ RW = RR at *
    generalize sg.drop hN = sg2 at *
    obtain ⟨ln, hln⟩ : ∃ ln, ln = l.length := ⟨_, rfl⟩
    rw [← hln] at hbl9 hrows hl256 ⊢
    have htI : vtoN hI = hN := by rw [qtoN, hhN]; exact Int.toNat_natCast hN
    have ez : vc .neq 0 0 = false := by rw [qc]; rfl
    have ezM : vc .eql MI 0 = false := by rw [qc, eql_false]; ((try simp only [nc] at *); omega)
    clear hWl hs2 hs1 hu8 hspec
    cbv
    rw [ez]
    cbv
    rw [htI, ← ho2, ← hm2, ← hc2]
    refine ⟨⟨by ((try simp only [nc] at *); omega), by ((try simp only [nc] at *); omega)⟩, ?_⟩
    refine call_con (ρ := [(3, .z)]) hbl9 ⟨by rfl, by rfl, by rfl, by cbv; exact ⟨view_refl _, trivial⟩⟩ ?_
    rintro v H R js6 ⟨rfl, rfl, rfl⟩
    cbv
    rw [ezM]
    cbv
    refine call_con (ρ := [(3, .z), (0, .n o2)]) hrows ⟨by rfl, by rfl, by rfl, by cbv; exact ⟨view_refl _, hv2, trivial⟩⟩ ?_

    rintro v H R js5 ⟨rfl, ⟨hr5, rfl, rfl⟩ | ⟨L, c5, hr5, rfl, rfl⟩⟩
    · cbv
      rw [hnf]
      cbv
      exact ⟨[0, 1], .tup [.val (.slice none 0 0), .val (.slice none 0 0), .lit .i64 0, .lit .i64 11], [.ro .u8 b, .ro .u8 w], rfl, rfl, rfl, rfl, ⟨rfl, rfl, trivial⟩, rfl, pbad 11 (by rw [fB, hr5]; rfl)⟩
    · obtain ⟨Ln, hLn⟩ : ∃ Ln, Ln = L.length := ⟨_, rfl⟩
      rw [← hLn]
      cbv
      rw [hnt]
      cbv
      subst hLn
      subst hln
      exact ⟨[0, 1, 4, 3], .tup [.slice 2 .z 1 L.length c5, .slice 3 .z 1 l.length c3, .int .i64 uI, .lit .i64 0], [.ro .u8 b, .ro .u8 w, .buf 5 .u8 L c5, .buf 5 .u8 l c3], rfl, rfl, rfl, rfl, ⟨rfl, rfl, rfl, rfl, trivial⟩, rfl, pown L l uI c5 c3 (by rw [fB, hr5]; rfl)⟩
  · have eK0 : vc .eql K 0 = false := by rw [qc, eql_false]; omega
    have eK1 : vc .eql K 1 = false := by rw [qc, eql_false]; omega
    have eK2 : vc .eql K 2 = false := by rw [qc, eql_false]; omega
    have hBB : BH = PK := by rw [hBH, if_neg (by ((try simp only [nc] at *); omega)), if_neg (by ((try simp only [nc] at *); omega))]
    rw [eK0]
    cbv
    rw [eK1]
    cbv
    obtain ⟨bs, hbs⟩ : ∃ bs, bs = bI - US := ⟨_, rfl⟩
    have ebs : vb .sub .i64 bI US = bs := by rw [qb, sub_i64 (by ((try simp only [nc] at *); omega)) (by ((try simp only [nc] at *); omega)), hbs]
    obtain ⟨uI, huI⟩ : ∃ uI, uI = US + PK := ⟨_, rfl⟩
    have euI : vb .add .i64 US PK = uI := by rw [qb, add_i64 (by ((try simp only [nc] at *); omega)) (by ((try simp only [nc] at *); omega)), huI]
    rw [hBB] at f10b fB
    rw [← huI] at f10b fB
    rw [ebl, ebs]
    generalize hz5 : vc .lss bs PK = z5
    cases z5
    rotate_left
    · rw [qc, lss_true] at hz5
      cbv
      exact ⟨[0, 1], .tup [.val (.slice none 0 0), .val (.slice none 0 0), .lit .i64 0, .lit .i64 10], [.ro .u8 b, .ro .u8 w], rfl, rfl, rfl, rfl, ⟨rfl, rfl, trivial⟩, rfl, pbad 10 (f10b (by ((try simp only [nc] at *); omega)))⟩
    rw [qc, lss_false] at hz5
    have fB := fB (by ((try simp only [nc] at *); omega))
    obtain ⟨nN, hnN⟩ : ∃ nN : Nat, PK = (nN : Int) := ⟨(PK : Int).toNat, by ((try simp only [nc] at *); omega)⟩
    have htB : (PK : Int).toNat = nN := by rw [hnN]; exact Int.toNat_natCast nN
    rw [htB] at fB
    have htU : vtoN US = uN := by rw [qtoN, hUS]; exact Int.toNat_natCast uN
    obtain ⟨eN, heN⟩ : ∃ eN : Nat, eN = uN + nN := ⟨_, rfl⟩
    have htu : vtoN uI = eN := by rw [qtoN]; ((try simp only [nc] at *); omega)
    have hsb : vsubN eN uN = nN := by rw [qsubN]; simp only; omega
    obtain ⟨o1, ho1⟩ : ∃ o1, o1 = vcutN 0 uN cap := ⟨_, rfl⟩
    have ho : o1 = uN ∨ nN = 0 ∧ o1 ≤ bl := by
      have e : o1 = if cap = uN then 0 else 0 + uN := by rw [ho1, qcutN]
      by_cases h : cap = uN
      · rw [if_pos h] at e; right; constructor <;> ((try simp only [nc] at *); omega)
      · rw [if_neg h] at e; left; ((try simp only [nc] at *); omega)
    obtain ⟨cq, hcq⟩ : ∃ cq, cq = vsubN cap uN := ⟨_, rfl⟩
    have hcq' : cq = cap - uN := by rw [hcq, qsubN]
    have hsl := hseg uN nN (by ((try simp only [nc] at *); omega))
    have hv1 := hvs uN nN o1 (by ((try simp only [nc] at *); omega)) ho
    have hsm1 := hsm uN nN
    have hsd1 := hsegd uN nN
    generalize hsg : SG uN nN = sg at *
    have fB : X = kept uI (rowsR w sg SZ RW) := by rw [fB]; unfold bodyL; rw [if_neg (by ((try simp only [nc] at *); omega)), if_neg (by ((try simp only [nc] at *); omega)), if_neg (by ((try simp only [nc] at *); omega))]
    have hrno := fun h => hrno h sg SZ RW
    have hrows := fun (h : m ≠ 0) => (hmn h).elim fun M hW => hrowsA w sg cap2 cq M SZ RW hw8 hW hsm1 (by ((try simp only [nc] at *); omega)) (by ((try simp only [nc] at *); omega)) (by ((try simp only [nc] at *); omega)) ⟨hsz0, by ((try simp only [nc] at *); omega)⟩
    rw [hwl', hsl] at hrows
    generalize rowsR w sg SZ RW = RR at *
    cbv
    rw [euI, htU, htu, hsb, ← ho1, ← hcq]
    refine ⟨⟨by ((try simp only [nc] at *); omega), by ((try simp only [nc] at *); omega)⟩, ⟨by ((try simp only [nc] at *); omega), by ((try simp only [nc] at *); omega)⟩, ?_⟩
    rw [eK0]
    cbv
    rw [eK1]
    cbv
    rw [eK2]
    cbv
    refine call_con (ρ := [(1, .z)]) hbits ⟨by rfl, by rfl, by rfl, by cbv; exact ⟨view_refl _, trivial⟩⟩ ?_
    rintro v H R js4 ⟨rfl, rfl, rfl⟩
    cbv
    generalize hz6 : vc .eql m 0 = z6
    cases z6
    rotate_left
    · rw [qc, eql_true] at hz6
      have hr5 := hrno hz6
      cbv
      exact ⟨[0, 1], .tup [.val (.slice none 0 0), .val (.slice none 0 0), .lit .i64 0, .lit .i64 11], [.ro .u8 b, .ro .u8 w], rfl, rfl, rfl, rfl, ⟨rfl, rfl, trivial⟩, rfl, pbad 11 (by rw [fB, hr5]; rfl)⟩
    rw [qc, eql_false] at hz6
    have hrows := hrows hz6
    cbv
    refine call_con (ρ := [(1, .z), (0, .n o1)]) hrows ⟨by rfl, by rfl, by rfl, by cbv; exact ⟨view_refl _, hv1, trivial⟩⟩ ?_

    rintro v H R js5 ⟨rfl, ⟨hr5, rfl, rfl⟩ | ⟨L, c5, hr5, rfl, rfl⟩⟩
    · cbv
      rw [hnf]
      cbv
      exact ⟨[0, 1], .tup [.val (.slice none 0 0), .val (.slice none 0 0), .lit .i64 0, .lit .i64 11], [.ro .u8 b, .ro .u8 w], rfl, rfl, rfl, rfl, ⟨rfl, rfl, trivial⟩, rfl, pbad 11 (by rw [fB, hr5]; rfl)⟩
    · obtain ⟨Ln, hLn⟩ : ∃ Ln, Ln = L.length := ⟨_, rfl⟩
      rw [← hLn]
      cbv
      rw [hnt]
      cbv
      subst hLn
      exact ⟨[0, 1, 3], .tup [.slice 2 .z 1 L.length c5, .slice 1 .z 1 wl cap2, .int .i64 uI, .lit .i64 0], [.ro .u8 b, .ro .u8 w, .buf 5 .u8 L c5], rfl, rfl, rfl, rfl, ⟨rfl, rfl, rfl, trivial⟩, rfl, pkeep L uI c5 (by rw [fB, hr5]; rfl)⟩
end Go.Proofs.Ytaaklikigccdfaa
