import Derived.Test.YtaaklikigccdfaaA4
namespace Go.Proofs.Ytaaklikigccdfaa
open Go Go.Sx Go.Proofs
/-! balerref09.states. -/
set_option maxRecDepth 10000
set_option maxHeartbeats 40000000
theorem tabA_eq (l : List Int) (size : Int) (N m : Nat) (h : m < N) : tabA l size N m = symT l size m := by unfold tabA; rw [if_pos h]
theorem reftable_okP (l : List Int) (log : Int) (cap : Nat) (hl : ∀ c ∈ l, isI16 c) (hlog : -9223372036854775808 ≤ log ∧ log ≤ 9223372036854775807) (hR : Right l log) :
    Con Try.prog 48 [.slice 0 .z 1 l.length cap, .int .i64 log] [.ro .i16 l] (fun v H R => R = [] ∧ v = .tup [.slice 1 .z 3 (2 ^ log.toNat : Int).toNat (2 ^ log.toNat : Int).toNat, .int .i64 0] ∧
      H = [.ro .i16 l, .arr 86 3 (2 ^ log.toNat : Int).toNat (fun m => [.int .u8 (tabA l (2 ^ log.toNat) (2 ^ log.toNat : Int).toNat m), .int .u8 (tabB l log (2 ^ log.toNat) (2 ^ log.toNat : Int).toNat m), .int .u16 (tabC l log (2 ^ log.toNat) (2 ^ log.toNat : Int).toNat m)])]) := by
  refine con_pick [0, 2] rfl rfl ((reftable_ok l log cap hl hlog hR).mono ?_)
  rintro v H R ⟨rfl, syl, rfl, rfl⟩
  exact ⟨.tup [.slice 1 .z 3 (2 ^ log.toNat : Int).toNat (2 ^ log.toNat : Int).toNat, .int .i64 0], [.ro .i16 l, .arr 86 3 (2 ^ log.toNat : Int).toNat (fun m => [.int .u8 (tabA l (2 ^ log.toNat) (2 ^ log.toNat : Int).toNat m), .int .u8 (tabB l log (2 ^ log.toNat) (2 ^ log.toNat : Int).toNat m), .int .u16 (tabC l log (2 ^ log.toNat) (2 ^ log.toNat : Int).toNat m)])], rfl, rfl, ⟨rfl, rfl, fun _ => rfl, trivial⟩, rfl, rfl, rfl⟩
theorem refstates_con (b : List Int) (cap : Nat) (hby : ∀ x ∈ b, isByte x) (hl : b.length ≤ 1000000) (hcap : b.length ≤ cap) :
    Con Try.prog 18 [.slice 0 .z 1 b.length cap] [.ro .u8 b] (fun v H R => R = [] ∧ ((bst 257 b = none ∧ H = [.ro .u8 b] ∧ v = .tup [.val (.slice none 0 0), .bool false]) ∨
      ∃ L c', bst 257 b = some L ∧ H = [.ro .u8 b, .buf 5 .u8 L c'] ∧ v = .tup [.slice 1 .z 1 L.length c', .bool true])) := by
  obtain ⟨⟨cs, log, used, e⟩, hRR⟩ : ∃ r, readR b 6 11 = r := ⟨_, rfl⟩
  have hres : bst 257 b = (if e ≠ 0 then none else if ¬ Right cs log then none else if (b.drop used.toNat).getLastD 0 = 0 then none
    else if markAt (b.drop used.toNat) - log - log < 0 then none
    else byS (symT cs (2 ^ log.toNat)) (tabB cs log (2 ^ log.toNat) (2 ^ log.toNat : Int).toNat) (tabC cs log (2 ^ log.toNat) (2 ^ log.toNat : Int).toNat) (b.drop used.toNat) 257
      (rd (b.drop used.toNat) (markAt (b.drop used.toNat)) log.toNat) (rd (b.drop used.toNat) (markAt (b.drop used.toNat) - log) log.toNat) (markAt (b.drop used.toNat) - log - log) []) := by
    unfold bst; rw [hRR]
  have h1 := refread7_con b cap 6 11 hby (by omega) (by omega) (by omega) cs log used e hRR
  by_cases he : e ≠ 0
  · rw [if_pos he] at hres
    refine con_gen (con_picks (con_drop (con_walk hmix fn18 ?_)))
    intro vb vc vw vtoN vofN vaddN vsubN vmaxI vminI vcutN vgd vst vln vrep vsub vonto vsplice vstrEq vbyteV vnotB veqB hw qb qc qw qtoN qofN qaddN qsubN qmaxI qminI qcutN qgd qst qln qrep qsub qonto qsplice qstrEq qbyteV qnotB qeqB
    have hm := hmix; generalize Try.prog = P at *
    generalize b.length = bl at *
    generalize bst 257 b = RES at *
    generalize cs.length = cl at *
    have hz : vc .neq e 0 = true := by rw [qc, neq_true]; exact he
    cbv
    refine call_con (ρ := [(0, .z)]) h1 ⟨by rfl, by rfl, by rfl, by cbv; exact ⟨view_refl _, trivial⟩⟩ ?_
    rintro v H R js ⟨rfl, ⟨_, rfl, rfl⟩ | ⟨h, _⟩⟩
    rotate_left
    · exfalso; exact he h
    cbv
    rw [hz]
    cbv
    exact ⟨[0], .tup [.val (.slice none 0 0), .bool false], [.ro .u8 b], rfl, rfl, rfl, rfl, ⟨rfl, trivial⟩, rfl, .inl ⟨hres, rfl, rfl⟩⟩
  have he0 : e = 0 := Decidable.not_not.1 he
  subst he0
  rw [if_neg he] at hres
  obtain ⟨hcs, hu0, hu1, hlg0, hlg1⟩ := readR_ok hRR
  obtain ⟨u, hu⟩ : ∃ u : Nat, used = u := ⟨used.toNat, by omega⟩
  subst hu
  rw [Int.toNat_natCast] at hres
  have hvd := view_drop b u cap (by omega) hcap
  have hbd := isByte_drop hby u
  have hbl' : (b.drop u).length = b.length - u := List.length_drop
  have h1 : Con Try.prog 47 [.slice 0 .z 1 b.length cap, .int .i64 6, .int .i64 11] [.ro .u8 b] (fun v H R => R = [] ∧ ∃ c, H = [.ro .u8 b, .buf 125 .i16 cs c] ∧ v = .tup [.slice 1 .z 1 cs.length c, .int .i64 log, .int .i64 (u : Nat), .int .i64 0]) := by
    refine h1.mono ?_
    rintro v H R ⟨h3, ⟨h, _⟩ | ⟨_, h⟩⟩
    · exact (h rfl).elim
    · exact ⟨h3, h⟩
  clear he
  by_cases hR : Right cs log
  rotate_left
  · have h2 := fun c => reftable_bad cs log c hcs (by omega) hR
    rw [if_pos hR] at hres
    by_cases hla : (b.drop u).getLastD 0 = 0
    · have h3 := fun c => refnew_bad (b.drop u) c hla (by omega)
      refine con_gen (con_picks (con_drop (con_walk hmix fn18 ?_)))
      intro vb vc vw vtoN vofN vaddN vsubN vmaxI vminI vcutN vgd vst vln vrep vsub vonto vsplice vstrEq vbyteV vnotB veqB hw qb qc qw qtoN qofN qaddN qsubN qmaxI qminI qcutN qgd qst qln qrep qsub qonto qsplice qstrEq qbyteV qnotB qeqB
      have hm := hmix; generalize Try.prog = P at *
      generalize b.drop u = b' at *
      rw [hbl'] at h3
      generalize hbl : b.length = bl at *
      generalize cs.length = cl at *
      generalize bst 257 b = RES at *
      have h00 : vc .neq 0 0 = false := by rw [qc]; rfl
      have h70 : vc .neq 70 0 = true := by rw [qc]; rfl
      have h11 : vc .neq 11 0 = true := by rw [qc]; rfl
      have htu : vtoN (u : Int) = u := by rw [qtoN]; exact Int.toNat_natCast u
      have hcu : vcutN 0 u cap = if cap = u then 0 else 0 + u := by rw [qcutN]
      have hsu : vsubN bl u = bl - u := by rw [qsubN]
      obtain ⟨uI, huI⟩ : ∃ uI : Int, uI = (u : Int) := ⟨_, rfl⟩
      rw [← huI] at h1 htu hu0 hu1
      rw [← hcu] at hvd
      rw [← hsu] at h3
      obtain ⟨o1, ho1⟩ : ∃ o1, o1 = vcutN 0 u cap := ⟨_, rfl⟩
      obtain ⟨n1, hn1⟩ : ∃ n1, n1 = vsubN bl u := ⟨_, rfl⟩
      rw [← ho1] at hvd
      rw [← hn1] at h3
      cbv
      refine call_con (ρ := [(0, .z)]) h1 ⟨by rfl, by rfl, by rfl, by cbv; exact ⟨view_refl _, trivial⟩⟩ ?_
      rintro v H R js ⟨rfl, c1, rfl, rfl⟩
      cbv
      rw [h00]
      cbv
      refine call_con (ρ := [(1, .z)]) (h2 c1) ⟨by rfl, by rfl, by rfl, by cbv; exact ⟨view_refl _, trivial⟩⟩ ?_
      rintro v H R js ⟨rfl, rfl, rfl⟩
      cbv
      rw [htu, ← ho1, ← hn1]
      refine ⟨⟨hu0, hu1⟩, ?_⟩
      refine call_con (ρ := [(0, .n o1)]) (h3 (vsubN cap u)) ⟨by rfl, by rfl, by rfl, by cbv; exact ⟨hvd, trivial⟩⟩ ?_
      rintro v H R js ⟨rfl, rfl, rfl⟩
      cbv
      rw [h70]
      cbv
      exact ⟨[0], .tup [.val (.slice none 0 0), .bool false], [.ro .u8 b], rfl, rfl, rfl, rfl, ⟨rfl, trivial⟩, rfl, .inl ⟨hres, rfl, rfl⟩⟩
    · have h3 := fun c => refnew_good (b.drop u) c hla hbd (by omega)
      refine con_gen (con_picks (con_drop (con_walk hmix fn18 ?_)))
      intro vb vc vw vtoN vofN vaddN vsubN vmaxI vminI vcutN vgd vst vln vrep vsub vonto vsplice vstrEq vbyteV vnotB veqB hw qb qc qw qtoN qofN qaddN qsubN qmaxI qminI qcutN qgd qst qln qrep qsub qonto qsplice qstrEq qbyteV qnotB qeqB
      have hm := hmix; generalize Try.prog = P at *
      generalize b.drop u = b' at *
      have hB8 : ∃ B8, B8 = bitsOf b' (8 * b'.length) := ⟨_, rfl⟩
      obtain ⟨B8, hB8⟩ := hB8
      simp only [← hB8] at h3
      rw [hbl'] at h3
      generalize hbl : b.length = bl at *
      generalize cs.length = cl at *
      generalize bst 257 b = RES at *
      have h00 : vc .neq 0 0 = false := by rw [qc]; rfl
      have h70 : vc .neq 70 0 = true := by rw [qc]; rfl
      have h11 : vc .neq 11 0 = true := by rw [qc]; rfl
      have htu : vtoN (u : Int) = u := by rw [qtoN]; exact Int.toNat_natCast u
      have hcu : vcutN 0 u cap = if cap = u then 0 else 0 + u := by rw [qcutN]
      have hsu : vsubN bl u = bl - u := by rw [qsubN]
      obtain ⟨uI, huI⟩ : ∃ uI : Int, uI = (u : Int) := ⟨_, rfl⟩
      rw [← huI] at h1 htu hu0 hu1
      rw [← hcu] at hvd
      rw [← hsu] at h3
      obtain ⟨o1, ho1⟩ : ∃ o1, o1 = vcutN 0 u cap := ⟨_, rfl⟩
      obtain ⟨n1, hn1⟩ : ∃ n1, n1 = vsubN bl u := ⟨_, rfl⟩
      rw [← ho1] at hvd
      rw [← hn1] at h3
      cbv
      refine call_con (ρ := [(0, .z)]) h1 ⟨by rfl, by rfl, by rfl, by cbv; exact ⟨view_refl _, trivial⟩⟩ ?_
      rintro v H R js ⟨rfl, c1, rfl, rfl⟩
      cbv
      rw [h00]
      cbv
      refine call_con (ρ := [(1, .z)]) (h2 c1) ⟨by rfl, by rfl, by rfl, by cbv; exact ⟨view_refl _, trivial⟩⟩ ?_
      rintro v H R js ⟨rfl, rfl, rfl⟩
      cbv
      rw [htu, ← ho1, ← hn1]
      refine ⟨⟨hu0, hu1⟩, ?_⟩
      refine call_con (ρ := [(0, .n o1)]) (h3 (vsubN cap u)) ⟨by rfl, by rfl, by rfl, by cbv; exact ⟨hvd, trivial⟩⟩ ?_
      rintro v H R js ⟨rfl, rfl, P5, c5, _, _, rfl⟩
      cbv
      rw [h70]
      cbv
      exact ⟨[0], .tup [.val (.slice none 0 0), .bool false], [.ro .u8 b], rfl, rfl, rfl, rfl, ⟨rfl, trivial⟩, rfl, .inl ⟨hres, rfl, rfl⟩⟩
  rw [if_neg (fun h => h hR)] at hres
  have h2 := fun c => reftable_okP cs log c hcs (by omega) hR
  by_cases hla : (b.drop u).getLastD 0 = 0
  · have h3 := fun c => refnew_bad (b.drop u) c hla (by omega)
    rw [if_pos hla] at hres
    refine con_gen (con_picks (con_drop (con_walk hmix fn18 ?_)))
    intro vb vc vw vtoN vofN vaddN vsubN vmaxI vminI vcutN vgd vst vln vrep vsub vonto vsplice vstrEq vbyteV vnotB veqB hw qb qc qw qtoN qofN qaddN qsubN qmaxI qminI qcutN qgd qst qln qrep qsub qonto qsplice qstrEq qbyteV qnotB qeqB
    have hm := hmix; generalize Try.prog = P at *
    generalize b.drop u = b' at *
    rw [hbl'] at h3
    generalize hbl : b.length = bl at *
    generalize cs.length = cl at *
    generalize bst 257 b = RES at *
    have h00 : vc .neq 0 0 = false := by rw [qc]; rfl
    have h70 : vc .neq 70 0 = true := by rw [qc]; rfl
    have h11 : vc .neq 11 0 = true := by rw [qc]; rfl
    have htu : vtoN (u : Int) = u := by rw [qtoN]; exact Int.toNat_natCast u
    have hcu : vcutN 0 u cap = if cap = u then 0 else 0 + u := by rw [qcutN]
    have hsu : vsubN bl u = bl - u := by rw [qsubN]
    obtain ⟨uI, huI⟩ : ∃ uI : Int, uI = (u : Int) := ⟨_, rfl⟩
    rw [← huI] at h1 htu hu0 hu1
    rw [← hcu] at hvd
    rw [← hsu] at h3
    obtain ⟨o1, ho1⟩ : ∃ o1, o1 = vcutN 0 u cap := ⟨_, rfl⟩
    obtain ⟨n1, hn1⟩ : ∃ n1, n1 = vsubN bl u := ⟨_, rfl⟩
    rw [← ho1] at hvd
    rw [← hn1] at h3
    generalize (2 ^ log.toNat : Int).toNat = N at *
    generalize tabA cs (2 ^ log.toNat) N = A at *
    generalize tabB cs log (2 ^ log.toNat) N = B at *
    generalize tabC cs log (2 ^ log.toNat) N = C at *
    cbv
    refine call_con (ρ := [(0, .z)]) h1 ⟨by rfl, by rfl, by rfl, by cbv; exact ⟨view_refl _, trivial⟩⟩ ?_
    rintro v H R js ⟨rfl, c1, rfl, rfl⟩
    cbv
    rw [h00]
    cbv
    refine call_con (ρ := [(1, .z)]) (h2 c1) ⟨by rfl, by rfl, by rfl, by cbv; exact ⟨view_refl _, trivial⟩⟩ ?_
    rintro v H R js ⟨rfl, rfl, rfl⟩
    cbv
    rw [htu, ← ho1, ← hn1]
    refine ⟨fun _ => rfl, ⟨hu0, hu1⟩, ?_⟩
    refine call_con (ρ := [(0, .n o1)]) (h3 (vsubN cap u)) ⟨by rfl, by rfl, by rfl, by cbv; exact ⟨fun _ => rfl, hvd, trivial⟩⟩ ?_
    rintro v H R js ⟨rfl, rfl, rfl⟩
    cbv
    refine ⟨fun _ => rfl, ?_⟩
    rw [h00]
    cbv
    exact ⟨[0], .tup [.val (.slice none 0 0), .bool false], [.ro .u8 b], rfl, rfl, rfl, rfl, ⟨rfl, trivial⟩, rfl, .inl ⟨hres, rfl, rfl⟩⟩
  rw [if_neg hla] at hres
  have h3 := fun c => refnew_good (b.drop u) c hla hbd (by omega)
  obtain ⟨P0, hP0, hP0l, _, _⟩ := markAt_spec (b.drop u) hla hbd
  have h3 : ∀ c, Con Try.prog 49 [.slice 0 .z 1 (b.drop u).length c] [.ro .u8 (b.drop u)] (fun v H R => v = .tup [.ptr 1 .z 2 0, .lit .i64 0] ∧ R = [2] ∧ ∃ c : Nat, H = [.ro .u8 (b.drop u), .one 114 [.slice 2 .z 1 P0 c, .int .i64 P0], .buf 5 .u8 (bitsOf (b.drop u) (8 * (b.drop u).length)) c]) := by
    intro c
    refine (h3 c).mono ?_
    rintro v H R ⟨e1, e2, P, c, e3, e4, e5⟩
    obtain rfl : P = P0 := by omega
    exact ⟨e1, e2, c, e5⟩
  rw [hP0] at hres
  have hpl := pow_log (log := log) ⟨hlg0, hlg1⟩
  obtain ⟨N, hN⟩ : ∃ N : Nat, (2 ^ log.toNat : Int) = N := ⟨(2 ^ log.toNat : Int).toNat, by omega⟩
  have hNt : (2 ^ log.toNat : Int).toNat = N := by omega
  have hcell : ∀ k : Nat, k < N → 0 ≤ tabB cs log (2 ^ log.toNat) N k ∧ tabB cs log (2 ^ log.toNat) N k ≤ 12 ∧ 0 ≤ tabC cs log (2 ^ log.toNat) N k ∧ tabC cs log (2 ^ log.toNat) N k + 2 ^ (tabB cs log (2 ^ log.toNat) N k).toNat ≤ N := by
    intro k hk
    obtain ⟨bb, q1, q2, q3, q4, _⟩ := cell_in hR rfl hN hk
    rw [q2, Int.toNat_natCast, ← hN]
    exact ⟨by omega, by omega, q3, q4⟩
  have hAA := fun m h => tabA_eq cs (2 ^ log.toNat) N m h
  have hbits : ∀ (c : Nat) (p n : Int), -100 ≤ p → p ≤ P0 → 0 ≤ n → n ≤ 12 → Con Try.prog 50 [.ptr 0 .z 2 0, .int .i64 n] [.one 114 [.slice 1 .z 1 P0 c, .int .i64 p], .ro .u8 (bitsOf (b.drop u) (8 * (b.drop u).length))]
      (fun v H R => v = .int .u64 (rd (b.drop u) p n.toNat) ∧ R = [] ∧ H = [.one 114 [.slice 1 .z 1 P0 c, .int .i64 (p - n)], .ro .u8 (bitsOf (b.drop u) (8 * (b.drop u).length))]) := by
    intro c p n h1 h2 h3 h4
    have := refbits_con (b.drop u) P0 c p n (by omega) (by omega) ⟨by omega, h2⟩
    have e1 : clampN n = n.toNat := by unfold clampN; rw [if_neg (by omega), if_neg (by omega)]
    have e2 : floorP (p - (n.toNat : Nat)) = p - n := by unfold floorP; rw [if_neg (by omega)]; omega
    rw [e1, e2] at this
    exact this
  have hrb := fun p n => rd_bound (b.drop u) p n
  have hAu := symT_u8 hR (2 ^ log.toNat)
  rw [hNt] at hres h2
  have ha0 := hrb P0 log.toNat
  have ho0 := hrb (P0 - log) log.toNat
  rw [hN] at ha0 ho0
  refine con_gen (con_picks (con_drop (con_walk hmix fn18 ?_)))
  intro vb vc vw vtoN vofN vaddN vsubN vmaxI vminI vcutN vgd vst vln vrep vsub vonto vsplice vstrEq vbyteV vnotB veqB hw qb qc qw qtoN qofN qaddN qsubN qmaxI qminI qcutN qgd qst qln qrep qsub qonto qsplice qstrEq qbyteV qnotB qeqB
  have f49 := fn49
  have hm := hmix; generalize Try.prog = P at *
  generalize b.drop u = b' at *
  obtain ⟨BO, hBO⟩ : ∃ BO, BO = bitsOf b' (8 * b'.length) := ⟨_, rfl⟩
  simp only [← hBO] at h3 hbits
  rw [hbl'] at h3
  generalize hbl : b.length = bl at *
  generalize cs.length = cl at *
  generalize bst 257 b = RES at *
  generalize symT cs (2 ^ log.toNat) = A at *
  generalize tabA cs (2 ^ log.toNat) N = A' at *
  generalize tabB cs log (2 ^ log.toNat) N = B at *
  generalize tabC cs log (2 ^ log.toNat) N = C at *
  have hby0 : ∀ a o p l, byS A B C b' 0 a o p l = none := fun _ _ _ _ => rfl
  have hbyS : ∀ f a o p l, byS A B C b' (f + 1) a o p l = if p - B a.toNat < 0 then some (l ++ [A a.toNat] ++ [A o.toNat]) else byS A B C b' f o (C a.toNat + rd b' p (B a.toNat).toNat) (p - B a.toNat) (l ++ [A a.toNat]) := fun _ _ _ _ _ => rfl
  generalize byS A B C b' = BY at *
  generalize rd b' = RD at *
  have h00 : vc .neq 0 0 = false := by rw [qc]; rfl
  have htu : vtoN (u : Int) = u := by rw [qtoN]; exact Int.toNat_natCast u
  have hcu : vcutN 0 u cap = if cap = u then 0 else 0 + u := by rw [qcutN]
  have hsu : vsubN bl u = bl - u := by rw [qsubN]
  obtain ⟨uI, huI⟩ : ∃ uI : Int, uI = (u : Int) := ⟨_, rfl⟩
  rw [← huI] at h1 htu hu0 hu1
  rw [← hcu] at hvd
  rw [← hsu] at h3
  obtain ⟨o1, ho1⟩ : ∃ o1, o1 = vcutN 0 u cap := ⟨_, rfl⟩
  obtain ⟨n1, hn1⟩ : ∃ n1, n1 = vsubN bl u := ⟨_, rfl⟩
  rw [← ho1] at hvd
  rw [← hn1] at h3
  obtain ⟨pI, hpI⟩ : ∃ pI : Int, pI = (P0 : Int) := ⟨_, rfl⟩
  rw [← hpI] at h3 hres ha0 ho0
  obtain ⟨a0, ha0'⟩ : ∃ a0, a0 = RD pI log.toNat := ⟨_, rfl⟩
  obtain ⟨o0, ho0'⟩ : ∃ o0, o0 = RD (pI - log) log.toNat := ⟨_, rfl⟩
  rw [← ha0', ← ho0'] at hres
  rw [← ha0'] at ha0
  rw [← ho0'] at ho0
  obtain ⟨p1, hp1⟩ : ∃ p1, p1 = pI - log := ⟨_, rfl⟩
  obtain ⟨p2, hp2⟩ : ∃ p2, p2 = p1 - log := ⟨_, rfl⟩
  rw [← hp1] at ho0' hres
  rw [← hp2] at hres
  have ewa : vw .i64 a0 = a0 := by rw [qw]; exact wrap_i64 (by omega) (by omega)
  have ewo : vw .i64 o0 = o0 := by rw [qw]; exact wrap_i64 (by omega) (by omega)
  have hrep : vrep 2 0 = [0, 0] := by rw [qrep]; rfl
  have hst0 : vst [0, 0] 0 a0 = [a0, 0] := by rw [qst]; rfl
  have hst1 : vst [a0, 0] 1 o0 = [a0, o0] := by rw [qst]; rfl
  have hln2 : ∀ x y : Int, vln [x, y] = 2 := fun x y => by rw [qln]; rfl
  cbv
  refine call_con (ρ := [(0, .z)]) h1 ⟨by rfl, by rfl, by rfl, by cbv; exact ⟨view_refl _, trivial⟩⟩ ?_
  rintro v H R js ⟨rfl, c1, rfl, rfl⟩
  cbv
  rw [h00]
  cbv
  refine call_con (ρ := [(1, .z)]) (h2 c1) ⟨by rfl, by rfl, by rfl, by cbv; exact ⟨view_refl _, trivial⟩⟩ ?_
  rintro v H R js ⟨rfl, rfl, rfl⟩
  cbv
  rw [htu, ← ho1, ← hn1]
  refine ⟨fun _ => rfl, ⟨hu0, hu1⟩, ?_⟩
  refine CallX.cv f49.go (Cv.arrEq 2 (fun m => [.int .u8 (A' m), .int .u8 (B m), .int .u16 (C m)]) (by rfl) (by intro i; rfl) (Cv.here ?_)) (by rfl)
  refine call_con (ρ := [(0, .n o1)]) (h3 (vsubN cap u)) ⟨by rfl, by rfl, by rfl, by cbv; exact ⟨fun _ => rfl, hvd, trivial⟩⟩ ?_
  rintro v H R js ⟨rfl, rfl, c2, rfl⟩
  cbv
  refine ⟨fun _ => rfl, ?_⟩
  rw [h00]
  have hb1 := hbits c2 pI log (by ((try simp only [nc] at *); omega)) (by ((try simp only [nc] at *); omega)) (by ((try simp only [nc] at *); omega)) (by ((try simp only [nc] at *); omega))
  have hb2 := hbits c2 p1 log (by ((try simp only [nc] at *); omega)) (by ((try simp only [nc] at *); omega)) (by ((try simp only [nc] at *); omega)) (by ((try simp only [nc] at *); omega))
  rw [← ha0', ← hp1] at hb1
  rw [← ho0', ← hp2] at hb2
  cbv
  rw [hrep]
  refine ⟨fun _ => rfl, ?_⟩
  refine call_con (ρ := [(3, .z), (4, .z)]) hb1 ⟨by rfl, by rfl, by rfl, by cbv; exact ⟨fun _ => rfl, view_refl _, trivial⟩⟩ ?_
  rintro v H R js ⟨rfl, rfl, rfl⟩
  cbv
  rw [ewa, hln2, hst0]
  refine ⟨fun _ => rfl, ⟨by decide, by decide⟩, ⟨by decide⟩, ?_⟩
  refine call_con (ρ := [(3, .z), (4, .z)]) hb2 ⟨by rfl, by rfl, by rfl, by cbv; exact ⟨fun _ => rfl, view_refl _, trivial⟩⟩ ?_
  rintro v H R js ⟨rfl, rfl, rfl⟩
  cbv
  rw [ewo, hln2, hst1]
  refine ⟨fun _ => rfl, ⟨by decide, by decide⟩, ⟨by decide⟩, ?_⟩
  generalize hz1 : vc .lss p2 0 = z1
  cases z1
  rotate_left
  · rw [qc, lss_true] at hz1
    rw [if_pos hz1] at hres
    cbv
    exact ⟨[0], .tup [.val (.slice none 0 0), .bool false], [.ro .u8 b], rfl, rfl, rfl, rfl, ⟨rfl, trivial⟩, rfl, .inl ⟨hres, rfl, rfl⟩⟩
  rw [qc, lss_false] at hz1
  rw [if_neg hz1] at hres
  clear hb1 hb2
  cbv
  refine WX.cv (Cv.nilT 12 5 .u8 (by rfl) (by cbv; exact ⟨fun _ => rfl, trivial⟩) (Cv.here ?_))
  cbv
  obtain ⟨sl0, hsl0⟩ : ∃ sl0, sl0 = [a0, o0] := ⟨_, rfl⟩
  rw [← hsl0]
  refine loop_fam (α := Int × List Int × Int × Nat × Nat × List Int) ([14] ++ [58, 59, 60, 61, 62, 63, 64, 65, 66, 67, 68, 69, 70, 71, 72, 73, 74, 75, 76, 77, 78, 79, 80, 81, 82, 83, 84, 85, 86, 87, 88, 89, 90, 91, 92, 93, 94, 95, 96, 97, 98, 99, 100, 101]) [6]
    (fun (i, sl, p, n, c, L) => [(13, .int .i64 i), (12, .slice 6 .z 1 n c)]) (fun (i, sl, p, n, c, L) => [(3, .one 114 [.slice 4 .z 1 P0 c2, .int .i64 p]), (5, .ints 112 .i64 sl), (6, .buf 5 .u8 L c)])
    (fun (i, sl, p, n, c, L) => ∃ f iN : Nat, i = iN ∧ iN ≤ 1 ∧ f + n = 257 ∧ sl.length = 2 ∧ RES = BY f (sl.getD iN 0) (sl.getD (1 - iN) 0) p L ∧ n = L.length ∧ 0 ≤ sl.getD iN 0 ∧ sl.getD iN 0 < N ∧ 0 ≤ sl.getD (1 - iN) 0 ∧ sl.getD (1 - iN) 0 < N ∧ 0 ≤ p ∧ p ≤ pI ∧ n ≤ c) (fun (i, sl, p, n, c, L) => 258 - n) hw hm ?_ ?_
  · refine Cv.genAt [13] [] (Cv.fold ([14] ++ [58, 59, 60, 61, 62, 63, 64, 65, 66, 67, 68, 69, 70, 71, 72, 73, 74, 75, 76, 77, 78, 79, 80, 81, 82, 83, 84, 85, 86, 87, 88, 89, 90, 91, 92, 93, 94, 95, 96, 97, 98, 99, 100, 101]) 7 [6] (by exact Nat.le_refl _) (by exact Nat.le_of_ble_eq_true rfl) (by rfl) (by cbv) ?_)
    intro js
    refine ⟨(_, _, _, _, _, _), ?_, js, rfl⟩
    subst hsl0
    exact ⟨257, 0, rfl, by omega, rfl, rfl, hres, rfl, ha0.1, ha0.2, ho0.1, ho0.2, by omega, by omega, Nat.le_refl _⟩
  · rintro ⟨i, sl, p, n, c, L⟩ js ⟨f, iN, hi, hi1, hfn, hsl, hRS, hnL, ha1, ha2, ho1', ho2', hp0, hpp, hnc⟩
    obtain ⟨a, haa⟩ : ∃ a, a = sl.getD iN 0 := ⟨_, rfl⟩
    obtain ⟨o, hoo⟩ : ∃ o, o = sl.getD (1 - iN) 0 := ⟨_, rfl⟩
    rw [← haa] at hRS ha1 ha2
    rw [← hoo] at hRS ho1' ho2'
    obtain ⟨nI, hnI⟩ : ∃ nI : Int, nI = (n : Int) := ⟨_, rfl⟩
    have en : vofN n = nI := by rw [qofN, hnI]
    cbv
    rw [en]
    generalize hz2 : vc .leq nI 256 = z2
    cases z2
    · rw [qc, leq_false] at hz2
      have hf0 : f = 0 := by ((try simp only [nc] at *); omega)
      subst hf0
      rw [hby0] at hRS
      cbv
      exact ⟨[0], .tup [.val (.slice none 0 0), .bool false], [.ro .u8 b], rfl, rfl, rfl, rfl, ⟨rfl, trivial⟩, rfl, .inl ⟨hRS, rfl, rfl⟩⟩
    rw [qc, leq_true] at hz2
    obtain ⟨g, rfl⟩ : ∃ g, f = g + 1 := ⟨f - 1, by ((try simp only [nc] at *); omega)⟩
    rw [hbyS] at hRS
    obtain ⟨aN, haN⟩ : ∃ aN : Nat, aN = a.toNat := ⟨_, rfl⟩
    obtain ⟨oN, hoN⟩ : ∃ oN : Nat, oN = o.toNat := ⟨_, rfl⟩
    have hta : vtoN a = aN := by rw [qtoN, haN]
    have hto : vtoN o = oN := by rw [qtoN, hoN]
    rw [← haN, ← hoN] at hRS
    have haNN : aN < N := by omega
    have hoNN : oN < N := by omega
    have hc1 := hcell aN haNN
    have hA3 := hAA aN haNN
    have hA4 := hAA oN hoNN
    have hbt := hbits c2 p (B aN) (by omega) (by ((try simp only [nc] at *); omega)) (by omega) (by omega)
    have hrr := hrb p (B aN).toNat
    generalize hBa : B aN = Ba at *
    generalize hCa : C aN = Ca at *
    generalize hAa : A aN = Aa at *
    generalize hAo : A oN = Ao at *
    obtain ⟨x, hx⟩ : ∃ x, x = RD p Ba.toNat := ⟨_, rfl⟩
    rw [← hx] at hbt hRS hrr
    obtain ⟨q, hq⟩ : ∃ q, q = p - Ba := ⟨_, rfl⟩
    rw [← hq] at hbt hRS
    have ewB : vw .i64 Ba = Ba := by rw [qw]; exact wrap_i64 (by omega) (by omega)
    have ewC : vw .i64 Ca = Ca := by rw [qw]; exact wrap_i64 (by omega) (by omega)
    have ewx : vw .i64 x = x := by rw [qw]; exact wrap_i64 (by omega) (by omega)
    obtain ⟨y, hy⟩ : ∃ y, y = Ca + x := ⟨_, rfl⟩
    have eay : vb .add .i64 Ca x = y := by rw [qb, add_i64 (by omega) (by omega)]; exact hy.symm
    rw [← hy] at hRS
    have hinA : 0 ≤ a ∧ a < (N : Int) := ⟨ha1, ha2⟩
    have hinO : 0 ≤ o ∧ o < (N : Int) := ⟨ho1', ho2'⟩
    have hinI : 0 ≤ i ∧ i < ((2 : Nat) : Int) := by ((try simp only [nc] at *); omega)
    have hti : vtoN i = iN := by rw [qtoN, hi]; exact Int.toNat_natCast iN
    have hln1 : ∀ z : Int, vln [z] = 1 := fun z => by rw [qln]; rfl
    have hlnL : ∀ l, vln l = l.length := fun l => by rw [qln]
    have hgdq : ∀ l k, vgd l k = l.getD k 0 := fun l k => by rw [qgd]
    have hi2 : iN < vln sl := by rw [hlnL, hsl]; omega
    have hgda : vgd sl iN = a := by rw [hgdq, haa]
    obtain ⟨sl2, hsl2⟩ : ∃ sl2, sl2 = sl.set iN y := ⟨_, rfl⟩
    have hst : vst sl iN y = sl2 := by rw [qst, hsl2]
    have hsl2l : sl2.length = 2 := by rw [hsl2, List.length_set, hsl]
    have hg2a : sl2.getD iN 0 = y := by rw [hsl2, List.getD_eq_getElem?_getD, List.getElem?_set_self (by omega)]; rfl
    have hg2o : sl2.getD (1 - iN) 0 = o := by rw [hsl2, List.getD_eq_getElem?_getD, List.getElem?_set_ne (by omega), ← List.getD_eq_getElem?_getD, hoo]
    obtain ⟨j, hj⟩ : ∃ j : Int, j = ((1 - iN : Nat) : Int) := ⟨_, rfl⟩
    have esub : vb .sub .i64 1 i = j := by rw [qb, sub_i64 (by ((try simp only [nc] at *); omega)) (by ((try simp only [nc] at *); omega))]; ((try simp only [nc] at *); omega)
    have haddq : ∀ a b, vaddN a b = a + b := fun a b => by rw [qaddN]
    have hont : vonto L n (vsub [Aa] 0 1) = L ++ [Aa] := by rw [qonto, qsub, hnL]; simp
    obtain ⟨L2, hL2⟩ : ∃ L2, L2 = L ++ [Aa] := ⟨_, rfl⟩
    rw [← hL2] at hont hRS
    have hL2n : L2.length = n + 1 := by rw [hL2, List.length_append, hnL]; rfl
    have ha1' := haddq n 1
    obtain ⟨n2, hn2⟩ : ∃ n2, n2 = n + 1 := ⟨_, rfl⟩
    rw [← hn2] at ha1' hL2n
    have hn2b : n2 * 1 ≤ 140737488355328 := by ((try simp only [nc] at *); omega)
    cbv
    rw [hti, hgda, hta, hBa, hCa, hA3]
    refine ⟨⟨hinI⟩, ⟨hi2⟩, ⟨hinA⟩, ⟨haNN⟩, ⟨haNN⟩, ⟨haNN⟩, fun _ => rfl, fun _ => rfl, ⟨by rw [haddq, hln1]; exact Nat.le_refl _⟩, ⟨by rw [hlnL, ← hnL]; exact Nat.le_refl _⟩, ⟨Nat.le_refl _⟩, ⟨by rw [ha1']; exact hn2b⟩, fun _ => rfl, ?_⟩
    intro c4 js4 hle
    have hle' : n2 ≤ c4 := by have := hle.out; simp only at this; rw [ha1'] at this; exact this
    cbv
    rw [hont, ha1', ewB, ewC]
    refine call_con (ρ := [(3, .z), (4, .z)]) hbt ⟨by rfl, by rfl, by rfl, by cbv; exact ⟨fun _ => rfl, view_refl _, trivial⟩⟩ ?_
    rintro v H R js5 ⟨rfl, rfl, rfl⟩
    cbv
    rw [ewx, eay, hti, hst]
    refine ⟨fun _ => rfl, ⟨hinI⟩, ⟨hi2⟩, ?_⟩
    generalize hz3 : vc .lss q 0 = z3
    cases z3
    · rw [qc, lss_false] at hz3
      rw [if_neg hz3] at hRS
      have hmu : ∀ _ : Unit, 258 - n2 < 258 - n := fun _ => by ((try simp only [nc] at *); omega)
      cbv
      rw [esub]
      refine Cv.fold ([14] ++ [58, 59, 60, 61, 62, 63, 64, 65, 66, 67, 68, 69, 70, 71, 72, 73, 74, 75, 76, 77, 78, 79, 80, 81, 82, 83, 84, 85, 86, 87, 88, 89, 90, 91, 92, 93, 94, 95, 96, 97, 98, 99, 100, 101]) 7 [6] (by exact Nat.le_refl _) (by exact Nat.le_of_ble_eq_true rfl) (by rfl) (by cbv) ?_
      intro js
      refine ⟨(_, _, _, _, _, _), ?_, js, rfl⟩
      have e2 : 1 - (1 - iN) = iN := by omega
      exact ⟨⟨g, 1 - iN, hj, by omega, by omega, hsl2l, by rw [e2, hg2a, hg2o]; exact hRS, hL2n.symm, by rw [hg2o]; exact ho1', by rw [hg2o]; exact ho2', by rw [e2, hg2a]; omega, by rw [e2, hg2a]; omega, by omega, by ((try simp only [nc] at *); omega), hle'⟩, hmu ()⟩
    · rw [qc, lss_true] at hz3
      rw [if_pos hz3] at hRS
      have hont2 : vonto L2 n2 (vsub [Ao] 0 1) = L2 ++ [Ao] := by rw [qonto, qsub, ← hL2n]; simp
      obtain ⟨L3, hL3⟩ : ∃ L3, L3 = L2 ++ [Ao] := ⟨_, rfl⟩
      rw [← hL3] at hont2 hRS
      have hL3n : L3.length = n2 + 1 := by rw [hL3, List.length_append, hL2n]; rfl
      have ha2' := haddq n2 1
      obtain ⟨n3, hn3⟩ : ∃ n3, n3 = n2 + 1 := ⟨_, rfl⟩
      rw [← hn3] at ha2' hL3n
      have hn3b : n3 * 1 ≤ 140737488355328 := by ((try simp only [nc] at *); omega)
      have htj : vtoN j = 1 - iN := by rw [qtoN, hj]; exact Int.toNat_natCast _
      have hinJ : 0 ≤ j ∧ j < ((2 : Nat) : Int) := by ((try simp only [nc] at *); omega)
      have hj2 : 1 - iN < vln sl2 := by rw [hlnL, hsl2l]; omega
      have hgdo : vgd sl2 (1 - iN) = o := by rw [hgdq, hg2o]
      cbv
      rw [esub, htj, hgdo, hto, hA4]
      refine ⟨⟨hinJ⟩, ⟨hj2⟩, ⟨hinO⟩, ⟨hoNN⟩, fun _ => rfl, ⟨by rw [haddq, hln1]; exact Nat.le_refl _⟩, ⟨by rw [hlnL, hL2n]; exact Nat.le_refl _⟩, ⟨Nat.le_refl _⟩, ⟨by rw [ha2']; exact hn3b⟩, fun _ => rfl, ?_⟩
      intro c5 js7 hle5
      cbv
      rw [hont2, ha2']
      subst hL3n
      exact ⟨[0, 6], .tup [.slice 1 .z 1 L3.length c5, .bool true], [.ro .u8 b, .buf 5 .u8 L3 c5], rfl, rfl, rfl, rfl, ⟨rfl, rfl, trivial⟩, rfl, .inr ⟨L3, c5, hRS, rfl, rfl⟩⟩
end Go.Proofs.Ytaaklikigccdfaa
namespace Go.Proofs.Ytaaklikigccdfaa
open Go Go.Sx Go.Proofs
/-! weights.Read. -/
set_option maxRecDepth 10000
set_option maxHeartbeats 40000000
/-- How many bytes tell weights, behind the first one. -/
def hnW (b : List Int) : Int := if 128 ≤ b.getD 0 0 then (b.getD 0 0 - 126) / 2 else b.getD 0 0
def nibW (b : List Int) (k : Nat) : Int := if k % 2 = 0 then b.getD (1 + k / 2) 0 / 16 else b.getD (1 + k / 2) 0 % 16
def nibs (b : List Int) (n : Nat) : List Int := (List.range n).map (nibW b)
theorem nibs_len (b : List Int) (n : Nat) : (nibs b n).length = n := by simp [nibs]
theorem nibs_succ (b : List Int) (n : Nat) : nibs b (n + 1) = nibs b n ++ [nibW b n] := by simp [nibs, List.range_succ]
theorem nibs_take (b : List Int) {n m : Nat} (h : n ≤ m) : (nibs b m).take n = nibs b n := by
  unfold nibs
  rw [← List.map_take, List.take_range]
  congr 2
  omega
/-- The weights that are told. -/
def toldP (F : Nat) (b : List Int) : Option (List Int) := if 128 ≤ b.getD 0 0 then some (nibs b (b.getD 0 0 - 127).toNat) else bst F ((b.drop 1).take (b.getD 0 0).toNat)
def shortW (b : List Int) : Prop := b.length = 0 ∨ (b.length : Int) - 1 < hnW b
def RdW (F : Nat) (b l : List Int) : Prop := ∃ t, toldP F b = some t ∧ OkE t l
theorem nib_u8 {b : List Int} (hby : ∀ x ∈ b, isByte x) (k : Nat) : 0 ≤ nibW b k ∧ nibW b k ≤ 15 := by
  have h := byte_bit hby (1 + k / 2)
  unfold isByte at h
  unfold nibW
  split <;> omega
theorem nibs_u8 {b : List Int} (hby : ∀ x ∈ b, isByte x) (n : Nat) : ∀ c ∈ nibs b n, isU8 c := by
  intro c hc
  simp only [nibs, List.mem_map, List.mem_range] at hc
  obtain ⟨k, _, rfl⟩ := hc
  have := nib_u8 hby k
  unfold isU8
  omega
theorem view_mid (b : List Int) (n cap : Nat) (hn : 1 + n ≤ b.length) (hc : b.length ≤ cap) : View (if cap = 1 then 0 else 0 + 1) ((b.drop 1).take n) b := by
  have hlen : ((b.drop 1).take n).length = n := by rw [List.length_take, List.length_drop]; omega
  refine ⟨?_, fun i hi => ?_⟩
  · rw [hlen]; split <;> omega
  · rw [hlen] at hi
    rw [if_neg (by omega)]
    rw [List.getD_eq_getElem?_getD, List.getD_eq_getElem?_getD, List.getElem?_take, if_pos hi, List.getElem?_drop, Nat.zero_add]
theorem read9_con (b : List Int) (cap : Nat) (hby : ∀ x ∈ b, isByte x) (hl : b.length ≤ 140737488355328) (hcap : b.length ≤ cap) (hcm : cap ≤ 9223372036854775807) :
    Con Try.prog 6 [.slice 0 .z 1 b.length cap] [.ro .u8 b] (fun v H R => R = [] ∧ ((shortW b ∧ H = [.ro .u8 b] ∧ v = .tup [.val (.slice none 0 0), .int .i64 0, .int .i64 10]) ∨
      (¬ shortW b ∧ (∀ l, ¬ RdW 256 b l) ∧ H = [.ro .u8 b] ∧ v = .tup [.val (.slice none 0 0), .int .i64 0, .int .i64 11]) ∨
      (¬ shortW b ∧ ∃ l c', RdW 256 b l ∧ H = [.ro .u8 b, .buf 5 .u8 l c'] ∧ v = .tup [.slice 1 .z 1 l.length c', .int .i64 (1 + hnW b), .int .i64 0]))) := by
  have hh := byte_bit hby 0
  unfold isByte at hh
  obtain ⟨h, hh0⟩ : ∃ h, h = b.getD 0 0 := ⟨_, rfl⟩
  rw [← hh0] at hh
  have hhn : hnW b = if 128 ≤ h then (h - 126) / 2 else h := by unfold hnW; rw [← hh0]
  have htp : ∀ F, toldP F b = if 128 ≤ h then some (nibs b (h - 127).toNat) else bst F ((b.drop 1).take h.toNat) := fun F => by unfold toldP; rw [← hh0]
  obtain ⟨n, hn⟩ : ∃ n, n = hnW b := ⟨_, rfl⟩
  rw [← hn] at hhn
  have hsh : shortW b ↔ b.length = 0 ∨ (b.length : Int) - 1 < n := by unfold shortW; rw [← hn]
  rw [← hn]
  by_cases h0 : b.length = 0
  · have hs := hsh.2 (.inl h0)
    refine con_gen (con_picks (con_drop (con_walk hmix fn6 ?_)))
    intro vb vc vw vtoN vofN vaddN vsubN vmaxI vminI vcutN vgd vst vln vrep vsub vonto vsplice vstrEq vbyteV vnotB veqB hw qb qc qw qtoN qofN qaddN qsubN qmaxI qminI qcutN qgd qst qln qrep qsub qonto qsplice qstrEq qbyteV qnotB qeqB
    have hm := hmix; generalize Try.prog = P at *
    generalize shortW b = SH at *
    generalize RdW 256 b = RW at *
    generalize b.length = bl at *
    subst h0
    have e : vc .eql (vofN 0) 0 = true := by rw [qc, qofN]; rfl
    cbv
    rw [e]
    cbv
    exact ⟨[0], .tup [.val (.slice none 0 0), .lit .i64 0, .lit .i64 10], [.ro .u8 b], rfl, rfl, rfl, rfl, ⟨rfl, trivial⟩, rfl, .inl ⟨hs, rfl, rfl⟩⟩
  by_cases h128 : 128 ≤ h
  · have hRW : ∀ l, RdW 256 b l ↔ OkE (nibs b (h - 127).toNat) l := by
      intro l
      unfold RdW
      rw [htp, if_pos h128]
      exact ⟨fun ⟨t, h1, h2⟩ => by rw [Option.some.injEq] at h1; subst h1; exact h2, fun h => ⟨_, rfl, h⟩⟩
    rw [if_pos h128] at hhn
    obtain ⟨nN, hnN⟩ : ∃ nN : Nat, n = nN := ⟨n.toNat, by omega⟩
    obtain ⟨kN, hkN⟩ : ∃ kN : Nat, h - 127 = kN := ⟨(h - 127).toNat, by omega⟩
    rw [hkN, Int.toNat_natCast] at hRW
    have hk2 : kN ≤ 2 * nN ∧ 2 * nN ≤ kN + 1 ∧ kN ≤ 128 ∧ nN ≤ 64 := by omega
    have hends := fun (c cc : Nat) (h : c ≤ cc) => ends_con (nibs b (2 * nN)) kN c cc (nibs_u8 hby _) (by rw [nibs_len]; omega) h (by omega)
    rw [nibs_take b hk2.1] at hends
    have hnl : ∀ k, (nibs b k).length = k := nibs_len b
    have hns : ∀ k, nibs b (k + 1) = nibs b k ++ [nibW b k] := nibs_succ b
    have hnb : ∀ i, nibW b (2 * i) = b.getD (1 + i) 0 / 16 ∧ nibW b (2 * i + 1) = b.getD (1 + i) 0 % 16 := by
      intro i
      unfold nibW
      rw [if_pos (by omega), if_neg (by omega), show 2 * i / 2 = i by omega, show (2 * i + 1) / 2 = i by omega]
      exact ⟨rfl, rfl⟩
    have hbb := byte_bit hby
    unfold isByte at hbb
    refine con_gen (con_picks (con_drop (con_walk hmix fn6 ?_)))
    intro vb vc vw vtoN vofN vaddN vsubN vmaxI vminI vcutN vgd vst vln vrep vsub vonto vsplice vstrEq vbyteV vnotB veqB hw qb qc qw qtoN qofN qaddN qsubN qmaxI qminI qcutN qgd qst qln qrep qsub qonto qsplice qstrEq qbyteV qnotB qeqB
    have f17 := fn17
    have hm := hmix; generalize Try.prog = P at *
    generalize shortW b = SH at *
    generalize RdW 256 b = RW at *
    generalize nibW b = NB at *
    have hnib0 : nibs b 0 = [] := rfl
    generalize nibs b = NBS at *
    generalize OkE (NBS kN) = OK at *
    generalize hbl : b.length = bl at *
    have hgd : ∀ i, vgd b i = b.getD i 0 := fun i => by rw [qgd]
    have hlnb : vln b = bl := by simp only [qln, hbl]
    have hlnq : ∀ l, vln l = l.length := fun l => by rw [qln]
    have haddq : ∀ a b, vaddN a b = a + b := fun a b => by rw [qaddN]
    obtain ⟨bI, hbI⟩ : ∃ bI : Int, bI = bl := ⟨_, rfl⟩
    have ebl : vofN bl = bI := by rw [qofN, hbI]
    have e0 : vc .eql bI 0 = false := by rw [qc, eql_false]; omega
    have ewh : vw .i64 h = h := by rw [qw]; exact wrap_i64 (by omega) (by omega)
    have e128 : vc .geq h 128 = true := by rw [qc, geq_true]; exact h128
    have e128' : vc .lss h 128 = false := by rw [qc, lss_false]; omega
    have es1 : vb .sub .i64 h 126 = h - 126 := by rw [qb, sub_i64 (by omega) (by omega)]
    have eq1 : vb .quo .i64 (h - 126) 2 = n := by rw [qb, quo_i64 (by omega) (by omega) (by omega), hhn]
    have es2 : vb .sub .i64 bI 1 = bI - 1 := by rw [qb, sub_i64 (by omega) (by omega)]
    have es3 : vb .sub .i64 h 127 = h - 127 := by rw [qb, sub_i64 (by omega) (by omega)]
    have ea1 : vb .add .i64 1 n = 1 + n := by rw [qb, add_i64 (by omega) (by omega)]
    obtain ⟨h126, hh126⟩ : ∃ x, x = h - 126 := ⟨_, rfl⟩
    rw [← hh126] at es1 eq1
    obtain ⟨h127, hh127⟩ : ∃ x, x = h - 127 := ⟨_, rfl⟩
    rw [← hh127] at es3
    obtain ⟨bI1, hbI1⟩ : ∃ x, x = bI - 1 := ⟨_, rfl⟩
    rw [← hbI1] at es2
    obtain ⟨n1, hn1⟩ : ∃ x, x = 1 + n := ⟨_, rfl⟩
    rw [← hn1] at ea1 ⊢
    cbv
    rw [ebl, e0]
    cbv
    rw [haddq, hlnb, hgd, ← hh0, ewh, e128]
    refine ⟨⟨by omega, by omega⟩, ⟨by omega⟩, ⟨by omega⟩, ?_⟩
    cbv
    rw [es1, eq1, ebl, es2]
    generalize hz1 : vc .lss bI1 n = z1
    cases z1
    rotate_left
    · rw [qc, lss_true] at hz1
      cbv
      exact ⟨[0], .tup [.val (.slice none 0 0), .lit .i64 0, .lit .i64 10], [.ro .u8 b], rfl, rfl, rfl, rfl, ⟨rfl, trivial⟩, rfl, .inl ⟨hsh.2 (.inr (by ((try simp only [nc] at *); omega))), rfl, rfl⟩⟩
    rw [qc, lss_false] at hz1
    have hnsh : ¬ SH := fun h => by rcases hsh.1 h with h | h <;> ((try simp only [nc] at *); omega)
    have htn1 : vtoN n1 = 1 + nN := by simp only [qtoN, hn1, hnN]; ((try simp only [nc] at *); omega)
    have hcut : vcutN 0 1 cap = 1 := by rw [qcutN]; simp only; rw [if_neg (by ((try simp only [nc] at *); omega))]
    have hsb1 : vsubN (1 + nN) 1 = nN := by rw [qsubN]; simp only; omega
    cbv
    rw [e128']
    cbv
    rw [ea1, htn1, hcut, hsb1]
    refine ⟨⟨by ((try simp only [nc] at *); omega), by ((try simp only [nc] at *); omega)⟩, ⟨by omega, by omega⟩, ?_⟩
    refine WX.cv (Cv.nilT 7 5 .u8 (by rfl) (by cbv; try exact ⟨fun _ => rfl, trivial⟩) (Cv.here ?_))
    obtain ⟨nI, hnI⟩ : ∃ nI : Int, nI = (nN : Int) := ⟨_, rfl⟩
    have enN : vofN nN = nI := by rw [qofN, hnI]
    obtain ⟨c1, hc1⟩ : ∃ c1, c1 = vsubN cap 1 := ⟨_, rfl⟩
    cbv
    rw [← hc1, enN]
    refine loop_fam (α := Int × Nat × Nat × List Int) ([10] ++ [45, 46, 47, 48, 49, 50, 51, 52, 53, 54, 55]) [1] (fun (k, m, c, L) => [(44, .int .i64 k), (7, .slice 1 .z 1 m c)]) (fun (k, m, c, L) => [(1, .buf 5 .u8 L c)])
      (fun (k, m, c, L) => ∃ i : Nat, k = i ∧ i ≤ nN ∧ L = NBS (2 * i) ∧ m = 2 * i ∧ m ≤ c) (fun (k, _) => nN - k.toNat) hw hm ?_ ?_
    · refine Cv.genAt [44] [] (Cv.fold ([10] ++ [45, 46, 47, 48, 49, 50, 51, 52, 53, 54, 55]) 2 [1] (by exact Nat.le_refl _) (by exact Nat.le_of_ble_eq_true rfl) (by rfl) (by cbv) ?_)
      intro js
      refine ⟨(_, _, _, _), ?_, js, rfl⟩
      exact ⟨0, rfl, by omega, hnib0.symm, rfl, Nat.le_refl _⟩
    · rintro ⟨k, m, c, L⟩ js ⟨i, hk, hi, hL, hm2, hmc⟩
      cbv
      generalize hz2 : vc .lss k nI = z2
      cases z2
      rotate_left
      · rw [qc, lss_true] at hz2
        have hlt : i < nN := by ((try simp only [nc] at *); omega)
        have hti : vtoN k = i := by rw [qtoN, hk]; exact Int.toNat_natCast i
        have hinR : 0 ≤ k ∧ k < (nN : Int) := by ((try simp only [nc] at *); omega)
        obtain ⟨k1, hk1⟩ : ∃ k1 : Int, k1 = ((i + 1 : Nat) : Int) := ⟨_, rfl⟩
        have ek1 : vb .add .i64 k 1 = k1 := by (try simp only [nc] at *); rw [qb, add_i64 (by omega) (by omega)]; omega
        have hmu : ∀ _ : Unit, nN - k1.toNat < nN - k.toNat := fun _ => by ((try simp only [nc] at *); omega)
        have hb1 := hbb (1 + i)
        obtain ⟨hn1', hn2'⟩ := hnb i
        have hs1 := hns (2 * i)
        have hs2 := hns (2 * i + 1)
        rw [hs1, List.append_assoc, hn1', hn2', ← hL] at hs2
        generalize hxx : b.getD (1 + i) 0 = x at *
        obtain ⟨x1, hx1⟩ : ∃ x1, x1 = x / 16 := ⟨_, rfl⟩
        obtain ⟨x2, hx2⟩ : ∃ x2, x2 = x % 16 := ⟨_, rfl⟩
        have e1 : vb .shr .u8 x 4 = x1 := by rw [qb, shr_eq (by decide), hx1]; rfl
        have e2 : vb .and .u8 x 15 = x2 := by rw [qb, hx2, show (15 : Int) = 2 ^ 4 - 1 by decide, and_mask rfl 4 (by decide) hb1.1 (by show x < 256; omega)]; rfl
        rw [← hx1, ← hx2] at hs2
        obtain ⟨L2, hL2⟩ : ∃ L2, L2 = NBS (2 * i + 1 + 1) := ⟨_, rfl⟩
        rw [← hL2] at hs2
        have hont : vonto L m (vsub [x1, x2] 0 2) = L2 := by
          have hl2 : L.length = m := by rw [hL, hm2]; exact hnl _
          rw [hs2, qonto, qsub, ← hl2]; simp
        have hln2 : vln [x1, x2] = 2 := by rw [qln]; rfl
        have hlL : L.length = m := by rw [hL, hm2]; exact hnl _
        have ha2 := haddq m 2
        obtain ⟨m2, hm2'⟩ : ∃ m2, m2 = m + 2 := ⟨_, rfl⟩
        rw [← hm2'] at ha2
        have hm2b : m2 * 1 ≤ 140737488355328 := by omega
        have hlt2 : 1 + i < bl := by ((try simp only [nc] at *); omega)
        cbv
        rw [hti, haddq, hgd, hlnb, hxx, e1, e2]
        refine ⟨⟨hinR⟩, ⟨hlt2⟩, ⟨hlt2⟩, ⟨by rw [haddq, hln2]; exact Nat.le_refl _⟩, ⟨by rw [hlnq, hlL]; exact Nat.le_refl _⟩, ⟨Nat.le_refl _⟩, ⟨by rw [ha2]; exact hm2b⟩, ?_⟩
        intro c2 js2 hle
        have hle' : m2 ≤ c2 := by have := hle.out; simp only at this; rw [ha2] at this; exact this
        cbv
        rw [hont, ha2, ek1]
        refine Cv.fold ([10] ++ [45, 46, 47, 48, 49, 50, 51, 52, 53, 54, 55]) 2 [1] (by exact Nat.le_refl _) (by exact Nat.le_of_ble_eq_true rfl) (by rfl) (by cbv) ?_
        intro js
        refine ⟨(_, _, _, _), ?_, js, rfl⟩
        exact ⟨⟨i + 1, hk1, hlt, hL2, by omega, hle'⟩, hmu ()⟩
      · rw [qc, lss_false] at hz2
        have hin : i = nN := by ((try simp only [nc] at *); omega)
        subst hin
        have hth : vtoN h127 = kN := by rw [qtoN, hh127, hkN]; exact Int.toNat_natCast kN
        have hec := hends c c (Nat.le_refl _)
        rw [← hL] at hec
        have hnt : vnotB true = false := by rw [qnotB]; rfl
        have hnf : vnotB false = true := by rw [qnotB]; rfl
        cbv
        rw [es3, hth]
        refine ⟨⟨by ((try simp only [nc] at *); omega), by ((try simp only [nc] at *); omega)⟩, ?_⟩
        refine call_con (ρ := [(1, .z)]) hec ⟨by rfl, by rfl, by rfl, by cbv⟩ ?_
        rintro v H R js3 ⟨rfl, ⟨l, c3, hok, rfl, rfl⟩ | ⟨hno, l3, c3, rfl, rfl | ⟨n3, rfl⟩⟩⟩
        · obtain ⟨ll, hll⟩ : ∃ ll, ll = l.length := ⟨_, rfl⟩
          rw [← hll]
          cbv
          rw [hnt]
          cbv
          rw [ea1]
          subst hll
          exact ⟨[0, 1], .tup [.slice 1 .z 1 l.length c3, .int .i64 n1, .lit .i64 0], [.ro .u8 b, .buf 5 .u8 l c3], rfl, rfl, rfl, rfl, ⟨rfl, rfl, trivial⟩, rfl, .inr (.inr ⟨hnsh, l, c3, (hRW l).2 hok, rfl, rfl⟩)⟩
        · cbv
          rw [hnf]
          cbv
          exact ⟨[0], .tup [.val (.slice none 0 0), .lit .i64 0, .lit .i64 11], [.ro .u8 b], rfl, rfl, rfl, rfl, ⟨rfl, trivial⟩, rfl, .inr (.inl ⟨hnsh, fun l h => hno l ((hRW l).1 h), rfl, rfl⟩)⟩
        · cbv
          rw [hnf]
          cbv
          exact ⟨[0], .tup [.val (.slice none 0 0), .lit .i64 0, .lit .i64 11], [.ro .u8 b], rfl, rfl, rfl, rfl, ⟨rfl, trivial⟩, rfl, .inr (.inl ⟨hnsh, fun l h => hno l ((hRW l).1 h), rfl, rfl⟩)⟩
  · have hRW : ∀ l, RdW 256 b l ↔ ∃ t, bst 256 ((b.drop 1).take h.toNat) = some t ∧ OkE t l := by
      intro l
      unfold RdW
      rw [htp, if_neg h128]
    rw [if_neg h128] at hhn
    obtain ⟨nN, hnN⟩ : ∃ nN : Nat, n = nN := ⟨n.toNat, by omega⟩
    have hht : h.toNat = nN := by omega
    rw [hht] at hRW
    by_cases hs1 : (b.length : Int) - 1 < n
    · have hs := hsh.2 (.inr hs1)
      refine con_gen (con_picks (con_drop (con_walk hmix fn6 ?_)))
      intro vb vc vw vtoN vofN vaddN vsubN vmaxI vminI vcutN vgd vst vln vrep vsub vonto vsplice vstrEq vbyteV vnotB veqB hw qb qc qw qtoN qofN qaddN qsubN qmaxI qminI qcutN qgd qst qln qrep qsub qonto qsplice qstrEq qbyteV qnotB qeqB
      have hm := hmix; generalize Try.prog = P at *
      generalize shortW b = SH at *
      generalize RdW 256 b = RW at *
      generalize hbl : b.length = bl at *
      have hgd : ∀ i, vgd b i = b.getD i 0 := fun i => by rw [qgd]
      have hlnb : vln b = bl := by simp only [qln, hbl]
      have haddq : ∀ a b, vaddN a b = a + b := fun a b => by rw [qaddN]
      obtain ⟨bI, hbI⟩ : ∃ bI : Int, bI = bl := ⟨_, rfl⟩
      have ebl : vofN bl = bI := by rw [qofN, hbI]
      have e0 : vc .eql bI 0 = false := by rw [qc, eql_false]; omega
      have ewh : vw .i64 h = h := by rw [qw]; exact wrap_i64 (by omega) (by omega)
      have e128 : vc .geq h 128 = false := by rw [qc, geq_false]; exact h128
      have es2 : vb .sub .i64 bI 1 = bI - 1 := by rw [qb, sub_i64 (by omega) (by omega)]
      obtain ⟨bI1, hbI1⟩ : ∃ x, x = bI - 1 := ⟨_, rfl⟩
      rw [← hbI1] at es2
      have hz1 : vc .lss bI1 h = true := by rw [qc, lss_true]; omega
      cbv
      rw [ebl, e0]
      cbv
      rw [haddq, hlnb, hgd, ← hh0, ewh, e128]
      refine ⟨⟨by omega, by omega⟩, ⟨by omega⟩, ⟨by omega⟩, ?_⟩
      cbv
      rw [ebl, es2, hz1]
      cbv
      exact ⟨[0], .tup [.val (.slice none 0 0), .lit .i64 0, .lit .i64 10], [.ro .u8 b], rfl, rfl, rfl, rfl, ⟨rfl, trivial⟩, rfl, .inl ⟨hs, rfl, rfl⟩⟩
    have hnsh0 : ¬ shortW b := fun h => by rcases hsh.1 h with h | h <;> omega
    have hml : ((b.drop 1).take nN).length = nN := by rw [List.length_take, List.length_drop]; omega
    have hmb : ∀ x ∈ (b.drop 1).take nN, isByte x := fun x hx => hby x (List.mem_of_mem_drop (List.mem_of_mem_take hx))
    have hvm := view_mid b nN cap (by omega) hcap
    have hbs := fun c h => bystates_con ((b.drop 1).take nN) c hmb (by omega) h
    rw [hml] at hbs
    have hu8 := fun L => @bst_u8 256 ((b.drop 1).take nN) L
    have hends := fun (L : List Int) (c cc : Nat) (hL : bst 256 ((b.drop 1).take nN) = some L) (h : c ≤ cc) => ends_con L L.length c cc (bst_u8 hL).1 (Nat.le_refl _) h (by have := (bst_u8 hL).2; omega)
    simp only [List.take_length] at hends
    refine con_gen (con_picks (con_drop (con_walk hmix fn6 ?_)))
    intro vb vc vw vtoN vofN vaddN vsubN vmaxI vminI vcutN vgd vst vln vrep vsub vonto vsplice vstrEq vbyteV vnotB veqB hw qb qc qw qtoN qofN qaddN qsubN qmaxI qminI qcutN qgd qst qln qrep qsub qonto qsplice qstrEq qbyteV qnotB qeqB
    have hm := hmix; generalize Try.prog = P at *
    generalize shortW b = SH at *
    generalize RdW 256 b = RW at *
    generalize bst 256 ((b.drop 1).take nN) = RES at *
    generalize (b.drop 1).take nN = b1 at *
    generalize hOE : OkE = OE at *
    generalize hbl : b.length = bl at *
    have hgd : ∀ i, vgd b i = b.getD i 0 := fun i => by rw [qgd]
    have hlnb : vln b = bl := by simp only [qln, hbl]
    have haddq : ∀ a b, vaddN a b = a + b := fun a b => by rw [qaddN]
    obtain ⟨bI, hbI⟩ : ∃ bI : Int, bI = bl := ⟨_, rfl⟩
    have ebl : vofN bl = bI := by rw [qofN, hbI]
    have e0 : vc .eql bI 0 = false := by rw [qc, eql_false]; omega
    have ewh : vw .i64 h = h := by rw [qw]; exact wrap_i64 (by omega) (by omega)
    have e128 : vc .geq h 128 = false := by rw [qc, geq_false]; exact h128
    have e128' : vc .lss h 128 = true := by rw [qc, lss_true]; omega
    have es2 : vb .sub .i64 bI 1 = bI - 1 := by rw [qb, sub_i64 (by omega) (by omega)]
    obtain ⟨bI1, hbI1⟩ : ∃ x, x = bI - 1 := ⟨_, rfl⟩
    rw [← hbI1] at es2
    have hz1 : vc .lss bI1 h = false := by rw [qc, lss_false]; omega
    have ea1 : vb .add .i64 1 h = 1 + n := by rw [qb, add_i64 (by omega) (by omega), hhn]
    obtain ⟨n1, hn1⟩ : ∃ x, x = 1 + n := ⟨_, rfl⟩
    rw [← hn1] at ea1 ⊢
    have htn1 : vtoN n1 = 1 + nN := by simp only [qtoN, hn1, hnN]; ((try simp only [nc] at *); omega)
    have hcut : vcutN 0 1 cap = if cap = 1 then 0 else 0 + 1 := by rw [qcutN]
    have hsb1 : vsubN (1 + nN) 1 = nN := by rw [qsubN]; simp only; omega
    have hcp : nN ≤ vsubN cap 1 := by rw [qsubN]; simp only; omega
    rw [← hcut] at hvm
    obtain ⟨o1, ho1⟩ : ∃ o1, o1 = vcutN 0 1 cap := ⟨_, rfl⟩
    rw [← ho1] at hvm
    obtain ⟨c1, hc1⟩ : ∃ c1, c1 = vsubN cap 1 := ⟨_, rfl⟩
    rw [← hc1] at hcp
    have hbs1 := hbs c1 hcp
    have hnt : vnotB true = false := by rw [qnotB]; rfl
    have hnf : vnotB false = true := by rw [qnotB]; rfl
    cbv
    rw [ebl, e0]
    cbv
    rw [haddq, hlnb, hgd, ← hh0, ewh, e128]
    refine ⟨⟨by omega, by omega⟩, ⟨by omega⟩, ⟨by omega⟩, ?_⟩
    cbv
    rw [ebl, es2, hz1]
    cbv
    rw [e128']
    cbv
    rw [ea1, htn1, ← ho1, hsb1, ← hc1]
    refine ⟨⟨by ((try simp only [nc] at *); omega), by ((try simp only [nc] at *); omega)⟩, ⟨by omega, by ((try simp only [nc] at *); omega)⟩, ?_⟩
    refine call_con (ρ := [(0, .n o1)]) hbs1 ⟨by rfl, by rfl, by rfl, by cbv; exact ⟨hvm, trivial⟩⟩ ?_
    rintro v H R js ⟨rfl, ⟨hres, rfl, rfl⟩ | ⟨L, c2, hres, rfl, rfl⟩⟩
    · cbv
      rw [hnf]
      cbv
      have hno : ∀ l, ¬ RW l := fun l h => by
        obtain ⟨t, h1, _⟩ := (hRW l).1 h
        rw [hres] at h1
        cases h1
      exact ⟨[0], .tup [.val (.slice none 0 0), .lit .i64 0, .lit .i64 11], [.ro .u8 b], rfl, rfl, rfl, rfl, ⟨rfl, trivial⟩, rfl, .inr (.inl ⟨hnsh0, hno, rfl, rfl⟩)⟩
    · have hec := hends L c2 c2 hres (Nat.le_refl _)
      have hRW' : ∀ l, RW l ↔ OE L l := fun l => by
        rw [hRW, hres]
        exact ⟨fun ⟨t, h1, h2⟩ => by rw [Option.some.injEq] at h1; subst h1; exact h2, fun h => ⟨_, rfl, h⟩⟩
      obtain ⟨Ln, hLn⟩ : ∃ Ln, Ln = L.length := ⟨_, rfl⟩
      rw [← hLn] at hec ⊢
      generalize OE L = OK at *
      cbv
      refine call_con (ρ := [(1, .z)]) hec ⟨by rfl, by rfl, by rfl, by cbv⟩ ?_
      rintro v H R js3 ⟨rfl, ⟨l, c3, hok, rfl, rfl⟩ | ⟨hno, l3, c3, rfl, rfl | ⟨n3, rfl⟩⟩⟩
      · obtain ⟨ll, hll⟩ : ∃ ll, ll = l.length := ⟨_, rfl⟩
        rw [← hll]
        cbv
        rw [hnt]
        cbv
        rw [ea1]
        subst hll
        exact ⟨[0, 1], .tup [.slice 1 .z 1 l.length c3, .int .i64 n1, .lit .i64 0], [.ro .u8 b, .buf 5 .u8 l c3], rfl, rfl, rfl, rfl, ⟨rfl, rfl, trivial⟩, rfl, .inr (.inr ⟨hnsh0, l, c3, (hRW' l).2 hok, rfl, rfl⟩)⟩
      · cbv
        rw [hnf]
        cbv
        exact ⟨[0], .tup [.val (.slice none 0 0), .lit .i64 0, .lit .i64 11], [.ro .u8 b], rfl, rfl, rfl, rfl, ⟨rfl, trivial⟩, rfl, .inr (.inl ⟨hnsh0, fun l h => hno l ((hRW' l).1 h), rfl, rfl⟩)⟩
      · cbv
        rw [hnf]
        cbv
        exact ⟨[0], .tup [.val (.slice none 0 0), .lit .i64 0, .lit .i64 11], [.ro .u8 b], rfl, rfl, rfl, rfl, ⟨rfl, trivial⟩, rfl, .inr (.inl ⟨hnsh0, fun l h => hno l ((hRW' l).1 h), rfl, rfl⟩)⟩
end Go.Proofs.Ytaaklikigccdfaa
namespace Go.Proofs.Ytaaklikigccdfaa
open Go Go.Sx Go.Proofs
/-! balerref09.Read. -/
set_option maxRecDepth 10000
set_option maxHeartbeats 40000000
theorem refread9_con (b : List Int) (cap : Nat) (hby : ∀ x ∈ b, isByte x) (hl : b.length ≤ 140737488355328) (hcap : b.length ≤ cap) (hcm : cap ≤ 9223372036854775807) :
    Con Try.prog 7 [.slice 0 .z 1 b.length cap] [.ro .u8 b] (fun v H R => R = [] ∧ ((shortW b ∧ H = [.ro .u8 b] ∧ v = .tup [.val (.slice none 0 0), .int .i64 0, .int .i64 10]) ∨
      (¬ shortW b ∧ (∀ l, ¬ RdW 257 b l) ∧ H = [.ro .u8 b] ∧ v = .tup [.val (.slice none 0 0), .int .i64 0, .int .i64 11]) ∨
      (¬ shortW b ∧ ∃ l c', RdW 257 b l ∧ H = [.ro .u8 b, .buf 5 .u8 l c'] ∧ v = .tup [.slice 1 .z 1 l.length c', .int .i64 (1 + hnW b), .int .i64 0]))) := by
  have hh := byte_bit hby 0
  unfold isByte at hh
  obtain ⟨h, hh0⟩ : ∃ h, h = b.getD 0 0 := ⟨_, rfl⟩
  rw [← hh0] at hh
  have hhn : hnW b = if 128 ≤ h then (h - 126) / 2 else h := by unfold hnW; rw [← hh0]
  have htp : ∀ F, toldP F b = if 128 ≤ h then some (nibs b (h - 127).toNat) else bst F ((b.drop 1).take h.toNat) := fun F => by unfold toldP; rw [← hh0]
  obtain ⟨n, hn⟩ : ∃ n, n = hnW b := ⟨_, rfl⟩
  rw [← hn] at hhn
  have hsh : shortW b ↔ b.length = 0 ∨ (b.length : Int) - 1 < n := by unfold shortW; rw [← hn]
  rw [← hn]
  by_cases h0 : b.length = 0
  · have hs := hsh.2 (.inl h0)
    refine con_gen (con_picks (con_drop (con_walk hmix fn7 ?_)))
    intro vb vc vw vtoN vofN vaddN vsubN vmaxI vminI vcutN vgd vst vln vrep vsub vonto vsplice vstrEq vbyteV vnotB veqB hw qb qc qw qtoN qofN qaddN qsubN qmaxI qminI qcutN qgd qst qln qrep qsub qonto qsplice qstrEq qbyteV qnotB qeqB
    have hm := hmix; generalize Try.prog = P at *
    generalize shortW b = SH at *
    generalize RdW 257 b = RW at *
    generalize b.length = bl at *
    subst h0
    have e : vc .eql (vofN 0) 0 = true := by rw [qc, qofN]; rfl
    cbv
    rw [e]
    cbv
    exact ⟨[0], .tup [.val (.slice none 0 0), .lit .i64 0, .lit .i64 10], [.ro .u8 b], rfl, rfl, rfl, rfl, ⟨rfl, trivial⟩, rfl, .inl ⟨hs, rfl, rfl⟩⟩
  by_cases h128 : 128 ≤ h
  · have hRW : ∀ l, RdW 257 b l ↔ OkE (nibs b (h - 127).toNat) l := by
      intro l
      unfold RdW
      rw [htp, if_pos h128]
      exact ⟨fun ⟨t, h1, h2⟩ => by rw [Option.some.injEq] at h1; subst h1; exact h2, fun h => ⟨_, rfl, h⟩⟩
    rw [if_pos h128] at hhn
    obtain ⟨nN, hnN⟩ : ∃ nN : Nat, n = nN := ⟨n.toNat, by omega⟩
    obtain ⟨kN, hkN⟩ : ∃ kN : Nat, h - 127 = kN := ⟨(h - 127).toNat, by omega⟩
    rw [hkN, Int.toNat_natCast] at hRW
    have hk2 : kN ≤ 2 * nN ∧ 2 * nN ≤ kN + 1 ∧ kN ≤ 128 ∧ nN ≤ 64 := by omega
    have hends := fun (c : Nat) => refwhole_con (nibs b kN) c (nibs_u8 hby _)
    rw [nibs_len] at hends
    have hnl : ∀ k, (nibs b k).length = k := nibs_len b
    have hns : ∀ k, nibs b (k + 1) = nibs b k ++ [nibW b k] := nibs_succ b
    have hnb : ∀ i, nibW b i = if i % 2 = 0 then b.getD (1 + i / 2) 0 / 16 else b.getD (1 + i / 2) 0 % 16 := fun i => rfl
    have hbb := byte_bit hby
    unfold isByte at hbb
    refine con_gen (con_picks (con_drop (con_walk hmix fn7 ?_)))
    intro vb vc vw vtoN vofN vaddN vsubN vmaxI vminI vcutN vgd vst vln vrep vsub vonto vsplice vstrEq vbyteV vnotB veqB hw qb qc qw qtoN qofN qaddN qsubN qmaxI qminI qcutN qgd qst qln qrep qsub qonto qsplice qstrEq qbyteV qnotB qeqB
    have hm := hmix; generalize Try.prog = P at *
    generalize shortW b = SH at *
    generalize RdW 257 b = RW at *
    generalize nibW b = NB at *
    have hnib0 : nibs b 0 = [] := rfl
    generalize nibs b = NBS at *
    generalize OkE (NBS kN) = OK at *
    generalize hbl : b.length = bl at *
    have hgd : ∀ i, vgd b i = b.getD i 0 := fun i => by rw [qgd]
    have hlnb : vln b = bl := by simp only [qln, hbl]
    have hlnq : ∀ l, vln l = l.length := fun l => by rw [qln]
    have haddq : ∀ a b, vaddN a b = a + b := fun a b => by rw [qaddN]
    obtain ⟨bI, hbI⟩ : ∃ bI : Int, bI = bl := ⟨_, rfl⟩
    have ebl : vofN bl = bI := by rw [qofN, hbI]
    have e0 : vc .eql bI 0 = false := by rw [qc, eql_false]; omega
    have ewh : vw .i64 h = h := by rw [qw]; exact wrap_i64 (by omega) (by omega)
    have e128 : vc .geq h 128 = true := by rw [qc, geq_true]; exact h128
    have e128' : vc .lss h 128 = false := by rw [qc, lss_false]; omega
    have es1 : vb .sub .i64 h 127 = h - 127 := by rw [qb, sub_i64 (by omega) (by omega)]
    have es2 : vb .add .i64 (h - 127) 1 = h - 126 := by rw [qb, add_i64 (by omega) (by omega)]; omega
    have eq1 : vb .quo .i64 (h - 126) 2 = n := by rw [qb, quo_i64 (by omega) (by omega) (by omega), hhn]
    have ea1 : vb .add .i64 1 n = 1 + n := by rw [qb, add_i64 (by omega) (by omega)]
    have eah : vb .add .i64 1 h = 1 + h := by rw [qb, add_i64 (by omega) (by omega)]
    obtain ⟨h126, hh126⟩ : ∃ x, x = h - 126 := ⟨_, rfl⟩
    rw [← hh126] at es2 eq1
    obtain ⟨h127, hh127⟩ : ∃ x, x = h - 127 := ⟨_, rfl⟩
    rw [← hh127] at es1 es2
    obtain ⟨n1, hn1⟩ : ∃ x, x = 1 + n := ⟨_, rfl⟩
    rw [← hn1] at ea1 ⊢
    cbv
    rw [ebl, e0]
    cbv
    rw [haddq, hlnb, hgd, ← hh0, ewh, e128]
    refine ⟨⟨by omega, by omega⟩, ⟨by omega⟩, ⟨by omega⟩, ?_⟩
    cbv
    rw [es1, es2, eq1, ea1, ebl]
    generalize hz1 : vc .lss bI n1 = z1
    cases z1
    rotate_left
    · rw [qc, lss_true] at hz1
      cbv
      exact ⟨[0], .tup [.val (.slice none 0 0), .lit .i64 0, .lit .i64 10], [.ro .u8 b], rfl, rfl, rfl, rfl, ⟨rfl, trivial⟩, rfl, .inl ⟨hsh.2 (.inr (by ((try simp only [nc] at *); omega))), rfl, rfl⟩⟩
    rw [qc, lss_false] at hz1
    have hnsh : ¬ SH := fun h => by rcases hsh.1 h with h | h <;> ((try simp only [nc] at *); omega)
    cbv
    rw [e128]
    cbv
    refine WX.cv (Cv.nilT 6 5 .u8 (by rfl) (by cbv; try exact ⟨fun _ => rfl, trivial⟩) (Cv.here ?_))
    cbv
    refine loop_fam (α := Int × Nat × Nat × List Int) [31, 32, 33, 34, 35, 36, 37, 38, 39, 40, 41, 42, 43, 44, 45, 46, 47, 48, 49, 50, 51, 52] [1] (fun (k, m, c, L) => [(8, .int .i64 k), (6, .slice 1 .z 1 m c)]) (fun (k, m, c, L) => [(1, .buf 5 .u8 L c)])
      (fun (k, m, c, L) => ∃ i : Nat, k = i ∧ i ≤ kN ∧ L = NBS i ∧ m = i ∧ m ≤ c) (fun (k, _) => kN - k.toNat) hw hm ?_ ?_
    · refine Cv.genAt [8] [] (Cv.fold [31, 32, 33, 34, 35, 36, 37, 38, 39, 40, 41, 42, 43, 44, 45, 46, 47, 48, 49, 50, 51, 52] 2 [1] (by exact Nat.le_refl _) (by exact Nat.le_of_ble_eq_true rfl) (by rfl) (by cbv) ?_)
      intro js
      refine ⟨(_, _, _, _), ?_, js, rfl⟩
      exact ⟨0, rfl, by omega, hnib0.symm, rfl, Nat.le_refl _⟩
    · rintro ⟨k, m, c, L⟩ js ⟨i, hk, hi, hL, hm2, hmc⟩
      cbv
      rw [es1]
      generalize hz2 : vc .lss k h127 = z2
      cases z2
      rotate_left
      · rw [qc, lss_true] at hz2
        have hlt : i < kN := by ((try simp only [nc] at *); omega)
        obtain ⟨k1, hk1⟩ : ∃ k1 : Int, k1 = ((i + 1 : Nat) : Int) := ⟨_, rfl⟩
        have ek1 : vb .add .i64 k 1 = k1 := by (try simp only [nc] at *); rw [qb, add_i64 (by omega) (by omega)]; omega
        have hmu : ∀ _ : Unit, kN - k1.toNat < kN - k.toNat := fun _ => by ((try simp only [nc] at *); omega)
        obtain ⟨kq, hkq⟩ : ∃ kq : Int, kq = k / 2 := ⟨_, rfl⟩
        have eqq : vb .quo .i64 k 2 = kq := by (try simp only [nc] at *); rw [qb, quo_i64 (by omega) (by omega) (by omega), hkq]
        obtain ⟨kr, hkr⟩ : ∃ kr : Int, kr = k % 2 := ⟨_, rfl⟩
        have eqr : vb .rem .i64 k 2 = kr := by (try simp only [nc] at *); rw [qb, rem_i64 (by omega), hkr]
        obtain ⟨at1, hat1⟩ : ∃ at1 : Int, at1 = 1 + kq := ⟨_, rfl⟩
        have eat : vb .add .i64 1 kq = at1 := by (try simp only [nc] at *); rw [qb, add_i64 (by omega) (by omega), hat1]
        have htat : vtoN at1 = 1 + i / 2 := by simp only [qtoN]; ((try simp only [nc] at *); omega)
        have hinB : 0 ≤ at1 ∧ at1 < (bl : Int) := by ((try simp only [nc] at *); omega)
        have hlt2 : 1 + i / 2 < bl := by ((try simp only [nc] at *); omega)
        obtain ⟨sh1, hsh1⟩ : ∃ x : Int, x = 1 - kr := ⟨_, rfl⟩
        have esh1 : vb .sub .i64 1 kr = sh1 := by (try simp only [nc] at *); rw [qb, sub_i64 (by omega) (by omega), hsh1]
        obtain ⟨sh4, hsh4⟩ : ∃ x : Int, x = 4 * sh1 := ⟨_, rfl⟩
        have esh4 : vb .mul .i64 4 sh1 = sh4 := by (try simp only [nc] at *); rw [qb, mul_i64 (by omega) (by omega), hsh4]
        have hkr01 : kr = 0 ∨ kr = 1 := by ((try simp only [nc] at *); omega)
        have esw : vw .u64 sh4 = sh4 := by (try simp only [nc] at *); rw [qw]; exact wrap_u64 (by omega) (by omega)
        have hsh0 : 0 ≤ sh4 := by ((try simp only [nc] at *); omega)
        have hb1 := hbb (1 + i / 2)
        have hs1 := hns i
        rw [← hL] at hs1
        have hnbi := hnb i
        generalize hxx : b.getD (1 + i / 2) 0 = x at *
        obtain ⟨y, hy⟩ : ∃ y, y = NB i := ⟨_, rfl⟩
        rw [← hy] at hs1 hnbi
        have e1 : vb .and .u8 (vb .shr .u8 x sh4) 15 = y := by
          have hband : ∀ z : Int, 0 ≤ z → z < 256 → vb .and .u8 z 15 = z % 16 := fun z h0 h1 => by
            rw [qb, show (15 : Int) = 2 ^ 4 - 1 by decide, and_mask rfl 4 (by decide) h0 (by show z < 256; exact h1)]; rfl
          rcases hkr01 with h | h
          · have h4 : sh4 = 4 := by omega
            have hi2 : i % 2 = 0 := by ((try simp only [nc] at *); omega)
            rw [if_pos hi2] at hnbi
            have e4 : vb .shr .u8 x 4 = x / 16 := by rw [qb, shr_eq (by decide)]; rfl
            rw [h4, e4, hband _ (by omega) (by omega), hnbi]
            omega
          · have h4 : sh4 = 0 := by omega
            have hi2 : ¬ i % 2 = 0 := by ((try simp only [nc] at *); omega)
            rw [if_neg hi2] at hnbi
            have e4 : vb .shr .u8 x 0 = x := by rw [qb, shr_eq (by decide)]; simp
            rw [h4, e4, hband _ (by omega) (by omega), hnbi]
        obtain ⟨L2, hL2⟩ : ∃ L2, L2 = NBS (i + 1) := ⟨_, rfl⟩
        rw [← hL2] at hs1
        have hlL : L.length = m := by rw [hL, hm2]; exact hnl _
        have hont : vonto L m (vsub [y] 0 1) = L2 := by
          rw [hs1, qonto, qsub, ← hlL]; simp
        have hln2 : vln [y] = 1 := by rw [qln]; rfl
        have ha2 := haddq m 1
        obtain ⟨m2, hm2'⟩ : ∃ m2, m2 = m + 1 := ⟨_, rfl⟩
        rw [← hm2'] at ha2
        have hm2b : m2 * 1 ≤ 140737488355328 := by omega
        cbv
        rw [eqq, eat, htat, haddq, hgd, hlnb, hxx, eqr, esh1, esh4, esw, e1]
        refine ⟨⟨hinB⟩, ⟨by omega⟩, ⟨by omega⟩, ⟨hsh0⟩, ⟨by rw [haddq, hln2]; exact Nat.le_refl _⟩, ⟨by rw [hlnq, hlL]; exact Nat.le_refl _⟩, ⟨Nat.le_refl _⟩, ⟨by rw [ha2]; exact hm2b⟩, ?_⟩
        intro c2 js2 hle
        have hle' : m2 ≤ c2 := by have := hle.out; simp only at this; rw [ha2] at this; exact this
        cbv
        rw [hont, ha2, ek1]
        refine Cv.fold [31, 32, 33, 34, 35, 36, 37, 38, 39, 40, 41, 42, 43, 44, 45, 46, 47, 48, 49, 50, 51, 52] 2 [1] (by exact Nat.le_refl _) (by exact Nat.le_of_ble_eq_true rfl) (by rfl) (by cbv) ?_
        intro js
        refine ⟨(_, _, _, _), ?_, js, rfl⟩
        exact ⟨⟨i + 1, hk1, hlt, hL2, by omega, hle'⟩, hmu ()⟩
      · rw [qc, lss_false] at hz2
        have hin : i = kN := by ((try simp only [nc] at *); omega)
        subst hin
        have hec := hends c
        rw [← hL, ← hm2] at hec
        have hnt : vnotB true = false := by rw [qnotB]; rfl
        have hnf : vnotB false = true := by rw [qnotB]; rfl
        cbv
        refine call_con (ρ := [(1, .z)]) hec ⟨by rfl, by rfl, by rfl, by cbv; exact ⟨view_refl _, trivial⟩⟩ ?_
        rintro v H R js3 ⟨rfl, ⟨l, c3, hok, rfl, rfl⟩ | ⟨hno, ⟨rfl, rfl⟩ | ⟨l3, c3, n3, rfl, rfl⟩⟩⟩
        · obtain ⟨ll, hll⟩ : ∃ ll, ll = l.length := ⟨_, rfl⟩
          rw [← hll]
          cbv
          rw [hnt]
          cbv
          subst hll
          exact ⟨[0, 2], .tup [.slice 1 .z 1 l.length c3, .int .i64 n1, .lit .i64 0], [.ro .u8 b, .buf 5 .u8 l c3], rfl, rfl, rfl, rfl, ⟨rfl, rfl, trivial⟩, rfl, .inr (.inr ⟨hnsh, l, c3, (hRW l).2 hok, rfl, rfl⟩)⟩
        · cbv
          rw [hnf]
          cbv
          exact ⟨[0], .tup [.val (.slice none 0 0), .lit .i64 0, .lit .i64 11], [.ro .u8 b], rfl, rfl, rfl, rfl, ⟨rfl, trivial⟩, rfl, .inr (.inl ⟨hnsh, fun l h => hno l ((hRW l).1 h), rfl, rfl⟩)⟩
        · cbv
          rw [hnf]
          cbv
          exact ⟨[0], .tup [.val (.slice none 0 0), .lit .i64 0, .lit .i64 11], [.ro .u8 b], rfl, rfl, rfl, rfl, ⟨rfl, trivial⟩, rfl, .inr (.inl ⟨hnsh, fun l h => hno l ((hRW l).1 h), rfl, rfl⟩)⟩

  · have hRW : ∀ l, RdW 257 b l ↔ ∃ t, bst 257 ((b.drop 1).take h.toNat) = some t ∧ OkE t l := by
      intro l
      unfold RdW
      rw [htp, if_neg h128]
    rw [if_neg h128] at hhn
    obtain ⟨nN, hnN⟩ : ∃ nN : Nat, n = nN := ⟨n.toNat, by omega⟩
    have hht : h.toNat = nN := by omega
    rw [hht] at hRW
    by_cases hs1 : (b.length : Int) - 1 < n
    · have hs := hsh.2 (.inr hs1)
      refine con_gen (con_picks (con_drop (con_walk hmix fn7 ?_)))
      intro vb vc vw vtoN vofN vaddN vsubN vmaxI vminI vcutN vgd vst vln vrep vsub vonto vsplice vstrEq vbyteV vnotB veqB hw qb qc qw qtoN qofN qaddN qsubN qmaxI qminI qcutN qgd qst qln qrep qsub qonto qsplice qstrEq qbyteV qnotB qeqB
      have hm := hmix; generalize Try.prog = P at *
      generalize shortW b = SH at *
      generalize RdW 257 b = RW at *
      generalize hbl : b.length = bl at *
      have hgd : ∀ i, vgd b i = b.getD i 0 := fun i => by rw [qgd]
      have hlnb : vln b = bl := by simp only [qln, hbl]
      have haddq : ∀ a b, vaddN a b = a + b := fun a b => by rw [qaddN]
      obtain ⟨bI, hbI⟩ : ∃ bI : Int, bI = bl := ⟨_, rfl⟩
      have ebl : vofN bl = bI := by rw [qofN, hbI]
      have e0 : vc .eql bI 0 = false := by rw [qc, eql_false]; omega
      have ewh : vw .i64 h = h := by rw [qw]; exact wrap_i64 (by omega) (by omega)
      have e128 : vc .geq h 128 = false := by rw [qc, geq_false]; exact h128
      have eah : vb .add .i64 1 h = 1 + h := by rw [qb, add_i64 (by omega) (by omega)]
      obtain ⟨h1, hh1⟩ : ∃ x, x = 1 + h := ⟨_, rfl⟩
      rw [← hh1] at eah
      have hz1 : vc .lss bI h1 = true := by rw [qc, lss_true]; omega
      cbv
      rw [ebl, e0]
      cbv
      rw [haddq, hlnb, hgd, ← hh0, ewh, e128]
      refine ⟨⟨by omega, by omega⟩, ⟨by omega⟩, ⟨by omega⟩, ?_⟩
      cbv
      rw [eah, ebl, hz1]
      cbv
      exact ⟨[0], .tup [.val (.slice none 0 0), .lit .i64 0, .lit .i64 10], [.ro .u8 b], rfl, rfl, rfl, rfl, ⟨rfl, trivial⟩, rfl, .inl ⟨hs, rfl, rfl⟩⟩
    have hnsh0 : ¬ shortW b := fun h => by rcases hsh.1 h with h | h <;> omega
    have hml : ((b.drop 1).take nN).length = nN := by rw [List.length_take, List.length_drop]; omega
    have hmb : ∀ x ∈ (b.drop 1).take nN, isByte x := fun x hx => hby x (List.mem_of_mem_drop (List.mem_of_mem_take hx))
    have hvm := view_mid b nN cap (by omega) hcap
    have hbs := fun c h => refstates_con ((b.drop 1).take nN) c hmb (by omega) h
    rw [hml] at hbs
    have hu8 := fun L => @bst_u8 257 ((b.drop 1).take nN) L
    have hends := fun (L : List Int) (c : Nat) (hL : bst 257 ((b.drop 1).take nN) = some L) => refwhole_con L c (bst_u8 hL).1
    refine con_gen (con_picks (con_drop (con_walk hmix fn7 ?_)))
    intro vb vc vw vtoN vofN vaddN vsubN vmaxI vminI vcutN vgd vst vln vrep vsub vonto vsplice vstrEq vbyteV vnotB veqB hw qb qc qw qtoN qofN qaddN qsubN qmaxI qminI qcutN qgd qst qln qrep qsub qonto qsplice qstrEq qbyteV qnotB qeqB
    have hm := hmix; generalize Try.prog = P at *
    generalize shortW b = SH at *
    generalize RdW 257 b = RW at *
    generalize bst 257 ((b.drop 1).take nN) = RES at *
    generalize (b.drop 1).take nN = b1 at *
    generalize hOE : OkE = OE at *
    generalize hbl : b.length = bl at *
    have hgd : ∀ i, vgd b i = b.getD i 0 := fun i => by rw [qgd]
    have hlnb : vln b = bl := by simp only [qln, hbl]
    have haddq : ∀ a b, vaddN a b = a + b := fun a b => by rw [qaddN]
    obtain ⟨bI, hbI⟩ : ∃ bI : Int, bI = bl := ⟨_, rfl⟩
    have ebl : vofN bl = bI := by rw [qofN, hbI]
    have e0 : vc .eql bI 0 = false := by rw [qc, eql_false]; omega
    have ewh : vw .i64 h = h := by rw [qw]; exact wrap_i64 (by omega) (by omega)
    have e128 : vc .geq h 128 = false := by rw [qc, geq_false]; exact h128
    have e128' : vc .lss h 128 = true := by rw [qc, lss_true]; omega
    have ea1 : vb .add .i64 1 h = 1 + n := by rw [qb, add_i64 (by omega) (by omega), hhn]
    obtain ⟨n1, hn1⟩ : ∃ x, x = 1 + n := ⟨_, rfl⟩
    rw [← hn1] at ea1 ⊢
    have hz1 : vc .lss bI n1 = false := by rw [qc, lss_false]; omega
    have htn1 : vtoN n1 = 1 + nN := by simp only [qtoN, hn1, hnN]; ((try simp only [nc] at *); omega)
    have hcut : vcutN 0 1 cap = if cap = 1 then 0 else 0 + 1 := by rw [qcutN]
    have hsb1 : vsubN (1 + nN) 1 = nN := by rw [qsubN]; simp only; omega
    have hcp : nN ≤ vsubN cap 1 := by rw [qsubN]; simp only; omega
    rw [← hcut] at hvm
    obtain ⟨o1, ho1⟩ : ∃ o1, o1 = vcutN 0 1 cap := ⟨_, rfl⟩
    rw [← ho1] at hvm
    obtain ⟨c1, hc1⟩ : ∃ c1, c1 = vsubN cap 1 := ⟨_, rfl⟩
    rw [← hc1] at hcp
    have hbs1 := hbs c1 hcp
    have hnt : vnotB true = false := by rw [qnotB]; rfl
    have hnf : vnotB false = true := by rw [qnotB]; rfl
    cbv
    rw [ebl, e0]
    cbv
    rw [haddq, hlnb, hgd, ← hh0, ewh, e128]
    refine ⟨⟨by omega, by omega⟩, ⟨by omega⟩, ⟨by omega⟩, ?_⟩
    cbv
    rw [ea1, ebl, hz1]
    cbv
    rw [e128]
    cbv
    rw [htn1, ← ho1, hsb1, ← hc1]
    refine ⟨⟨by ((try simp only [nc] at *); omega), by ((try simp only [nc] at *); omega)⟩, ⟨by omega, by ((try simp only [nc] at *); omega)⟩, ?_⟩
    refine call_con (ρ := [(0, .n o1)]) hbs1 ⟨by rfl, by rfl, by rfl, by cbv; exact ⟨hvm, trivial⟩⟩ ?_
    rintro v H R js ⟨rfl, ⟨hres, rfl, rfl⟩ | ⟨L, c2, hres, rfl, rfl⟩⟩
    · cbv
      rw [hnf]
      cbv
      have hno : ∀ l, ¬ RW l := fun l h => by
        obtain ⟨t, h1, _⟩ := (hRW l).1 h
        rw [hres] at h1
        cases h1
      exact ⟨[0], .tup [.val (.slice none 0 0), .lit .i64 0, .lit .i64 11], [.ro .u8 b], rfl, rfl, rfl, rfl, ⟨rfl, trivial⟩, rfl, .inr (.inl ⟨hnsh0, hno, rfl, rfl⟩)⟩
    · have hec := hends L c2 hres
      have hRW' : ∀ l, RW l ↔ OE L l := fun l => by
        rw [hRW, hres]
        exact ⟨fun ⟨t, h1, h2⟩ => by rw [Option.some.injEq] at h1; subst h1; exact h2, fun h => ⟨_, rfl, h⟩⟩
      obtain ⟨Ln, hLn⟩ : ∃ Ln, Ln = L.length := ⟨_, rfl⟩
      rw [← hLn] at hec ⊢
      generalize OE L = OK at *
      cbv
      refine call_con (ρ := [(1, .z)]) hec ⟨by rfl, by rfl, by rfl, by cbv; exact ⟨view_refl _, trivial⟩⟩ ?_
      rintro v H R js3 ⟨rfl, ⟨l, c3, hok, rfl, rfl⟩ | ⟨hno, ⟨rfl, rfl⟩ | ⟨l3, c3, n3, rfl, rfl⟩⟩⟩
      · obtain ⟨ll, hll⟩ : ∃ ll, ll = l.length := ⟨_, rfl⟩
        rw [← hll]
        cbv
        rw [hnt]
        cbv
        subst hll
        exact ⟨[0, 2], .tup [.slice 1 .z 1 l.length c3, .int .i64 n1, .lit .i64 0], [.ro .u8 b, .buf 5 .u8 l c3], rfl, rfl, rfl, rfl, ⟨rfl, rfl, trivial⟩, rfl, .inr (.inr ⟨hnsh0, l, c3, (hRW' l).2 hok, rfl, rfl⟩)⟩
      · cbv
        rw [hnf]
        cbv
        exact ⟨[0], .tup [.val (.slice none 0 0), .lit .i64 0, .lit .i64 11], [.ro .u8 b], rfl, rfl, rfl, rfl, ⟨rfl, trivial⟩, rfl, .inr (.inl ⟨hnsh0, fun l h => hno l ((hRW' l).1 h), rfl, rfl⟩)⟩
      · cbv
        rw [hnf]
        cbv
        exact ⟨[0], .tup [.val (.slice none 0 0), .lit .i64 0, .lit .i64 11], [.ro .u8 b], rfl, rfl, rfl, rfl, ⟨rfl, trivial⟩, rfl, .inr (.inl ⟨hnsh0, fun l h => hno l ((hRW' l).1 h), rfl, rfl⟩)⟩

end Go.Proofs.Ytaaklikigccdfaa
namespace Go.Proofs.Ytaaklikigccdfaa
open Go Go.Sx Go.Proofs
/-! A step more changes nothing that counts. -/
theorem byS_succ {A B C : Nat → Int} {b : List Int} : ∀ (F : Nat) (a o p : Int) (l L : List Int), byS A B C b F a o p l = some L → byS A B C b (F + 1) a o p l = some L
  | 0, a, o, p, l, L, h => by simp [byS] at h
  | F + 1, a, o, p, l, L, h => by
    rw [byS] at h ⊢
    split
    · rename_i hc
      rw [if_pos hc] at h
      exact h
    · rename_i hc
      rw [if_neg hc] at h
      exact byS_succ F _ _ _ _ L h
theorem byS_last {A B C : Nat → Int} {b : List Int} : ∀ (F : Nat) (a o p : Int) (l L : List Int), byS A B C b (F + 1) a o p l = some L → byS A B C b F a o p l = none → L.length = l.length + F + 2
  | 0, a, o, p, l, L, h, h0 => by
    simp only [byS] at h
    split at h
    · rw [Option.some.injEq] at h
      subst h
      simp
    · cases h
  | F + 1, a, o, p, l, L, h, h0 => by
    rw [byS] at h h0
    split at h
    · rename_i hc
      rw [if_pos hc] at h0
      cases h0
    · rename_i hc
      rw [if_neg hc] at h0
      have := byS_last F _ _ _ _ L h h0
      rw [List.length_append, List.length_singleton] at this
      omega
theorem bst_succ {F : Nat} {b L : List Int} (h : bst F b = some L) : bst (F + 1) b = some L := by
  unfold bst at h ⊢
  generalize hRR : readR b 6 11 = r at h ⊢
  obtain ⟨cs, log, used, e⟩ := r
  simp only at h ⊢
  split at h
  · cases h
  rename_i h1
  split at h
  · cases h
  rename_i h2
  split at h
  · cases h
  rename_i h3
  split at h
  · cases h
  rename_i h4
  rw [if_neg h1, if_neg h2, if_neg h3, if_neg h4]
  exact byS_succ F _ _ _ _ L h
theorem bst_last {F : Nat} {b L : List Int} (h : bst (F + 1) b = some L) (h0 : bst F b = none) : L.length = F + 2 := by
  unfold bst at h h0
  generalize hRR : readR b 6 11 = r at h h0
  obtain ⟨cs, log, used, e⟩ := r
  simp only at h h0
  split at h
  · cases h
  rename_i h1
  split at h
  · cases h
  rename_i h2
  split at h
  · cases h
  rename_i h3
  split at h
  · cases h
  rename_i h4
  rw [if_neg h1, if_neg h2, if_neg h3, if_neg h4] at h0
  have := byS_last F _ _ _ _ L h h0
  simpa using this
theorem RdW_iff (b l : List Int) : RdW 256 b l ↔ RdW 257 b l := by
  unfold RdW toldP
  by_cases h : 128 ≤ b.getD 0 0
  · simp only [if_pos h]
  · simp only [if_neg h]
    constructor
    · rintro ⟨t, ht, ho⟩
      exact ⟨t, bst_succ ht, ho⟩
    · rintro ⟨t, ht, ho⟩
      cases hb : bst 256 ((b.drop 1).take (b.getD 0 0).toNat) with
      | none =>
        have := bst_last ht hb
        have := ho.1
        omega
      | some L =>
        have := bst_succ hb
        rw [ht] at this
        rw [Option.some.injEq] at this
        exact ⟨L, rfl, by rw [← this]; exact ho⟩
theorem RdW.uniq {F : Nat} {b l l' : List Int} (h : RdW F b l) (h' : RdW F b l') : l = l' := by
  obtain ⟨t, h1, h2⟩ := h
  obtain ⟨t', h3, h4⟩ := h'
  rw [h1, Option.some.injEq] at h3
  subst h3
  exact h2.uniq h4
end Go.Proofs.Ytaaklikigccdfaa
