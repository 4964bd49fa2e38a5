import Derived.Test.YtaaklikigccdfaaA2
import Derived.Test.YtaaklikigccdfaaED
set_option linter.unusedVariables false
set_option linter.unusedSimpArgs false
namespace Go.Proofs.Ytaaklikigccdfaa
open Go Go.Sx Go.Proofs
/-! weights.Pack. -/
set_option maxRecDepth 10000
set_option maxHeartbeats 40000000
end Go.Proofs.Ytaaklikigccdfaa
namespace Go.Proofs.Ytaaklikigccdfaa
open Go Go.Sx Go.Proofs
/-! Plain: what is unpacked. -/
theorem rd_app (b : List Int) (p : Int) (a : Nat) : ∀ c, rd b p (a + c) = rd b p a * 2 ^ c + rd b (p - a) c
  | 0 => by simp [rd]
  | c + 1 => by
    rw [← Nat.add_assoc]
    simp only [rd]
    rw [rd_app b p a c, p2s, show p - 1 - ((a + c : Nat) : Int) = p - a - 1 - c by push_cast; omega, ← Int.mul_assoc, Int.add_mul]
    omega
theorem rd_mod (b : List Int) (p : Int) (a c : Nat) : rd b p (a + c) % 2 ^ c = rd b (p - a) c := by
  have h := rd_bound b (p - a) c
  rw [rd_app, Int.add_comm, Int.add_mul_emod_self_right, Int.emod_eq_of_lt h.1 h.2]
theorem rd_div (b : List Int) (p : Int) (a c : Nat) : rd b p (a + c) / 2 ^ c = rd b p a := by
  have h := rd_bound b (p - a) c
  have hp := p2 c
  rw [rd_app, Int.add_comm, Int.add_mul_ediv_right _ _ (by omega), Int.ediv_eq_zero_of_lt h.1 h.2]
  omega
open Classical in
/-- The symbol with whose word t begins. -/
noncomputable def dc (l : List Int) (t : Int) : Nat := if h : ∃ c, Dc l t c then h.choose else 0
theorem dc_of {l : List Int} (h : ∀ c ∈ l, isU8 c) {t : Int} {c : Nat} (hc : Dc l t c) : dc l t = c := by
  have he : ∃ c, Dc l t c := ⟨c, hc⟩
  unfold dc
  rw [dif_pos he]
  exact Dc.uniq h he.choose_spec hc
theorem dc_spec {l : List Int} {M : Nat} (h : ∀ c ∈ l, isU8 c) (hW : Wt l M) {t : Int} (h0 : 0 ≤ t) (ht : t < 2 ^ M) : Dc l t (dc l t) := by
  obtain ⟨c, hc⟩ := Dc.ex h hW h0 ht
  rw [dc_of h hc]
  exact hc
theorem Dc.sy {l : List Int} {t : Int} {c : Nat} (h : Dc l t c) : Sy l c := ⟨h.1, h.2.1⟩
/-- Where the reader stands behind j symbols. -/
noncomputable def pos (l : List Int) (M : Nat) (b : List Int) (p : Int) : Nat → Int
  | 0 => p
  | j + 1 => pos l M b p j - nA l M (dc l (rd b (pos l M b p j) M))
noncomputable def sym (l : List Int) (M : Nat) (b : List Int) (p : Int) (j : Nat) : Nat := dc l (rd b (pos l M b p j) M)
noncomputable def outs (l : List Int) (M : Nat) (b : List Int) (p : Int) (j : Nat) : List Int := (List.range j).map fun i => (sym l M b p i : Int)
theorem pos_step {l : List Int} {M : Nat} (h : ∀ c ∈ l, isU8 c) (hW : Wt l M) (b : List Int) (p : Int) (j : Nat) : pos l M b p (j + 1) = pos l M b p j - nA l M (sym l M b p j) ∧ 1 ≤ nA l M (sym l M b p j) ∧ nA l M (sym l M b p j) ≤ M ∧
    Dc l (rd b (pos l M b p j) M) (sym l M b p j) ∧ Sy l (sym l M b p j) := by
  have hr := rd_bound b (pos l M b p j) M
  have hd : Dc l (rd b (pos l M b p j) M) (sym l M b p j) := dc_spec h hW hr.1 hr.2
  have hn := nA_range hW (sym l M b p j)
  refine ⟨rfl, ?_, hn.2.1, hd, hd.sy⟩
  have : ¬ nA l M (sym l M b p j) = 0 := fun e => hn.2.2.1 e hd.sy
  omega
theorem pos_down {l : List Int} {M : Nat} (h : ∀ c ∈ l, isU8 c) (hW : Wt l M) (b : List Int) (p : Int) {i : Nat} : ∀ {j : Nat}, i ≤ j → pos l M b p j + (j : Int) ≤ pos l M b p i + i
  | 0, hij => by obtain rfl : i = 0 := by omega
                 exact Int.le_refl _
  | j + 1, hij => by
    by_cases e : i = j + 1
    · subst e; exact Int.le_refl _
    · have h1 := pos_down h hW b p (i := i) (j := j) (by omega)
      have h2 := pos_step h hW b p j
      push_cast
      omega
theorem outs_len (l : List Int) (M : Nat) (b : List Int) (p : Int) (j : Nat) : (outs l M b p j).length = j := by simp [outs]
theorem outs_succ (l : List Int) (M : Nat) (b : List Int) (p : Int) (j : Nat) : outs l M b p (j + 1) = outs l M b p j ++ [(sym l M b p j : Int)] := by simp [outs, List.range_succ]
/-- The table is filled up to G. -/
def TI (l : List Int) (M : Nat) (G : Int) (A B : Nat → Int) : Prop := ∀ t : Nat, (t : Int) < G → A t = dc l t ∧ B t = nA l M (dc l t)
theorem TI.zero (l : List Int) (M : Nat) (A B : Nat → Int) : TI l M 0 A B := fun t ht => by omega
theorem TI.put {l : List Int} {M : Nat} (h : ∀ c ∈ l, isU8 c) {A B : Nat → Int} {L i k t : Nat} (hn : i < l.length) (hL : 1 ≤ L) (hi : l.getD i 0 = L) (hk : (k : Int) < 2 ^ (L - 1)) (ht : (t : Int) = gs l L i + k)
    (hT : TI l M (gs l L i + k) A B) : TI l M (gs l L i + ((k + 1 : Nat) : Int)) (updI A t i) (updI B t ((M : Int) + 1 - L)) := by
  have hw : wn l i = L := by unfold wn; omega
  have hD : Dc l t i := ⟨hn, by omega, by rw [hw]; omega, by rw [hw]; omega⟩
  have hsy : Sy l i := hD.sy
  intro u hu
  rw [updI_eq, updI_eq]
  by_cases e : u = t
  · subst e
    rw [if_pos rfl, if_pos rfl, dc_of h hD]
    refine ⟨rfl, ?_⟩
    unfold nA
    rw [if_pos hsy, hw]
  · rw [if_neg e, if_neg e]
    exact hT u (by push_cast at hu; omega)
end Go.Proofs.Ytaaklikigccdfaa
namespace Go.Proofs.Ytaaklikigccdfaa
open Go Go.Sx Go.Proofs
/-! weights.Unpack. -/
set_option maxRecDepth 10000
set_option maxHeartbeats 40000000
theorem unpack_ok (l b : List Int) (cap cap2 : Nat) (M : Nat) (N : Int) (hl : ∀ c ∈ l, isU8 c) (hb : ∀ c ∈ b, isByte c) (hW : Wt l M) (hN : 0 ≤ N ∧ N ≤ 131072) (hbl : b.length ≤ 140737488355328) (hlast : b.getLastD 0 ≠ 0) (p0 : Int)
    (hp0 : p0 = 8 * (b.length - 1) + (len8 (b.getLastD 0) - 1)) (hp1 : 0 ≤ p0 ∧ p0 ≤ 8 * b.length) :
    Con Try.prog 54 [.slice 0 .z 1 l.length cap, .slice 1 .z 1 b.length cap2, .int .i64 N] [.ro .u8 l, .ro .u8 b]
      (fun v H R => R = [] ∧ ∃ L c', H = [.ro .u8 l, .ro .u8 b, .free, .free, .free, .free, .free, .free, .free, .free, .buf 5 .u8 L c'] ∧
        ((v = .tup [.val (.slice none 0 0), .int .i64 11] ∧ pos l M b p0 N.toNat ≠ 0) ∨
         (v = .tup [.slice 10 .z 1 L.length c', .int .i64 0] ∧ L = outs l M b p0 N.toNat ∧ pos l M b p0 N.toNat = 0))) := by
  have hsz := size_con l cap M hl (by have := hW.2.1; omega) (.inl ⟨M, hW, rfl⟩)
  have hnew := new_good b cap2 hlast hb hbl
  rw [← hp0] at hnew
  have hbits := fun cap p n hp => bits_con b cap p n hb hp (by omega)
  have hleft := fun cap p => left_con b b.length cap p
  have hps := fun j => pos_step hl hW b p0 j
  have hpd := fun i j h => @pos_down l M hl hW b p0 i j h
  have hol := outs_len l M b p0
  have hos := outs_succ l M b p0
  have ho0 : outs l M b p0 0 = [] := rfl
  have hpos0 : pos l M b p0 0 = p0 := rfl
  have hrb := fun p n => rd_bound b p n
  have hra := fun p a c => rd_app b p a c
  have hrm := fun p a c => rd_mod b p a c
  have hr0 : ∀ p, rd b p 0 = 0 := fun _ => rfl
  have hti0 := fun A B => TI.zero l M A B
  have htip := fun A B L i k t => @TI.put l M hl A B L i k t
  have htid : ∀ G A B, TI l M G A B → ∀ t : Nat, (t : Int) < G → A t = dc l t ∧ B t = nA l M (dc l t) := fun G A B h => h
  have hfl : ∀ p : Int, -1099511627776 ≤ p → floorP p = p := fun p h => by unfold floorP; rw [if_neg (by omega)]
  have hcl : ∀ n : Int, 0 ≤ n → n ≤ 11 → clampN n = n.toNat := fun n h1 h2 => by unfold clampN; rw [if_neg (by omega), if_neg (by omega)]
  have hsymd : ∀ j, sym l M b p0 j = dc l (rd b (pos l M b p0 j) M) := fun _ => rfl
  have hdl : ∀ j, sym l M b p0 j < l.length := fun j => (hps j).2.2.2.1.1
  refine con_gen (con_hide [2, 3, 4, 5, 6, 7, 8, 9] (con_cut 11 (by simp) (con_drop (con_walk hmix fn54 ?_))))
  intro vb vc vw vtoN vofN vaddN vsubN vmaxI vminI vcutN vgd vst vln vrep vsub vonto vsplice vstrEq vbyteV vnotB veqB hw qb qc qw qtoN qofN qaddN qsubN qmaxI qminI qcutN qgd qst qln qrep qsub qonto qsplice qstrEq qbyteV qnotB qeqB
  have f16 := fn51
  have f33 := fn80
  have hm := hmix; generalize Try.prog = P at *
  have hM1 := hW.pos
  have hM11 := hW.2.2.2.2.2.2
  have hn2 := hW.1
  have hn256 := hW.2.1
  have hgs0 := gs_one l hl
  have hgss := gs_step l
  have hgsn := fun L hL => @gs_next l L hL
  have hgsr := fun L i h1 h2 h3 => @gs_range l M hW L i h1 h2 h3
  have hgd := fun L i h1 h2 => @gs_dvd l M hW L h1 h2 i
  have hgf : gs l (M + 2) 0 = 2 ^ M := by rw [gs_next l (by omega), gs_none hW _ (by omega)]
  have hge := getD_u8 hl
  clear hW
  generalize outs l M b p0 = OUT at *
  generalize sym l M b p0 = SYM at *
  generalize pos l M b p0 = POS at *
  generalize dc l = DC at *
  generalize nA l M = NA at *
  generalize TI l M = TIl at *
  generalize Dc l = DCl at *
  generalize Sy l = SY at *
  generalize rd b = RD at *
  generalize clampN = CL at *
  generalize floorP = FL at *
  generalize gs l = GS at *
  obtain ⟨mI, hmI⟩ : ∃ mI : Int, mI = M := ⟨_, rfl⟩
  rw [← hmI] at hsz
  generalize hn : l.length = n at *
  generalize hlb : b.length = lb at *
  have hto : ∀ i : Nat, vtoN (i : Int) = i := fun i => by simp only [qtoN, Int.toNat_natCast]
  have hadd0 : ∀ i, vaddN 0 i = i := fun i => by simp only [qaddN, Nat.zero_add]
  have hvln : vln l = n := by simp only [qln, hn]
  have hvlb : vln b = lb := by simp only [qln, hlb]
  have hvgd : ∀ l i, vgd l i = l.getD i 0 := fun l i => by simp only [qgd]
  have hnf1 : vnotB true = false := by simp only [qnotB]; rfl
  have d1 : vc .eql mI 0 = false := by rw [qc, eql_false]; omega
  have d2 : vc .lss N 0 = false := by rw [qc, lss_false]; omega
  have d3 : vc .gtr N 131072 = false := by rw [qc, gtr_false]; omega
  cbv
  refine call_con (ρ := [(0, .z)]) hsz ⟨by rfl, by rfl, by rfl, by cbv; exact ⟨⟨⟨by omega, fun i _ => by rw [Nat.zero_add]⟩⟩, trivial⟩⟩ ?_
  rintro v H R js ⟨rfl, rfl, rfl⟩
  cbv
  rw [d1]
  cbv
  rw [d2]
  cbv
  rw [d3]
  cbv
  refine call_con (ρ := [(1, .z)]) hnew ⟨by rfl, by rfl, by rfl, by cbv; exact ⟨⟨⟨by omega, fun i _ => by rw [Nat.zero_add]⟩⟩, trivial⟩⟩ ?_
  rintro v H R js ⟨rfl, rfl, cb, rfl⟩
  cbv
  refine inl_walkD hw hm f16 (by rfl) ?_
  cbv
  refine ⟨fun _ => rfl, fun _ => rfl, ?_⟩
  intro js
  refine range_rule (by rfl) (by rfl) (by cbv; exact ⟨fun _ => rfl, trivial⟩) (by cbv; exact ⟨fun _ => rfl, trivial⟩) (by rfl) ?_
  refine inl_walkD hw hm f33 (by rfl) ?_
  cbv
  refine WX.cv (Cv.arrEq 5 (fun m => [.int .u8 0, .int .i64 0]) (by rfl) (by intro i; rfl) (Cv.here ?_))
  obtain ⟨m1, hm1⟩ : ∃ m1 : Int, m1 = mI + 1 := ⟨_, rfl⟩
  have em1 : vb .add .i64 mI 1 = m1 := by (try simp only [nc] at *); rw [qb, add_i64 (by omega) (by omega)]; omega
  have en : vofN n = (n : Int) := by simp only [qofN]
  refine loop_fam (α := Int × Int × (Nat → Int) × (Nat → Int)) [6, 7, 8, 9, 10, 11, 12, 13, 14, 15, 16, 17, 18, 19, 20, 21, 22, 23, 24, 25, 26, 27, 28, 29, 30, 31, 32, 33, 34, 35, 36, 37, 38, 39, 40, 41, 42, 43, 44, 45, 46] [] (fun (k, x, _, _) => [(5, .int .i64 k), (4, .int .i64 x)]) (fun (_, _, A, B) => [(5, .arr 165 2 2048 (fun m => [.int .u8 (A m), .int .i64 (B m)]))])
    (fun (k, x, A, B) => ∃ L : Nat, k = L ∧ 1 ≤ L ∧ L ≤ M + 2 ∧ x = GS L 0 ∧ TIl (GS L 0) A B) (fun (k, _) => M + 2 - k.toNat) hw hm ?_ ?_
  · refine Cv.genAt [5, 4] [] (Cv.fold [6, 7, 8, 9, 10, 11, 12, 13, 14, 15, 16, 17, 18, 19, 20, 21, 22, 23, 24, 25, 26, 27, 28, 29, 30, 31, 32, 33, 34, 35, 36, 37, 38, 39, 40, 41, 42, 43, 44, 45, 46] 10 [] (by exact Nat.le_refl _) (by exact Nat.le_of_ble_eq_true rfl) (by rfl) (by cbv) ?_)
    intro js
    refine ⟨(_, _, _, _), ?_, js, rfl⟩
    exact ⟨1, rfl, by omega, by omega, hgs0.symm, by rw [hgs0]; exact hti0 _ _⟩
  · rintro ⟨k, x, A, B⟩ js ⟨L, hk, hL1, hL2, hx, hT⟩
    cbv
    rw [em1]
    generalize hz1 : vc .leq k m1 = z1
    cases z1
    rotate_left
    · rw [qc, leq_true] at hz1
      have hlt : L ≤ M + 1 := by ((try simp only [nc] at *); omega)
      have hgn := hgsn L hL1
      obtain ⟨k1, hk1⟩ : ∃ k1 : Int, k1 = ((L + 1 : Nat) : Int) := ⟨_, rfl⟩
      have ek : vb .add .i64 k 1 = k1 := by (try simp only [nc] at *); rw [qb, add_i64 (by omega) (by omega)]; omega
      have hmu : ∀ _ : Unit, M + 2 - k1.toNat < M + 2 - k.toNat := fun _ => by ((try simp only [nc] at *); omega)
      cbv
      rw [en]
      refine loop_fam (α := Int × Int × (Nat → Int) × (Nat → Int)) ([6, 7] ++ [17, 18, 19, 20, 21, 22, 23, 24, 25, 26, 27, 28, 29, 30, 31, 32, 33, 34, 35, 36, 37, 38, 39, 40, 41, 42, 43, 44, 45, 46]) [] (fun (q, x, _, _) => [(16, .int .i64 q), (4, .int .i64 x)]) (fun (_, _, A, B) => [(5, .arr 165 2 2048 (fun m => [.int .u8 (A m), .int .i64 (B m)]))])
        (fun (q, x, A, B) => ∃ i : Nat, q = i ∧ i ≤ n ∧ x = GS L i ∧ TIl (GS L i) A B) (fun (q, _) => n - q.toNat) hw hm ?_ ?_
      · refine Cv.genAt [16, 4] [] (Cv.fold ([6, 7] ++ [17, 18, 19, 20, 21, 22, 23, 24, 25, 26, 27, 28, 29, 30, 31, 32, 33, 34, 35, 36, 37, 38, 39, 40, 41, 42, 43, 44, 45, 46]) 10 [] (by exact Nat.le_refl _) (by exact Nat.le_of_ble_eq_true rfl) (by rfl) (by cbv) ?_)
        intro js
        refine ⟨(_, _, _, _), ?_, js, rfl⟩
        exact ⟨0, rfl, by omega, hx, hT⟩
      · rintro ⟨q, x, A, B⟩ js2 ⟨i, hq, hi, hx, hT⟩
        cbv
        generalize hz2 : vc .lss q (n : Int) = z2
        cases z2
        · rw [qc, lss_false] at hz2
          obtain rfl : i = n := by ((try simp only [nc] at *); omega)
          cbv
          rw [ek]
          refine Cv.fold [6, 7, 8, 9, 10, 11, 12, 13, 14, 15, 16, 17, 18, 19, 20, 21, 22, 23, 24, 25, 26, 27, 28, 29, 30, 31, 32, 33, 34, 35, 36, 37, 38, 39, 40, 41, 42, 43, 44, 45, 46] 10 [] (by exact Nat.le_refl _) (by exact Nat.le_of_ble_eq_true rfl) (by rfl) (by cbv) ?_
          intro js
          refine ⟨(_, _, _, _), ?_, js, rfl⟩
          exact ⟨⟨L + 1, hk1, by omega, by omega, by rw [hx, hgn], by rw [hgn]; exact hT⟩, hmu ()⟩
        · rw [qc, lss_true] at hz2
          have hlt2 : i < n := by ((try simp only [nc] at *); omega)
          have hti : vtoN q = i := by rw [hq]; exact hto i
          have hinR : 0 ≤ q ∧ q < (n : Int) := by ((try simp only [nc] at *); omega)
          obtain ⟨q1, hq1⟩ : ∃ q1 : Int, q1 = ((i + 1 : Nat) : Int) := ⟨_, rfl⟩
          have eq1 : vb .add .i64 q 1 = q1 := by (try simp only [nc] at *); rw [qb, add_i64 (by omega) (by omega)]; omega
          have hmu2 : ∀ _ : Unit, n - q1.toNat < n - q.toNat := fun _ => by ((try simp only [nc] at *); omega)
          have hx0 := hge i
          have hgs1 := hgss L i
          have hr1 := hgsr L i hL1 hlt (by omega)
          have hr2 := hgsr L (i + 1) hL1 hlt (by omega)
          have hdv := hgd L i hL1 hlt
          have hp11 : (2 : Int) ^ M ≤ 2 ^ 11 := pow_up hM11
          cbv
          rw [hti, hadd0, hvgd]
          refine ⟨⟨hinR⟩, ⟨by omega⟩, ⟨by omega⟩, ?_⟩
          generalize hxi : l.getD i 0 = y at *
          have ew : vw .i64 y = y := by rw [qw]; exact wrap_i64 (by omega) (by omega)
          rw [ew]
          generalize hz3 : vc .neq y k = z3
          cases z3
          rotate_left
          · rw [qc, neq_true] at hz3
            have hne : y ≠ (L : Int) := by ((try simp only [nc] at *); omega)
            rw [if_neg hne] at hgs1
            cbv
            rw [eq1]
            refine Cv.fold ([6, 7] ++ [17, 18, 19, 20, 21, 22, 23, 24, 25, 26, 27, 28, 29, 30, 31, 32, 33, 34, 35, 36, 37, 38, 39, 40, 41, 42, 43, 44, 45, 46]) 10 [] (by exact Nat.le_refl _) (by exact Nat.le_of_ble_eq_true rfl) (by rfl) (by cbv) ?_
            intro js
            refine ⟨(_, _, _, _), ?_, js, rfl⟩
            exact ⟨⟨i + 1, hq1, hlt2, by rw [hx, hgs1]; omega, by rw [hgs1, Int.add_zero]; exact hT⟩, hmu2 ()⟩
          · rw [qc, neq_false] at hz3
            have hyL : y = (L : Int) := by (try simp only [nc] at *); omega
            rw [if_pos hyL] at hgs1
            obtain ⟨k0, hk0⟩ : ∃ k0 : Int, k0 = ((L - 1 : Nat) : Int) := ⟨_, rfl⟩
            have ek0 : vb .sub .i64 k 1 = k0 := by (try simp only [nc] at *); rw [qb, sub_i64 (by omega) (by omega)]; omega
            have ew0 : vw .u64 k0 = k0 := by (try simp only [nc] at *); rw [qw]; exact wrap_u64 (by omega) (by omega)
            obtain ⟨x1, hx1⟩ : ∃ x1 : Int, x1 = GS L i / 2 ^ (L - 1) := ⟨_, rfl⟩
            have hpL : (0 : Int) < 2 ^ (L - 1) := p2 _
            have hpL2 : (2 : Int) ^ (L - 1) ≤ 2 ^ 11 := pow_up (by omega)
            have hx1r : 0 ≤ x1 ∧ x1 ≤ 2048 := by
              rw [hx1]
              have a1 := Int.ediv_nonneg hr1.1 (Int.le_of_lt hpL)
              have a2 := Int.ediv_le_self (2 ^ (L - 1)) hr1.1
              constructor
              · exact a1
              · (try simp only [nc] at *); omega
            have es : vb .shr .i64 x k0 = x1 := by
              rw [qb, shr_eq (by show k0 ≤ 64; (try simp only [nc] at *); omega), hx1, hx, hk0, Int.toNat_natCast]
            have ew1 : vw .u64 x1 = x1 := by rw [qw]; exact wrap_u64 (by omega) (by omega)
            obtain ⟨n1, hn1⟩ : ∃ n1 : Int, n1 = (M : Int) + 1 - L := ⟨_, rfl⟩
            have en1 : vb .sub .i64 m1 k = n1 := by (try simp only [nc] at *); rw [qb, sub_i64 (by omega) (by omega)]; omega
            have hk00 : 0 ≤ k0 := by ((try simp only [nc] at *); omega)
            obtain ⟨s1, hs1⟩ : ∃ s1 : Int, s1 = 2 ^ (L - 1) := ⟨_, rfl⟩
            have esl : vb .shl .i64 1 k0 = s1 := by
              rw [qb, hs1, hk0]
              show IntKind.i64.wrap (1 * 2 ^ (min (((L - 1 : Nat) : Int).toNat) IntKind.i64.bits)) = _
              rw [Int.toNat_natCast, show min (L - 1) IntKind.i64.bits = L - 1 by simp [IntKind.bits]; omega, Int.one_mul]
              exact wrap_i64 (by omega) (by omega)
            obtain ⟨x2, hx2⟩ : ∃ x2 : Int, x2 = GS L (i + 1) := ⟨_, rfl⟩
            have ex2 : vb .add .i64 x s1 = x2 := by
              have e : x + s1 = x2 := by rw [hx2, hgs1, hx, hs1]
              rw [qb, add_i64 (by (try simp only [nc] at *); omega) (by (try simp only [nc] at *); omega), e]
            cbv
            rw [ek0, ew0, es, ew1, em1, en1]
            refine ⟨⟨hk00⟩, ?_⟩
            refine yield_walk hw hm (by rfl) ?_
            have ed0 : vb .sub .i64 mI n1 = k0 := by (try simp only [nc] at *); rw [qb, sub_i64 (by omega) (by omega)]; omega
            have efr : vb .shl .u64 x1 k0 = x := by
              have hb64 : (2 : Int) ^ (IntKind.u64).bits = 18446744073709551616 := by decide
              have e : x1 * 2 ^ k0.toNat = x := by rw [hk0, Int.toNat_natCast, hx1, hx]; exact hdv.symm
              rw [qb, shl_u rfl hx1r.1 (by show k0 ≤ 64; (try simp only [nc] at *); omega) (by rw [e, hb64]; (try simp only [nc] at *); omega), e]
            have es1u : vb .shl .u64 1 k0 = s1 := by
              have hb64 : (2 : Int) ^ (IntKind.u64).bits = 18446744073709551616 := by decide
              rw [qb, shl_u rfl (by decide) (by show k0 ≤ 64; (try simp only [nc] at *); omega) (by rw [hk0, Int.toNat_natCast, hb64]; omega), hk0, Int.toNat_natCast, hs1, Int.one_mul]
            have hs1r : 1 ≤ s1 ∧ s1 ≤ 2048 := by rw [hs1]; constructor <;> omega
            have htp := fun A B k t => htip A B L i k t hlt2 hL1 (by rw [hxi]; exact hyL)
            have ewq : vw .u8 q = q := by (try simp only [nc] at *); rw [qw]; exact wrap_u8 (by omega) (by omega)
            rw [← hx] at htp hT
            rw [← hs1] at htp
            rw [← hn1] at htp
            have hqi : q = (i : Int) := by ((try simp only [nc] at *); omega)
            (try simp only [nc] at htp hqi)
            rw [← hqi] at htp
            have hxs : x + s1 = x2 := by rw [hx2, hgs1, hx, hs1]
            have hx2r : 0 ≤ x ∧ x2 ≤ 2048 := by rw [hx, hx2]; constructor <;> ((try simp only [nc] at *); omega)
            cbv
            rw [ed0, ew0, efr, es1u]
            refine ⟨fun _ => rfl, ⟨hk00⟩, ⟨hk00⟩, ?_⟩
            refine loop_fam (α := Int × (Nat → Int) × (Nat → Int)) ([15] ++ [60, 61, 62, 63, 64, 65, 66, 67, 68, 69, 70, 71]) [] (fun (kk, _, _) => [(59, .int .u64 kk)]) (fun (_, A, B) => [(5, .arr 165 2 2048 (fun m => [.int .u8 (A m), .int .i64 (B m)]))])
              (fun (kk, A, B) => ∃ kn : Nat, kk = kn ∧ kk ≤ s1 ∧ TIl (x + kk) A B) (fun (kk, _) => (s1 - kk).toNat) hw hm ?_ ?_
            · refine Cv.genAt [59] [] (Cv.fold ([15] ++ [60, 61, 62, 63, 64, 65, 66, 67, 68, 69, 70, 71]) 11 [] (by exact Nat.le_refl _) (by exact Nat.le_of_ble_eq_true rfl) (by rfl) (by cbv) ?_)
              intro js
              refine ⟨(_, _, _), ?_, js, rfl⟩
              exact ⟨0, rfl, by ((try simp only [nc] at *); omega), by rw [Int.add_zero]; exact hT⟩
            · rintro ⟨kk, A, B⟩ js3 ⟨kn, hkk, hks, hT⟩
              cbv
              generalize hz4 : vc .lss kk s1 = z4
              cases z4
              rotate_left
              · rw [qc, lss_true] at hz4
                obtain ⟨tt, htt⟩ : ∃ tt, tt = x + kk := ⟨_, rfl⟩
                obtain ⟨tn, htn⟩ : ∃ tn : Nat, tn = tt.toNat := ⟨_, rfl⟩
                have ett : vb .add .u64 x kk = tt := by rw [qb, htt]; exact wrap_u64 (by ((try simp only [nc] at *); omega)) (by ((try simp only [nc] at *); omega))
                have htv : vtoN tt = tn := by rw [qtoN, htn]
                have htR : 0 ≤ tt ∧ tt < (2048 : Int) := by ((try simp only [nc] at *); omega)
                have ht2 : tn < 2048 := by ((try simp only [nc] at *); omega)
                obtain ⟨kk1, hkk1⟩ : ∃ kk1 : Int, kk1 = ((kn + 1 : Nat) : Int) := ⟨_, rfl⟩
                have ekk : vb .add .u64 kk 1 = kk1 := by
                  have e : kk + 1 = kk1 := by ((try simp only [nc] at *); omega)
                  rw [qb, ← e]; exact wrap_u64 (by ((try simp only [nc] at *); omega)) (by ((try simp only [nc] at *); omega))
                have hT2 := htp A B kn tn (by ((try simp only [nc] at *); omega)) (by ((try simp only [nc] at *); omega)) (by (try simp only [nc] at *); rw [← hkk]; exact hT)
                (try simp only [nc] at hT2)
                rw [← hkk1] at hT2
                have hmu4 : ∀ _ : Unit, (s1 - kk1).toNat < (s1 - kk).toNat := fun _ => by ((try simp only [nc] at *); omega)
                have hkk2 : kk1 ≤ s1 := by ((try simp only [nc] at *); omega)
                cbv
                rw [ett, ewq, htv, updF_2_0, updF_2_1, ekk]
                refine ⟨⟨htR⟩, ⟨ht2⟩, ⟨ht2⟩, ?_⟩
                refine Cv.fold ([15] ++ [60, 61, 62, 63, 64, 65, 66, 67, 68, 69, 70, 71]) 11 [] (by exact Nat.le_refl _) (by exact Nat.le_of_ble_eq_true rfl) (by rfl) (by cbv) ?_
                intro js
                refine ⟨(_, _, _), ?_, js, rfl⟩
                exact ⟨⟨kn + 1, hkk1, hkk2, hT2⟩, hmu4 ()⟩
              · rw [qc, lss_false] at hz4
                obtain rfl : kk = s1 := by ((try simp only [nc] at *); omega)
                rw [hxs, hx2] at hT
                cbv
                intro js1
                cbv
                rw [hnf1]
                cbv
                rw [ek0, ew0, esl, ex2, eq1]
                refine ⟨⟨hk00⟩, ?_⟩
                refine Cv.fold ([6, 7] ++ [17, 18, 19, 20, 21, 22, 23, 24, 25, 26, 27, 28, 29, 30, 31, 32, 33, 34, 35, 36, 37, 38, 39, 40, 41, 42, 43, 44, 45, 46]) 10 [] (by exact Nat.le_refl _) (by exact Nat.le_of_ble_eq_true rfl) (by rfl) (by cbv) ?_
                intro js
                refine ⟨(_, _, _, _), ?_, js, rfl⟩
                exact ⟨⟨i + 1, hq1, hlt2, hx2, hT⟩, hmu2 ()⟩
    · rw [qc, leq_false] at hz1
      have hL : L = M + 2 := by ((try simp only [nc] at *); omega)
      subst hL
      rw [hgf] at hT
      have hMp : (2 : Int) ^ M ≤ 2 ^ 11 := pow_up hM11
      have htd := htid _ _ _ hT
      clear hgs0 hgss hgsn hgsr hgd hgf hge htip hti0 htid hT
      have hb64 : (2 : Int) ^ (IntKind.u64).bits = 18446744073709551616 := by decide
      cbv
      intro js1
      cbv
      refine WX.cv (Cv.nilT 16 5 .u8 (by rfl) (by cbv; exact ⟨fun _ => rfl, trivial⟩) (Cv.here ?_))
      cbv
      refine loop_fam (α := Int × Int × Int × Nat × Nat × List Int) ([19] ++ [72, 73, 74, 75, 76, 77, 78, 79, 80, 81, 82, 83, 84, 85, 86, 87, 88, 89, 90, 91, 92, 93, 94, 95, 96, 97, 98, 99, 100, 101, 102, 103, 104, 105, 106, 107, 108, 109, 110, 111]) [10] (fun (x, h, _, c, n1, _) => [(16, .slice 10 .z 1 n1 c), (17, .int .u64 x), (18, .int .i64 h)])
        (fun (_, _, a, c, _, L) => [(4, .one 140 [.slice 3 .z 1 lb cb, .int .i64 a]), (10, .buf 5 .u8 L c)])
        (fun (x, h, a, c, n1, L) => ∃ j hN : Nat, h = hN ∧ hN ≤ M ∧ (j : Int) ≤ N ∧ a = POS j - h ∧ 0 ≤ POS j ∧ x = RD (POS j) hN ∧ L = OUT j ∧ n1 = j ∧ n1 ≤ c) (fun (_, _, _, _, n1, _) => N.toNat - n1) hw hm ?_ ?_
      · refine Cv.genAt [17, 18] [] (Cv.fold ([19] ++ [72, 73, 74, 75, 76, 77, 78, 79, 80, 81, 82, 83, 84, 85, 86, 87, 88, 89, 90, 91, 92, 93, 94, 95, 96, 97, 98, 99, 100, 101, 102, 103, 104, 105, 106, 107, 108, 109, 110, 111]) 11 [10] (by exact Nat.le_refl _) (by exact Nat.le_of_ble_eq_true rfl) (by rfl) (by cbv) ?_)
        intro js
        refine ⟨(_, _, _, _, _, _), ?_, js, rfl⟩
        exact ⟨0, 0, rfl, by omega, by (try simp only [nc] at *); omega, by rw [hpos0]; omega, by rw [hpos0]; omega, (hr0 _).symm, ho0.symm, rfl, Nat.le_refl _⟩
      · rintro ⟨x, h, a, c, n1, L⟩ js ⟨j, hN2, hh, hhM, hjN, ha, hp, hx, hL, hn1, hnc⟩
        subst hn1
        obtain ⟨jI, hjI⟩ : ∃ jI : Int, jI = (n1 : Int) := ⟨_, rfl⟩
        have ej : vofN n1 = jI := by rw [qofN, hjI]
        cbv
        rw [ej]
        generalize hz2 : vc .lss jI N = z2
        cases z2
        · rw [qc, lss_false] at hz2
          have ez : vc .lss jI N = false := by rw [qc, lss_false]; exact hz2
          have hnN : N.toNat = n1 := by ((try simp only [nc] at *); omega)
          have hlf := hleft cb a
          obtain ⟨p1, hp1'⟩ : ∃ p1, p1 = POS n1 := ⟨_, rfl⟩
          have hpd0 := hpd 0 n1 (by omega)
          rw [hpos0] at hpd0
          have ep1 : vb .add .i64 a h = p1 := by
            have e : a + h = p1 := by ((try simp only [nc] at *); omega)
            rw [qb, add_i64 (by ((try simp only [nc] at *); omega)) (by ((try simp only [nc] at *); omega)), e]
          have hLn : L.length = n1 := by rw [hL]; exact hol n1
          rw [hnN]
          cbv
          rw [ej, ez]
          cbv
          refine call_con (ρ := [(4, .z), (3, .z)]) hlf ⟨by rfl, by rfl, by rfl, by cbv; exact ⟨fun _ => rfl, view_refl _, trivial⟩⟩ ?_
          rintro v H R js3 ⟨rfl, rfl, rfl⟩
          cbv
          rw [ep1]
          refine ⟨fun _ => rfl, ?_⟩
          generalize hz3 : vc .neq p1 0 = z3
          cases z3
          rotate_left
          · rw [qc, neq_true, hp1'] at hz3
            cbv
            exact ⟨L, c, rfl, .inl ⟨rfl, hz3⟩⟩
          · rw [qc, neq_false, Decidable.not_not, hp1'] at hz3
            cbv
            subst hLn
            exact ⟨L, c, rfl, .inr ⟨rfl, hL, hz3⟩⟩
        · rw [qc, lss_true] at hz2
          obtain ⟨dN, hdN⟩ : ∃ dN, dN = M - hN2 := ⟨_, rfl⟩
          obtain ⟨dI, hdI⟩ : ∃ dI : Int, dI = (dN : Int) := ⟨_, rfl⟩
          have ed : vb .sub .i64 mI h = dI := by (try simp only [nc] at *); rw [qb, sub_i64 (by omega) (by omega)]; omega
          have ewd : vw .u64 dI = dI := by (try simp only [nc] at *); rw [qw]; exact wrap_u64 (by omega) (by omega)
          have hcl1 := hcl dI (by ((try simp only [nc] at *); omega)) (by ((try simp only [nc] at *); omega))
          have hcl2 : CL dI = dN := by ((try simp only [nc] at *); omega)
          have hd0 : 0 ≤ dI := by ((try simp only [nc] at *); omega)
          have hpd0 := hpd 0 n1 (by omega)
          rw [hpos0] at hpd0
          have hbt := hbits cb a dI (by ((try simp only [nc] at *); omega))
          obtain ⟨a2, ha2⟩ : ∃ a2, a2 = a - dN := ⟨_, rfl⟩
          have hfl1 : FL a2 = a2 := hfl a2 (by ((try simp only [nc] at *); omega))
          obtain ⟨y, hy⟩ : ∃ y, y = RD a dN := ⟨_, rfl⟩
          rw [hcl2] at hbt
          simp only [nc] at hbt ha2
          rw [← ha2, hfl1, ← hy] at hbt
          have hMs : M = hN2 + dN := by ((try simp only [nc] at *); omega)
          have hra1 := hra (POS n1) hN2 dN
          rw [← hMs, ← hx] at hra1
          have haP : POS n1 - (hN2 : Int) = a := by ((try simp only [nc] at *); omega)
          simp only [nc] at hra1
          rw [haP, ← hy] at hra1
          obtain ⟨X, hX⟩ : ∃ X, X = RD (POS n1) M := ⟨_, rfl⟩
          rw [← hX] at hra1
          have hXr := hrb (POS n1) M
          rw [← hX] at hXr
          have hyr := hrb a dN
          rw [← hy] at hyr
          have hxr := hrb (POS n1) hN2
          rw [← hx] at hxr
          have hpd1 : (0 : Int) < 2 ^ dN := p2 dN
          obtain ⟨X0, hX0⟩ : ∃ X0, X0 = x * 2 ^ dN := ⟨_, rfl⟩
          have hX00 : 0 ≤ X0 := by rw [hX0]; exact Int.mul_nonneg hxr.1 (Int.le_of_lt hpd1)
          have eX0 : vb .shl .u64 x dI = X0 := by
            have e : x * 2 ^ dI.toNat = X0 := by rw [hdI, Int.toNat_natCast, hX0]
            rw [qb, shl_u rfl hxr.1 (by show dI ≤ 64; ((try simp only [nc] at *); omega)) (by rw [e, hb64]; omega), e]
          have eX : vb .or .u64 X0 y = X := by
            rw [qb, or_comm_u rfl, hX0, or_add rfl dN hyr.1 hyr.2 hxr.1 (by rw [hb64]; omega)]
            omega
          cbv
          rw [ed, ewd, eX0]
          refine ⟨⟨hd0⟩, ?_⟩
          refine call_con (ρ := [(4, .z), (3, .z)]) hbt ⟨by rfl, by rfl, by rfl, by cbv; exact ⟨fun _ => rfl, view_refl _, trivial⟩⟩ ?_
          rintro v H R js2 ⟨rfl, rfl, rfl⟩
          cbv
          obtain ⟨Xn, hXn⟩ : ∃ Xn : Nat, Xn = X.toNat := ⟨_, rfl⟩
          have hXv : vtoN X = Xn := by rw [qtoN, hXn]
          have hX2 : X < 2048 := by omega
          have hXR : 0 ≤ X ∧ X < (2048 : Int) := ⟨hXr.1, hX2⟩
          have hXn2 : Xn < 2048 := by omega
          have hXc : (Xn : Int) = X := by omega
          simp only [nc] at htd hps hsymd hXc
          obtain ⟨hA1, hB1⟩ := htd Xn (by rw [hXc]; exact hXr.2)
          obtain ⟨hp1, hn1a, hn1b, _, _⟩ := hps n1
          have hsd := hsymd n1
          rw [← hX] at hsd
          have hsl := hdl n1
          rw [hXc, ← hsd] at hA1 hB1
          obtain ⟨cI, hcI⟩ : ∃ cI : Int, cI = (SYM n1 : Int) := ⟨_, rfl⟩
          obtain ⟨nI, hnI⟩ : ∃ nI : Int, nI = NA (SYM n1) := ⟨_, rfl⟩
          rw [← hcI] at hA1
          rw [← hnI] at hB1 hp1 hn1a hn1b
          obtain ⟨nN, hnN⟩ : ∃ nN : Nat, nN = nI.toNat := ⟨_, rfl⟩
          obtain ⟨h2, hh2⟩ : ∃ h2 : Nat, h2 = M - nN := ⟨_, rfl⟩
          obtain ⟨h3, hh3⟩ : ∃ h3 : Int, h3 = (h2 : Int) := ⟨_, rfl⟩
          have eh3 : vb .sub .i64 mI nI = h3 := by (try simp only [nc] at *); rw [qb, sub_i64 (by omega) (by omega)]; omega
          have ewh : vw .u64 h3 = h3 := by (try simp only [nc] at *); rw [qw]; exact wrap_u64 (by omega) (by omega)
          have hh30 : 0 ≤ h3 := by rw [hh3]; omega
          have hh2p : (0 : Int) < 2 ^ h2 := p2 h2
          have hh2q : (2 : Int) ^ h2 ≤ 2 ^ 11 := pow_up (by omega)
          obtain ⟨q2, hq2⟩ : ∃ q2 : Int, q2 = 2 ^ h2 := ⟨_, rfl⟩
          have eq2 : vb .shl .u64 1 h3 = q2 := by
            have e : 1 * 2 ^ h3.toNat = q2 := by rw [hh3, Int.toNat_natCast, hq2, Int.one_mul]
            rw [qb, shl_u rfl (by decide) (by show h3 ≤ 64; (try simp only [nc] at *); omega) (by rw [e, hb64]; omega), e]
          obtain ⟨q3, hq3⟩ : ∃ q3 : Int, q3 = q2 - 1 := ⟨_, rfl⟩
          have eq3 : vb .sub .u64 q2 1 = q3 := by rw [qb, hq3]; exact wrap_u64 (by omega) (by omega)
          obtain ⟨x3, hx3⟩ : ∃ x3, x3 = RD (POS (n1 + 1)) h2 := ⟨_, rfl⟩
          have ex3 : vb .and .u64 X q3 = x3 := by
            have e1 := hrm (POS n1) nN h2
            rw [show nN + h2 = M by ((try simp only [nc] at *); omega), ← hX] at e1
            have e2 : POS n1 - (nN : Int) = POS (n1 + 1) := by ((try simp only [nc] at *); omega)
            simp only [nc] at e1
            rw [e2, ← hx3] at e1
            rw [qb, hq3, hq2, and_mask rfl h2 (by show h2 ≤ 64; omega) hXr.1 (by rw [hb64]; omega)]
            exact e1
          obtain ⟨p1, hp1'⟩ : ∃ p1, p1 = POS (n1 + 1) := ⟨_, rfl⟩
          have ep1 : vb .add .i64 a2 h3 = p1 := by
            have e : a2 + h3 = p1 := by ((try simp only [nc] at *); omega)
            rw [qb, add_i64 (by ((try simp only [nc] at *); omega)) (by ((try simp only [nc] at *); omega)), e]
          have hlf := hleft cb a2
          have hpdN := hpd (n1 + 1) N.toNat (by ((try simp only [nc] at *); omega))
          rw [← hp1'] at hpdN
          rw [eX]
          refine ⟨fun _ => rfl, ⟨hXR⟩, ?_⟩
          rw [hXv, hB1, eh3, ewh, eq2, eq3, ex3]
          refine ⟨⟨hXn2⟩, ⟨hXn2⟩, fun _ => rfl, ⟨hh30⟩, ?_⟩
          refine call_con (ρ := [(4, .z), (3, .z)]) hlf ⟨by rfl, by rfl, by rfl, by cbv; exact ⟨fun _ => rfl, view_refl _, trivial⟩⟩ ?_
          rintro v H R js3 ⟨rfl, rfl, rfl⟩
          cbv
          rw [ep1]
          refine ⟨fun _ => rfl, ?_⟩
          generalize hz3 : vc .lss p1 0 = z3
          cases z3
          rotate_left
          · rw [qc, lss_true] at hz3
            have hne : POS N.toNat ≠ 0 := by ((try simp only [nc] at *); omega)
            have ez : vc .lss jI N = true := by rw [qc, lss_true]; exact hz2
            cbv
            rw [ej, ez]
            cbv
            exact ⟨L, c, rfl, .inl ⟨rfl, hne⟩⟩
          · rw [qc, lss_false] at hz3
            have hLn : L.length = n1 := by rw [hL]; exact hol n1
            have hadd1 : vaddN n1 1 = n1 + 1 := by rw [qaddN]
            have hadd01 : vaddN 0 1 = 1 := by rw [qaddN]
            have hln1 : vln [cI] = 1 := by rw [qln]; rfl
            have hlnL : vln L = n1 := by rw [qln]; exact hLn
            have hont : vonto L n1 (vsub [cI] 0 1) = OUT (n1 + 1) := by
              have e1 : vsub [cI] 0 1 = [cI] := by rw [qsub]; rfl
              have e2 : L.take n1 = L := by rw [← hLn, List.take_length]
              rw [e1, qonto, hos n1, hcI, ← hL]
              simp only [e2]
            obtain ⟨L2, hL2⟩ : ∃ L2, L2 = OUT (n1 + 1) := ⟨_, rfl⟩
            rw [← hL2] at hont
            obtain ⟨n2, hn2'⟩ : ∃ n2, n2 = n1 + 1 := ⟨_, rfl⟩
            rw [← hn2'] at hadd1
            have hmu : ∀ _ : Unit, N.toNat - n2 < N.toNat - n1 := fun _ => by ((try simp only [nc] at *); omega)
            have hjn : ((n2 : Nat) : Int) ≤ N := by ((try simp only [nc] at *); omega)
            have ha3 : a2 = POS n2 - h3 := by rw [hn2']; ((try simp only [nc] at *); omega)
            have hpn2 : 0 ≤ POS n2 := by rw [hn2', ← hp1']; ((try simp only [nc] at *); omega)
            rw [← hn2'] at hx3 hL2
            have hh2M : h2 ≤ M := by omega
            have hn2b : n2 * 1 ≤ 140737488355328 := by ((try simp only [nc] at *); omega)
            cbv
            rw [hA1]
            refine ⟨fun _ => rfl, ⟨by rw [hadd01, hln1]; exact Nat.le_refl _⟩, ⟨by rw [hlnL]; exact Nat.le_refl _⟩, ⟨Nat.le_refl _⟩, ⟨by rw [hadd1]; exact hn2b⟩, fun _ => rfl, ?_⟩
            intro c1 js4 hle
            have hle' : n2 ≤ c1 := by have := hle.out; simp only at this; rw [hadd1] at this; exact this
            cbv
            rw [hont, hadd1]
            refine Cv.fold ([19] ++ [72, 73, 74, 75, 76, 77, 78, 79, 80, 81, 82, 83, 84, 85, 86, 87, 88, 89, 90, 91, 92, 93, 94, 95, 96, 97, 98, 99, 100, 101, 102, 103, 104, 105, 106, 107, 108, 109, 110, 111]) 11 [10] (by exact Nat.le_refl _) (by exact Nat.le_of_ble_eq_true rfl) (by rfl) (by cbv) ?_
            intro js
            refine ⟨(_, _, _, _, _, _), ?_, js, rfl⟩
            exact ⟨⟨n2, h2, hh3, hh2M, hjn, ha3, hpn2, hx3, hL2, rfl, hle'⟩, hmu ()⟩
end Go.Proofs.Ytaaklikigccdfaa
namespace Go.Proofs.Ytaaklikigccdfaa
open Go Go.Sx Go.Proofs
/-! The ways of no code, of a wrong size, of a text without a mark. -/
set_option maxRecDepth 10000
set_option maxHeartbeats 40000000
theorem unpack_code (l : List Int) (B : List Int) (cap cap2 : Nat) (N : Int) (hl : ∀ c ∈ l, isU8 c) (hlen : l.length ≤ 140737488355328) (hW : ∀ M, ¬ Wt l M) :
    Con Try.prog 54 [.slice 0 .z 1 l.length cap, .slice 1 .z 1 B.length cap2, .int .i64 N] [.ro .u8 l, .ro .u8 B] (fun v H R => v = .tup [.val (.slice none 0 0), .int .i64 50] ∧ H = [.ro .u8 l, .ro .u8 B] ∧ R = []) := by
  have hsz := size_con l cap 0 hl hlen (.inr ⟨hW, rfl⟩)
  refine con_gen (con_cut 2 (by simp) (con_drop (con_walk hmix fn54 ?_)))
  intro vb vc vw vtoN vofN vaddN vsubN vmaxI vminI vcutN vgd vst vln vrep vsub vonto vsplice vstrEq vbyteV vnotB veqB hw qb qc qw qtoN qofN qaddN qsubN qmaxI qminI qcutN qgd qst qln qrep qsub qonto qsplice qstrEq qbyteV qnotB qeqB
  have hm := hmix; generalize Try.prog = P at *
  generalize hn : l.length = n at *
  generalize hlb : B.length = lb at *
  have d1 : vc .eql 0 0 = true := by rw [qc, eql_true]
  cbv
  refine call_con (ρ := [(0, .z)]) hsz ⟨by rfl, by rfl, by rfl, by cbv; exact ⟨⟨⟨by omega, fun i _ => by rw [Nat.zero_add]⟩⟩, trivial⟩⟩ ?_
  rintro v H R js ⟨rfl, rfl, rfl⟩
  cbv
  rw [d1]
  cbv
theorem unpack_arg (l : List Int) (B : List Int) (cap cap2 M : Nat) (N : Int) (hl : ∀ c ∈ l, isU8 c) (hW : Wt l M) (hN : N < 0 ∨ 131072 < N) :
    Con Try.prog 54 [.slice 0 .z 1 l.length cap, .slice 1 .z 1 B.length cap2, .int .i64 N] [.ro .u8 l, .ro .u8 B] (fun v H R => v = .tup [.val (.slice none 0 0), .int .i64 2] ∧ H = [.ro .u8 l, .ro .u8 B] ∧ R = []) := by
  have hsz := size_con l cap M hl (by have := hW.2.1; omega) (.inl ⟨M, hW, rfl⟩)
  refine con_gen (con_cut 2 (by simp) (con_drop (con_walk hmix fn54 ?_)))
  intro vb vc vw vtoN vofN vaddN vsubN vmaxI vminI vcutN vgd vst vln vrep vsub vonto vsplice vstrEq vbyteV vnotB veqB hw qb qc qw qtoN qofN qaddN qsubN qmaxI qminI qcutN qgd qst qln qrep qsub qonto qsplice qstrEq qbyteV qnotB qeqB
  have hm := hmix; generalize Try.prog = P at *
  have hM1 := hW.pos
  have hn256 := hW.2.1
  obtain ⟨mI, hmI⟩ : ∃ mI : Int, mI = M := ⟨_, rfl⟩
  rw [← hmI] at hsz
  generalize hn : l.length = n at *
  generalize hlb : B.length = lb at *
  have d1 : vc .eql mI 0 = false := by rw [qc, eql_false]; omega
  cbv
  refine call_con (ρ := [(0, .z)]) hsz ⟨by rfl, by rfl, by rfl, by cbv; exact ⟨⟨⟨by omega, fun i _ => by rw [Nat.zero_add]⟩⟩, trivial⟩⟩ ?_
  rintro v H R js ⟨rfl, rfl, rfl⟩
  cbv
  rw [d1]
  cbv
  rcases hN with hN | hN
  · have d2 : vc .lss N 0 = true := by rw [qc, lss_true]; exact hN
    rw [d2]
    cbv
  · have d2 : vc .lss N 0 = false := by rw [qc, lss_false]; omega
    have d3 : vc .gtr N 131072 = true := by rw [qc, gtr_true]; exact hN
    rw [d2]
    cbv
    rw [d3]
    cbv
theorem unpack_bad (l : List Int) (b : List Int) (cap cap2 M : Nat) (N : Int) (hl : ∀ c ∈ l, isU8 c) (hW : Wt l M) (hN : 0 ≤ N ∧ N ≤ 131072) (hlast : b.getLastD 0 = 0) (hbl : b.length ≤ 2 ^ 48) :
    Con Try.prog 54 [.slice 0 .z 1 l.length cap, .slice 1 .z 1 b.length cap2, .int .i64 N] [.ro .u8 l, .ro .u8 b] (fun v H R => v = .tup [.val (.slice none 0 0), .int .i64 11] ∧ H = [.ro .u8 l, .ro .u8 b] ∧ R = []) := by
  have hsz := size_con l cap M hl (by have := hW.2.1; omega) (.inl ⟨M, hW, rfl⟩)
  have hnew := new_bad b cap2 hlast hbl
  refine con_gen (con_cut 2 (by simp) (con_drop (con_walk hmix fn54 ?_)))
  intro vb vc vw vtoN vofN vaddN vsubN vmaxI vminI vcutN vgd vst vln vrep vsub vonto vsplice vstrEq vbyteV vnotB veqB hw qb qc qw qtoN qofN qaddN qsubN qmaxI qminI qcutN qgd qst qln qrep qsub qonto qsplice qstrEq qbyteV qnotB qeqB
  have hm := hmix; generalize Try.prog = P at *
  have hM1 := hW.pos
  have hn256 := hW.2.1
  obtain ⟨mI, hmI⟩ : ∃ mI : Int, mI = M := ⟨_, rfl⟩
  rw [← hmI] at hsz
  generalize hn : l.length = n at *
  generalize hlb : b.length = lb at *
  have d1 : vc .eql mI 0 = false := by rw [qc, eql_false]; omega
  have d2 : vc .lss N 0 = false := by rw [qc, lss_false]; omega
  have d3 : vc .gtr N 131072 = false := by rw [qc, gtr_false]; omega
  cbv
  refine call_con (ρ := [(0, .z)]) hsz ⟨by rfl, by rfl, by rfl, by cbv; exact ⟨⟨⟨by omega, fun i _ => by rw [Nat.zero_add]⟩⟩, trivial⟩⟩ ?_
  rintro v H R js ⟨rfl, rfl, rfl⟩
  cbv
  rw [d1]
  cbv
  rw [d2]
  cbv
  rw [d3]
  cbv
  refine call_con (ρ := [(1, .z)]) hnew ⟨by rfl, by rfl, by rfl, by cbv; exact ⟨⟨⟨by omega, fun i _ => by rw [Nat.zero_add]⟩⟩, trivial⟩⟩ ?_
  rintro v H R js ⟨rfl, rfl, rfl⟩
  cbv
theorem unpack_okP (l b : List Int) (cap cap2 : Nat) (M : Nat) (N : Int) (hl : ∀ c ∈ l, isU8 c) (hb : ∀ c ∈ b, isByte c) (hW : Wt l M) (hN : 0 ≤ N ∧ N ≤ 131072) (hbl : b.length ≤ 140737488355328) (hlast : b.getLastD 0 ≠ 0) (p0 : Int)
    (hp0 : p0 = 8 * (b.length - 1) + (len8 (b.getLastD 0) - 1)) (hp1 : 0 ≤ p0 ∧ p0 ≤ 8 * b.length) :
    Con Try.prog 54 [.slice 0 .z 1 l.length cap, .slice 1 .z 1 b.length cap2, .int .i64 N] [.ro .u8 l, .ro .u8 b]
      (fun v H R => R = [] ∧ ∃ L c', H = [.ro .u8 l, .ro .u8 b, .buf 5 .u8 L c'] ∧
        ((v = .tup [.val (.slice none 0 0), .int .i64 11] ∧ pos l M b p0 N.toNat ≠ 0) ∨
         (v = .tup [.slice 2 .z 1 L.length c', .int .i64 0] ∧ L = outs l M b p0 N.toNat ∧ pos l M b p0 N.toNat = 0))) := by
  refine con_pick [0, 1, 10] rfl rfl (Con.mono (unpack_ok l b cap cap2 M N hl hb hW hN hbl hlast p0 hp0 hp1) ?_)
  rintro v H R ⟨rfl, L, c', rfl, ⟨rfl, h⟩ | ⟨rfl, h1, h2⟩⟩
  · exact ⟨.tup [.val (.slice none 0 0), .int .i64 11], [.ro .u8 l, .ro .u8 b, .buf 5 .u8 L c'], rfl, rfl, ⟨rfl, rfl, rfl, trivial⟩, rfl, L, c', rfl, .inl ⟨rfl, h⟩⟩
  · exact ⟨.tup [.slice 2 .z 1 L.length c', .int .i64 0], [.ro .u8 l, .ro .u8 b, .buf 5 .u8 L c'], rfl, rfl, ⟨rfl, rfl, rfl, trivial⟩, rfl, L, c', rfl, .inr ⟨rfl, h1, h2⟩⟩
end Go.Proofs.Ytaaklikigccdfaa
namespace Go.Proofs.Ytaaklikigccdfaa
open Go Go.Sx Go.Proofs
/-! balerlaw09.wakes. -/
theorem xA_of {l : List Int} {c : Nat} (h : Sy l c) : xA l c = wx l c := by unfold xA; rw [if_pos h]
theorem nA_of {l : List Int} {M c : Nat} (h : Sy l c) : nA l M c = (M : Int) + 1 - wn l c := by unfold nA; rw [if_pos h]
end Go.Proofs.Ytaaklikigccdfaa
namespace Go.Proofs.Ytaaklikigccdfaa
open Go Go.Sx Go.Proofs
/-! Plain: what is packed is unpacked as it was, what is unpacked is packed as it was. -/
end Go.Proofs.Ytaaklikigccdfaa
namespace Go.Proofs.Ytaaklikigccdfaa
open Go Go.Sx Go.Proofs
/-! weights.Pack and weights.Unpack, all ways. -/
theorem isU8_byte {l : List Int} (h : ∀ c ∈ l, isU8 c) : ∀ c ∈ l, isByte c := fun c hc => by have := h c hc; unfold isU8 at this; exact ⟨this.1, by omega⟩
/-- What Unpack does with weights that make a code. -/
theorem unpackA (l b : List Int) (cap cap2 M : Nat) (N : Int) (hl : ∀ c ∈ l, isU8 c) (hb : ∀ c ∈ b, isByte c) (hW : Wt l M) (hN : N ≤ 131072) (hbl : b.length ≤ 140737488355328) :
    Con Try.prog 54 [.slice 0 .z 1 l.length cap, .slice 1 .z 1 b.length cap2, .int .i64 N] [.ro .u8 l, .ro .u8 b]
      (fun v H R => R = [] ∧ ((H = [.ro .u8 l, .ro .u8 b] ∧ (v = .tup [.val (.slice none 0 0), .int .i64 2] ∧ N < 0 ∨ v = .tup [.val (.slice none 0 0), .int .i64 11] ∧ 0 ≤ N ∧ b.getLastD 0 = 0)) ∨ ∃ L c', H = [.ro .u8 l, .ro .u8 b, .buf 5 .u8 L c'] ∧
        ((v = .tup [.val (.slice none 0 0), .int .i64 11] ∧ 0 ≤ N ∧ b.getLastD 0 ≠ 0 ∧ pos l M b (markAt b) N.toNat ≠ 0) ∨
         (v = .tup [.slice 2 .z 1 L.length c', .int .i64 0] ∧ L = outs l M b (markAt b) N.toNat ∧ 0 ≤ N ∧ b.getLastD 0 ≠ 0 ∧ pos l M b (markAt b) N.toNat = 0)))) := by
  by_cases h1 : N < 0
  · exact (unpack_arg l b cap cap2 M N hl hW (.inl h1)).mono fun v H R ⟨e1, e2, e3⟩ => ⟨e3, .inl ⟨e2, .inl ⟨e1, h1⟩⟩⟩
  by_cases h2 : b.getLastD 0 = 0
  · exact (unpack_bad l b cap cap2 M N hl hW ⟨by omega, hN⟩ h2 (by omega)).mono fun v H R ⟨e1, e2, e3⟩ => ⟨e3, .inl ⟨e2, .inr ⟨e1, by omega, h2⟩⟩⟩
  obtain ⟨P, hP, hPl, _⟩ := markAt_spec b h2 hb
  refine (unpack_okP l b cap cap2 M N hl hb hW ⟨by omega, hN⟩ hbl h2 (markAt b) rfl (by omega)).mono ?_
  rintro v H R ⟨e1, L, c', e2, h | h⟩
  · exact ⟨e1, .inr ⟨L, c', e2, .inl ⟨h.1, by omega, h2, h.2⟩⟩⟩
  · exact ⟨e1, .inr ⟨L, c', e2, .inr ⟨h.1, h.2.1, by omega, h2, h.2.2⟩⟩⟩
end Go.Proofs.Ytaaklikigccdfaa
namespace Go.Proofs.Ytaaklikigccdfaa
open Go Go.Sx Go.Proofs
set_option maxHeartbeats 4000000 in
theorem refnew_good (b : List Int) (cap : Nat) (hb : b.getLastD 0 ≠ 0) (hby : ∀ x ∈ b, isByte x) (hl : 8 * b.length ≤ 140737488355328) : Con Try.prog 49 [.slice 0 .z 1 b.length cap] [.ro .u8 b]
    (fun v H R => v = .tup [.ptr 1 .z 2 0, .lit .i64 0] ∧ R = [2] ∧ ∃ (P c : Nat), markAt b = P ∧ P < 8 * b.length ∧ H = [.ro .u8 b, .one 114 [.slice 2 .z 1 P c, .int .i64 P], .buf 5 .u8 (bitsOf b (8 * b.length)) c]) := by
  obtain ⟨PP, hPP, hPl, hP1, hP0⟩ := markAt_spec b hb hby
  have hbb := byte_bit hby
  refine con_cut 3 (by simp) (con_red [2] (con_walk hmix fn49 ?_))
  intro vb vc vw vtoN vofN vaddN vsubN vmaxI vminI vcutN vgd vst vln vrep vsub vonto vsplice vstrEq vbyteV vnotB veqB hw qb qc qw qtoN qofN qaddN qsubN qmaxI qminI qcutN qgd qst qln qrep qsub qonto qsplice qstrEq qbyteV qnotB qeqB
  have hm := hmix
  generalize Try.prog = P at *
  rw [getLastD_eq] at hb
  have h0 : 1 ≤ b.length := by
    rcases b with _ | ⟨x, b⟩
    · exact absurd rfl hb
    · simp
  generalize hBB : bitsOf b (8 * b.length) = BB
  generalize markAt b = MA at *
  generalize hlen : b.length = len at *
  generalize hlast : b.getD (len - 1) 0 = last at *
  cbv
  have e0 : vc .eql (vofN len) 0 = false := by simp only [qc, qofN]; rw [eql_false]; simp only [nc] at *; omega
  rw [e0]
  have hsub : vb .sub .i64 (vofN len) 1 = len - 1 := by simp only [qb, qofN]; simp only [nc] at *; rw [sub_i64 (by omega) (by omega)]
  have hin : 0 ≤ vb .sub .i64 (vofN len) 1 ∧ vb .sub .i64 (vofN len) 1 < len := by rw [hsub]; simp only [nc] at *; omega
  have hi : vtoN (vb .sub .i64 (vofN len) 1) = len - 1 := by rw [hsub]; simp only [qtoN]; simp only [nc] at *; omega
  have hlt2 : vtoN (vb .sub .i64 (vofN len) 1) < vln b := by rw [hi]; simp only [qln]; omega
  have hlt3 : vaddN 0 (vtoN (vb .sub .i64 (vofN len) 1)) < vln b := by simp only [qaddN, Nat.zero_add]; exact hlt2
  have hval : vgd b (vtoN (vb .sub .i64 (vofN len) 1)) = last := by rw [hi]; simp only [qgd]; exact hlast
  have hz : vc .eql (vgd b (vtoN (vb .sub .i64 (vofN len) 1))) 0 = false := by rw [hval, qc, eql_false]; exact hb
  cbv
  refine ⟨⟨hin⟩, ⟨hlt3⟩, ⟨hlt2⟩, ?_⟩
  rw [hz]
  cbv
  refine WX.cv (Cv.nilB 1 0 5 .u8 (by rfl) (by cbv) (Cv.here ?_))
  cbv
  have h8 : vb .mul .i64 8 (vofN len) = ((8 * len : Nat) : Int) := by simp only [qb, qofN]; simp only [nc] at *; rw [mul_i64 (by omega) (by omega)]; omega
  refine loop_fam (α := Int × List Int × Nat × Nat) [20, 21, 22, 23, 24, 25, 26, 27, 28, 29, 30, 31, 32, 33, 34, 35, 36, 37, 38, 39, 40, 41, 42, 43, 44, 45] [2]
    (fun (k, l, n, c) => [(5, .int .i64 k)]) (fun (k, l, n, c) => [(1, .one 114 [.slice 2 .z 1 n c, .int .i64 0]), (2, .buf 5 .u8 l c)])
    (fun (k, l, n, c) => ∃ i : Nat, k = i ∧ i ≤ 8 * len ∧ l = bitsOf b i ∧ n = i ∧ n ≤ c) (fun (k, _) => 8 * len - k.toNat) hw hm ?_ ?_
  · refine Cv.genAt [5] [1] (Cv.fold [20, 21, 22, 23, 24, 25, 26, 27, 28, 29, 30, 31, 32, 33, 34, 35, 36, 37, 38, 39, 40, 41, 42, 43, 44, 45] 3 [2] (by exact Nat.le_refl _) (by exact Nat.le_refl _) (by rfl) (by cbv) ?_)
    intro js
    refine ⟨(_, _, _, _), ?_, js, rfl⟩
    exact ⟨0, rfl, by omega, rfl, rfl, Nat.le_refl _⟩
  · rintro ⟨k, l, n, c⟩ js ⟨i, hk, hile, hl', hn, hnc⟩
    have hll : l.length = i := by rw [hl', bitsOf_length]
    cbv
    split
    · rename_i hlt
      have hlt : i < 8 * len := by rw [h8, qc, lss_true] at hlt; simp only [nc] at *; omega
      have hk1 : vb .add .i64 k 1 = ((i + 1 : Nat) : Int) := by simp only [nc] at *; rw [qb, add_i64 (by omega) (by omega)]; omega
      have hq : vb .quo .i64 k 8 = k / 8 := by simp only [nc] at *; rw [qb, quo_i64 (by omega) (by omega) (by omega)]
      have hr : vb .rem .i64 k 8 = k % 8 := by simp only [nc] at *; rw [qb, rem_i64 (by omega)]
      have hwr : vw .u64 (k % 8) = k % 8 := by simp only [nc] at *; simp only [qw]; exact wrap_u64 (by omega) (by omega)
      have hink : 0 ≤ vb .quo .i64 k 8 ∧ vb .quo .i64 k 8 < len := by rw [hq]; simp only [nc] at *; omega
      have hqn : vtoN (vb .quo .i64 k 8) = (k / 8).toNat := by rw [hq]; simp only [qtoN]
      have hltk : vtoN (vb .quo .i64 k 8) < vln b := by rw [hqn]; simp only [qln]; simp only [nc] at *; omega
      have hltk2 : vaddN 0 (vtoN (vb .quo .i64 k 8)) < vln b := by simp only [qaddN, Nat.zero_add]; exact hltk
      have hnn : 0 ≤ vw .u64 (vb .rem .i64 k 8) := by rw [hr, hwr]; omega
      have hbit : vb .and .u8 (vb .shr .u8 (vgd b (vtoN (vb .quo .i64 k 8))) (vw .u64 (vb .rem .i64 k 8))) 1 = bitAt b i := by
        simp only [nc] at *
        rw [hr, hwr, hqn, qb, shr_eq (by show k % 8 ≤ ((8 : Nat) : Int); omega)]
        simp only [qgd]
        have hby := hbb (k / 8).toNat
        have e : bitAt b (i : Int) = b.getD (k / 8).toNat 0 / 2 ^ (k % 8).toNat % 2 := by rw [← hk]; unfold bitAt; rw [if_pos (by omega)]
        rw [e]
        generalize b.getD (k / 8).toNat 0 = y at *
        have h1 : 0 ≤ y / 2 ^ (k % 8).toNat := Int.ediv_nonneg hby.1 (Int.le_of_lt (Int.pow_pos (by decide)))
        have h2 : y / 2 ^ (k % 8).toNat ≤ y := Int.ediv_le_self _ hby.1
        have h3 := hby.2
        rw [and_one rfl h1 (by show _ < (2 : Int) ^ 8; omega)]
      cbv
      refine ⟨⟨hink⟩, ⟨hltk2⟩, ⟨hltk⟩, ⟨hnn⟩, ⟨⟨hltk⟩, trivial⟩, ⟨by simp only [qaddN, qln]; exact Nat.le_refl _⟩, ⟨by simp only [qln]; omega⟩, ⟨Nat.le_refl _⟩, ⟨by simp only [qaddN]; omega⟩, ?_⟩
      intro c1 js1 hle
      cbv
      refine ⟨⟨⟨hltk⟩, trivial⟩, ?_⟩
      refine Cv.fold [20, 21, 22, 23, 24, 25, 26, 27, 28, 29, 30, 31, 32, 33, 34, 35, 36, 37, 38, 39, 40, 41, 42, 43, 44, 45] 3 [2] (by exact Nat.le_refl _) (by exact Nat.le_of_ble_eq_true rfl) (by rfl) (by cbv) ?_
      intro js
      refine ⟨(_, _, _, _), ?_, js, rfl⟩
      have hnew : vonto l n (vsub [vb .and .u8 (vb .shr .u8 (vgd b (vtoN (vb .quo .i64 k 8))) (vw .u64 (vb .rem .i64 k 8))) 1] 0 1) = bitsOf b (i + 1) := by
        rw [hbit, bitsOf_succ]; simp only [qonto, qsub]; rw [← hl', hn]; simp [← hll]
      have hle' : vaddN n 1 ≤ c1 := hle.out
      exact ⟨⟨i + 1, hk1, hlt, hnew, by simp only [qaddN]; omega, hle'⟩, by show 8 * len - (vb .add .i64 k 1).toNat < 8 * len - k.toNat; rw [hk1, hk]; simp only [nc] at *; omega⟩
    · rename_i hge
      have hin8 : i = 8 * len := by rw [h8, qc, lss_false] at hge; simp only [nc] at *; omega
      have hnn : n = 8 * len := by omega
      have hlB : l = BB := by rw [hl', hin8, hBB]
      have hBn : BB.length = 8 * len := by rw [← hlB, hll, hin8]
      cbv
      refine loop_fam (α := Nat) [46, 47, 48, 49, 50, 51, 52, 53, 54, 55, 56, 57, 58, 59, 60, 61, 62, 63, 64, 65, 66, 67, 68, 69, 70, 71, 72] [2] (fun k => []) (fun k2 => [(1, .one 114 [.slice 2 .z 1 k2 c, .int .i64 0])]) (fun k2 => PP + 1 ≤ k2 ∧ k2 ≤ 8 * len) (fun k2 => k2) hw hm ?_ ?_
      · refine Cv.fold [46, 47, 48, 49, 50, 51, 52, 53, 54, 55, 56, 57, 58, 59, 60, 61, 62, 63, 64, 65, 66, 67, 68, 69, 70, 71, 72] 3 [2] (by exact Nat.le_refl _) (by exact Nat.le_of_ble_eq_true rfl) (by rfl) (by cbv) ?_
        intro js
        refine ⟨n, ⟨by omega, by omega⟩, js, rfl⟩
      · rintro k2 js ⟨hk2, hk2'⟩
        have hs : vb .sub .i64 (vofN k2) 1 = ((k2 - 1 : Nat) : Int) := by simp only [qb, qofN]; simp only [nc] at *; rw [sub_i64 (by omega) (by omega)]; omega
        have hin : 0 ≤ vb .sub .i64 (vofN k2) 1 ∧ vb .sub .i64 (vofN k2) 1 < k2 := by rw [hs]; simp only [nc] at *; omega
        have hc2 : 0 ≤ vb .sub .i64 (vofN k2) 1 ∧ vb .sub .i64 (vofN k2) 1 ≤ c := by rw [hs]; simp only [nc] at *; omega
        have hi2 : vtoN (vb .sub .i64 (vofN k2) 1) = k2 - 1 := by rw [hs]; simp only [qtoN]; omega
        have hlt2 : vtoN (vb .sub .i64 (vofN k2) 1) < vln l := by rw [hi2]; simp only [qln]; omega
        have hlt3 : vaddN 0 (vtoN (vb .sub .i64 (vofN k2) 1)) < vln l := by simp only [qaddN, Nat.zero_add]; exact hlt2
        have hv2 : vgd l (vtoN (vb .sub .i64 (vofN k2) 1)) = bitAt b ((k2 - 1 : Nat) : Int) := by
          rw [hi2, hl']; simp only [qgd]; exact bitsOf_get b i (k2 - 1) (by omega)
        cbv
        refine ⟨⟨hin⟩, ⟨hlt3⟩, ⟨hlt2⟩, ?_⟩
        split
        · rename_i hz
          have hz : bitAt b ((k2 - 1 : Nat) : Int) = 0 := by rw [hv2, qc, eql_true] at hz; exact hz
          have hne : k2 - 1 ≠ PP := fun e => by rw [e] at hz; simp only [nc] at *; omega
          cbv
          refine ⟨⟨hc2⟩, ?_⟩
          refine Cv.fold [46, 47, 48, 49, 50, 51, 52, 53, 54, 55, 56, 57, 58, 59, 60, 61, 62, 63, 64, 65, 66, 67, 68, 69, 70, 71, 72] 3 [2] (by exact Nat.le_refl _) (by exact Nat.le_of_ble_eq_true rfl) (by rfl) (by cbv) ?_
          intro js
          refine ⟨_, ⟨⟨?_, ?_⟩, ?_⟩, js, rfl⟩
          all_goals (rw [hi2]; omega)
        · rename_i hz
          have hz : bitAt b ((k2 - 1 : Nat) : Int) ≠ 0 := by rw [hv2, qc, eql_false] at hz; exact hz
          have hPk : k2 - 1 = PP := Classical.byContradiction fun h => hz (hP0 (k2 - 1) (by omega) (by omega))
          cbv
          have e1 : vtoN (vb .sub .i64 (vofN k2) 1) = PP := by rw [hi2]; exact hPk
          have e2 : vofN PP = (PP : Int) := by simp only [qofN]
          refine ⟨⟨hc2⟩, PP, c, hPP, by omega, ?_⟩
          rw [e1, e2, hlB]
          rfl
theorem refnew_bad (b : List Int) (cap : Nat) (hb : b.getLastD 0 = 0) (hl : b.length ≤ 2 ^ 48) : Con Try.prog 49 [.slice 0 .z 1 b.length cap] [.ro .u8 b] (fun v H R => v = .tup [.val (.pointer none), .lit .i64 11] ∧ H = [.ro .u8 b] ∧ R = []) := by
  refine con_cut 1 (by simp) (con_red [] (con_walk hmix fn49 ?_))
  intro vb vc vw vtoN vofN vaddN vsubN vmaxI vminI vcutN vgd vst vln vrep vsub vonto vsplice vstrEq vbyteV vnotB veqB hw qb qc qw qtoN qofN qaddN qsubN qmaxI qminI qcutN qgd qst qln qrep qsub qonto qsplice qstrEq qbyteV qnotB qeqB
  generalize Try.prog = P at *
  rw [getLastD_eq] at hb
  generalize hlen : b.length = len at *
  cbv
  generalize h0 : vc .eql (vofN len) 0 = z0
  cases z0
  rotate_left
  · cbv
  · have h0 : 1 ≤ len := by rw [qc, qofN, eql_false] at h0; simp only [nc] at *; omega
    have hsub : vb .sub .i64 (vofN len) 1 = len - 1 := by rw [qb, qofN]; simp only [nc] at *; rw [sub_i64 (by omega) (by omega)]
    have hin : 0 ≤ vb .sub .i64 (vofN len) 1 ∧ vb .sub .i64 (vofN len) 1 < len := by rw [hsub]; simp only [nc] at *; omega
    have hi : vtoN (vb .sub .i64 (vofN len) 1) = len - 1 := by rw [hsub, qtoN]; simp only [nc] at *; omega
    have hlt2 : vtoN (vb .sub .i64 (vofN len) 1) < vln b := by rw [hi, qln]; simp only [nc] at *; omega
    have hlt3 : vaddN 0 (vtoN (vb .sub .i64 (vofN len) 1)) < vln b := by rw [qaddN]; simpa using hlt2
    cbv
    refine ⟨⟨hin⟩, ⟨hlt3⟩, ⟨hlt2⟩, ?_⟩
    have hz : vc .eql (vgd b (vtoN (vb .sub .i64 (vofN len) 1))) 0 = true := by rw [hi, qgd, qc, eql_true]; exact hb
    rw [hz]
    cbv
set_option maxHeartbeats 4000000 in
theorem refbits_con (b : List Int) (P0 c : Nat) (p n : Int) (hP : P0 ≤ 8 * b.length) (hl : 8 * b.length ≤ 140737488355328) (hp : -1099511627776 ≤ p ∧ p ≤ P0) :
    Con Try.prog 50 [.ptr 0 .z 2 0, .int .i64 n] [.one 114 [.slice 1 .z 1 P0 c, .int .i64 p], .ro .u8 (bitsOf b (8 * b.length))]
      (fun v H R => v = .int .u64 (rd b p (clampN n)) ∧ R = [] ∧ H = [.one 114 [.slice 1 .z 1 P0 c, .int .i64 (floorP (p - clampN n))], .ro .u8 (bitsOf b (8 * b.length))]) := by
  refine con_gen (con_cut 2 (by simp) (con_red [] (con_walk hmix fn50 ?_)))
  intro vb vc vw vtoN vofN vaddN vsubN vmaxI vminI vcutN vgd vst vln vrep vsub vonto vsplice vstrEq vbyteV vnotB veqB hw qb qc qw qtoN qofN qaddN qsubN qmaxI qminI qcutN qgd qst qln qrep qsub qonto qsplice qstrEq qbyteV qnotB qeqB
  have hm := hmix
  generalize Try.prog = P at *
  have hN : vminI (vmaxI n 0) 56 = (clampN n : Nat) := by rw [qmaxI, qminI]; unfold clampN; simp only [nc]; split <;> split <;> omega
  have hN56 := clampN_le n
  have hF : floorP (p - clampN n) = vmaxI (p - clampN n) (-1099511627776) := by simp only [qmaxI]; unfold floorP; (repeat' split) <;> first | rfl | omega
  rw [hF]
  generalize clampN n = N at *
  generalize hV : rd b p N = V
  generalize hB : bitsOf b (8 * b.length) = B
  have hBn : B.length = 8 * b.length := by rw [← hB, bitsOf_length]
  have hBg : ∀ i : Nat, i < 8 * b.length → B.getD i 0 = bitAt b i := fun i hi => by rw [← hB]; exact bitsOf_get b _ i hi
  generalize hNN : ((N : Nat) : Int) = N0 at *
  have hsub0 : vb .sub .i64 p N0 = p - N0 := by rw [qb, sub_i64 (by omega) (by omega)]
  generalize hq : p - N0 = q at *
  cbv
  rw [hN, hsub0]
  refine loop_fam (α := Int × Int) [20, 21, 22, 23, 24, 25, 26, 27, 28, 29, 30, 31, 32, 33, 34, 35, 36, 37, 38, 39, 40, 41, 42, 43, 44, 45, 46, 47] []
    (fun (x, k) => [(5, .int .u64 x), (6, .int .i64 k)]) (fun (x, k) => [])
    (fun (x, k) => ∃ i : Nat, k = (N : Int) - 1 - i ∧ i ≤ N ∧ x = rd b p i) (fun (x, k) => (k + 1).toNat) hw hm ?_ ?_
  · refine Cv.genAt [5, 6] [] (Cv.fold [20, 21, 22, 23, 24, 25, 26, 27, 28, 29, 30, 31, 32, 33, 34, 35, 36, 37, 38, 39, 40, 41, 42, 43, 44, 45, 46, 47] 2 [] (by exact Nat.le_refl _) (by exact Nat.le_of_ble_eq_true rfl) (by rfl) (by cbv) ?_)
    intro js
    refine ⟨(_, _), ?_, js, rfl⟩
    exact ⟨0, by simp only [nc] at *; rw [qb, sub_i64 (by omega) (by omega)]; omega, by omega, rfl⟩
  · rintro ⟨x, k⟩ js ⟨i, hk, hi, hx⟩
    have hx2 := rd_bound b p i
    cbv
    split
    · rename_i hlt
      have hlt : i < N := by rw [qc, geq_true] at hlt; simp only [nc] at *; omega
      have hqk : vb .add .i64 q k = p - 1 - i := by
        simp only [nc] at *
        rw [qb, add_i64 (by omega) (by omega)]; omega
      have hk1 : vb .sub .i64 k 1 = (N : Int) - 1 - ((i + 1 : Nat) : Int) := by simp only [nc] at *; rw [qb, sub_i64 (by omega) (by omega)]; omega
      have hmu : (vb .sub .i64 k 1 + 1).toNat < (k + 1).toNat := by rw [hk1, hk]; simp only [nc] at *; omega
      have hp56 := pow_le_56 (show i ≤ 56 by omega)
      have hshl : vb .shl .u64 x 1 = rd b p i * 2 := by
        rw [qb, hx, shl_u rfl hx2.1 (by decide) (by show _ * (2 : Int) ^ 1 < 2 ^ 64; omega)]; rfl
      cbv
      rw [hqk]
      generalize hz : p - 1 - (i : Int) = z at *
      cbv
      split
      · rename_i hge
        have hge : 0 ≤ z := by rw [qc, geq_true] at hge; exact hge
        have hzi : 0 ≤ z ∧ z < P0 := by simp only [nc] at *; omega
        have hlt2 : vtoN z < vln B := by simp only [qtoN, qln]; rw [hBn]; simp only [nc] at *; omega
        have hlt3 : vaddN 0 (vtoN z) < vln B := by simp only [qaddN, Nat.zero_add]; exact hlt2
        have hval : vb .or .u64 (vb .shl .u64 x 1) (vw .u64 (vgd B (vtoN z))) = rd b p (i + 1) := by
          have e : vgd B (vtoN z) = bitAt b z := by
            simp only [qgd, qtoN]
            rw [hBg _ (by simp only [nc] at *; omega)]
            exact congrArg (bitAt b) (Int.toNat_of_nonneg hge)
          have hbt := bitAt_bit b z
          rw [hshl, e]
          simp only [qw]
          rw [wrap_u64 hbt.1 (by omega), qb]
          have e2 : rd b p (i + 1) = rd b p i * 2 + bitAt b z := by rw [rd]; simp only [nc] at *; rw [hz]
          rw [e2]
          generalize bitAt b z = t at *
          have := or_add (k := .u64) rfl (x := t) (b := rd b p i) 1 hbt.1 (by omega) hx2.1 (by show _ < (2 : Int) ^ 64; omega)
          rw [or_comm_u rfl]
          simpa [Int.add_comm] using this
        cbv
        refine ⟨⟨by rw [hqk]; exact hzi⟩, ⟨by rw [hqk]; exact hlt3⟩, ⟨by rw [hqk]; exact hlt2⟩, ?_⟩
        refine Cv.fold [20, 21, 22, 23, 24, 25, 26, 27, 28, 29, 30, 31, 32, 33, 34, 35, 36, 37, 38, 39, 40, 41, 42, 43, 44, 45, 46, 47] 2 [] (by exact Nat.le_refl _) (by exact Nat.le_of_ble_eq_true rfl) (by rfl) (by cbv) ?_
        intro js
        refine ⟨(_, _), ?_, js, rfl⟩
        exact ⟨⟨i + 1, hk1, hlt, by rw [hqk]; exact hval⟩, hmu⟩
      · rename_i hge
        have hge : ¬ 0 ≤ z := by rw [qc, geq_false] at hge; exact hge
        have hval : vb .shl .u64 x 1 = rd b p (i + 1) := by
          rw [hshl, rd]
          simp only [nc] at *
          rw [hz]
          have : bitAt b z = 0 := by unfold bitAt; rw [if_neg hge]
          rw [this]; omega
        cbv
        refine Cv.fold [20, 21, 22, 23, 24, 25, 26, 27, 28, 29, 30, 31, 32, 33, 34, 35, 36, 37, 38, 39, 40, 41, 42, 43, 44, 45, 46, 47] 2 [] (by exact Nat.le_refl _) (by exact Nat.le_of_ble_eq_true rfl) (by rfl) (by cbv) ?_
        intro js
        refine ⟨(_, _), ?_, js, rfl⟩
        exact ⟨⟨i + 1, hk1, hlt, hval⟩, hmu⟩
    · rename_i hge
      have hin : i = N := by rw [qc, geq_false] at hge; simp only [nc] at *; omega
      have hxV : x = V := by rw [hx, hin, hV]
      cbv
      rw [hxV]
      exact ⟨rfl, trivial⟩
end Go.Proofs.Ytaaklikigccdfaa
namespace Go.Proofs.Ytaaklikigccdfaa
open Go Go.Sx Go.Proofs
/-! balerref09.Bits. -/
set_option maxRecDepth 10000
set_option maxHeartbeats 40000000
theorem Msz.refs {l : List Int} {m : Int} (hl : ∀ c ∈ l, isU8 c) (hm : Msz l m) (h1 : 2 ≤ l.length) (h2 : l.length ≤ 256) (h3 : l.getD (l.length - 1) 0 ≠ 0) (h4 : ∀ i, i < l.length → l.getD i 0 ≤ 11) :
    (∀ K : Nat, K ≤ 11 → sm l l.length = 2 ^ K → 2 ≤ on l l.length → m = K) ∧ ((∀ K : Nat, 1 ≤ K → K ≤ 11 → sm l l.length = 2 ^ K → ¬ 2 ≤ on l l.length) → m = 0) := by
  constructor
  · intro K hK hs ho
    rcases hm with ⟨M, hW, rfl⟩ | ⟨hn, rfl⟩
    · have := hW.2.2.2.2.2.1
      rw [hs] at this
      have := pow_inj this
      omega
    · exact (hn K ⟨h1, h2, h3, h4, ho, hs, hK⟩).elim
  · intro h
    rcases hm with ⟨M, hW, rfl⟩ | ⟨hn, rfl⟩
    · exact (h M hW.pos hW.2.2.2.2.2.2 hW.2.2.2.2.2.1 hW.2.2.2.2.1).elim
    · rfl
theorem refbits9_con (l : List Int) (cap : Nat) (m : Int) (hl : ∀ c ∈ l, isU8 c) (hlen : l.length ≤ 140737488355328) (hm0 : Msz l m) :
    Con Try.prog 27 [.slice 0 .z 1 l.length cap] [.ro .u8 l] (fun v H R => v = .int .i64 m ∧ H = [.ro .u8 l] ∧ R = []) := by
  refine con_gen (con_cut 1 (by simp) (con_drop (con_walk hmix fn27 ?_)))
  intro vb vc vw vtoN vofN vaddN vsubN vmaxI vminI vcutN vgd vst vln vrep vsub vonto vsplice vstrEq vbyteV vnotB veqB hw qb qc qw qtoN qofN qaddN qsubN qmaxI qminI qcutN qgd qst qln qrep qsub qonto qsplice qstrEq qbyteV qnotB qeqB
  have hm := hmix; generalize Try.prog = P at *
  have hends := hm0.refs hl
  have hnone := hm0.none
  have hge := getD_u8 hl
  have hsr := fun i => @sm_range l i
  have hor := on_range l
  have hs0 : sm l 0 = 0 := rfl
  have ho0 : on l 0 = 0 := rfl
  have hss : ∀ i, sm l (i + 1) = sm l i + pw (l.getD i 0) := fun _ => rfl
  have hosu : ∀ i, on l (i + 1) = on l i + (if l.getD i 0 = 1 then 1 else 0) := fun _ => rfl
  have hpr := @pw_range
  have hpz : ∀ w : Int, w ≤ 0 → pw w = 0 := fun w h => by unfold pw; rw [if_pos h]
  have hpwd : ∀ w : Int, 0 < w → w ≤ 11 → vb .shl .i64 1 (w - 1) = pw w := fun w h0 h1 => by rw [qb, one_shl62 (by omega) (by omega)]; unfold pw; rw [if_neg (by omega)]
  clear hm0
  generalize sm l = SM at *
  generalize on l = ON at *
  generalize pw = PW at *
  generalize hn : l.length = n at *
  have hto : ∀ i : Nat, vtoN (i : Int) = i := fun i => by simp only [qtoN, Int.toNat_natCast]
  have hadd0 : ∀ i, vaddN 0 i = i := fun i => by simp only [qaddN, Nat.zero_add]
  have hvln : vln l = n := by simp only [qln, hn]
  have hvgd : ∀ i, vgd l i = l.getD i 0 := fun i => by simp only [qgd]
  obtain ⟨nI, hnI⟩ : ∃ nI : Int, nI = n := ⟨_, rfl⟩
  have en : vofN n = nI := by rw [hnI, qofN]
  cbv
  simp only [nc] at *
  rw [en]
  generalize hz1 : vc .lss nI 2 = z1
  cases z1
  rotate_left
  · rw [qc, lss_true] at hz1
    cbv
    have := hnone (.inl (by ((try simp only [nc] at *); omega)))
    subst this
    exact ⟨rfl, trivial⟩
  rw [qc, lss_false] at hz1
  cbv
  rw [en]
  generalize hz2 : vc .gtr nI 256 = z2
  cases z2
  rotate_left
  · rw [qc, gtr_true] at hz2
    cbv
    have := hnone (.inr (.inl (by ((try simp only [nc] at *); omega))))
    subst this
    exact ⟨rfl, trivial⟩
  rw [qc, gtr_false] at hz2
  obtain ⟨nm, hnm⟩ : ∃ nm : Int, nm = ((n - 1 : Nat) : Int) := ⟨_, rfl⟩
  have enm : vb .sub .i64 nI 1 = nm := by rw [qb, sub_i64 (by ((try simp only [nc] at *); omega)) (by ((try simp only [nc] at *); omega))]; ((try simp only [nc] at *); omega)
  have htm : vtoN nm = n - 1 := by rw [hnm]; exact hto _
  cbv
  rw [en, enm, htm, hadd0, hvgd, hvln]
  refine ⟨⟨by ((try simp only [nc] at *); omega)⟩, ⟨by ((try simp only [nc] at *); omega)⟩, ⟨by ((try simp only [nc] at *); omega)⟩, ?_⟩
  generalize hz3 : vc .eql (l.getD (n - 1) 0) 0 = z3
  cases z3
  rotate_left
  · rw [qc, eql_true] at hz3
    cbv
    have := hnone (.inr (.inr (.inl hz3)))
    subst this
    exact ⟨rfl, trivial⟩
  rw [qc, eql_false] at hz3
  have hends := hends (by ((try simp only [nc] at *); omega)) (by ((try simp only [nc] at *); omega)) hz3
  cbv
  refine loop_fam (α := Int × Int × Int) [24, 25, 26, 27, 28, 29, 30, 31, 32, 33, 34, 35, 36, 37, 38, 39, 40, 41, 42, 43, 44, 45, 46, 47, 48, 49, 50, 51, 52, 53, 54, 55] [] (fun (k, s, o) => [(5, .int .i64 k), (3, .int .i64 s), (4, .int .i64 o)]) (fun _ => [])
    (fun (k, s, o) => ∃ i : Nat, k = i ∧ i ≤ n ∧ s = SM i ∧ o = ON i ∧ ∀ j, j < i → l.getD j 0 ≤ 11) (fun (k, _) => n - k.toNat) hw hm ?_ ?_
  · refine Cv.genAt [5, 3, 4] [] (Cv.fold [24, 25, 26, 27, 28, 29, 30, 31, 32, 33, 34, 35, 36, 37, 38, 39, 40, 41, 42, 43, 44, 45, 46, 47, 48, 49, 50, 51, 52, 53, 54, 55] 1 [] (by exact Nat.le_refl _) (by exact Nat.le_of_ble_eq_true rfl) (by rfl) (by cbv) ?_)
    intro js
    refine ⟨(_, _, _), ?_, js, rfl⟩
    exact ⟨0, rfl, by ((try simp only [nc] at *); omega), hs0.symm, ho0.symm, fun j hj => by ((try simp only [nc] at *); omega)⟩
  · rintro ⟨k, s, o⟩ js ⟨i, hk, hi, hs, ho, hj⟩
    have hsi := hsr i hj
    have hoi := hor i
    cbv
    rw [en]
    generalize hz4 : vc .lss k nI = z4
    cases z4
    rotate_left
    · rw [qc, lss_true] at hz4
      have hlt : i < n := by ((try simp only [nc] at *); omega)
      have hti : vtoN k = i := by rw [hk]; exact hto i
      have hinR : 0 ≤ k ∧ k < (n : Int) := by ((try simp only [nc] at *); omega)
      obtain ⟨k1, hk1⟩ : ∃ k1 : Int, k1 = ((i + 1 : Nat) : Int) := ⟨_, rfl⟩
      have ek : vb .add .i64 k 1 = k1 := by rw [qb, add_i64 (by ((try simp only [nc] at *); omega)) (by ((try simp only [nc] at *); omega))]; ((try simp only [nc] at *); omega)
      have hmu : ∀ _ : Unit, n - k1.toNat < n - k.toNat := fun _ => by ((try simp only [nc] at *); omega)
      have hx := hge i
      have hss1 := hss i
      have hos1 := hosu i
      cbv
      rw [hti, hadd0, hvgd, hvln]
      refine ⟨⟨hinR⟩, ⟨hlt⟩, ⟨hlt⟩, ?_⟩
      generalize hxi : l.getD i 0 = x at *
      generalize hz5 : vc .gtr x 11 = z5
      cases z5
      rotate_left
      · rw [qc, gtr_true] at hz5
        cbv
        have := hnone (.inr (.inr (.inr ⟨i, hlt, by ((try simp only [nc] at *); omega)⟩)))
        subst this
        exact ⟨rfl, trivial⟩
      rw [qc, gtr_false] at hz5
      have hpx := hpr (w := x) (by ((try simp only [nc] at *); omega))
      have hpz1 := hpz x
      have hpw := hpwd x
      obtain ⟨s1, hs1⟩ : ∃ s1, s1 = SM (i + 1) := ⟨_, rfl⟩
      have es : vb .add .i64 s (PW x) = s1 := by
        rw [qb, hs1, hss1, ← hs]
        exact wrap_i64 (by ((try simp only [nc] at *); omega)) (by ((try simp only [nc] at *); omega))
      have hjj : ∀ j, j < i + 1 → l.getD j 0 ≤ 11 := fun j hj2 => by
        by_cases e : j = i
        · subst e; ((try simp only [nc] at *); omega)
        · exact hj j (by ((try simp only [nc] at *); omega))
      cbv
      rw [hti, hadd0, hvgd, hvln, hxi]
      refine ⟨⟨hinR⟩, ⟨hlt⟩, ⟨hlt⟩, ?_⟩
      generalize hz7 : vc .gtr x 0 = z7
      have eo : vb .add .i64 o 1 = o + 1 := by rw [qb, add_i64 (by ((try simp only [nc] at *); omega)) (by ((try simp only [nc] at *); omega))]
      obtain ⟨o1, ho1⟩ : ∃ o1, o1 = o + 1 := ⟨_, rfl⟩
      rw [← ho1] at eo
      cases z7
      · rw [qc, gtr_false] at hz7
        have hx0 : x = 0 := by ((try simp only [nc] at *); omega)
        have hs1s : s = s1 := by rw [hs1, hss1, hpz1 (by ((try simp only [nc] at *); omega)), hs]; ((try simp only [nc] at *); omega)
        rw [if_neg (by ((try simp only [nc] at *); omega))] at hos1
        have e01 : vc .eql x 1 = false := by rw [qc, eql_false]; ((try simp only [nc] at *); omega)
        cbv
        rw [hti, hadd0, hvgd, hvln, hxi, e01]
        refine ⟨⟨hinR⟩, ⟨hlt⟩, ⟨hlt⟩, ?_⟩
        cbv
        rw [ek]
        refine Cv.fold [24, 25, 26, 27, 28, 29, 30, 31, 32, 33, 34, 35, 36, 37, 38, 39, 40, 41, 42, 43, 44, 45, 46, 47, 48, 49, 50, 51, 52, 53, 54, 55] 1 [] (by exact Nat.le_refl _) (by exact Nat.le_of_ble_eq_true rfl) (by rfl) (by cbv) ?_
        intro js
        refine ⟨(_, _, _), ?_, js, rfl⟩
        exact ⟨⟨i + 1, hk1, hlt, hs1s.trans hs1, by ((try simp only [nc] at *); omega), hjj⟩, hmu ()⟩
      rw [qc, gtr_true] at hz7
      have esb : vb .sub .u8 x 1 = x - 1 := by rw [qb]; exact wrap_u8 (by ((try simp only [nc] at *); omega)) (by ((try simp only [nc] at *); omega))
      have ewx : vw .u64 (x - 1) = x - 1 := by rw [qw]; exact wrap_u64 (by ((try simp only [nc] at *); omega)) (by ((try simp only [nc] at *); omega))
      have hpw := hpw hz7 (by ((try simp only [nc] at *); omega))
      obtain ⟨xm, hxm⟩ : ∃ xm, xm = x - 1 := ⟨_, rfl⟩
      rw [← hxm] at esb ewx hpw
      cbv
      rw [hti, hadd0, hvgd, hvln, hxi, esb, ewx, hpw, es]
      refine ⟨⟨hinR⟩, ⟨hlt⟩, ⟨hlt⟩, ⟨by ((try simp only [nc] at *); omega)⟩, ⟨hinR⟩, ⟨hlt⟩, ⟨hlt⟩, ?_⟩
      generalize hz6 : vc .eql x 1 = z6
      cases z6
      · rw [qc, eql_false] at hz6
        rw [if_neg hz6] at hos1
        cbv
        rw [ek]
        refine Cv.fold [24, 25, 26, 27, 28, 29, 30, 31, 32, 33, 34, 35, 36, 37, 38, 39, 40, 41, 42, 43, 44, 45, 46, 47, 48, 49, 50, 51, 52, 53, 54, 55] 1 [] (by exact Nat.le_refl _) (by exact Nat.le_of_ble_eq_true rfl) (by rfl) (by cbv) ?_
        intro js
        refine ⟨(_, _, _), ?_, js, rfl⟩
        exact ⟨⟨i + 1, hk1, hlt, hs1, by ((try simp only [nc] at *); omega), hjj⟩, hmu ()⟩
      · rw [qc, eql_true] at hz6
        rw [if_pos hz6] at hos1
        cbv
        rw [ek, eo]
        refine Cv.fold [24, 25, 26, 27, 28, 29, 30, 31, 32, 33, 34, 35, 36, 37, 38, 39, 40, 41, 42, 43, 44, 45, 46, 47, 48, 49, 50, 51, 52, 53, 54, 55] 1 [] (by exact Nat.le_refl _) (by exact Nat.le_of_ble_eq_true rfl) (by rfl) (by cbv) ?_
        intro js
        refine ⟨(_, _, _), ?_, js, rfl⟩
        exact ⟨⟨i + 1, hk1, hlt, hs1, by ((try simp only [nc] at *); omega), hjj⟩, hmu ()⟩
    · rw [qc, lss_false] at hz4
      obtain rfl : i = n := by ((try simp only [nc] at *); omega)
      obtain ⟨he1, he2⟩ := hends (fun j h => hj j h)
      rw [← hs, ← ho] at he1 he2
      clear hends hnone
      cbv
      refine loop_fam (α := Int) [56, 57, 58, 59, 60, 61, 62, 63, 64, 65, 66, 67, 68, 69] [] (fun q => [(6, .int .i64 q)]) (fun _ => [])
        (fun q => ∃ K : Nat, q = K ∧ 1 ≤ K ∧ K ≤ 12 ∧ ∀ K' : Nat, 1 ≤ K' → K' < K → s = 2 ^ K' → ¬ 2 ≤ o) (fun q => 12 - q.toNat) hw hm ?_ ?_
      · refine Cv.genAt [6] [] (Cv.fold [56, 57, 58, 59, 60, 61, 62, 63, 64, 65, 66, 67, 68, 69] 1 [] (by exact Nat.le_refl _) (by exact Nat.le_of_ble_eq_true rfl) (by rfl) (by cbv) ?_)
        intro js
        refine ⟨_, ?_, js, rfl⟩
        exact ⟨1, rfl, by omega, by omega, fun K' h1 h2 => by omega⟩
      · rintro q js2 ⟨K, hq, hK1, hK2, hKs⟩
        obtain ⟨q1, hq1⟩ : ∃ q1 : Int, q1 = ((K + 1 : Nat) : Int) := ⟨_, rfl⟩
        have eq1 : vb .add .i64 q 1 = q1 := by rw [qb, add_i64 (by ((try simp only [nc] at *); omega)) (by ((try simp only [nc] at *); omega))]; ((try simp only [nc] at *); omega)
        have hmu : ∀ _ : Unit, K < 12 → 12 - q1.toNat < 12 - q.toNat := fun _ => by ((try simp only [nc] at *); omega)
        have ewq : vw .u64 q = q := by rw [qw]; exact wrap_u64 (by ((try simp only [nc] at *); omega)) (by ((try simp only [nc] at *); omega))
        obtain ⟨pq, hpq⟩ : ∃ pq : Int, pq = 2 ^ K := ⟨_, rfl⟩
        have ehl : vb .shl .i64 1 q = pq := by rw [qb, hq, one_shl62 (by omega) (by omega), hpq]; rfl
        have hq0 : 0 ≤ q := by ((try simp only [nc] at *); omega)
        have hKs1 : ¬ (s = pq ∧ 2 ≤ o) → ∀ K' : Nat, 1 ≤ K' → K' < K + 1 → s = 2 ^ K' → ¬ 2 ≤ o := fun h K' h1 h2 h3 h4 => by
          by_cases e : K' = K
          · subst e; exact h ⟨by rw [hpq]; exact h3, h4⟩
          · exact hKs K' h1 (by omega) h3 h4
        cbv
        generalize hz5 : vc .leq q 11 = z5
        cases z5
        · rw [qc, leq_false] at hz5
          have := he2 (fun K' h1 h2 => hKs K' h1 (by ((try simp only [nc] at *); omega)))
          subst this
          cbv
        rw [qc, leq_true] at hz5
        have hK11 : K ≤ 11 := by ((try simp only [nc] at *); omega)
        cbv
        rw [ewq, ehl]
        refine ⟨⟨hq0⟩, ?_⟩
        generalize hz6 : vc .eql s pq = z6
        cases z6
        · rw [qc, eql_false] at hz6
          cbv
          rw [eq1]
          refine Cv.fold [56, 57, 58, 59, 60, 61, 62, 63, 64, 65, 66, 67, 68, 69] 1 [] (by exact Nat.le_refl _) (by exact Nat.le_of_ble_eq_true rfl) (by rfl) (by cbv) ?_
          intro js
          refine ⟨_, ?_, js, rfl⟩
          exact ⟨⟨K + 1, hq1, by omega, by omega, hKs1 (fun h => hz6 h.1)⟩, hmu () (by omega)⟩
        rw [qc, eql_true] at hz6
        cbv
        generalize hz7 : vc .geq o 2 = z7
        cases z7
        · rw [qc, geq_false] at hz7
          cbv
          rw [eq1]
          refine Cv.fold [56, 57, 58, 59, 60, 61, 62, 63, 64, 65, 66, 67, 68, 69] 1 [] (by exact Nat.le_refl _) (by exact Nat.le_of_ble_eq_true rfl) (by rfl) (by cbv) ?_
          intro js
          refine ⟨_, ?_, js, rfl⟩
          exact ⟨⟨K + 1, hq1, by omega, by omega, hKs1 (fun h => hz7 h.2)⟩, hmu () (by omega)⟩
        rw [qc, geq_true] at hz7
        have := he1 K hK11 (by rw [hz6, hpq]) hz7
        have hmq : m = q := by rw [this, hq]
        subst hmq
        cbv
end Go.Proofs.Ytaaklikigccdfaa
namespace Go.Proofs.Ytaaklikigccdfaa
open Go Go.Sx Go.Proofs
/-! balerref09.Words. -/
set_option maxRecDepth 10000
set_option maxHeartbeats 40000000
theorem refwords9_con (l : List Int) (cap : Nat) (M : Nat) (hl : ∀ c ∈ l, isU8 c) (hW : Wt l M) :
    Con Try.prog 83 [.slice 0 .z 1 l.length cap] [.ro .u8 l] (fun v H R => v = .slice 1 .z 2 l.length l.length ∧ H = [.ro .u8 l, .arr 181 2 l.length (fun m => [.int .u64 (xA l m), .int .i64 (nA l M m)])] ∧ R = []) := by
  have hsz := refbits9_con l cap M hl (by have := hW.2.1; omega) (.inl ⟨M, hW, rfl⟩)
  refine con_gen (con_cut 2 (by simp) (con_drop (con_walk hmix fn83 ?_)))
  intro vb vc vw vtoN vofN vaddN vsubN vmaxI vminI vcutN vgd vst vln vrep vsub vonto vsplice vstrEq vbyteV vnotB veqB hw qb qc qw qtoN qofN qaddN qsubN qmaxI qminI qcutN qgd qst qln qrep qsub qonto qsplice qstrEq qbyteV qnotB qeqB
  have hm := hmix; generalize Try.prog = P at *
  have hM1 := hW.pos
  have hM11 := hW.2.2.2.2.2.2
  have hn2 := hW.1
  have hn256 := hW.2.1
  have hA0 := wA_zero l
  have hB0 := wB_zero l M
  have hgs0 := gs_one l hl
  have hgss := gs_step l
  have hgsn := fun L hL => @gs_next l L hL
  have hgsr := fun L i h1 h2 h3 => @gs_range l M hW L i h1 h2 h3
  have hgd := fun L i h1 h2 => @gs_dvd l M hW L h1 h2 i
  have hAs := fun L i h => @wA_skip l L i hl h
  have hBs := fun L i h => @wB_skip l M L i hl h
  have hAp := fun L i h1 h2 h3 => @wA_put l L i h1 h2 h3
  have hBp := fun L i h1 h2 h3 => @wB_put l M L i h1 h2 h3
  have hAn := wA_next l
  have hBn := wB_next l M
  have hAa := wA_all hW
  have hBa := wB_all hW
  have hge := getD_u8 hl
  clear hW
  generalize gs l = GS at *
  generalize wA l = WA at *
  generalize wB l M = WB at *
  generalize xA l = XA at *
  generalize nA l M = NA at *
  obtain ⟨mI, hmI⟩ : ∃ mI : Int, mI = M := ⟨_, rfl⟩
  rw [← hmI] at hsz
  generalize hn : l.length = n at *
  have hto : ∀ i : Nat, vtoN (i : Int) = i := fun i => by simp only [qtoN, Int.toNat_natCast]
  have hadd0 : ∀ i, vaddN 0 i = i := fun i => by simp only [qaddN, Nat.zero_add]
  have hvln : vln l = n := by simp only [qln, hn]
  have hvgd : ∀ l i, vgd l i = l.getD i 0 := fun l i => by simp only [qgd]
  obtain ⟨nI, hnI⟩ : ∃ nI : Int, nI = n := ⟨_, rfl⟩
  have en : vofN n = nI := by rw [hnI, qofN]
  have etn : vtoN nI = n := by rw [hnI]; exact hto n
  cbv
  refine call_con (ρ := [(0, .z)]) hsz ⟨by rfl, by rfl, by rfl, by cbv; exact ⟨⟨⟨by omega, fun i _ => by rw [Nat.zero_add]⟩⟩, trivial⟩⟩ ?_
  rintro v H R js ⟨rfl, rfl, rfl⟩
  cbv
  rw [en, etn]
  refine ⟨⟨by ((try simp only [nc] at *); omega)⟩, ⟨by ((try simp only [nc] at *); omega)⟩, ⟨by ((try simp only [nc] at *); omega), by ((try simp only [nc] at *); omega)⟩, ⟨by ((try simp only [nc] at *); omega)⟩, ?_⟩
  refine WX.cv (Cv.arrEq 1 (fun m => [.int .u64 (WA 1 0 m), .int .i64 (WB 1 0 m)]) (by rfl) (by intro i; rw [hA0, hB0]; rfl) (Cv.here ?_))
  obtain ⟨m1, hm1⟩ : ∃ m1 : Int, m1 = mI + 1 := ⟨_, rfl⟩
  have em1 : vb .add .i64 mI 1 = m1 := by (try simp only [nc] at *); rw [qb, add_i64 (by omega) (by omega)]; omega
  refine loop_fam (α := Int × Int × (Nat → Int) × (Nat → Int)) ([7] ++ [13, 14, 15, 16, 17, 18, 19, 20, 21, 22, 23, 24, 25, 26, 27, 28, 29, 30, 31, 32, 33, 34, 35, 36, 37, 38, 39, 40, 41, 42, 43, 44, 45, 46, 47, 48, 49, 50, 51]) [] (fun (k, x, _, _) => [(6, .int .i64 k), (5, .int .i64 x)]) (fun (_, _, A, B) => [(1, .arr 181 2 n (fun m => [.int .u64 (A m), .int .i64 (B m)]))])
    (fun (k, x, A, B) => ∃ L : Nat, k = L ∧ 1 ≤ L ∧ L ≤ M + 2 ∧ x = GS L 0 ∧ A = WA L 0 ∧ B = WB L 0) (fun (k, _) => M + 2 - k.toNat) hw hm ?_ ?_
  · refine Cv.genAt [6, 5] [] (Cv.fold ([7] ++ [13, 14, 15, 16, 17, 18, 19, 20, 21, 22, 23, 24, 25, 26, 27, 28, 29, 30, 31, 32, 33, 34, 35, 36, 37, 38, 39, 40, 41, 42, 43, 44, 45, 46, 47, 48, 49, 50, 51]) 2 [] (by exact Nat.le_refl _) (by exact Nat.le_of_ble_eq_true rfl) (by rfl) (by cbv) ?_)
    intro js
    refine ⟨(_, _, _, _), ?_, js, rfl⟩
    exact ⟨1, rfl, by omega, by omega, hgs0.symm, rfl, rfl⟩
  · rintro ⟨k, x, A, B⟩ js ⟨L, hk, hL1, hL2, hx, hA, hB⟩
    cbv
    rw [em1]
    generalize hz1 : vc .leq k m1 = z1
    cases z1
    rotate_left
    · rw [qc, leq_true] at hz1
      have hlt : L ≤ M + 1 := by ((try simp only [nc] at *); omega)
      have hgn := hgsn L hL1
      have hAn1 := hAn L
      have hBn1 := hBn L
      obtain ⟨k1, hk1⟩ : ∃ k1 : Int, k1 = ((L + 1 : Nat) : Int) := ⟨_, rfl⟩
      have ek : vb .add .i64 k 1 = k1 := by (try simp only [nc] at *); rw [qb, add_i64 (by omega) (by omega)]; omega
      have hmu : ∀ _ : Unit, M + 2 - k1.toNat < M + 2 - k.toNat := fun _ => by ((try simp only [nc] at *); omega)
      cbv
      refine loop_fam (α := Int × Int × (Nat → Int) × (Nat → Int)) [19, 20, 21, 22, 23, 24, 25, 26, 27, 28, 29, 30, 31, 32, 33, 34, 35, 36, 37, 38, 39, 40, 41, 42, 43, 44, 45, 46, 47, 48, 49, 50, 51] [] (fun (q, x, _, _) => [(7, .int .i64 q), (5, .int .i64 x)]) (fun (_, _, A, B) => [(1, .arr 181 2 n (fun m => [.int .u64 (A m), .int .i64 (B m)]))])
        (fun (q, x, A, B) => ∃ i : Nat, q = i ∧ i ≤ n ∧ x = GS L i ∧ A = WA L i ∧ B = WB L i) (fun (q, _) => n - q.toNat) hw hm ?_ ?_
      · refine Cv.genAt [7, 5] [] (Cv.fold [19, 20, 21, 22, 23, 24, 25, 26, 27, 28, 29, 30, 31, 32, 33, 34, 35, 36, 37, 38, 39, 40, 41, 42, 43, 44, 45, 46, 47, 48, 49, 50, 51] 2 [] (by exact Nat.le_refl _) (by exact Nat.le_of_ble_eq_true rfl) (by rfl) (by cbv) ?_)
        intro js
        refine ⟨(_, _, _, _), ?_, js, rfl⟩
        exact ⟨0, rfl, by omega, hx, hA, hB⟩
      · rintro ⟨q, x, A, B⟩ js2 ⟨i, hq, hi, hx, hA, hB⟩
        cbv
        rw [en]
        generalize hz2 : vc .lss q nI = z2
        cases z2
        · rw [qc, lss_false] at hz2
          obtain rfl : i = n := by ((try simp only [nc] at *); omega)
          cbv
          rw [ek]
          refine Cv.fold ([7] ++ [13, 14, 15, 16, 17, 18, 19, 20, 21, 22, 23, 24, 25, 26, 27, 28, 29, 30, 31, 32, 33, 34, 35, 36, 37, 38, 39, 40, 41, 42, 43, 44, 45, 46, 47, 48, 49, 50, 51]) 2 [] (by exact Nat.le_refl _) (by exact Nat.le_of_ble_eq_true rfl) (by rfl) (by cbv) ?_
          intro js
          refine ⟨(_, _, _, _), ?_, js, rfl⟩
          exact ⟨⟨L + 1, hk1, by omega, by omega, by rw [hx, hgn], by rw [hA, hAn1], by rw [hB, hBn1]⟩, hmu ()⟩
        · rw [qc, lss_true] at hz2
          have hlt2 : i < n := by ((try simp only [nc] at *); omega)
          have hti : vtoN q = i := by rw [hq]; exact hto i
          have hinR : 0 ≤ q ∧ q < (n : Int) := by ((try simp only [nc] at *); omega)
          obtain ⟨q1, hq1⟩ : ∃ q1 : Int, q1 = ((i + 1 : Nat) : Int) := ⟨_, rfl⟩
          have eq1 : vb .add .i64 q 1 = q1 := by (try simp only [nc] at *); rw [qb, add_i64 (by omega) (by omega)]; omega
          have hmu2 : ∀ _ : Unit, n - q1.toNat < n - q.toNat := fun _ => by ((try simp only [nc] at *); omega)
          have hx0 := hge i
          have hgs1 := hgss L i
          have hr1 := hgsr L i hL1 hlt (by omega)
          have hr2 := hgsr L (i + 1) hL1 hlt (by omega)
          have hdv := hgd L i hL1 hlt
          have hAs1 := hAs L i
          have hBs1 := hBs L i
          have hAp1 := hAp L i hlt2 hL1
          have hBp1 := hBp L i hlt2 hL1
          have hp11 : (2 : Int) ^ M ≤ 2 ^ 11 := pow_up hM11
          cbv
          rw [hti, hadd0, hvgd, hvln]
          refine ⟨⟨hinR⟩, ⟨by omega⟩, ⟨by omega⟩, ?_⟩
          generalize hxi : l.getD i 0 = y at *
          have ew : vw .i64 y = y := by rw [qw]; exact wrap_i64 (by omega) (by omega)
          rw [ew]
          generalize hz3 : vc .eql y k = z3
          cases z3
          · rw [qc, eql_false] at hz3
            have hne : y ≠ (L : Int) := by ((try simp only [nc] at *); omega)
            rw [if_neg hne] at hgs1
            cbv
            rw [eq1]
            refine Cv.fold [19, 20, 21, 22, 23, 24, 25, 26, 27, 28, 29, 30, 31, 32, 33, 34, 35, 36, 37, 38, 39, 40, 41, 42, 43, 44, 45, 46, 47, 48, 49, 50, 51] 2 [] (by exact Nat.le_refl _) (by exact Nat.le_of_ble_eq_true rfl) (by rfl) (by cbv) ?_
            intro js
            refine ⟨(_, _, _, _), ?_, js, rfl⟩
            exact ⟨⟨i + 1, hq1, hlt2, by rw [hx, hgs1]; omega, by rw [hA, hAs1 hne], by rw [hB, hBs1 hne]⟩, hmu2 ()⟩
          · rw [qc, eql_true] at hz3
            have hyL : y = (L : Int) := by (try simp only [nc] at *); omega
            rw [if_pos hyL] at hgs1
            have hAp2 := hAp1 hyL
            have hBp2 := hBp1 hyL
            obtain ⟨k0, hk0⟩ : ∃ k0 : Int, k0 = ((L - 1 : Nat) : Int) := ⟨_, rfl⟩
            have ek0 : vb .sub .i64 k 1 = k0 := by (try simp only [nc] at *); rw [qb, sub_i64 (by omega) (by omega)]; omega
            have ew0 : vw .u64 k0 = k0 := by (try simp only [nc] at *); rw [qw]; exact wrap_u64 (by omega) (by omega)
            obtain ⟨x1, hx1⟩ : ∃ x1 : Int, x1 = GS L i / 2 ^ (L - 1) := ⟨_, rfl⟩
            have hpL : (0 : Int) < 2 ^ (L - 1) := p2 _
            have hpL2 : (2 : Int) ^ (L - 1) ≤ 2 ^ 11 := pow_up (by omega)
            have hx1r : 0 ≤ x1 ∧ x1 ≤ 2048 := by
              rw [hx1]
              have a1 := Int.ediv_nonneg hr1.1 (Int.le_of_lt hpL)
              have a2 := Int.ediv_le_self (2 ^ (L - 1)) hr1.1
              constructor
              · exact a1
              · (try simp only [nc] at *); omega
            have es : vb .shr .i64 x k0 = x1 := by
              rw [qb, shr_eq (by show k0 ≤ 64; (try simp only [nc] at *); omega), hx1, hx, hk0, Int.toNat_natCast]
            have ew1 : vw .u64 x1 = x1 := by rw [qw]; exact wrap_u64 (by omega) (by omega)
            obtain ⟨n1, hn1⟩ : ∃ n1 : Int, n1 = (M : Int) + 1 - L := ⟨_, rfl⟩
            have en1 : vb .sub .i64 m1 k = n1 := by (try simp only [nc] at *); rw [qb, sub_i64 (by omega) (by omega)]; omega
            have hk00 : 0 ≤ k0 := by ((try simp only [nc] at *); omega)
            rw [← hx1] at hAp2
            rw [← hn1] at hBp2
            obtain ⟨s1, hs1⟩ : ∃ s1 : Int, s1 = 2 ^ (L - 1) := ⟨_, rfl⟩
            have esl : vb .shl .i64 1 k0 = s1 := by
              rw [qb, one_shl62 (by omega) (by omega), hs1, hk0, Int.toNat_natCast]
            obtain ⟨x2, hx2⟩ : ∃ x2 : Int, x2 = GS L (i + 1) := ⟨_, rfl⟩
            have ex2 : vb .add .i64 x s1 = x2 := by
              have e : x + s1 = x2 := by rw [hx2, hgs1, hx, hs1]
              rw [qb, add_i64 (by (try simp only [nc] at *); omega) (by (try simp only [nc] at *); omega), e]
            rw [← hA] at hAp2
            rw [← hB] at hBp2
            cbv
            rw [ek0, ew0, es, ew1, em1, en1, hti, updF_2_0, updF_2_1, esl, ex2, eq1]
            refine ⟨⟨hk00⟩, ⟨hinR⟩, ⟨hlt2⟩, ⟨hlt2⟩, ⟨hk00⟩, ?_⟩
            refine Cv.fold [19, 20, 21, 22, 23, 24, 25, 26, 27, 28, 29, 30, 31, 32, 33, 34, 35, 36, 37, 38, 39, 40, 41, 42, 43, 44, 45, 46, 47, 48, 49, 50, 51] 2 [] (by exact Nat.le_refl _) (by exact Nat.le_of_ble_eq_true rfl) (by rfl) (by cbv) ?_
            intro js
            refine ⟨(_, _, _, _), ?_, js, rfl⟩
            exact ⟨⟨i + 1, hq1, hlt2, hx2, hAp2.symm, hBp2.symm⟩, hmu2 ()⟩
    · rw [qc, leq_false] at hz1
      have hL : L = M + 2 := by ((try simp only [nc] at *); omega)
      subst hL
      rw [hAa] at hA
      rw [hBa] at hB
      cbv
      exact ⟨by rw [hA, hB], trivial⟩
end Go.Proofs.Ytaaklikigccdfaa
namespace Go.Proofs.Ytaaklikigccdfaa
open Go Go.Sx Go.Proofs
/-! balerref09.next. -/
set_option maxRecDepth 10000
set_option maxHeartbeats 40000000
theorem word_hit {l : List Int} {M : Nat} (hl : ∀ c ∈ l, isU8 c) (hW : Wt l M) (b : List Int) (p : Int) (i n : Nat) (hn : 1 ≤ n) :
    (nA l M i = n ∧ xA l i = rd b p n) ↔ (i = dc l (rd b p M) ∧ (n : Int) = nA l M (dc l (rd b p M))) := by
  have hr := rd_bound b p M
  have hd := dc_spec hl hW hr.1 hr.2
  have key : ∀ c, Sy l c → nA l M c = n → rd b p M / 2 ^ (wn l c - 1) = rd b p n := fun c hc hcn => by
    rw [nA_of hc] at hcn
    have hwn := wn_le hW hc.1
    have h1 := hc.2
    have := rd_div b p n (wn l c - 1)
    rw [show n + (wn l c - 1) = M by omega] at this
    exact this
  constructor
  · rintro ⟨h1, h2⟩
    have hs : Sy l i := Classical.byContradiction fun h => by
      have := (nA_range hW i).2.2.2 h
      omega
    have hdi : Dc l (rd b p M) i := by
      rw [Dc_iff hW hs.1 hs.2, key i hs h1, ← h2, xA_of hs]
    have := Dc.uniq hl hdi hd
    subst this
    exact ⟨rfl, h1.symm⟩
  · rintro ⟨rfl, h2⟩
    have hs := hd.sy
    refine ⟨h2.symm, ?_⟩
    rw [Dc_iff hW hs.1 hs.2, key _ hs h2.symm] at hd
    rw [xA_of hs, hd]
theorem refnext9_con (l b : List Int) (M P0 c : Nat) (p : Int) (hl : ∀ c ∈ l, isU8 c) (hW : Wt l M) (hP : P0 ≤ 8 * b.length) (hbl : 8 * b.length ≤ 140737488355328) (hp : 0 ≤ p ∧ p ≤ P0) :
    Con Try.prog 84 [.ptr 0 .z 2 0, .slice 1 .z 2 l.length l.length, .int .i64 M] [.one 114 [.slice 2 .z 1 P0 c, .int .i64 p], .arr 181 2 l.length (fun m => [.int .u64 (xA l m), .int .i64 (nA l M m)]), .ro .u8 (bitsOf b (8 * b.length))]
      (fun v H R => v = .tup [.int .u8 (dc l (rd b p M)), .bool (cV .geq (p - nA l M (dc l (rd b p M))) 0)] ∧
        H = [.one 114 [.slice 2 .z 1 P0 c, .int .i64 (p - nA l M (dc l (rd b p M)))], .arr 181 2 l.length (fun m => [.int .u64 (xA l m), .int .i64 (nA l M m)]), .ro .u8 (bitsOf b (8 * b.length))] ∧ R = []) := by
  have hbits : ∀ n : Nat, n ≤ 12 → Con Try.prog 50 [.ptr 0 .z 2 0, .int .i64 1] [.one 114 [.slice 1 .z 1 P0 c, .int .i64 (p - n)], .ro .u8 (bitsOf b (8 * b.length))]
      (fun v H R => v = .int .u64 (rd b (p - n) 1) ∧ R = [] ∧ H = [.one 114 [.slice 1 .z 1 P0 c, .int .i64 (p - (n + 1 : Nat))], .ro .u8 (bitsOf b (8 * b.length))]) := by
    intro n hn
    have := refbits_con b P0 c (p - n) 1 hP hbl ⟨by omega, by omega⟩
    have e1 : clampN 1 = 1 := by decide
    have e2 : floorP (p - n - (1 : Nat)) = p - (n + 1 : Nat) := by unfold floorP; rw [if_neg (by omega)]; omega
    rw [e1, e2] at this
    exact this
  have hhit := fun i n hn => word_hit hl hW b p i n hn
  have hr := rd_bound b p M
  have hd := dc_spec hl hW hr.1 hr.2
  have hdl := hd.1
  have hnr := nA_range hW (dc l (rd b p M))
  have hn1 : nA l M (dc l (rd b p M)) ≠ 0 := fun e => hnr.2.2.1 e hd.sy
  have hx1 := fun n => rd_app b p n 1
  have hrb := fun n => rd_bound b p n
  have hr0 : rd b p 0 = 0 := rfl
  have hn2 := hW.1
  have hn256 := hW.2.1
  have hM11 := hW.2.2.2.2.2.2
  have hM1 := hW.pos
  clear hd hr hW
  refine con_gen (con_cut 3 (by simp) (con_drop (con_walk hmix fn84 ?_)))
  intro vb vc vw vtoN vofN vaddN vsubN vmaxI vminI vcutN vgd vst vln vrep vsub vonto vsplice vstrEq vbyteV vnotB veqB hw qb qc qw qtoN qofN qaddN qsubN qmaxI qminI qcutN qgd qst qln qrep qsub qonto qsplice qstrEq qbyteV qnotB qeqB
  have hm := hmix; generalize Try.prog = P at *
  have hb1 : ∀ n : Nat, n ≤ 12 → ∃ y : Int, y = rd b (p - n) 1 ∧ 0 ≤ y ∧ y < 2 := fun n _ => ⟨_, rfl, by have := rd_bound b (p - n) 1; omega⟩
  generalize dc l (rd b p M) = s at *
  generalize xA l = XA at *
  generalize nA l M = NA at *
  generalize hRD : rd b p = RD at *
  generalize hBO : bitsOf b (8 * b.length) = BO at *
  obtain ⟨mI, hmI⟩ : ∃ mI : Int, mI = M := ⟨_, rfl⟩
  rw [← hmI]
  obtain ⟨sI, hsI⟩ : ∃ sI : Int, sI = (s : Int) := ⟨_, rfl⟩
  rw [← hsI]
  obtain ⟨ns, hns⟩ : ∃ ns : Int, ns = NA s := ⟨_, rfl⟩
  rw [← hns] at hnr hn1 hhit ⊢
  obtain ⟨pe, hpe⟩ : ∃ pe : Int, pe = p - ns := ⟨_, rfl⟩
  rw [← hpe]
  obtain ⟨bo, hbo⟩ : ∃ bo : Bool, bo = cV .geq pe 0 := ⟨_, rfl⟩
  rw [← hbo]
  generalize hn : l.length = n at *
  have hto : ∀ i : Nat, vtoN (i : Int) = i := fun i => by simp only [qtoN, Int.toNat_natCast]
  obtain ⟨nI, hnI⟩ : ∃ nI : Int, nI = n := ⟨_, rfl⟩
  have en : vofN n = nI := by rw [hnI, qofN]
  cbv
  refine loop_fam (α := Int × Int × Int) ([10] ++ [11, 12, 13, 14, 15, 16, 17, 18, 19, 20, 21, 22, 23, 24, 25, 26, 27, 28, 29, 30, 31, 32, 33, 34, 35, 36, 37, 38, 39, 40, 41, 42, 43, 44, 45, 46, 47, 48, 49, 50, 51, 52, 53]) [] (fun (k, x, _) => [(9, .int .i64 k), (8, .int .u64 x)]) (fun (_, _, q) => [(0, .one 114 [.slice 2 .z 1 P0 c, .int .i64 q])])
    (fun (k, x, q) => ∃ N : Nat, k = N ∧ x = RD N ∧ q = p - N ∧ (N : Int) ≤ ns) (fun (k, _) => 12 - k.toNat) hw hm ?_ ?_
  · refine Cv.genAt [9, 8] [] (Cv.fold ([10] ++ [11, 12, 13, 14, 15, 16, 17, 18, 19, 20, 21, 22, 23, 24, 25, 26, 27, 28, 29, 30, 31, 32, 33, 34, 35, 36, 37, 38, 39, 40, 41, 42, 43, 44, 45, 46, 47, 48, 49, 50, 51, 52, 53]) 3 [] (by exact Nat.le_refl _) (by exact Nat.le_of_ble_eq_true rfl) (by rfl) (by cbv) ?_)
    intro js
    refine ⟨(_, _, _), ?_, js, rfl⟩
    exact ⟨0, rfl, hr0.symm, by omega, hnr.1⟩
  · rintro ⟨k, x, q⟩ js ⟨N, hk, hx, hq, hN⟩
    have hzl : vc .leq k mI = true := by rw [qc, leq_true]; ((try simp only [nc] at *); omega)
    cbv
    rw [hzl]
    cbv
    refine loop_fam (α := Int) [16, 17, 18, 19, 20, 21, 22, 23, 24, 25, 26, 27, 28, 29, 30, 31, 32, 33, 34, 35, 36, 37, 38, 39, 40, 41, 42, 43, 44, 45, 46, 47, 48] [] (fun i => [(10, .int .i64 i)]) (fun _ => [])
      (fun i => ∃ I : Nat, i = I ∧ I ≤ n ∧ ((N : Int) = ns → I ≤ s)) (fun i => n - i.toNat) hw hm ?_ ?_
    · refine Cv.genAt [10] [] (Cv.fold [16, 17, 18, 19, 20, 21, 22, 23, 24, 25, 26, 27, 28, 29, 30, 31, 32, 33, 34, 35, 36, 37, 38, 39, 40, 41, 42, 43, 44, 45, 46, 47, 48] 3 [] (by exact Nat.le_refl _) (by exact Nat.le_of_ble_eq_true rfl) (by rfl) (by cbv) ?_)
      intro js
      refine ⟨_, ?_, js, rfl⟩
      exact ⟨0, rfl, by omega, fun _ => by omega⟩
    · rintro i js2 ⟨I, hi, hI, hIs⟩
      cbv
      rw [en]
      generalize hz2 : vc .lss i nI = z2
      cases z2
      · rw [qc, lss_false] at hz2
        have hIn : I = n := by ((try simp only [nc] at *); omega)
        have hne : (N : Int) ≠ ns := fun e => by have := hIs e; omega
        have hbt := hbits N (by ((try simp only [nc] at *); omega))
        obtain ⟨y, hy, hy0, hy1⟩ := hb1 N (by ((try simp only [nc] at *); omega))
        rw [← hy, ← hq] at hbt
        obtain ⟨q1, hq1⟩ : ∃ q1 : Int, q1 = p - (N + 1 : Nat) := ⟨_, rfl⟩
        rw [← hq1] at hbt
        obtain ⟨x1, hxx⟩ : ∃ x1 : Int, x1 = RD (N + 1) := ⟨_, rfl⟩
        have hxb := hrb N
        have hp12 : (2 : Int) ^ N ≤ 2 ^ 11 := pow_up (by ((try simp only [nc] at *); omega))
        have ex : vb .add .u64 (vb .mul .u64 2 x) y = x1 := by
          have e1 : vb .mul .u64 2 x = 2 * x := by rw [qb]; exact wrap_u64 (by ((try simp only [nc] at *); omega)) (by ((try simp only [nc] at *); omega))
          rw [e1, hxx, hx1, qb]
          rw [← hy, ← hx]
          have : IntKind.u64.wrap (2 * x + y) = 2 * x + y := wrap_u64 (by ((try simp only [nc] at *); omega)) (by ((try simp only [nc] at *); omega))
          refine this.trans ?_
          simp only [Int.reducePow]
          rw [Int.mul_comm]
        obtain ⟨k1, hk1⟩ : ∃ k1 : Int, k1 = ((N + 1 : Nat) : Int) := ⟨_, rfl⟩
        have ek : vb .add .i64 k 1 = k1 := by (try simp only [nc] at *); rw [qb, add_i64 (by omega) (by omega)]; omega
        have hmu : ∀ _ : Unit, 12 - k1.toNat < 12 - k.toNat := fun _ => by ((try simp only [nc] at *); omega)
        cbv
        refine call_con (ρ := [(0, .z), (2, .z)]) hbt ⟨by rfl, by rfl, by rfl, by cbv; exact ⟨fun _ => rfl, view_refl _, trivial⟩⟩ ?_
        rintro v H R js3 ⟨rfl, rfl, rfl⟩
        cbv
        refine ⟨fun _ => rfl, ?_⟩
        rw [ex, ek]
        refine Cv.fold ([10] ++ [11, 12, 13, 14, 15, 16, 17, 18, 19, 20, 21, 22, 23, 24, 25, 26, 27, 28, 29, 30, 31, 32, 33, 34, 35, 36, 37, 38, 39, 40, 41, 42, 43, 44, 45, 46, 47, 48, 49, 50, 51, 52, 53]) 3 [] (by exact Nat.le_refl _) (by exact Nat.le_of_ble_eq_true rfl) (by rfl) (by cbv) ?_
        intro js
        refine ⟨(_, _, _), ?_, js, rfl⟩
        exact ⟨⟨N + 1, hk1, hxx, hq1, by ((try simp only [nc] at *); omega)⟩, hmu ()⟩
      · rw [qc, lss_true] at hz2
        have hlt : I < n := by ((try simp only [nc] at *); omega)
        have hti : vtoN i = I := by rw [hi]; exact hto I
        have hinR : 0 ≤ i ∧ i < (n : Int) := by ((try simp only [nc] at *); omega)
        obtain ⟨i1, hi1⟩ : ∃ i1 : Int, i1 = ((I + 1 : Nat) : Int) := ⟨_, rfl⟩
        have ei : vb .add .i64 i 1 = i1 := by (try simp only [nc] at *); rw [qb, add_i64 (by omega) (by omega)]; omega
        have hmu : ∀ _ : Unit, n - i1.toNat < n - i.toNat := fun _ => by ((try simp only [nc] at *); omega)
        have hh := hhit I N
        have hgo : ¬ (NA I = N ∧ 1 ≤ N ∧ XA I = RD N) → ((N : Int) = ns → I + 1 ≤ s) := fun h e => by
          have h1 := hIs e
          by_cases e2 : I = s
          · have h3 := (hh (by omega)).2 ⟨e2, e⟩
            exact (h ⟨h3.1, by omega, h3.2⟩).elim
          · omega
        cbv
        rw [hti]
        refine ⟨⟨hinR⟩, ⟨hlt⟩, ?_⟩
        generalize hz3 : vc .eql (NA I) k = z3
        cases z3
        · rw [qc, eql_false] at hz3
          cbv
          rw [ei]
          refine Cv.fold [16, 17, 18, 19, 20, 21, 22, 23, 24, 25, 26, 27, 28, 29, 30, 31, 32, 33, 34, 35, 36, 37, 38, 39, 40, 41, 42, 43, 44, 45, 46, 47, 48] 3 [] (by exact Nat.le_refl _) (by exact Nat.le_of_ble_eq_true rfl) (by rfl) (by cbv) ?_
          intro js
          refine ⟨_, ?_, js, rfl⟩
          exact ⟨⟨I + 1, hi1, hlt, hgo (fun h => hz3 (by rw [h.1, hk]))⟩, hmu ()⟩
        rw [qc, eql_true] at hz3
        cbv
        generalize hz4 : vc .gtr k 0 = z4
        cases z4
        · rw [qc, gtr_false] at hz4
          cbv
          rw [ei]
          refine Cv.fold [16, 17, 18, 19, 20, 21, 22, 23, 24, 25, 26, 27, 28, 29, 30, 31, 32, 33, 34, 35, 36, 37, 38, 39, 40, 41, 42, 43, 44, 45, 46, 47, 48] 3 [] (by exact Nat.le_refl _) (by exact Nat.le_of_ble_eq_true rfl) (by rfl) (by cbv) ?_
          intro js
          refine ⟨_, ?_, js, rfl⟩
          exact ⟨⟨I + 1, hi1, hlt, hgo (fun h => hz4 (by ((try simp only [nc] at *); omega)))⟩, hmu ()⟩
        rw [qc, gtr_true] at hz4
        cbv
        rw [hti]
        refine ⟨⟨hinR⟩, ⟨hlt⟩, ?_⟩
        generalize hz5 : vc .eql (XA I) x = z5
        cases z5
        · rw [qc, eql_false] at hz5
          cbv
          rw [ei]
          refine Cv.fold [16, 17, 18, 19, 20, 21, 22, 23, 24, 25, 26, 27, 28, 29, 30, 31, 32, 33, 34, 35, 36, 37, 38, 39, 40, 41, 42, 43, 44, 45, 46, 47, 48] 3 [] (by exact Nat.le_refl _) (by exact Nat.le_of_ble_eq_true rfl) (by rfl) (by cbv) ?_
          intro js
          refine ⟨_, ?_, js, rfl⟩
          exact ⟨⟨I + 1, hi1, hlt, hgo (fun h => hz5 (by rw [h.2.2, hx]))⟩, hmu ()⟩
        rw [qc, eql_true] at hz5
        obtain ⟨hIs2, hNs⟩ := (hh (by ((try simp only [nc] at *); omega))).1 ⟨by rw [hz3, hk], by rw [hz5, hx]⟩
        have hqe : q = pe := by rw [hq, hpe, hNs]
        have ewi : vw .u8 i = sI := by rw [qw, hsI, hi, hIs2]; exact wrap_u8 (by ((try simp only [nc] at *); omega)) (by ((try simp only [nc] at *); omega))
        have hbe : vc .geq q 0 = bo := by rw [qc, hqe, hbo]
        cbv
        rw [ewi, hbe, hqe]
        exact ⟨rfl, rfl, trivial⟩
end Go.Proofs.Ytaaklikigccdfaa
namespace Go.Proofs.Ytaaklikigccdfaa
open Go Go.Sx Go.Proofs
/-! balerref09.Unpack. -/
set_option maxRecDepth 10000
set_option maxHeartbeats 40000000
theorem refunpack_good (l b : List Int) (cap cap2 : Nat) (M : Nat) (N : Int) (hl : ∀ c ∈ l, isU8 c) (hb : ∀ c ∈ b, isByte c) (hW : Wt l M) (hN : 0 ≤ N ∧ N ≤ 131072) (hbl : 8 * b.length ≤ 140737488355328) (hlast : b.getLastD 0 ≠ 0) :
    Con Try.prog 56 [.slice 0 .z 1 l.length cap, .slice 1 .z 1 b.length cap2, .int .i64 N] [.ro .u8 l, .ro .u8 b]
      (fun v H R => R = [] ∧ ((H = [.ro .u8 l, .ro .u8 b] ∧ v = .tup [.val (.slice none 0 0), .int .i64 11] ∧ pos l M b (markAt b) N.toNat ≠ 0) ∨ ∃ L c', H = [.ro .u8 l, .ro .u8 b, .buf 5 .u8 L c'] ∧
        v = .tup [.slice 2 .z 1 L.length c', .int .i64 0] ∧ L = outs l M b (markAt b) N.toNat ∧ pos l M b (markAt b) N.toNat = 0)) := by
  have hsz := refbits9_con l cap M hl (by have := hW.2.1; omega) (.inl ⟨M, hW, rfl⟩)
  have hwords := refwords9_con l cap M hl hW
  have hnew := refnew_good b cap2 hlast hb hbl
  obtain ⟨P0, hP0, hP0l, _, _⟩ := markAt_spec b hlast hb
  have hnew : Con Try.prog 49 [.slice 0 .z 1 b.length cap2] [.ro .u8 b] (fun v H R => v = .tup [.ptr 1 .z 2 0, .lit .i64 0] ∧ R = [2] ∧ ∃ c : Nat, H = [.ro .u8 b, .one 114 [.slice 2 .z 1 P0 c, .int .i64 P0], .buf 5 .u8 (bitsOf b (8 * b.length)) c]) := by
    refine hnew.mono ?_
    rintro v H R ⟨e1, e2, P, c, e3, e4, e5⟩
    obtain rfl : P = P0 := by omega
    exact ⟨e1, e2, c, e5⟩
  have hnext := fun c p h => refnext9_con l b M P0 c p hl hW (by omega) hbl h
  rw [hP0]
  have hps := fun j => pos_step hl hW b P0 j
  have hpd := fun i j h => @pos_down l M hl hW b P0 i j h
  have hol := outs_len l M b P0
  have hos := outs_succ l M b P0
  have ho0 : outs l M b P0 0 = [] := rfl
  have hpos0 : pos l M b P0 0 = P0 := rfl
  have hsy : ∀ j, dc l (rd b (pos l M b P0 j) M) = sym l M b P0 j := fun _ => rfl
  have hM1 := hW.pos
  have hM11 := hW.2.2.2.2.2.2
  have hn2 := hW.1
  have hn256 := hW.2.1
  refine con_gen (con_picks (con_drop (con_walk hmix fn56 ?_)))
  intro vb vc vw vtoN vofN vaddN vsubN vmaxI vminI vcutN vgd vst vln vrep vsub vonto vsplice vstrEq vbyteV vnotB veqB hw qb qc qw qtoN qofN qaddN qsubN qmaxI qminI qcutN qgd qst qln qrep qsub qonto qsplice qstrEq qbyteV qnotB qeqB
  have hm := hmix; generalize Try.prog = P at *
  clear hW
  generalize pos l M b P0 = POS at *
  generalize outs l M b P0 = OUT at *
  generalize sym l M b P0 = SYM at *
  generalize bitsOf b (8 * b.length) = BO at *
  generalize xA l = XA at *
  generalize nA l M = NA at *
  generalize dc l = DCL at *
  generalize hRD : rd b = RD at *
  obtain ⟨mI, hmI⟩ : ∃ mI : Int, mI = M := ⟨_, rfl⟩
  obtain ⟨pI, hpI⟩ : ∃ pI : Int, pI = P0 := ⟨_, rfl⟩
  rw [← hmI] at hsz hnext
  rw [← hpI] at hnew hpos0
  generalize hn : l.length = n at *
  generalize hlb : b.length = lb at *
  have d1 : vc .eql mI 0 = false := by rw [qc, eql_false]; omega
  have d2 : vc .lss N 0 = false := by rw [qc, lss_false]; omega
  have d3 : vc .gtr N 131072 = false := by rw [qc, gtr_false]; omega
  have d4 : vc .neq 0 0 = false := by rw [qc]; rfl
  cbv
  refine call_con (ρ := [(0, .z)]) hsz ⟨by rfl, by rfl, by rfl, by cbv; exact ⟨⟨⟨by omega, fun i _ => by rw [Nat.zero_add]⟩⟩, trivial⟩⟩ ?_
  rintro v H R js ⟨rfl, rfl, rfl⟩
  cbv
  rw [d1]
  cbv
  rw [d2]
  cbv
  rw [d3]
  cbv
  refine call_con (ρ := [(1, .z)]) hnew ⟨by rfl, by rfl, by rfl, by cbv; exact ⟨view_refl _, trivial⟩⟩ ?_
  rintro v H R js ⟨rfl, rfl, c0, rfl⟩
  cbv
  refine call_con (ρ := [(0, .z)]) hwords ⟨by rfl, by rfl, by rfl, by cbv; exact ⟨⟨⟨by omega, fun i _ => by rw [Nat.zero_add]⟩⟩, trivial⟩⟩ ?_
  rintro v H R js2 ⟨rfl, rfl, rfl⟩
  cbv
  refine ⟨fun _ => rfl, ?_⟩
  refine WX.cv (Cv.arrEq 4 (fun m => [.int .u64 (XA m), .int .i64 (NA m)]) (by rfl) (by intro i; rfl) (Cv.here ?_))
  cbv
  refine WX.cv (Cv.nilT 12 5 .u8 (by rfl) (by cbv; exact ⟨fun _ => rfl, trivial⟩) (Cv.here ?_))
  cbv
  refine loop_fam (α := Int × Int × Nat × Nat × List Int) ([14, 15] ++ [36, 37, 38, 39, 40, 41, 42, 43, 44, 45, 46, 47, 48, 49, 50, 51, 52, 53]) [5] (fun (k, q, c, n1, L) => [(13, .int .i64 k), (12, .slice 5 .z 1 n1 c)])
    (fun (k, q, c, n1, L) => [(2, .one 114 [.slice 3 .z 1 P0 c0, .int .i64 q]), (5, .buf 5 .u8 L c)])
    (fun (k, q, c, n1, L) => ∃ j : Nat, k = j ∧ (j : Int) ≤ N ∧ q = POS j ∧ 0 ≤ POS j ∧ L = OUT j ∧ n1 = j ∧ n1 ≤ c) (fun (_, _, _, n1, _) => N.toNat - n1) hw hm ?_ ?_
  · refine Cv.genAt [13] [2] (Cv.fold ([14, 15] ++ [36, 37, 38, 39, 40, 41, 42, 43, 44, 45, 46, 47, 48, 49, 50, 51, 52, 53]) 6 [5] (by exact Nat.le_refl _) (by exact Nat.le_of_ble_eq_true rfl) (by rfl) (by cbv) ?_)
    intro js
    refine ⟨(_, _, _, _, _), ?_, js, rfl⟩
    exact ⟨0, rfl, by omega, hpos0.symm, by rw [hpos0]; ((try simp only [nc] at *); omega), ho0.symm, rfl, Nat.le_refl _⟩
  · rintro ⟨k, q, c, n1, L⟩ js ⟨j, hk, hjN, hq, hp, hL, hn1, hnc⟩
    subst hn1
    have hpd0 := hpd 0 n1 (by omega)
    rw [hpos0] at hpd0
    cbv
    generalize hz2 : vc .lss k N = z2
    cases z2
    · rw [qc, lss_false] at hz2
      have hnN : N.toNat = n1 := by ((try simp only [nc] at *); omega)
      have hLn : L.length = n1 := by rw [hL]; exact hol n1
      rw [hnN]
      cbv
      generalize hz3 : vc .neq q 0 = z3
      cases z3
      rotate_left
      · rw [qc, neq_true, hq] at hz3
        cbv
        exact ⟨[0, 1], .tup [.val (.slice none 0 0), .lit .i64 11], [.ro .u8 l, .ro .u8 b], rfl, rfl, rfl, rfl, ⟨rfl, rfl, trivial⟩, rfl, .inl ⟨rfl, rfl, hz3⟩⟩
      · rw [qc, neq_false, Decidable.not_not, hq] at hz3
        cbv
        subst hLn
        exact ⟨[0, 1, 5], .tup [.slice 2 .z 1 L.length c, .lit .i64 0], [.ro .u8 l, .ro .u8 b, .buf 5 .u8 L c], rfl, rfl, rfl, rfl, ⟨rfl, rfl, rfl, trivial⟩, rfl, .inr ⟨L, c, rfl, rfl, hL, hz3⟩⟩
    · rw [qc, lss_true] at hz2
      have hnx := hnext c0 q ⟨by ((try simp only [nc] at *); omega), by ((try simp only [nc] at *); omega)⟩
      obtain ⟨hp1, hn1a, hn1b, _, _⟩ := hps n1
      have hsy1 := hsy n1
      rw [← hq] at hsy1
      rw [hsy1] at hnx
      obtain ⟨q1, hq1⟩ : ∃ q1, q1 = POS (n1 + 1) := ⟨_, rfl⟩
      have hqq : q - NA (SYM n1) = q1 := by ((try simp only [nc] at *); omega)
      rw [hqq] at hnx
      obtain ⟨cI, hcI⟩ : ∃ cI : Int, cI = (SYM n1 : Int) := ⟨_, rfl⟩
      simp only [nc] at hnx hcI
      rw [← hcI] at hnx
      have hpdN := hpd (n1 + 1) N.toNat (by ((try simp only [nc] at *); omega))
      rw [← hq1] at hpdN
      generalize hz3 : cV .geq q1 0 = z3 at hnx
      cbv
      refine call_con (ρ := [(2, .z), (4, .z), (3, .z)]) hnx ⟨by rfl, by rfl, by rfl, by cbv; exact ⟨fun _ => rfl, ⟨rfl, trivial⟩, fun _ => rfl, view_refl _, trivial⟩⟩ ?_
      rintro v H R js2 ⟨rfl, rfl, rfl⟩
      cbv
      refine ⟨fun _ => rfl, fun _ => rfl, ?_⟩
      cases z3
      · rw [geq_false] at hz3
        have ez : vnotB false = true := by rw [qnotB]; rfl
        have hne : POS N.toNat ≠ 0 := by ((try simp only [nc] at *); omega)
        rw [ez]
        cbv
        exact ⟨[0, 1], .tup [.val (.slice none 0 0), .lit .i64 11], [.ro .u8 l, .ro .u8 b], rfl, rfl, rfl, rfl, ⟨rfl, rfl, trivial⟩, rfl, .inl ⟨rfl, rfl, hne⟩⟩
      · rw [geq_true] at hz3
        have ez : vnotB true = false := by rw [qnotB]; rfl
        have hLn : L.length = n1 := by rw [hL]; exact hol n1
        have hadd1 : vaddN n1 1 = n1 + 1 := by rw [qaddN]
        have hadd01 : vaddN 0 1 = 1 := by rw [qaddN]
        have hln1 : vln [cI] = 1 := by rw [qln]; rfl
        have hlnL : vln L = n1 := by rw [qln]; exact hLn
        have hont : vonto L n1 (vsub [cI] 0 1) = OUT (n1 + 1) := by
          have e1 : vsub [cI] 0 1 = [cI] := by rw [qsub]; rfl
          have e2 : L.take n1 = L := by rw [← hLn, List.take_length]
          rw [e1, qonto, hos n1, hcI, ← hL]
          simp only [e2]
        obtain ⟨L2, hL2⟩ : ∃ L2, L2 = OUT (n1 + 1) := ⟨_, rfl⟩
        rw [← hL2] at hont
        obtain ⟨n2, hn2'⟩ : ∃ n2, n2 = n1 + 1 := ⟨_, rfl⟩
        rw [← hn2'] at hadd1
        obtain ⟨k1, hk1⟩ : ∃ k1 : Int, k1 = ((n2 : Nat) : Int) := ⟨_, rfl⟩
        have ek : vb .add .i64 k 1 = k1 := by (try simp only [nc] at *); rw [qb, add_i64 (by omega) (by omega)]; omega
        have hmu : ∀ _ : Unit, N.toNat - n2 < N.toNat - n1 := fun _ => by ((try simp only [nc] at *); omega)
        have hjn : ((n2 : Nat) : Int) ≤ N := by ((try simp only [nc] at *); omega)
        have hpn2 : 0 ≤ POS n2 := by rw [hn2', ← hq1]; exact hz3
        rw [← hn2'] at hL2 hq1
        have hn2b : n2 * 1 ≤ 140737488355328 := by ((try simp only [nc] at *); omega)
        rw [ez]
        cbv
        refine ⟨fun _ => rfl, ⟨by rw [hadd01, hln1]; exact Nat.le_refl _⟩, ⟨by rw [hlnL]; exact Nat.le_refl _⟩, ⟨Nat.le_refl _⟩, ⟨by rw [hadd1]; exact hn2b⟩, fun _ => rfl, ?_⟩
        intro c1 js4 hle
        have hle' : n2 ≤ c1 := by have := hle.out; simp only at this; rw [hadd1] at this; exact this
        cbv
        rw [hont, hadd1, ek]
        refine Cv.fold ([14, 15] ++ [36, 37, 38, 39, 40, 41, 42, 43, 44, 45, 46, 47, 48, 49, 50, 51, 52, 53]) 6 [5] (by exact Nat.le_refl _) (by exact Nat.le_of_ble_eq_true rfl) (by rfl) (by cbv) ?_
        intro js
        refine ⟨(_, _, _, _, _), ?_, js, rfl⟩
        exact ⟨⟨n2, hk1, hjn, hq1, hpn2, hL2, rfl, hle'⟩, hmu ()⟩
end Go.Proofs.Ytaaklikigccdfaa
namespace Go.Proofs.Ytaaklikigccdfaa
open Go Go.Sx Go.Proofs
/-! weights.Unpack and balerref09.Unpack: one answer. -/
set_option maxRecDepth 10000
set_option maxHeartbeats 40000000
theorem Wt.uniq {l : List Int} {M K : Nat} (h : Wt l M) (k : Wt l K) : M = K := by
  have e : (2 : Int) ^ M = 2 ^ K := by rw [← h.2.2.2.2.2.1, ← k.2.2.2.2.2.1]
  have e : 2 ^ M = 2 ^ K := by exact_mod_cast e
  exact (Nat.pow_right_inj (by decide)).1 e
open Classical in
/-- What N bytes the packed b tells by the weights l; none, if it is no row of them. -/
noncomputable def unR (l b : List Int) (N : Int) : Option (List Int) :=
  if h : ∃ M, Wt l M then (if b.getLastD 0 ≠ 0 ∧ pos l h.choose b (markAt b) N.toNat = 0 then some (outs l h.choose b (markAt b) N.toNat) else none) else none
theorem unR_of {l : List Int} {M : Nat} (hW : Wt l M) (b : List Int) (N : Int) : unR l b N = if b.getLastD 0 ≠ 0 ∧ pos l M b (markAt b) N.toNat = 0 then some (outs l M b (markAt b) N.toNat) else none := by
  have h : ∃ M, Wt l M := ⟨M, hW⟩
  unfold unR
  rw [dif_pos h, Wt.uniq h.choose_spec hW]
theorem unR_no {l : List Int} (h : ¬ ∃ M, Wt l M) (b : List Int) (N : Int) : unR l b N = none := by
  unfold unR
  rw [dif_neg h]
theorem unR_len {l b L : List Int} {N : Int} (h : unR l b N = some L) : L.length = N.toNat := by
  unfold unR at h
  split at h
  · split at h
    · rw [Option.some.injEq] at h
      rw [← h, outs_len]
    · cases h
  · cases h
theorem unpackU (l b : List Int) (cap cap2 : Nat) (N : Int) (hl : ∀ c ∈ l, isU8 c) (hll : l.length ≤ 140737488355328) (hb : ∀ c ∈ b, isByte c) (hN : 0 ≤ N ∧ N ≤ 131072) (hbl : b.length ≤ 140737488355328) :
    Con Try.prog 54 [.slice 0 .z 1 l.length cap, .slice 1 .z 1 b.length cap2, .int .i64 N] [.ro .u8 l, .ro .u8 b]
      (fun v H R => R = [] ∧ ((∃ e : Int, e ≠ 0 ∧ unR l b N = none ∧ H = [.ro .u8 l, .ro .u8 b] ∧ v = .tup [.val (.slice none 0 0), .int .i64 e]) ∨
        ∃ L c', unR l b N = some L ∧ H = [.ro .u8 l, .ro .u8 b, .buf 5 .u8 L c'] ∧ v = .tup [.slice 2 .z 1 L.length c', .int .i64 0])) := by
  by_cases hW : ∃ M, Wt l M
  · obtain ⟨M, hW⟩ := hW
    rw [unR_of hW]
    refine con_picks (Con.mono (unpackA l b cap cap2 M N hl hb hW hN.2 hbl) ?_)
    rintro v H R ⟨rfl, ⟨rfl, ⟨rfl, h⟩ | ⟨rfl, h1, h2⟩⟩ | ⟨L, c', rfl, ⟨rfl, h1, h2, h3⟩ | ⟨rfl, h1, h2, h3, h4⟩⟩⟩
    · omega
    · exact ⟨[0, 1], .tup [.val (.slice none 0 0), .int .i64 11], [.ro .u8 l, .ro .u8 b], rfl, rfl, rfl, rfl, ⟨rfl, rfl, trivial⟩, rfl, .inl ⟨11, by decide, if_neg (fun h => h.1 h2), rfl, rfl⟩⟩
    · exact ⟨[0, 1], .tup [.val (.slice none 0 0), .int .i64 11], [.ro .u8 l, .ro .u8 b], rfl, rfl, rfl, rfl, ⟨rfl, rfl, trivial⟩, rfl, .inl ⟨11, by decide, if_neg (fun h => h3 h.2), rfl, rfl⟩⟩
    · exact ⟨[0, 1, 2], .tup [.slice 2 .z 1 L.length c', .int .i64 0], [.ro .u8 l, .ro .u8 b, .buf 5 .u8 L c'], rfl, rfl, rfl, rfl, ⟨rfl, rfl, rfl, trivial⟩, rfl, .inr ⟨L, c', by rw [if_pos ⟨h3, h4⟩, h1], rfl, rfl⟩⟩
  · rw [unR_no hW]
    refine (unpack_code l b cap cap2 N hl hll (fun M h => hW ⟨M, h⟩)).mono ?_
    rintro v H R ⟨rfl, rfl, rfl⟩
    exact ⟨rfl, .inl ⟨50, by decide, rfl, rfl, rfl⟩⟩
theorem refunpack_bad (l : List Int) (b : List Int) (cap cap2 M : Nat) (N : Int) (hl : ∀ c ∈ l, isU8 c) (hW : Wt l M) (hN : 0 ≤ N ∧ N ≤ 131072) (hlast : b.getLastD 0 = 0) (hbl : b.length ≤ 2 ^ 48) :
    Con Try.prog 56 [.slice 0 .z 1 l.length cap, .slice 1 .z 1 b.length cap2, .int .i64 N] [.ro .u8 l, .ro .u8 b] (fun v H R => v = .tup [.val (.slice none 0 0), .int .i64 11] ∧ H = [.ro .u8 l, .ro .u8 b] ∧ R = []) := by
  have hsz := refbits9_con l cap M hl (by have := hW.2.1; omega) (.inl ⟨M, hW, rfl⟩)
  have hnew := refnew_bad b cap2 hlast hbl
  refine con_gen (con_cut 2 (by simp) (con_drop (con_walk hmix fn56 ?_)))
  intro vb vc vw vtoN vofN vaddN vsubN vmaxI vminI vcutN vgd vst vln vrep vsub vonto vsplice vstrEq vbyteV vnotB veqB hw qb qc qw qtoN qofN qaddN qsubN qmaxI qminI qcutN qgd qst qln qrep qsub qonto qsplice qstrEq qbyteV qnotB qeqB
  have hm := hmix; generalize Try.prog = P at *
  have hM1 := hW.pos
  have hn256 := hW.2.1
  obtain ⟨mI, hmI⟩ : ∃ mI : Int, mI = M := ⟨_, rfl⟩
  rw [← hmI] at hsz
  generalize hn : l.length = n at *
  generalize hlb : b.length = lb at *
  have d1 : vc .eql mI 0 = false := by rw [qc, eql_false]; omega
  have d2 : vc .lss N 0 = false := by rw [qc, lss_false]; omega
  have d3 : vc .gtr N 131072 = false := by rw [qc, gtr_false]; omega
  cbv
  refine call_con (ρ := [(0, .z)]) hsz ⟨by rfl, by rfl, by rfl, by cbv; exact ⟨view_refl _, trivial⟩⟩ ?_
  rintro v H R js ⟨rfl, rfl, rfl⟩
  cbv
  rw [d1]
  cbv
  rw [d2]
  cbv
  rw [d3]
  cbv
  refine call_con (ρ := [(1, .z)]) hnew ⟨by rfl, by rfl, by rfl, by cbv; exact ⟨view_refl _, trivial⟩⟩ ?_
  rintro v H R js ⟨rfl, rfl, rfl⟩
  cbv
theorem refunpackU (l b : List Int) (cap cap2 M : Nat) (N : Int) (hl : ∀ c ∈ l, isU8 c) (hW : Wt l M) (hb : ∀ c ∈ b, isByte c) (hN : 0 ≤ N ∧ N ≤ 131072) (hbl : 8 * b.length ≤ 140737488355328) :
    Con Try.prog 56 [.slice 0 .z 1 l.length cap, .slice 1 .z 1 b.length cap2, .int .i64 N] [.ro .u8 l, .ro .u8 b]
      (fun v H R => R = [] ∧ ((∃ e : Int, e ≠ 0 ∧ unR l b N = none ∧ H = [.ro .u8 l, .ro .u8 b] ∧ v = .tup [.val (.slice none 0 0), .int .i64 e]) ∨
        ∃ L c', unR l b N = some L ∧ H = [.ro .u8 l, .ro .u8 b, .buf 5 .u8 L c'] ∧ v = .tup [.slice 2 .z 1 L.length c', .int .i64 0])) := by
  rw [unR_of hW]
  by_cases hlast : b.getLastD 0 = 0
  · refine (refunpack_bad l b cap cap2 M N hl hW hN hlast (by omega)).mono ?_
    rintro v H R ⟨rfl, rfl, rfl⟩
    exact ⟨rfl, .inl ⟨11, by decide, if_neg (fun h => h.1 hlast), rfl, rfl⟩⟩
  · refine (refunpack_good l b cap cap2 M N hl hb hW hN hbl hlast).mono ?_
    rintro v H R ⟨rfl, ⟨rfl, rfl, h⟩ | ⟨L, c', rfl, rfl, h1, h2⟩⟩
    · exact ⟨rfl, .inl ⟨11, by decide, if_neg (fun k => h k.2), rfl, rfl⟩⟩
    · exact ⟨rfl, .inr ⟨L, c', by rw [if_pos ⟨hlast, h2⟩, h1], rfl, rfl⟩⟩
end Go.Proofs.Ytaaklikigccdfaa
namespace Go.Proofs.Ytaaklikigccdfaa
open Go Go.Sx Go.Proofs
/-! balerref11.head. -/
set_option maxRecDepth 10000
set_option maxHeartbeats 40000000
theorem numA_take (b : List Int) (n : Nat) : ∀ m, m ≤ n → numA (b.take n) m = numA b m
  | 0, _ => rfl
  | m + 1, h => by
    rw [numA, numA, numA_take b n m (by omega)]
    congr 2
    rw [List.getD_eq_getElem?_getD, List.getD_eq_getElem?_getD, List.getElem?_take, if_pos (by omega)]
theorem view_take (b : List Int) (n : Nat) (hn : n ≤ b.length) : View 0 (b.take n) b := by
  have hlen : (b.take n).length = n := by rw [List.length_take]; omega
  refine ⟨?_, fun i hi => ?_⟩
  · rw [hlen]; omega
  · rw [hlen] at hi
    rw [List.getD_eq_getElem?_getD, List.getD_eq_getElem?_getD, List.getElem?_take, if_pos hi, Nat.zero_add]
theorem refnumber_take (b : List Int) (n cap : Nat) (hb : ∀ c ∈ b, isU8 c) (hn : n ≤ b.length) (h8 : n ≤ 8) :
    Con Try.prog 55 [.slice 0 .z 1 n cap] [.ro .u8 (b.take n)] (fun v H R => v = .int .u64 (numA b n) ∧ H = [.ro .u8 (b.take n)] ∧ R = []) := by
  have hlen : (b.take n).length = n := by rw [List.length_take]; omega
  have := refnumber_con (b.take n) cap (fun c hc => hb c (List.mem_of_mem_take hc)) (by omega)
  rw [hlen, numA_take b n n (Nat.le_refl _)] at this
  exact this
theorem number_take (b : List Int) (n cap : Nat) (hb : ∀ c ∈ b, isU8 c) (hn : n ≤ b.length) (h8 : n ≤ 8) :
    Con Try.prog 23 [.slice 0 .z 1 n cap] [.ro .u8 (b.take n)] (fun v H R => v = .int .u64 (numA b n) ∧ H = [.ro .u8 (b.take n)] ∧ R = []) := by
  have hlen : (b.take n).length = n := by rw [List.length_take]; omega
  have := number_con (b.take n) cap (fun c hc => hb c (List.mem_of_mem_take hc)) (by omega)
  rw [hlen, numA_take b n n (Nat.le_refl _)] at this
  exact this
-- CASES
set_option linter.unusedVariables false in
theorem refhead_a0 (b : List Int) (cap : Nat) (hb : ∀ c ∈ b, isU8 c) (h1 : 1 ≤ b.length) (hbl : b.length ≤ 140737488355328) (hcap : b.length ≤ cap) (hk : kdH b < 2) (hf : fmH b = 0) :
    Con Try.prog 26 [.slice 0 .z 1 b.length cap] [.ro .u8 b] (fun v H R => H = [.ro .u8 b] ∧ R = [] ∧ (((b.length : Int) < usH b ∧ v = .tup [.agg [.int .i64 0, .int .i64 0, .int .i64 0, .int .i64 0, .int .i64 0], .bool false]) ∨
      ((usH b : Int) ≤ b.length ∧ v = .tup [.agg [.int .i64 (kdH b), .int .i64 (szH b), .int .i64 (pkH b), .int .i64 (usH b), .int .i64 (rwH b)], .bool true]))) := by
  have hus : usH b = 1 := by unfold usH; rw [if_pos hk, hf]; rfl
  have hbt : btH b = 5 := by unfold btH; rw [if_pos hk, hf]; rfl
  have hrw : rwH b = 0 := by unfold rwH; rw [if_pos hk]
  have hr := numA_range hb 1
  rw [show (2 : Int) ^ (8 * 1) = 256 by decide] at hr
  have hn1 : numA b 1 = b.getD 0 0 := by simp [numA]
  have hnm : nmH b = numA b 1 / 8 := by unfold nmH; rw [hus, hn1]; rfl
  have hsz : szH b = numA b 1 / 8 := by unfold szH; rw [hnm, hbt]; exact Int.emod_eq_of_lt (by omega) (by rw [show (2 : Int) ^ 5 = 32 by decide]; omega)
  have hpk : pkH b = 0 := by unfold pkH; rw [if_pos hk]
  have hkr := kfH hb
  have hx := getD_u8 hb 0
  unfold isU8 at hx
  have hnum := fun c h => refnumber_take b 1 c hb h (by decide)
  have hview := view_take b 1
  have hkd : kdH b = b.getD 0 0 % 4 := rfl
  have hfd : fmH b = b.getD 0 0 / 4 % 4 := rfl
  obtain ⟨Q1, hQ1⟩ : ∃ Q : Prop, Q = ((b.length : Int) < usH b) := ⟨_, rfl⟩
  obtain ⟨Q2, hQ2⟩ : ∃ Q : Prop, Q = ((usH b : Int) ≤ b.length) := ⟨_, rfl⟩
  obtain ⟨SZ, hSZ⟩ : ∃ z, z = szH b := ⟨_, rfl⟩
  rw [← hQ1, ← hQ2, ← hSZ, hpk, hus, hrw, show ((1 : Nat) : Int) = 1 from rfl]
  rw [hus] at hQ1 hQ2
  rw [hsz] at hSZ
  refine con_gen (con_cut 1 (by simp) (con_drop (con_walk hmix fn26 ?_)))
  intro vb vc vw vtoN vofN vaddN vsubN vmaxI vminI vcutN vgd vst vln vrep vsub vonto vsplice vstrEq vbyteV vnotB veqB hw qb qc qw qtoN qofN qaddN qsubN qmaxI qminI qcutN qgd qst qln qrep qsub qonto qsplice qstrEq qbyteV qnotB qeqB
  have hm := hmix; generalize Try.prog = P at *
  generalize numA b 1 = A at *
  generalize hxx : b.getD 0 0 = x at *
  generalize kdH b = K at *
  generalize hbl' : b.length = bl at *
  generalize b.take 1 = bt at *
  have hgd : ∀ i, vgd b i = b.getD i 0 := fun i => by rw [qgd]
  have hlnb : vln b = bl := by simp only [qln, hbl']
  have haddq : ∀ a b, vaddN a b = a + b := fun a b => by rw [qaddN]
  obtain ⟨bI, hbI⟩ : ∃ bI : Int, bI = bl := ⟨_, rfl⟩
  have ebl : vofN bl = bI := by rw [qofN, hbI]
  have ea1 : vb .and .u8 x 3 = K := by rw [qb, show (3 : Int) = 2 ^ 2 - 1 by decide, and_mask rfl 2 (by decide) hx.1 (by show x < 256; omega)]; exact hkd.symm
  obtain ⟨x4, hx4⟩ : ∃ z, z = x / 4 := ⟨_, rfl⟩
  have es1 : vb .shr .u8 x 2 = x4 := by rw [qb, shr_eq (by decide), hx4]; rfl
  have ea2 : vb .and .u8 x4 3 = 0 := by rw [qb, show (3 : Int) = 2 ^ 2 - 1 by decide, and_mask rfl 2 (by decide) (by omega) (by show x4 < 256; omega)]; show x4 % 4 = 0; omega
  have ewk : vw .i64 K = K := by rw [qw]; exact wrap_i64 (by omega) (by omega)
  have ewf : vw .i64 0 = 0 := by rw [qw]; rfl
  have ek : vc .lss K 2 = true := by rw [qc, lss_true]; omega
  have htus : vtoN 1 = 1 := by rw [qtoN]; rfl
  have ef1 : vc .eql 0 1 = false := by rw [qc]; rfl
  have ef3 : vc .eql 0 3 = false := by rw [qc]; rfl
  have eA0 : vb .shr .u64 A 3 = SZ := by rw [qb, shr_eq (by decide), hSZ]; rfl
  have eA : vw .i64 SZ = SZ := by rw [qw]; exact wrap_i64 (by omega) (by omega)
  cbv
  rw [haddq, hlnb, hgd, hxx, ea1, es1, ea2, ewk, ewf]
  refine ⟨⟨by ((try simp only [nc] at *); omega), by ((try simp only [nc] at *); omega)⟩, ⟨by ((try simp only [nc] at *); omega)⟩, ⟨by ((try simp only [nc] at *); omega)⟩, ?_⟩
  cbv
  refine ⟨⟨by ((try simp only [nc] at *); omega), by ((try simp only [nc] at *); omega)⟩, ⟨by ((try simp only [nc] at *); omega)⟩, ⟨by ((try simp only [nc] at *); omega)⟩, ?_⟩
  rw [ek]
  cbv
  rw [ef1]
  cbv
  rw [ef3]
  cbv
  rw [ebl]
  generalize hz1 : vc .lss bI 1 = z1
  cases z1
  rotate_left
  · rw [qc, lss_true] at hz1
    cbv
    exact .inl ⟨by rw [hQ1]; ((try simp only [nc] at *); omega), trivial⟩
  rw [qc, lss_false] at hz1
  have hus' : 1 ≤ bl := by ((try simp only [nc] at *); omega)
  cbv
  refine ⟨⟨by omega, by omega⟩, ?_⟩
  refine call_con (ρ := [(0, .z)]) (hnum cap hus') ⟨by rfl, by rfl, by rfl, by cbv; exact ⟨hview hus', trivial⟩⟩ ?_
  rintro v H R js ⟨rfl, rfl, rfl⟩
  cbv
  rw [eA0, eA]
  exact .inr ⟨by rw [hQ2]; ((try simp only [nc] at *); omega), rfl⟩
set_option linter.unusedVariables false in
theorem refhead_a1 (b : List Int) (cap : Nat) (hb : ∀ c ∈ b, isU8 c) (h1 : 1 ≤ b.length) (hbl : b.length ≤ 140737488355328) (hcap : b.length ≤ cap) (hk : kdH b < 2) (hf : fmH b = 1) :
    Con Try.prog 26 [.slice 0 .z 1 b.length cap] [.ro .u8 b] (fun v H R => H = [.ro .u8 b] ∧ R = [] ∧ (((b.length : Int) < usH b ∧ v = .tup [.agg [.int .i64 0, .int .i64 0, .int .i64 0, .int .i64 0, .int .i64 0], .bool false]) ∨
      ((usH b : Int) ≤ b.length ∧ v = .tup [.agg [.int .i64 (kdH b), .int .i64 (szH b), .int .i64 (pkH b), .int .i64 (usH b), .int .i64 (rwH b)], .bool true]))) := by
  have hus : usH b = 2 := by unfold usH; rw [if_pos hk, hf]; rfl
  have hbt : btH b = 12 := by unfold btH; rw [if_pos hk, hf]; rfl
  have hrw : rwH b = 0 := by unfold rwH; rw [if_pos hk]
  have hr := numA_range hb 2
  rw [show (2 : Int) ^ (8 * 2) = 65536 by decide] at hr
  have hnm : nmH b = numA b 2 / 16 := by unfold nmH; rw [hus]; rfl
  have hsz : szH b = numA b 2 / 16 := by unfold szH; rw [hnm, hbt]; exact Int.emod_eq_of_lt (by omega) (by rw [show (2 : Int) ^ 12 = 4096 by decide]; omega)
  have hpk : pkH b = 0 := by unfold pkH; rw [if_pos hk]
  have hkr := kfH hb
  have hx := getD_u8 hb 0
  unfold isU8 at hx
  have hnum := fun c h => refnumber_take b 2 c hb h (by decide)
  have hview := view_take b 2
  have hkd : kdH b = b.getD 0 0 % 4 := rfl
  have hfd : fmH b = b.getD 0 0 / 4 % 4 := rfl
  obtain ⟨Q1, hQ1⟩ : ∃ Q : Prop, Q = ((b.length : Int) < usH b) := ⟨_, rfl⟩
  obtain ⟨Q2, hQ2⟩ : ∃ Q : Prop, Q = ((usH b : Int) ≤ b.length) := ⟨_, rfl⟩
  obtain ⟨SZ, hSZ⟩ : ∃ z, z = szH b := ⟨_, rfl⟩
  rw [← hQ1, ← hQ2, ← hSZ, hpk, hus, hrw, show ((2 : Nat) : Int) = 2 from rfl]
  rw [hus] at hQ1 hQ2
  rw [hsz] at hSZ
  refine con_gen (con_cut 1 (by simp) (con_drop (con_walk hmix fn26 ?_)))
  intro vb vc vw vtoN vofN vaddN vsubN vmaxI vminI vcutN vgd vst vln vrep vsub vonto vsplice vstrEq vbyteV vnotB veqB hw qb qc qw qtoN qofN qaddN qsubN qmaxI qminI qcutN qgd qst qln qrep qsub qonto qsplice qstrEq qbyteV qnotB qeqB
  have hm := hmix; generalize Try.prog = P at *
  generalize numA b 2 = A at *
  generalize hxx : b.getD 0 0 = x at *
  generalize kdH b = K at *
  generalize hbl' : b.length = bl at *
  generalize b.take 2 = bt at *
  have hgd : ∀ i, vgd b i = b.getD i 0 := fun i => by rw [qgd]
  have hlnb : vln b = bl := by simp only [qln, hbl']
  have haddq : ∀ a b, vaddN a b = a + b := fun a b => by rw [qaddN]
  obtain ⟨bI, hbI⟩ : ∃ bI : Int, bI = bl := ⟨_, rfl⟩
  have ebl : vofN bl = bI := by rw [qofN, hbI]
  have ea1 : vb .and .u8 x 3 = K := by rw [qb, show (3 : Int) = 2 ^ 2 - 1 by decide, and_mask rfl 2 (by decide) hx.1 (by show x < 256; omega)]; exact hkd.symm
  obtain ⟨x4, hx4⟩ : ∃ z, z = x / 4 := ⟨_, rfl⟩
  have es1 : vb .shr .u8 x 2 = x4 := by rw [qb, shr_eq (by decide), hx4]; rfl
  have ea2 : vb .and .u8 x4 3 = 1 := by rw [qb, show (3 : Int) = 2 ^ 2 - 1 by decide, and_mask rfl 2 (by decide) (by omega) (by show x4 < 256; omega)]; show x4 % 4 = 1; omega
  have ewk : vw .i64 K = K := by rw [qw]; exact wrap_i64 (by omega) (by omega)
  have ewf : vw .i64 1 = 1 := by rw [qw]; rfl
  have ek : vc .lss K 2 = true := by rw [qc, lss_true]; omega
  have htus : vtoN 2 = 2 := by rw [qtoN]; rfl
  have ef1 : vc .eql 1 1 = true := by rw [qc]; rfl
  have ef3 : vc .eql 1 3 = false := by rw [qc]; rfl
  have eA0 : vb .shr .u64 A 4 = SZ := by rw [qb, shr_eq (by decide), hSZ]; rfl
  have eA : vw .i64 SZ = SZ := by rw [qw]; exact wrap_i64 (by omega) (by omega)
  cbv
  rw [haddq, hlnb, hgd, hxx, ea1, es1, ea2, ewk, ewf]
  refine ⟨⟨by ((try simp only [nc] at *); omega), by ((try simp only [nc] at *); omega)⟩, ⟨by ((try simp only [nc] at *); omega)⟩, ⟨by ((try simp only [nc] at *); omega)⟩, ?_⟩
  cbv
  refine ⟨⟨by ((try simp only [nc] at *); omega), by ((try simp only [nc] at *); omega)⟩, ⟨by ((try simp only [nc] at *); omega)⟩, ⟨by ((try simp only [nc] at *); omega)⟩, ?_⟩
  rw [ek]
  cbv
  rw [ef1]
  cbv
  rw [ef3]
  cbv
  rw [ebl]
  generalize hz1 : vc .lss bI 2 = z1
  cases z1
  rotate_left
  · rw [qc, lss_true] at hz1
    cbv
    exact .inl ⟨by rw [hQ1]; ((try simp only [nc] at *); omega), trivial⟩
  rw [qc, lss_false] at hz1
  have hus' : 2 ≤ bl := by ((try simp only [nc] at *); omega)
  cbv
  refine ⟨⟨by omega, by omega⟩, ?_⟩
  refine call_con (ρ := [(0, .z)]) (hnum cap hus') ⟨by rfl, by rfl, by rfl, by cbv; exact ⟨hview hus', trivial⟩⟩ ?_
  rintro v H R js ⟨rfl, rfl, rfl⟩
  cbv
  rw [eA0, eA]
  exact .inr ⟨by rw [hQ2]; ((try simp only [nc] at *); omega), rfl⟩
set_option linter.unusedVariables false in
theorem refhead_a2 (b : List Int) (cap : Nat) (hb : ∀ c ∈ b, isU8 c) (h1 : 1 ≤ b.length) (hbl : b.length ≤ 140737488355328) (hcap : b.length ≤ cap) (hk : kdH b < 2) (hf : fmH b = 2) :
    Con Try.prog 26 [.slice 0 .z 1 b.length cap] [.ro .u8 b] (fun v H R => H = [.ro .u8 b] ∧ R = [] ∧ (((b.length : Int) < usH b ∧ v = .tup [.agg [.int .i64 0, .int .i64 0, .int .i64 0, .int .i64 0, .int .i64 0], .bool false]) ∨
      ((usH b : Int) ≤ b.length ∧ v = .tup [.agg [.int .i64 (kdH b), .int .i64 (szH b), .int .i64 (pkH b), .int .i64 (usH b), .int .i64 (rwH b)], .bool true]))) := by
  have hus : usH b = 1 := by unfold usH; rw [if_pos hk, hf]; rfl
  have hbt : btH b = 5 := by unfold btH; rw [if_pos hk, hf]; rfl
  have hrw : rwH b = 0 := by unfold rwH; rw [if_pos hk]
  have hr := numA_range hb 1
  rw [show (2 : Int) ^ (8 * 1) = 256 by decide] at hr
  have hn1 : numA b 1 = b.getD 0 0 := by simp [numA]
  have hnm : nmH b = numA b 1 / 8 := by unfold nmH; rw [hus, hn1]; rfl
  have hsz : szH b = numA b 1 / 8 := by unfold szH; rw [hnm, hbt]; exact Int.emod_eq_of_lt (by omega) (by rw [show (2 : Int) ^ 5 = 32 by decide]; omega)
  have hpk : pkH b = 0 := by unfold pkH; rw [if_pos hk]
  have hkr := kfH hb
  have hx := getD_u8 hb 0
  unfold isU8 at hx
  have hnum := fun c h => refnumber_take b 1 c hb h (by decide)
  have hview := view_take b 1
  have hkd : kdH b = b.getD 0 0 % 4 := rfl
  have hfd : fmH b = b.getD 0 0 / 4 % 4 := rfl
  obtain ⟨Q1, hQ1⟩ : ∃ Q : Prop, Q = ((b.length : Int) < usH b) := ⟨_, rfl⟩
  obtain ⟨Q2, hQ2⟩ : ∃ Q : Prop, Q = ((usH b : Int) ≤ b.length) := ⟨_, rfl⟩
  obtain ⟨SZ, hSZ⟩ : ∃ z, z = szH b := ⟨_, rfl⟩
  rw [← hQ1, ← hQ2, ← hSZ, hpk, hus, hrw, show ((1 : Nat) : Int) = 1 from rfl]
  rw [hus] at hQ1 hQ2
  rw [hsz] at hSZ
  refine con_gen (con_cut 1 (by simp) (con_drop (con_walk hmix fn26 ?_)))
  intro vb vc vw vtoN vofN vaddN vsubN vmaxI vminI vcutN vgd vst vln vrep vsub vonto vsplice vstrEq vbyteV vnotB veqB hw qb qc qw qtoN qofN qaddN qsubN qmaxI qminI qcutN qgd qst qln qrep qsub qonto qsplice qstrEq qbyteV qnotB qeqB
  have hm := hmix; generalize Try.prog = P at *
  generalize numA b 1 = A at *
  generalize hxx : b.getD 0 0 = x at *
  generalize kdH b = K at *
  generalize hbl' : b.length = bl at *
  generalize b.take 1 = bt at *
  have hgd : ∀ i, vgd b i = b.getD i 0 := fun i => by rw [qgd]
  have hlnb : vln b = bl := by simp only [qln, hbl']
  have haddq : ∀ a b, vaddN a b = a + b := fun a b => by rw [qaddN]
  obtain ⟨bI, hbI⟩ : ∃ bI : Int, bI = bl := ⟨_, rfl⟩
  have ebl : vofN bl = bI := by rw [qofN, hbI]
  have ea1 : vb .and .u8 x 3 = K := by rw [qb, show (3 : Int) = 2 ^ 2 - 1 by decide, and_mask rfl 2 (by decide) hx.1 (by show x < 256; omega)]; exact hkd.symm
  obtain ⟨x4, hx4⟩ : ∃ z, z = x / 4 := ⟨_, rfl⟩
  have es1 : vb .shr .u8 x 2 = x4 := by rw [qb, shr_eq (by decide), hx4]; rfl
  have ea2 : vb .and .u8 x4 3 = 2 := by rw [qb, show (3 : Int) = 2 ^ 2 - 1 by decide, and_mask rfl 2 (by decide) (by omega) (by show x4 < 256; omega)]; show x4 % 4 = 2; omega
  have ewk : vw .i64 K = K := by rw [qw]; exact wrap_i64 (by omega) (by omega)
  have ewf : vw .i64 2 = 2 := by rw [qw]; rfl
  have ek : vc .lss K 2 = true := by rw [qc, lss_true]; omega
  have htus : vtoN 1 = 1 := by rw [qtoN]; rfl
  have ef1 : vc .eql 2 1 = false := by rw [qc]; rfl
  have ef3 : vc .eql 2 3 = false := by rw [qc]; rfl
  have eA0 : vb .shr .u64 A 3 = SZ := by rw [qb, shr_eq (by decide), hSZ]; rfl
  have eA : vw .i64 SZ = SZ := by rw [qw]; exact wrap_i64 (by omega) (by omega)
  cbv
  rw [haddq, hlnb, hgd, hxx, ea1, es1, ea2, ewk, ewf]
  refine ⟨⟨by ((try simp only [nc] at *); omega), by ((try simp only [nc] at *); omega)⟩, ⟨by ((try simp only [nc] at *); omega)⟩, ⟨by ((try simp only [nc] at *); omega)⟩, ?_⟩
  cbv
  refine ⟨⟨by ((try simp only [nc] at *); omega), by ((try simp only [nc] at *); omega)⟩, ⟨by ((try simp only [nc] at *); omega)⟩, ⟨by ((try simp only [nc] at *); omega)⟩, ?_⟩
  rw [ek]
  cbv
  rw [ef1]
  cbv
  rw [ef3]
  cbv
  rw [ebl]
  generalize hz1 : vc .lss bI 1 = z1
  cases z1
  rotate_left
  · rw [qc, lss_true] at hz1
    cbv
    exact .inl ⟨by rw [hQ1]; ((try simp only [nc] at *); omega), trivial⟩
  rw [qc, lss_false] at hz1
  have hus' : 1 ≤ bl := by ((try simp only [nc] at *); omega)
  cbv
  refine ⟨⟨by omega, by omega⟩, ?_⟩
  refine call_con (ρ := [(0, .z)]) (hnum cap hus') ⟨by rfl, by rfl, by rfl, by cbv; exact ⟨hview hus', trivial⟩⟩ ?_
  rintro v H R js ⟨rfl, rfl, rfl⟩
  cbv
  rw [eA0, eA]
  exact .inr ⟨by rw [hQ2]; ((try simp only [nc] at *); omega), rfl⟩
set_option linter.unusedVariables false in
theorem refhead_a3 (b : List Int) (cap : Nat) (hb : ∀ c ∈ b, isU8 c) (h1 : 1 ≤ b.length) (hbl : b.length ≤ 140737488355328) (hcap : b.length ≤ cap) (hk : kdH b < 2) (hf : fmH b = 3) :
    Con Try.prog 26 [.slice 0 .z 1 b.length cap] [.ro .u8 b] (fun v H R => H = [.ro .u8 b] ∧ R = [] ∧ (((b.length : Int) < usH b ∧ v = .tup [.agg [.int .i64 0, .int .i64 0, .int .i64 0, .int .i64 0, .int .i64 0], .bool false]) ∨
      ((usH b : Int) ≤ b.length ∧ v = .tup [.agg [.int .i64 (kdH b), .int .i64 (szH b), .int .i64 (pkH b), .int .i64 (usH b), .int .i64 (rwH b)], .bool true]))) := by
  have hus : usH b = 3 := by unfold usH; rw [if_pos hk, hf]; rfl
  have hbt : btH b = 20 := by unfold btH; rw [if_pos hk, hf]; rfl
  have hrw : rwH b = 0 := by unfold rwH; rw [if_pos hk]
  have hr := numA_range hb 3
  rw [show (2 : Int) ^ (8 * 3) = 16777216 by decide] at hr
  have hnm : nmH b = numA b 3 / 16 := by unfold nmH; rw [hus]; rfl
  have hsz : szH b = numA b 3 / 16 := by unfold szH; rw [hnm, hbt]; exact Int.emod_eq_of_lt (by omega) (by rw [show (2 : Int) ^ 20 = 1048576 by decide]; omega)
  have hpk : pkH b = 0 := by unfold pkH; rw [if_pos hk]
  have hkr := kfH hb
  have hx := getD_u8 hb 0
  unfold isU8 at hx
  have hnum := fun c h => refnumber_take b 3 c hb h (by decide)
  have hview := view_take b 3
  have hkd : kdH b = b.getD 0 0 % 4 := rfl
  have hfd : fmH b = b.getD 0 0 / 4 % 4 := rfl
  obtain ⟨Q1, hQ1⟩ : ∃ Q : Prop, Q = ((b.length : Int) < usH b) := ⟨_, rfl⟩
  obtain ⟨Q2, hQ2⟩ : ∃ Q : Prop, Q = ((usH b : Int) ≤ b.length) := ⟨_, rfl⟩
  obtain ⟨SZ, hSZ⟩ : ∃ z, z = szH b := ⟨_, rfl⟩
  rw [← hQ1, ← hQ2, ← hSZ, hpk, hus, hrw, show ((3 : Nat) : Int) = 3 from rfl]
  rw [hus] at hQ1 hQ2
  rw [hsz] at hSZ
  refine con_gen (con_cut 1 (by simp) (con_drop (con_walk hmix fn26 ?_)))
  intro vb vc vw vtoN vofN vaddN vsubN vmaxI vminI vcutN vgd vst vln vrep vsub vonto vsplice vstrEq vbyteV vnotB veqB hw qb qc qw qtoN qofN qaddN qsubN qmaxI qminI qcutN qgd qst qln qrep qsub qonto qsplice qstrEq qbyteV qnotB qeqB
  have hm := hmix; generalize Try.prog = P at *
  generalize numA b 3 = A at *
  generalize hxx : b.getD 0 0 = x at *
  generalize kdH b = K at *
  generalize hbl' : b.length = bl at *
  generalize b.take 3 = bt at *
  have hgd : ∀ i, vgd b i = b.getD i 0 := fun i => by rw [qgd]
  have hlnb : vln b = bl := by simp only [qln, hbl']
  have haddq : ∀ a b, vaddN a b = a + b := fun a b => by rw [qaddN]
  obtain ⟨bI, hbI⟩ : ∃ bI : Int, bI = bl := ⟨_, rfl⟩
  have ebl : vofN bl = bI := by rw [qofN, hbI]
  have ea1 : vb .and .u8 x 3 = K := by rw [qb, show (3 : Int) = 2 ^ 2 - 1 by decide, and_mask rfl 2 (by decide) hx.1 (by show x < 256; omega)]; exact hkd.symm
  obtain ⟨x4, hx4⟩ : ∃ z, z = x / 4 := ⟨_, rfl⟩
  have es1 : vb .shr .u8 x 2 = x4 := by rw [qb, shr_eq (by decide), hx4]; rfl
  have ea2 : vb .and .u8 x4 3 = 3 := by rw [qb, show (3 : Int) = 2 ^ 2 - 1 by decide, and_mask rfl 2 (by decide) (by omega) (by show x4 < 256; omega)]; show x4 % 4 = 3; omega
  have ewk : vw .i64 K = K := by rw [qw]; exact wrap_i64 (by omega) (by omega)
  have ewf : vw .i64 3 = 3 := by rw [qw]; rfl
  have ek : vc .lss K 2 = true := by rw [qc, lss_true]; omega
  have htus : vtoN 3 = 3 := by rw [qtoN]; rfl
  have ef1 : vc .eql 3 1 = false := by rw [qc]; rfl
  have ef3 : vc .eql 3 3 = true := by rw [qc]; rfl
  have eA0 : vb .shr .u64 A 4 = SZ := by rw [qb, shr_eq (by decide), hSZ]; rfl
  have eA : vw .i64 SZ = SZ := by rw [qw]; exact wrap_i64 (by omega) (by omega)
  cbv
  rw [haddq, hlnb, hgd, hxx, ea1, es1, ea2, ewk, ewf]
  refine ⟨⟨by ((try simp only [nc] at *); omega), by ((try simp only [nc] at *); omega)⟩, ⟨by ((try simp only [nc] at *); omega)⟩, ⟨by ((try simp only [nc] at *); omega)⟩, ?_⟩
  cbv
  refine ⟨⟨by ((try simp only [nc] at *); omega), by ((try simp only [nc] at *); omega)⟩, ⟨by ((try simp only [nc] at *); omega)⟩, ⟨by ((try simp only [nc] at *); omega)⟩, ?_⟩
  rw [ek]
  cbv
  rw [ef1]
  cbv
  rw [ef3]
  cbv
  rw [ebl]
  generalize hz1 : vc .lss bI 3 = z1
  cases z1
  rotate_left
  · rw [qc, lss_true] at hz1
    cbv
    exact .inl ⟨by rw [hQ1]; ((try simp only [nc] at *); omega), trivial⟩
  rw [qc, lss_false] at hz1
  have hus' : 3 ≤ bl := by ((try simp only [nc] at *); omega)
  cbv
  refine ⟨⟨by omega, by omega⟩, ?_⟩
  refine call_con (ρ := [(0, .z)]) (hnum cap hus') ⟨by rfl, by rfl, by rfl, by cbv; exact ⟨hview hus', trivial⟩⟩ ?_
  rintro v H R js ⟨rfl, rfl, rfl⟩
  cbv
  rw [eA0, eA]
  exact .inr ⟨by rw [hQ2]; ((try simp only [nc] at *); omega), rfl⟩
set_option linter.unusedVariables false in
theorem refhead_b0 (b : List Int) (cap : Nat) (hb : ∀ c ∈ b, isU8 c) (h1 : 1 ≤ b.length) (hbl : b.length ≤ 140737488355328) (hcap : b.length ≤ cap) (hk : ¬ kdH b < 2) (hf : fmH b = 0) :
    Con Try.prog 26 [.slice 0 .z 1 b.length cap] [.ro .u8 b] (fun v H R => H = [.ro .u8 b] ∧ R = [] ∧ (((b.length : Int) < usH b ∧ v = .tup [.agg [.int .i64 0, .int .i64 0, .int .i64 0, .int .i64 0, .int .i64 0], .bool false]) ∨
      ((usH b : Int) ≤ b.length ∧ v = .tup [.agg [.int .i64 (kdH b), .int .i64 (szH b), .int .i64 (pkH b), .int .i64 (usH b), .int .i64 (rwH b)], .bool true]))) := by
  have hus : usH b = 3 := by unfold usH; rw [if_neg hk, hf]; rfl
  have hbt : btH b = 10 := by unfold btH; rw [if_neg hk, hf]; rfl
  have hrw : rwH b = 1 := by unfold rwH; rw [if_neg hk, hf]; rfl
  have hr := numA_range hb 3
  rw [show (2 : Int) ^ (8 * 3) = 16777216 by decide] at hr
  have hnm : nmH b = numA b 3 / 16 := by unfold nmH; rw [hus]; rfl
  have hsz : szH b = numA b 3 / 16 % 1024 := by unfold szH; rw [hnm, hbt]; rfl
  have hpk : pkH b = numA b 3 / 16384 := by unfold pkH; rw [if_neg hk, hnm, hbt, Int.ediv_ediv_of_nonneg (by decide)]; rfl
  have hkr := kfH hb
  have hx := getD_u8 hb 0
  unfold isU8 at hx
  have hnum := fun c h => refnumber_take b 3 c hb h (by decide)
  have hview := view_take b 3
  have hkd : kdH b = b.getD 0 0 % 4 := rfl
  have hfd : fmH b = b.getD 0 0 / 4 % 4 := rfl
  obtain ⟨Q1, hQ1⟩ : ∃ Q : Prop, Q = ((b.length : Int) < usH b) := ⟨_, rfl⟩
  obtain ⟨Q2, hQ2⟩ : ∃ Q : Prop, Q = ((usH b : Int) ≤ b.length) := ⟨_, rfl⟩
  obtain ⟨SZ, hSZ⟩ : ∃ z, z = szH b := ⟨_, rfl⟩
  obtain ⟨PK, hPK⟩ : ∃ z, z = pkH b := ⟨_, rfl⟩
  rw [← hQ1, ← hQ2, ← hSZ, ← hPK, hus, hrw, show ((3 : Nat) : Int) = 3 from rfl]
  rw [hus] at hQ1 hQ2
  rw [hsz] at hSZ
  rw [hpk] at hPK
  refine con_gen (con_cut 1 (by simp) (con_drop (con_walk hmix fn26 ?_)))
  intro vb vc vw vtoN vofN vaddN vsubN vmaxI vminI vcutN vgd vst vln vrep vsub vonto vsplice vstrEq vbyteV vnotB veqB hw qb qc qw qtoN qofN qaddN qsubN qmaxI qminI qcutN qgd qst qln qrep qsub qonto qsplice qstrEq qbyteV qnotB qeqB
  have hm := hmix; generalize Try.prog = P at *
  generalize numA b 3 = A at *
  generalize hxx : b.getD 0 0 = x at *
  generalize kdH b = K at *
  generalize hbl' : b.length = bl at *
  generalize b.take 3 = bt at *
  have hgd : ∀ i, vgd b i = b.getD i 0 := fun i => by rw [qgd]
  have hlnb : vln b = bl := by simp only [qln, hbl']
  have haddq : ∀ a b, vaddN a b = a + b := fun a b => by rw [qaddN]
  obtain ⟨bI, hbI⟩ : ∃ bI : Int, bI = bl := ⟨_, rfl⟩
  have ebl : vofN bl = bI := by rw [qofN, hbI]
  have ea1 : vb .and .u8 x 3 = K := by rw [qb, show (3 : Int) = 2 ^ 2 - 1 by decide, and_mask rfl 2 (by decide) hx.1 (by show x < 256; omega)]; exact hkd.symm
  obtain ⟨x4, hx4⟩ : ∃ z, z = x / 4 := ⟨_, rfl⟩
  have es1 : vb .shr .u8 x 2 = x4 := by rw [qb, shr_eq (by decide), hx4]; rfl
  have ea2 : vb .and .u8 x4 3 = 0 := by rw [qb, show (3 : Int) = 2 ^ 2 - 1 by decide, and_mask rfl 2 (by decide) (by omega) (by show x4 < 256; omega)]; show x4 % 4 = 0; omega
  have ewk : vw .i64 K = K := by rw [qw]; exact wrap_i64 (by omega) (by omega)
  have ewf : vw .i64 0 = 0 := by rw [qw]; rfl
  have ek : vc .lss K 2 = false := by rw [qc, lss_false]; omega
  have htus : vtoN 3 = 3 := by rw [qtoN]; rfl
  have ege : vc .geq 0 1 = false := by rw [qc]; rfl
  have ef1 : vc .eql 0 2 = false := by rw [qc]; rfl
  have ef3 : vc .eql 0 3 = false := by rw [qc]; rfl
  obtain ⟨A4, hA4⟩ : ∃ z, z = A / 16 := ⟨_, rfl⟩
  have eA : vb .shr .u64 A 4 = A4 := by rw [qb, shr_eq (by decide), hA4]; rfl
  have em : vb .and .u64 A4 1023 = SZ := by rw [qb, show (1023 : Int) = 2 ^ 10 - 1 by decide, and_mask rfl 10 (by decide) (by omega) (by show A4 < 18446744073709551616; omega), hSZ, ← hA4]; rfl
  have ewm : vw .i64 SZ = SZ := by rw [qw]; exact wrap_i64 (by omega) (by omega)
  have ep0 : vb .shr .u64 A 14 = PK := by rw [qb, shr_eq (by decide), hPK]; rfl
  have epk : vw .i64 PK = PK := by rw [qw]; exact wrap_i64 (by omega) (by omega)
  cbv
  rw [haddq, hlnb, hgd, hxx, ea1, es1, ea2, ewk, ewf]
  refine ⟨⟨by ((try simp only [nc] at *); omega), by ((try simp only [nc] at *); omega)⟩, ⟨by ((try simp only [nc] at *); omega)⟩, ⟨by ((try simp only [nc] at *); omega)⟩, ?_⟩
  cbv
  refine ⟨⟨by ((try simp only [nc] at *); omega), by ((try simp only [nc] at *); omega)⟩, ⟨by ((try simp only [nc] at *); omega)⟩, ⟨by ((try simp only [nc] at *); omega)⟩, ?_⟩
  rw [ek]
  cbv
  rw [ege]
  cbv
  rw [ef1]
  cbv
  rw [ef3]
  cbv
  rw [ebl]
  generalize hz1 : vc .lss bI 3 = z1
  cases z1
  rotate_left
  · rw [qc, lss_true] at hz1
    cbv
    exact .inl ⟨by rw [hQ1]; ((try simp only [nc] at *); omega), trivial⟩
  rw [qc, lss_false] at hz1
  have hus' : 3 ≤ bl := by ((try simp only [nc] at *); omega)
  cbv
  refine ⟨⟨by omega, by omega⟩, ?_⟩
  refine call_con (ρ := [(0, .z)]) (hnum cap hus') ⟨by rfl, by rfl, by rfl, by cbv; exact ⟨hview hus', trivial⟩⟩ ?_
  rintro v H R js ⟨rfl, rfl, rfl⟩
  cbv
  rw [eA, em, ewm, ep0, epk]
  exact .inr ⟨by rw [hQ2]; ((try simp only [nc] at *); omega), rfl⟩
set_option linter.unusedVariables false in
theorem refhead_b1 (b : List Int) (cap : Nat) (hb : ∀ c ∈ b, isU8 c) (h1 : 1 ≤ b.length) (hbl : b.length ≤ 140737488355328) (hcap : b.length ≤ cap) (hk : ¬ kdH b < 2) (hf : fmH b = 1) :
    Con Try.prog 26 [.slice 0 .z 1 b.length cap] [.ro .u8 b] (fun v H R => H = [.ro .u8 b] ∧ R = [] ∧ (((b.length : Int) < usH b ∧ v = .tup [.agg [.int .i64 0, .int .i64 0, .int .i64 0, .int .i64 0, .int .i64 0], .bool false]) ∨
      ((usH b : Int) ≤ b.length ∧ v = .tup [.agg [.int .i64 (kdH b), .int .i64 (szH b), .int .i64 (pkH b), .int .i64 (usH b), .int .i64 (rwH b)], .bool true]))) := by
  have hus : usH b = 3 := by unfold usH; rw [if_neg hk, hf]; rfl
  have hbt : btH b = 10 := by unfold btH; rw [if_neg hk, hf]; rfl
  have hrw : rwH b = 4 := by unfold rwH; rw [if_neg hk, hf]; rfl
  have hr := numA_range hb 3
  rw [show (2 : Int) ^ (8 * 3) = 16777216 by decide] at hr
  have hnm : nmH b = numA b 3 / 16 := by unfold nmH; rw [hus]; rfl
  have hsz : szH b = numA b 3 / 16 % 1024 := by unfold szH; rw [hnm, hbt]; rfl
  have hpk : pkH b = numA b 3 / 16384 := by unfold pkH; rw [if_neg hk, hnm, hbt, Int.ediv_ediv_of_nonneg (by decide)]; rfl
  have hkr := kfH hb
  have hx := getD_u8 hb 0
  unfold isU8 at hx
  have hnum := fun c h => refnumber_take b 3 c hb h (by decide)
  have hview := view_take b 3
  have hkd : kdH b = b.getD 0 0 % 4 := rfl
  have hfd : fmH b = b.getD 0 0 / 4 % 4 := rfl
  obtain ⟨Q1, hQ1⟩ : ∃ Q : Prop, Q = ((b.length : Int) < usH b) := ⟨_, rfl⟩
  obtain ⟨Q2, hQ2⟩ : ∃ Q : Prop, Q = ((usH b : Int) ≤ b.length) := ⟨_, rfl⟩
  obtain ⟨SZ, hSZ⟩ : ∃ z, z = szH b := ⟨_, rfl⟩
  obtain ⟨PK, hPK⟩ : ∃ z, z = pkH b := ⟨_, rfl⟩
  rw [← hQ1, ← hQ2, ← hSZ, ← hPK, hus, hrw, show ((3 : Nat) : Int) = 3 from rfl]
  rw [hus] at hQ1 hQ2
  rw [hsz] at hSZ
  rw [hpk] at hPK
  refine con_gen (con_cut 1 (by simp) (con_drop (con_walk hmix fn26 ?_)))
  intro vb vc vw vtoN vofN vaddN vsubN vmaxI vminI vcutN vgd vst vln vrep vsub vonto vsplice vstrEq vbyteV vnotB veqB hw qb qc qw qtoN qofN qaddN qsubN qmaxI qminI qcutN qgd qst qln qrep qsub qonto qsplice qstrEq qbyteV qnotB qeqB
  have hm := hmix; generalize Try.prog = P at *
  generalize numA b 3 = A at *
  generalize hxx : b.getD 0 0 = x at *
  generalize kdH b = K at *
  generalize hbl' : b.length = bl at *
  generalize b.take 3 = bt at *
  have hgd : ∀ i, vgd b i = b.getD i 0 := fun i => by rw [qgd]
  have hlnb : vln b = bl := by simp only [qln, hbl']
  have haddq : ∀ a b, vaddN a b = a + b := fun a b => by rw [qaddN]
  obtain ⟨bI, hbI⟩ : ∃ bI : Int, bI = bl := ⟨_, rfl⟩
  have ebl : vofN bl = bI := by rw [qofN, hbI]
  have ea1 : vb .and .u8 x 3 = K := by rw [qb, show (3 : Int) = 2 ^ 2 - 1 by decide, and_mask rfl 2 (by decide) hx.1 (by show x < 256; omega)]; exact hkd.symm
  obtain ⟨x4, hx4⟩ : ∃ z, z = x / 4 := ⟨_, rfl⟩
  have es1 : vb .shr .u8 x 2 = x4 := by rw [qb, shr_eq (by decide), hx4]; rfl
  have ea2 : vb .and .u8 x4 3 = 1 := by rw [qb, show (3 : Int) = 2 ^ 2 - 1 by decide, and_mask rfl 2 (by decide) (by omega) (by show x4 < 256; omega)]; show x4 % 4 = 1; omega
  have ewk : vw .i64 K = K := by rw [qw]; exact wrap_i64 (by omega) (by omega)
  have ewf : vw .i64 1 = 1 := by rw [qw]; rfl
  have ek : vc .lss K 2 = false := by rw [qc, lss_false]; omega
  have htus : vtoN 3 = 3 := by rw [qtoN]; rfl
  have ege : vc .geq 1 1 = true := by rw [qc]; rfl
  have ef1 : vc .eql 1 2 = false := by rw [qc]; rfl
  have ef3 : vc .eql 1 3 = false := by rw [qc]; rfl
  obtain ⟨A4, hA4⟩ : ∃ z, z = A / 16 := ⟨_, rfl⟩
  have eA : vb .shr .u64 A 4 = A4 := by rw [qb, shr_eq (by decide), hA4]; rfl
  have em : vb .and .u64 A4 1023 = SZ := by rw [qb, show (1023 : Int) = 2 ^ 10 - 1 by decide, and_mask rfl 10 (by decide) (by omega) (by show A4 < 18446744073709551616; omega), hSZ, ← hA4]; rfl
  have ewm : vw .i64 SZ = SZ := by rw [qw]; exact wrap_i64 (by omega) (by omega)
  have ep0 : vb .shr .u64 A 14 = PK := by rw [qb, shr_eq (by decide), hPK]; rfl
  have epk : vw .i64 PK = PK := by rw [qw]; exact wrap_i64 (by omega) (by omega)
  cbv
  rw [haddq, hlnb, hgd, hxx, ea1, es1, ea2, ewk, ewf]
  refine ⟨⟨by ((try simp only [nc] at *); omega), by ((try simp only [nc] at *); omega)⟩, ⟨by ((try simp only [nc] at *); omega)⟩, ⟨by ((try simp only [nc] at *); omega)⟩, ?_⟩
  cbv
  refine ⟨⟨by ((try simp only [nc] at *); omega), by ((try simp only [nc] at *); omega)⟩, ⟨by ((try simp only [nc] at *); omega)⟩, ⟨by ((try simp only [nc] at *); omega)⟩, ?_⟩
  rw [ek]
  cbv
  rw [ege]
  cbv
  rw [ef1]
  cbv
  rw [ef3]
  cbv
  rw [ebl]
  generalize hz1 : vc .lss bI 3 = z1
  cases z1
  rotate_left
  · rw [qc, lss_true] at hz1
    cbv
    exact .inl ⟨by rw [hQ1]; ((try simp only [nc] at *); omega), trivial⟩
  rw [qc, lss_false] at hz1
  have hus' : 3 ≤ bl := by ((try simp only [nc] at *); omega)
  cbv
  refine ⟨⟨by omega, by omega⟩, ?_⟩
  refine call_con (ρ := [(0, .z)]) (hnum cap hus') ⟨by rfl, by rfl, by rfl, by cbv; exact ⟨hview hus', trivial⟩⟩ ?_
  rintro v H R js ⟨rfl, rfl, rfl⟩
  cbv
  rw [eA, em, ewm, ep0, epk]
  exact .inr ⟨by rw [hQ2]; ((try simp only [nc] at *); omega), rfl⟩
set_option linter.unusedVariables false in
theorem refhead_b2 (b : List Int) (cap : Nat) (hb : ∀ c ∈ b, isU8 c) (h1 : 1 ≤ b.length) (hbl : b.length ≤ 140737488355328) (hcap : b.length ≤ cap) (hk : ¬ kdH b < 2) (hf : fmH b = 2) :
    Con Try.prog 26 [.slice 0 .z 1 b.length cap] [.ro .u8 b] (fun v H R => H = [.ro .u8 b] ∧ R = [] ∧ (((b.length : Int) < usH b ∧ v = .tup [.agg [.int .i64 0, .int .i64 0, .int .i64 0, .int .i64 0, .int .i64 0], .bool false]) ∨
      ((usH b : Int) ≤ b.length ∧ v = .tup [.agg [.int .i64 (kdH b), .int .i64 (szH b), .int .i64 (pkH b), .int .i64 (usH b), .int .i64 (rwH b)], .bool true]))) := by
  have hus : usH b = 4 := by unfold usH; rw [if_neg hk, hf]; rfl
  have hbt : btH b = 14 := by unfold btH; rw [if_neg hk, hf]; rfl
  have hrw : rwH b = 4 := by unfold rwH; rw [if_neg hk, hf]; rfl
  have hr := numA_range hb 4
  rw [show (2 : Int) ^ (8 * 4) = 4294967296 by decide] at hr
  have hnm : nmH b = numA b 4 / 16 := by unfold nmH; rw [hus]; rfl
  have hsz : szH b = numA b 4 / 16 % 16384 := by unfold szH; rw [hnm, hbt]; rfl
  have hpk : pkH b = numA b 4 / 262144 := by unfold pkH; rw [if_neg hk, hnm, hbt, Int.ediv_ediv_of_nonneg (by decide)]; rfl
  have hkr := kfH hb
  have hx := getD_u8 hb 0
  unfold isU8 at hx
  have hnum := fun c h => refnumber_take b 4 c hb h (by decide)
  have hview := view_take b 4
  have hkd : kdH b = b.getD 0 0 % 4 := rfl
  have hfd : fmH b = b.getD 0 0 / 4 % 4 := rfl
  obtain ⟨Q1, hQ1⟩ : ∃ Q : Prop, Q = ((b.length : Int) < usH b) := ⟨_, rfl⟩
  obtain ⟨Q2, hQ2⟩ : ∃ Q : Prop, Q = ((usH b : Int) ≤ b.length) := ⟨_, rfl⟩
  obtain ⟨SZ, hSZ⟩ : ∃ z, z = szH b := ⟨_, rfl⟩
  obtain ⟨PK, hPK⟩ : ∃ z, z = pkH b := ⟨_, rfl⟩
  rw [← hQ1, ← hQ2, ← hSZ, ← hPK, hus, hrw, show ((4 : Nat) : Int) = 4 from rfl]
  rw [hus] at hQ1 hQ2
  rw [hsz] at hSZ
  rw [hpk] at hPK
  refine con_gen (con_cut 1 (by simp) (con_drop (con_walk hmix fn26 ?_)))
  intro vb vc vw vtoN vofN vaddN vsubN vmaxI vminI vcutN vgd vst vln vrep vsub vonto vsplice vstrEq vbyteV vnotB veqB hw qb qc qw qtoN qofN qaddN qsubN qmaxI qminI qcutN qgd qst qln qrep qsub qonto qsplice qstrEq qbyteV qnotB qeqB
  have hm := hmix; generalize Try.prog = P at *
  generalize numA b 4 = A at *
  generalize hxx : b.getD 0 0 = x at *
  generalize kdH b = K at *
  generalize hbl' : b.length = bl at *
  generalize b.take 4 = bt at *
  have hgd : ∀ i, vgd b i = b.getD i 0 := fun i => by rw [qgd]
  have hlnb : vln b = bl := by simp only [qln, hbl']
  have haddq : ∀ a b, vaddN a b = a + b := fun a b => by rw [qaddN]
  obtain ⟨bI, hbI⟩ : ∃ bI : Int, bI = bl := ⟨_, rfl⟩
  have ebl : vofN bl = bI := by rw [qofN, hbI]
  have ea1 : vb .and .u8 x 3 = K := by rw [qb, show (3 : Int) = 2 ^ 2 - 1 by decide, and_mask rfl 2 (by decide) hx.1 (by show x < 256; omega)]; exact hkd.symm
  obtain ⟨x4, hx4⟩ : ∃ z, z = x / 4 := ⟨_, rfl⟩
  have es1 : vb .shr .u8 x 2 = x4 := by rw [qb, shr_eq (by decide), hx4]; rfl
  have ea2 : vb .and .u8 x4 3 = 2 := by rw [qb, show (3 : Int) = 2 ^ 2 - 1 by decide, and_mask rfl 2 (by decide) (by omega) (by show x4 < 256; omega)]; show x4 % 4 = 2; omega
  have ewk : vw .i64 K = K := by rw [qw]; exact wrap_i64 (by omega) (by omega)
  have ewf : vw .i64 2 = 2 := by rw [qw]; rfl
  have ek : vc .lss K 2 = false := by rw [qc, lss_false]; omega
  have htus : vtoN 4 = 4 := by rw [qtoN]; rfl
  have ege : vc .geq 2 1 = true := by rw [qc]; rfl
  have ef1 : vc .eql 2 2 = true := by rw [qc]; rfl
  have ef3 : vc .eql 2 3 = false := by rw [qc]; rfl
  obtain ⟨A4, hA4⟩ : ∃ z, z = A / 16 := ⟨_, rfl⟩
  have eA : vb .shr .u64 A 4 = A4 := by rw [qb, shr_eq (by decide), hA4]; rfl
  have em : vb .and .u64 A4 16383 = SZ := by rw [qb, show (16383 : Int) = 2 ^ 14 - 1 by decide, and_mask rfl 14 (by decide) (by omega) (by show A4 < 18446744073709551616; omega), hSZ, ← hA4]; rfl
  have ewm : vw .i64 SZ = SZ := by rw [qw]; exact wrap_i64 (by omega) (by omega)
  have ep0 : vb .shr .u64 A 18 = PK := by rw [qb, shr_eq (by decide), hPK]; rfl
  have epk : vw .i64 PK = PK := by rw [qw]; exact wrap_i64 (by omega) (by omega)
  cbv
  rw [haddq, hlnb, hgd, hxx, ea1, es1, ea2, ewk, ewf]
  refine ⟨⟨by ((try simp only [nc] at *); omega), by ((try simp only [nc] at *); omega)⟩, ⟨by ((try simp only [nc] at *); omega)⟩, ⟨by ((try simp only [nc] at *); omega)⟩, ?_⟩
  cbv
  refine ⟨⟨by ((try simp only [nc] at *); omega), by ((try simp only [nc] at *); omega)⟩, ⟨by ((try simp only [nc] at *); omega)⟩, ⟨by ((try simp only [nc] at *); omega)⟩, ?_⟩
  rw [ek]
  cbv
  rw [ege]
  cbv
  rw [ef1]
  cbv
  rw [ef3]
  cbv
  rw [ebl]
  generalize hz1 : vc .lss bI 4 = z1
  cases z1
  rotate_left
  · rw [qc, lss_true] at hz1
    cbv
    exact .inl ⟨by rw [hQ1]; ((try simp only [nc] at *); omega), trivial⟩
  rw [qc, lss_false] at hz1
  have hus' : 4 ≤ bl := by ((try simp only [nc] at *); omega)
  cbv
  refine ⟨⟨by omega, by omega⟩, ?_⟩
  refine call_con (ρ := [(0, .z)]) (hnum cap hus') ⟨by rfl, by rfl, by rfl, by cbv; exact ⟨hview hus', trivial⟩⟩ ?_
  rintro v H R js ⟨rfl, rfl, rfl⟩
  cbv
  rw [eA, em, ewm, ep0, epk]
  exact .inr ⟨by rw [hQ2]; ((try simp only [nc] at *); omega), rfl⟩
set_option linter.unusedVariables false in
theorem refhead_b3 (b : List Int) (cap : Nat) (hb : ∀ c ∈ b, isU8 c) (h1 : 1 ≤ b.length) (hbl : b.length ≤ 140737488355328) (hcap : b.length ≤ cap) (hk : ¬ kdH b < 2) (hf : fmH b = 3) :
    Con Try.prog 26 [.slice 0 .z 1 b.length cap] [.ro .u8 b] (fun v H R => H = [.ro .u8 b] ∧ R = [] ∧ (((b.length : Int) < usH b ∧ v = .tup [.agg [.int .i64 0, .int .i64 0, .int .i64 0, .int .i64 0, .int .i64 0], .bool false]) ∨
      ((usH b : Int) ≤ b.length ∧ v = .tup [.agg [.int .i64 (kdH b), .int .i64 (szH b), .int .i64 (pkH b), .int .i64 (usH b), .int .i64 (rwH b)], .bool true]))) := by
  have hus : usH b = 5 := by unfold usH; rw [if_neg hk, hf]; rfl
  have hbt : btH b = 18 := by unfold btH; rw [if_neg hk, hf]; rfl
  have hrw : rwH b = 4 := by unfold rwH; rw [if_neg hk, hf]; rfl
  have hr := numA_range hb 5
  rw [show (2 : Int) ^ (8 * 5) = 1099511627776 by decide] at hr
  have hnm : nmH b = numA b 5 / 16 := by unfold nmH; rw [hus]; rfl
  have hsz : szH b = numA b 5 / 16 % 262144 := by unfold szH; rw [hnm, hbt]; rfl
  have hpk : pkH b = numA b 5 / 4194304 := by unfold pkH; rw [if_neg hk, hnm, hbt, Int.ediv_ediv_of_nonneg (by decide)]; rfl
  have hkr := kfH hb
  have hx := getD_u8 hb 0
  unfold isU8 at hx
  have hnum := fun c h => refnumber_take b 5 c hb h (by decide)
  have hview := view_take b 5
  have hkd : kdH b = b.getD 0 0 % 4 := rfl
  have hfd : fmH b = b.getD 0 0 / 4 % 4 := rfl
  obtain ⟨Q1, hQ1⟩ : ∃ Q : Prop, Q = ((b.length : Int) < usH b) := ⟨_, rfl⟩
  obtain ⟨Q2, hQ2⟩ : ∃ Q : Prop, Q = ((usH b : Int) ≤ b.length) := ⟨_, rfl⟩
  obtain ⟨SZ, hSZ⟩ : ∃ z, z = szH b := ⟨_, rfl⟩
  obtain ⟨PK, hPK⟩ : ∃ z, z = pkH b := ⟨_, rfl⟩
  rw [← hQ1, ← hQ2, ← hSZ, ← hPK, hus, hrw, show ((5 : Nat) : Int) = 5 from rfl]
  rw [hus] at hQ1 hQ2
  rw [hsz] at hSZ
  rw [hpk] at hPK
  refine con_gen (con_cut 1 (by simp) (con_drop (con_walk hmix fn26 ?_)))
  intro vb vc vw vtoN vofN vaddN vsubN vmaxI vminI vcutN vgd vst vln vrep vsub vonto vsplice vstrEq vbyteV vnotB veqB hw qb qc qw qtoN qofN qaddN qsubN qmaxI qminI qcutN qgd qst qln qrep qsub qonto qsplice qstrEq qbyteV qnotB qeqB
  have hm := hmix; generalize Try.prog = P at *
  generalize numA b 5 = A at *
  generalize hxx : b.getD 0 0 = x at *
  generalize kdH b = K at *
  generalize hbl' : b.length = bl at *
  generalize b.take 5 = bt at *
  have hgd : ∀ i, vgd b i = b.getD i 0 := fun i => by rw [qgd]
  have hlnb : vln b = bl := by simp only [qln, hbl']
  have haddq : ∀ a b, vaddN a b = a + b := fun a b => by rw [qaddN]
  obtain ⟨bI, hbI⟩ : ∃ bI : Int, bI = bl := ⟨_, rfl⟩
  have ebl : vofN bl = bI := by rw [qofN, hbI]
  have ea1 : vb .and .u8 x 3 = K := by rw [qb, show (3 : Int) = 2 ^ 2 - 1 by decide, and_mask rfl 2 (by decide) hx.1 (by show x < 256; omega)]; exact hkd.symm
  obtain ⟨x4, hx4⟩ : ∃ z, z = x / 4 := ⟨_, rfl⟩
  have es1 : vb .shr .u8 x 2 = x4 := by rw [qb, shr_eq (by decide), hx4]; rfl
  have ea2 : vb .and .u8 x4 3 = 3 := by rw [qb, show (3 : Int) = 2 ^ 2 - 1 by decide, and_mask rfl 2 (by decide) (by omega) (by show x4 < 256; omega)]; show x4 % 4 = 3; omega
  have ewk : vw .i64 K = K := by rw [qw]; exact wrap_i64 (by omega) (by omega)
  have ewf : vw .i64 3 = 3 := by rw [qw]; rfl
  have ek : vc .lss K 2 = false := by rw [qc, lss_false]; omega
  have htus : vtoN 5 = 5 := by rw [qtoN]; rfl
  have ege : vc .geq 3 1 = true := by rw [qc]; rfl
  have ef1 : vc .eql 3 2 = false := by rw [qc]; rfl
  have ef3 : vc .eql 3 3 = true := by rw [qc]; rfl
  obtain ⟨A4, hA4⟩ : ∃ z, z = A / 16 := ⟨_, rfl⟩
  have eA : vb .shr .u64 A 4 = A4 := by rw [qb, shr_eq (by decide), hA4]; rfl
  have em : vb .and .u64 A4 262143 = SZ := by rw [qb, show (262143 : Int) = 2 ^ 18 - 1 by decide, and_mask rfl 18 (by decide) (by omega) (by show A4 < 18446744073709551616; omega), hSZ, ← hA4]; rfl
  have ewm : vw .i64 SZ = SZ := by rw [qw]; exact wrap_i64 (by omega) (by omega)
  have ep0 : vb .shr .u64 A 22 = PK := by rw [qb, shr_eq (by decide), hPK]; rfl
  have epk : vw .i64 PK = PK := by rw [qw]; exact wrap_i64 (by omega) (by omega)
  cbv
  rw [haddq, hlnb, hgd, hxx, ea1, es1, ea2, ewk, ewf]
  refine ⟨⟨by ((try simp only [nc] at *); omega), by ((try simp only [nc] at *); omega)⟩, ⟨by ((try simp only [nc] at *); omega)⟩, ⟨by ((try simp only [nc] at *); omega)⟩, ?_⟩
  cbv
  refine ⟨⟨by ((try simp only [nc] at *); omega), by ((try simp only [nc] at *); omega)⟩, ⟨by ((try simp only [nc] at *); omega)⟩, ⟨by ((try simp only [nc] at *); omega)⟩, ?_⟩
  rw [ek]
  cbv
  rw [ege]
  cbv
  rw [ef1]
  cbv
  rw [ef3]
  cbv
  rw [ebl]
  generalize hz1 : vc .lss bI 5 = z1
  cases z1
  rotate_left
  · rw [qc, lss_true] at hz1
    cbv
    exact .inl ⟨by rw [hQ1]; ((try simp only [nc] at *); omega), trivial⟩
  rw [qc, lss_false] at hz1
  have hus' : 5 ≤ bl := by ((try simp only [nc] at *); omega)
  cbv
  refine ⟨⟨by omega, by omega⟩, ?_⟩
  refine call_con (ρ := [(0, .z)]) (hnum cap hus') ⟨by rfl, by rfl, by rfl, by cbv; exact ⟨hview hus', trivial⟩⟩ ?_
  rintro v H R js ⟨rfl, rfl, rfl⟩
  cbv
  rw [eA, em, ewm, ep0, epk]
  exact .inr ⟨by rw [hQ2]; ((try simp only [nc] at *); omega), rfl⟩
theorem refhead_con (b : List Int) (cap : Nat) (hb : ∀ c ∈ b, isU8 c) (h1 : 1 ≤ b.length) (hbl : b.length ≤ 140737488355328) (hcap : b.length ≤ cap) :
    Con Try.prog 26 [.slice 0 .z 1 b.length cap] [.ro .u8 b] (fun v H R => H = [.ro .u8 b] ∧ R = [] ∧ (((b.length : Int) < usH b ∧ v = .tup [.agg [.int .i64 0, .int .i64 0, .int .i64 0, .int .i64 0, .int .i64 0], .bool false]) ∨
      ((usH b : Int) ≤ b.length ∧ v = .tup [.agg [.int .i64 (kdH b), .int .i64 (szH b), .int .i64 (pkH b), .int .i64 (usH b), .int .i64 (rwH b)], .bool true]))) := by
  have hk := kfH hb
  rcases (show fmH b = 0 ∨ fmH b = 1 ∨ fmH b = 2 ∨ fmH b = 3 by omega) with hf | hf | hf | hf <;> by_cases h2 : kdH b < 2
  · exact refhead_a0 b cap hb h1 hbl hcap h2 hf
  · exact refhead_b0 b cap hb h1 hbl hcap h2 hf
  · exact refhead_a1 b cap hb h1 hbl hcap h2 hf
  · exact refhead_b1 b cap hb h1 hbl hcap h2 hf
  · exact refhead_a2 b cap hb h1 hbl hcap h2 hf
  · exact refhead_b2 b cap hb h1 hbl hcap h2 hf
  · exact refhead_a3 b cap hb h1 hbl hcap h2 hf
  · exact refhead_b3 b cap hb h1 hbl hcap h2 hf
end Go.Proofs.Ytaaklikigccdfaa
