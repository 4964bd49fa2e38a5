import Derived.Test.YtbipjekiobmpgaaWA
import Derived.Test.YtbipjekiobmpgaaED
namespace Go.Proofs.Ytbipjekiobmpgaa
open Go Go.Sx Go.Proofs
/-! Plain: what is unpacked. -/
theorem rd_app (b : List Int) (p : Int) (a : Nat) : ∀ c, rd b p (a + c) = rd b p a * 2 ^ c + rd b (p - a) c
  | 0 => by simp [rd]
  | c + 1 => by
    rw [← Nat.add_assoc]
    simp only [rd]
    rw [rd_app b p a c, p2s, show p - 1 - ((a + c : Nat) : Int) = p - a - 1 - c by push_cast; omega, ← Int.mul_assoc, Int.add_mul]
    omega
theorem rd_mod (b : List Int) (p : Int) (a c : Nat) : rd b p (a + c) % 2 ^ c = rd b (p - a) c := by
  have h := rd_bound b (p - a) c
  rw [rd_app, Int.add_comm, Int.add_mul_emod_self_right, Int.emod_eq_of_lt h.1 h.2]
theorem rd_div (b : List Int) (p : Int) (a c : Nat) : rd b p (a + c) / 2 ^ c = rd b p a := by
  have h := rd_bound b (p - a) c
  have hp := p2 c
  rw [rd_app, Int.add_comm, Int.add_mul_ediv_right _ _ (by omega), Int.ediv_eq_zero_of_lt h.1 h.2]
  omega
open Classical in
/-- The symbol with whose word t begins. -/
noncomputable def dc (l : List Int) (t : Int) : Nat := if h : ∃ c, Dc l t c then h.choose else 0
theorem dc_of {l : List Int} (h : ∀ c ∈ l, isU8 c) {t : Int} {c : Nat} (hc : Dc l t c) : dc l t = c := by
  have he : ∃ c, Dc l t c := ⟨c, hc⟩
  unfold dc
  rw [dif_pos he]
  exact Dc.uniq h he.choose_spec hc
theorem dc_spec {l : List Int} {M : Nat} (h : ∀ c ∈ l, isU8 c) (hW : Wt l M) {t : Int} (h0 : 0 ≤ t) (ht : t < 2 ^ M) : Dc l t (dc l t) := by
  obtain ⟨c, hc⟩ := Dc.ex h hW h0 ht
  rw [dc_of h hc]
  exact hc
theorem Dc.sy {l : List Int} {t : Int} {c : Nat} (h : Dc l t c) : Sy l c := ⟨h.1, h.2.1⟩
/-- Where the reader stands behind j symbols. -/
noncomputable def pos (l : List Int) (M : Nat) (b : List Int) (p : Int) : Nat → Int
  | 0 => p
  | j + 1 => pos l M b p j - nA l M (dc l (rd b (pos l M b p j) M))
noncomputable def sym (l : List Int) (M : Nat) (b : List Int) (p : Int) (j : Nat) : Nat := dc l (rd b (pos l M b p j) M)
noncomputable def outs (l : List Int) (M : Nat) (b : List Int) (p : Int) (j : Nat) : List Int := (List.range j).map fun i => (sym l M b p i : Int)
theorem pos_step {l : List Int} {M : Nat} (h : ∀ c ∈ l, isU8 c) (hW : Wt l M) (b : List Int) (p : Int) (j : Nat) : pos l M b p (j + 1) = pos l M b p j - nA l M (sym l M b p j) ∧ 1 ≤ nA l M (sym l M b p j) ∧ nA l M (sym l M b p j) ≤ M ∧
    Dc l (rd b (pos l M b p j) M) (sym l M b p j) ∧ Sy l (sym l M b p j) := by
  have hr := rd_bound b (pos l M b p j) M
  have hd : Dc l (rd b (pos l M b p j) M) (sym l M b p j) := dc_spec h hW hr.1 hr.2
  have hn := nA_range hW (sym l M b p j)
  refine ⟨rfl, ?_, hn.2.1, hd, hd.sy⟩
  have : ¬ nA l M (sym l M b p j) = 0 := fun e => hn.2.2.1 e hd.sy
  omega
theorem pos_down {l : List Int} {M : Nat} (h : ∀ c ∈ l, isU8 c) (hW : Wt l M) (b : List Int) (p : Int) {i : Nat} : ∀ {j : Nat}, i ≤ j → pos l M b p j + (j : Int) ≤ pos l M b p i + i
  | 0, hij => by obtain rfl : i = 0 := by omega
                 exact Int.le_refl _
  | j + 1, hij => by
    by_cases e : i = j + 1
    · subst e; exact Int.le_refl _
    · have h1 := pos_down h hW b p (i := i) (j := j) (by omega)
      have h2 := pos_step h hW b p j
      push_cast
      omega
theorem outs_len (l : List Int) (M : Nat) (b : List Int) (p : Int) (j : Nat) : (outs l M b p j).length = j := by simp [outs]
theorem outs_succ (l : List Int) (M : Nat) (b : List Int) (p : Int) (j : Nat) : outs l M b p (j + 1) = outs l M b p j ++ [(sym l M b p j : Int)] := by simp [outs, List.range_succ]
/-- The table is filled up to G. -/
def TI (l : List Int) (M : Nat) (G : Int) (A B : Nat → Int) : Prop := ∀ t : Nat, (t : Int) < G → A t = dc l t ∧ B t = nA l M (dc l t)
theorem TI.zero (l : List Int) (M : Nat) (A B : Nat → Int) : TI l M 0 A B := fun t ht => by omega
theorem TI.put {l : List Int} {M : Nat} (h : ∀ c ∈ l, isU8 c) {A B : Nat → Int} {L i k t : Nat} (hn : i < l.length) (hL : 1 ≤ L) (hi : l.getD i 0 = L) (hk : (k : Int) < 2 ^ (L - 1)) (ht : (t : Int) = gs l L i + k)
    (hT : TI l M (gs l L i + k) A B) : TI l M (gs l L i + ((k + 1 : Nat) : Int)) (updI A t i) (updI B t ((M : Int) + 1 - L)) := by
  have hw : wn l i = L := by unfold wn; omega
  have hD : Dc l t i := ⟨hn, by omega, by rw [hw]; omega, by rw [hw]; omega⟩
  have hsy : Sy l i := hD.sy
  intro u hu
  rw [updI_eq, updI_eq]
  by_cases e : u = t
  · subst e
    rw [if_pos rfl, if_pos rfl, dc_of h hD]
    refine ⟨rfl, ?_⟩
    unfold nA
    rw [if_pos hsy, hw]
  · rw [if_neg e, if_neg e]
    exact hT u (by push_cast at hu; omega)
end Go.Proofs.Ytbipjekiobmpgaa
namespace Go.Proofs.Ytbipjekiobmpgaa
open Go Go.Sx Go.Proofs
/-! weights.Unpack. -/
set_option maxRecDepth 10000
set_option maxHeartbeats 40000000
theorem unpack_ok (l b : List Int) (cap cap2 : Nat) (M : Nat) (N : Int) (hl : ∀ c ∈ l, isU8 c) (hb : ∀ c ∈ b, isByte c) (hW : Wt l M) (hN : 0 ≤ N ∧ N ≤ 131072) (hbl : b.length ≤ 140737488355328) (hlast : b.getLastD 0 ≠ 0) (p0 : Int)
    (hp0 : p0 = 8 * (b.length - 1) + (len8 (b.getLastD 0) - 1)) (hp1 : 0 ≤ p0 ∧ p0 ≤ 8 * b.length) :
    Con Try.prog 11 [.slice 0 .z 1 l.length cap, .slice 1 .z 1 b.length cap2, .int .i64 N] [.ro .u8 l, .ro .u8 b]
      (fun v H R => R = [] ∧ ∃ L c', H = [.ro .u8 l, .ro .u8 b, .free, .free, .free, .free, .free, .free, .free, .free, .buf 5 .u8 L c'] ∧
        ((v = .tup [.val (.slice none 0 0), .int .i64 11] ∧ pos l M b p0 N.toNat ≠ 0) ∨
         (v = .tup [.slice 10 .z 1 L.length c', .int .i64 0] ∧ L = outs l M b p0 N.toNat ∧ pos l M b p0 N.toNat = 0))) := by
  have hsz := size_con l cap M hl (by have := hW.2.1; omega) (.inl ⟨M, hW, rfl⟩)
  have hnew := new_good b cap2 hlast hb hbl
  rw [← hp0] at hnew
  have hbits := fun cap p n hp => bits_con b cap p n hb hp (by omega)
  have hleft := fun cap p => left_con b b.length cap p
  have hps := fun j => pos_step hl hW b p0 j
  have hpd := fun i j h => @pos_down l M hl hW b p0 i j h
  have hol := outs_len l M b p0
  have hos := outs_succ l M b p0
  have ho0 : outs l M b p0 0 = [] := rfl
  have hpos0 : pos l M b p0 0 = p0 := rfl
  have hrb := fun p n => rd_bound b p n
  have hra := fun p a c => rd_app b p a c
  have hrm := fun p a c => rd_mod b p a c
  have hr0 : ∀ p, rd b p 0 = 0 := fun _ => rfl
  have hti0 := fun A B => TI.zero l M A B
  have htip := fun A B L i k t => @TI.put l M hl A B L i k t
  have htid : ∀ G A B, TI l M G A B → ∀ t : Nat, (t : Int) < G → A t = dc l t ∧ B t = nA l M (dc l t) := fun G A B h => h
  have hfl : ∀ p : Int, -1099511627776 ≤ p → floorP p = p := fun p h => by unfold floorP; rw [if_neg (by omega)]
  have hcl : ∀ n : Int, 0 ≤ n → n ≤ 11 → clampN n = n.toNat := fun n h1 h2 => by unfold clampN; rw [if_neg (by omega), if_neg (by omega)]
  have hsymd : ∀ j, sym l M b p0 j = dc l (rd b (pos l M b p0 j) M) := fun _ => rfl
  have hdl : ∀ j, sym l M b p0 j < l.length := fun j => (hps j).2.2.2.1.1
  refine con_gen (con_hide [2, 3, 4, 5, 6, 7, 8, 9] (con_cut 11 (by simp) (con_drop (con_walk hmix fn11 ?_))))
  intro vb vc vw vtoN vofN vaddN vsubN vmaxI vminI vcutN vgd vst vln vrep vsub vonto vsplice vstrEq vbyteV vnotB veqB hw qb qc qw qtoN qofN qaddN qsubN qmaxI qminI qcutN qgd qst qln qrep qsub qonto qsplice qstrEq qbyteV qnotB qeqB
  have f16 := fn16
  have f33 := fn33
  have hm := hmix; generalize Try.prog = P at *
  have hM1 := hW.pos
  have hM11 := hW.2.2.2.2.2.2
  have hn2 := hW.1
  have hn256 := hW.2.1
  have hgs0 := gs_one l hl
  have hgss := gs_step l
  have hgsn := fun L hL => @gs_next l L hL
  have hgsr := fun L i h1 h2 h3 => @gs_range l M hW L i h1 h2 h3
  have hgd := fun L i h1 h2 => @gs_dvd l M hW L h1 h2 i
  have hgf : gs l (M + 2) 0 = 2 ^ M := by rw [gs_next l (by omega), gs_none hW _ (by omega)]
  have hge := getD_u8 hl
  clear hW
  generalize outs l M b p0 = OUT at *
  generalize sym l M b p0 = SYM at *
  generalize pos l M b p0 = POS at *
  generalize dc l = DC at *
  generalize nA l M = NA at *
  generalize TI l M = TIl at *
  generalize Dc l = DCl at *
  generalize Sy l = SY at *
  generalize rd b = RD at *
  generalize clampN = CL at *
  generalize floorP = FL at *
  generalize gs l = GS at *
  obtain ⟨mI, hmI⟩ : ∃ mI : Int, mI = M := ⟨_, rfl⟩
  rw [← hmI] at hsz
  generalize hn : l.length = n at *
  generalize hlb : b.length = lb at *
  have hto : ∀ i : Nat, vtoN (i : Int) = i := fun i => by simp only [qtoN, Int.toNat_natCast]
  have hadd0 : ∀ i, vaddN 0 i = i := fun i => by simp only [qaddN, Nat.zero_add]
  have hvln : vln l = n := by simp only [qln, hn]
  have hvlb : vln b = lb := by simp only [qln, hlb]
  have hvgd : ∀ l i, vgd l i = l.getD i 0 := fun l i => by simp only [qgd]
  have hnf1 : vnotB true = false := by simp only [qnotB]; rfl
  have d1 : vc .eql mI 0 = false := by rw [qc, eql_false]; omega
  have d2 : vc .lss N 0 = false := by rw [qc, lss_false]; omega
  have d3 : vc .gtr N 131072 = false := by rw [qc, gtr_false]; omega
  cbv
  refine call_con (ρ := [(0, .z)]) hsz ⟨by rfl, by rfl, by rfl, by cbv; exact ⟨⟨⟨by omega, fun i _ => by rw [Nat.zero_add]⟩⟩, trivial⟩⟩ ?_
  rintro v H R js ⟨rfl, rfl, rfl⟩
  cbv
  rw [d1]
  cbv
  rw [d2]
  cbv
  rw [d3]
  cbv
  refine call_con (ρ := [(1, .z)]) hnew ⟨by rfl, by rfl, by rfl, by cbv; exact ⟨⟨⟨by omega, fun i _ => by rw [Nat.zero_add]⟩⟩, trivial⟩⟩ ?_
  rintro v H R js ⟨rfl, rfl, cb, rfl⟩
  cbv
  refine inl_walkD hw hm f16 (by rfl) ?_
  cbv
  refine ⟨fun _ => rfl, fun _ => rfl, ?_⟩
  intro js
  refine range_rule (by rfl) (by rfl) (by cbv; exact ⟨fun _ => rfl, trivial⟩) (by cbv; exact ⟨fun _ => rfl, trivial⟩) (by rfl) ?_
  refine inl_walkD hw hm f33 (by rfl) ?_
  cbv
  refine WX.cv (Cv.arrEq 5 (fun m => [.int .u8 0, .int .i64 0]) (by rfl) (by intro i; rfl) (Cv.here ?_))
  obtain ⟨m1, hm1⟩ : ∃ m1 : Int, m1 = mI + 1 := ⟨_, rfl⟩
  have em1 : vb .add .i64 mI 1 = m1 := by (try simp only [nc] at *); rw [qb, add_i64 (by omega) (by omega)]; omega
  have en : vofN n = (n : Int) := by simp only [qofN]
  refine loop_fam (α := Int × Int × (Nat → Int) × (Nat → Int)) [6, 7, 8, 9, 10, 11, 12, 13, 14, 15, 16, 17, 18, 19, 20, 21, 22, 23, 24, 25, 26, 27, 28, 29, 30, 31, 32, 33, 34, 35, 36, 37, 38, 39, 40, 41, 42, 43, 44, 45, 46] [] (fun (k, x, _, _) => [(5, .int .i64 k), (4, .int .i64 x)]) (fun (_, _, A, B) => [(5, .arr 66 2 2048 (fun m => [.int .u8 (A m), .int .i64 (B m)]))])
    (fun (k, x, A, B) => ∃ L : Nat, k = L ∧ 1 ≤ L ∧ L ≤ M + 2 ∧ x = GS L 0 ∧ TIl (GS L 0) A B) (fun (k, _) => M + 2 - k.toNat) hw hm ?_ ?_
  · refine Cv.genAt [5, 4] [] (Cv.fold [6, 7, 8, 9, 10, 11, 12, 13, 14, 15, 16, 17, 18, 19, 20, 21, 22, 23, 24, 25, 26, 27, 28, 29, 30, 31, 32, 33, 34, 35, 36, 37, 38, 39, 40, 41, 42, 43, 44, 45, 46] 10 [] (by exact Nat.le_refl _) (by exact Nat.le_of_ble_eq_true rfl) (by rfl) (by cbv) ?_)
    intro js
    refine ⟨(_, _, _, _), ?_, js, rfl⟩
    exact ⟨1, rfl, by omega, by omega, hgs0.symm, by rw [hgs0]; exact hti0 _ _⟩
  · rintro ⟨k, x, A, B⟩ js ⟨L, hk, hL1, hL2, hx, hT⟩
    cbv
    rw [em1]
    generalize hz1 : vc .leq k m1 = z1
    cases z1
    rotate_left
    · rw [qc, leq_true] at hz1
      have hlt : L ≤ M + 1 := by ((try simp only [nc] at *); omega)
      have hgn := hgsn L hL1
      obtain ⟨k1, hk1⟩ : ∃ k1 : Int, k1 = ((L + 1 : Nat) : Int) := ⟨_, rfl⟩
      have ek : vb .add .i64 k 1 = k1 := by (try simp only [nc] at *); rw [qb, add_i64 (by omega) (by omega)]; omega
      have hmu : ∀ _ : Unit, M + 2 - k1.toNat < M + 2 - k.toNat := fun _ => by ((try simp only [nc] at *); omega)
      cbv
      rw [en]
      refine loop_fam (α := Int × Int × (Nat → Int) × (Nat → Int)) ([6, 7] ++ [17, 18, 19, 20, 21, 22, 23, 24, 25, 26, 27, 28, 29, 30, 31, 32, 33, 34, 35, 36, 37, 38, 39, 40, 41, 42, 43, 44, 45, 46]) [] (fun (q, x, _, _) => [(16, .int .i64 q), (4, .int .i64 x)]) (fun (_, _, A, B) => [(5, .arr 66 2 2048 (fun m => [.int .u8 (A m), .int .i64 (B m)]))])
        (fun (q, x, A, B) => ∃ i : Nat, q = i ∧ i ≤ n ∧ x = GS L i ∧ TIl (GS L i) A B) (fun (q, _) => n - q.toNat) hw hm ?_ ?_
      · refine Cv.genAt [16, 4] [] (Cv.fold ([6, 7] ++ [17, 18, 19, 20, 21, 22, 23, 24, 25, 26, 27, 28, 29, 30, 31, 32, 33, 34, 35, 36, 37, 38, 39, 40, 41, 42, 43, 44, 45, 46]) 10 [] (by exact Nat.le_refl _) (by exact Nat.le_of_ble_eq_true rfl) (by rfl) (by cbv) ?_)
        intro js
        refine ⟨(_, _, _, _), ?_, js, rfl⟩
        exact ⟨0, rfl, by omega, hx, hT⟩
      · rintro ⟨q, x, A, B⟩ js2 ⟨i, hq, hi, hx, hT⟩
        cbv
        generalize hz2 : vc .lss q (n : Int) = z2
        cases z2
        · rw [qc, lss_false] at hz2
          obtain rfl : i = n := by ((try simp only [nc] at *); omega)
          cbv
          rw [ek]
          refine Cv.fold [6, 7, 8, 9, 10, 11, 12, 13, 14, 15, 16, 17, 18, 19, 20, 21, 22, 23, 24, 25, 26, 27, 28, 29, 30, 31, 32, 33, 34, 35, 36, 37, 38, 39, 40, 41, 42, 43, 44, 45, 46] 10 [] (by exact Nat.le_refl _) (by exact Nat.le_of_ble_eq_true rfl) (by rfl) (by cbv) ?_
          intro js
          refine ⟨(_, _, _, _), ?_, js, rfl⟩
          exact ⟨⟨L + 1, hk1, by omega, by omega, by rw [hx, hgn], by rw [hgn]; exact hT⟩, hmu ()⟩
        · rw [qc, lss_true] at hz2
          have hlt2 : i < n := by ((try simp only [nc] at *); omega)
          have hti : vtoN q = i := by rw [hq]; exact hto i
          have hinR : 0 ≤ q ∧ q < (n : Int) := by ((try simp only [nc] at *); omega)
          obtain ⟨q1, hq1⟩ : ∃ q1 : Int, q1 = ((i + 1 : Nat) : Int) := ⟨_, rfl⟩
          have eq1 : vb .add .i64 q 1 = q1 := by (try simp only [nc] at *); rw [qb, add_i64 (by omega) (by omega)]; omega
          have hmu2 : ∀ _ : Unit, n - q1.toNat < n - q.toNat := fun _ => by ((try simp only [nc] at *); omega)
          have hx0 := hge i
          have hgs1 := hgss L i
          have hr1 := hgsr L i hL1 hlt (by omega)
          have hr2 := hgsr L (i + 1) hL1 hlt (by omega)
          have hdv := hgd L i hL1 hlt
          have hp11 : (2 : Int) ^ M ≤ 2 ^ 11 := pow_up hM11
          cbv
          rw [hti, hadd0, hvgd]
          refine ⟨⟨hinR⟩, ⟨by omega⟩, ⟨by omega⟩, ?_⟩
          generalize hxi : l.getD i 0 = y at *
          have ew : vw .i64 y = y := by rw [qw]; exact wrap_i64 (by omega) (by omega)
          rw [ew]
          generalize hz3 : vc .neq y k = z3
          cases z3
          rotate_left
          · rw [qc, neq_true] at hz3
            have hne : y ≠ (L : Int) := by ((try simp only [nc] at *); omega)
            rw [if_neg hne] at hgs1
            cbv
            rw [eq1]
            refine Cv.fold ([6, 7] ++ [17, 18, 19, 20, 21, 22, 23, 24, 25, 26, 27, 28, 29, 30, 31, 32, 33, 34, 35, 36, 37, 38, 39, 40, 41, 42, 43, 44, 45, 46]) 10 [] (by exact Nat.le_refl _) (by exact Nat.le_of_ble_eq_true rfl) (by rfl) (by cbv) ?_
            intro js
            refine ⟨(_, _, _, _), ?_, js, rfl⟩
            exact ⟨⟨i + 1, hq1, hlt2, by rw [hx, hgs1]; omega, by rw [hgs1, Int.add_zero]; exact hT⟩, hmu2 ()⟩
          · rw [qc, neq_false] at hz3
            have hyL : y = (L : Int) := by (try simp only [nc] at *); omega
            rw [if_pos hyL] at hgs1
            obtain ⟨k0, hk0⟩ : ∃ k0 : Int, k0 = ((L - 1 : Nat) : Int) := ⟨_, rfl⟩
            have ek0 : vb .sub .i64 k 1 = k0 := by (try simp only [nc] at *); rw [qb, sub_i64 (by omega) (by omega)]; omega
            have ew0 : vw .u64 k0 = k0 := by (try simp only [nc] at *); rw [qw]; exact wrap_u64 (by omega) (by omega)
            obtain ⟨x1, hx1⟩ : ∃ x1 : Int, x1 = GS L i / 2 ^ (L - 1) := ⟨_, rfl⟩
            have hpL : (0 : Int) < 2 ^ (L - 1) := p2 _
            have hpL2 : (2 : Int) ^ (L - 1) ≤ 2 ^ 11 := pow_up (by omega)
            have hx1r : 0 ≤ x1 ∧ x1 ≤ 2048 := by
              rw [hx1]
              have a1 := Int.ediv_nonneg hr1.1 (Int.le_of_lt hpL)
              have a2 := Int.ediv_le_self (2 ^ (L - 1)) hr1.1
              constructor
              · exact a1
              · (try simp only [nc] at *); omega
            have es : vb .shr .i64 x k0 = x1 := by
              rw [qb, shr_eq (by show k0 ≤ 64; (try simp only [nc] at *); omega), hx1, hx, hk0, Int.toNat_natCast]
            have ew1 : vw .u64 x1 = x1 := by rw [qw]; exact wrap_u64 (by omega) (by omega)
            obtain ⟨n1, hn1⟩ : ∃ n1 : Int, n1 = (M : Int) + 1 - L := ⟨_, rfl⟩
            have en1 : vb .sub .i64 m1 k = n1 := by (try simp only [nc] at *); rw [qb, sub_i64 (by omega) (by omega)]; omega
            have hk00 : 0 ≤ k0 := by ((try simp only [nc] at *); omega)
            obtain ⟨s1, hs1⟩ : ∃ s1 : Int, s1 = 2 ^ (L - 1) := ⟨_, rfl⟩
            have esl : vb .shl .i64 1 k0 = s1 := by
              rw [qb, hs1, hk0]
              show IntKind.i64.wrap (1 * 2 ^ (min (((L - 1 : Nat) : Int).toNat) IntKind.i64.bits)) = _
              rw [Int.toNat_natCast, show min (L - 1) IntKind.i64.bits = L - 1 by simp [IntKind.bits]; omega, Int.one_mul]
              exact wrap_i64 (by omega) (by omega)
            obtain ⟨x2, hx2⟩ : ∃ x2 : Int, x2 = GS L (i + 1) := ⟨_, rfl⟩
            have ex2 : vb .add .i64 x s1 = x2 := by
              have e : x + s1 = x2 := by rw [hx2, hgs1, hx, hs1]
              rw [qb, add_i64 (by (try simp only [nc] at *); omega) (by (try simp only [nc] at *); omega), e]
            cbv
            rw [ek0, ew0, es, ew1, em1, en1]
            refine ⟨⟨hk00⟩, ?_⟩
            refine yield_walk hw hm (by rfl) ?_
            have ed0 : vb .sub .i64 mI n1 = k0 := by (try simp only [nc] at *); rw [qb, sub_i64 (by omega) (by omega)]; omega
            have efr : vb .shl .u64 x1 k0 = x := by
              have hb64 : (2 : Int) ^ (IntKind.u64).bits = 18446744073709551616 := by decide
              have e : x1 * 2 ^ k0.toNat = x := by rw [hk0, Int.toNat_natCast, hx1, hx]; exact hdv.symm
              rw [qb, shl_u rfl hx1r.1 (by show k0 ≤ 64; (try simp only [nc] at *); omega) (by rw [e, hb64]; (try simp only [nc] at *); omega), e]
            have es1u : vb .shl .u64 1 k0 = s1 := by
              have hb64 : (2 : Int) ^ (IntKind.u64).bits = 18446744073709551616 := by decide
              rw [qb, shl_u rfl (by decide) (by show k0 ≤ 64; (try simp only [nc] at *); omega) (by rw [hk0, Int.toNat_natCast, hb64]; omega), hk0, Int.toNat_natCast, hs1, Int.one_mul]
            have hs1r : 1 ≤ s1 ∧ s1 ≤ 2048 := by rw [hs1]; constructor <;> omega
            have htp := fun A B k t => htip A B L i k t hlt2 hL1 (by rw [hxi]; exact hyL)
            have ewq : vw .u8 q = q := by (try simp only [nc] at *); rw [qw]; exact wrap_u8 (by omega) (by omega)
            rw [← hx] at htp hT
            rw [← hs1] at htp
            rw [← hn1] at htp
            have hqi : q = (i : Int) := by ((try simp only [nc] at *); omega)
            (try simp only [nc] at htp hqi)
            rw [← hqi] at htp
            have hxs : x + s1 = x2 := by rw [hx2, hgs1, hx, hs1]
            have hx2r : 0 ≤ x ∧ x2 ≤ 2048 := by rw [hx, hx2]; constructor <;> ((try simp only [nc] at *); omega)
            cbv
            rw [ed0, ew0, efr, es1u]
            refine ⟨fun _ => rfl, ⟨hk00⟩, ⟨hk00⟩, ?_⟩
            refine loop_fam (α := Int × (Nat → Int) × (Nat → Int)) ([15] ++ [60, 61, 62, 63, 64, 65, 66, 67, 68, 69, 70, 71]) [] (fun (kk, _, _) => [(59, .int .u64 kk)]) (fun (_, A, B) => [(5, .arr 66 2 2048 (fun m => [.int .u8 (A m), .int .i64 (B m)]))])
              (fun (kk, A, B) => ∃ kn : Nat, kk = kn ∧ kk ≤ s1 ∧ TIl (x + kk) A B) (fun (kk, _) => (s1 - kk).toNat) hw hm ?_ ?_
            · refine Cv.genAt [59] [] (Cv.fold ([15] ++ [60, 61, 62, 63, 64, 65, 66, 67, 68, 69, 70, 71]) 11 [] (by exact Nat.le_refl _) (by exact Nat.le_of_ble_eq_true rfl) (by rfl) (by cbv) ?_)
              intro js
              refine ⟨(_, _, _), ?_, js, rfl⟩
              exact ⟨0, rfl, by ((try simp only [nc] at *); omega), by rw [Int.add_zero]; exact hT⟩
            · rintro ⟨kk, A, B⟩ js3 ⟨kn, hkk, hks, hT⟩
              cbv
              generalize hz4 : vc .lss kk s1 = z4
              cases z4
              rotate_left
              · rw [qc, lss_true] at hz4
                obtain ⟨tt, htt⟩ : ∃ tt, tt = x + kk := ⟨_, rfl⟩
                obtain ⟨tn, htn⟩ : ∃ tn : Nat, tn = tt.toNat := ⟨_, rfl⟩
                have ett : vb .add .u64 x kk = tt := by rw [qb, htt]; exact wrap_u64 (by ((try simp only [nc] at *); omega)) (by ((try simp only [nc] at *); omega))
                have htv : vtoN tt = tn := by rw [qtoN, htn]
                have htR : 0 ≤ tt ∧ tt < (2048 : Int) := by ((try simp only [nc] at *); omega)
                have ht2 : tn < 2048 := by ((try simp only [nc] at *); omega)
                obtain ⟨kk1, hkk1⟩ : ∃ kk1 : Int, kk1 = ((kn + 1 : Nat) : Int) := ⟨_, rfl⟩
                have ekk : vb .add .u64 kk 1 = kk1 := by
                  have e : kk + 1 = kk1 := by ((try simp only [nc] at *); omega)
                  rw [qb, ← e]; exact wrap_u64 (by ((try simp only [nc] at *); omega)) (by ((try simp only [nc] at *); omega))
                have hT2 := htp A B kn tn (by ((try simp only [nc] at *); omega)) (by ((try simp only [nc] at *); omega)) (by (try simp only [nc] at *); rw [← hkk]; exact hT)
                (try simp only [nc] at hT2)
                rw [← hkk1] at hT2
                have hmu4 : ∀ _ : Unit, (s1 - kk1).toNat < (s1 - kk).toNat := fun _ => by ((try simp only [nc] at *); omega)
                have hkk2 : kk1 ≤ s1 := by ((try simp only [nc] at *); omega)
                cbv
                rw [ett, ewq, htv, updF_2_0, updF_2_1, ekk]
                refine ⟨⟨htR⟩, ⟨ht2⟩, ⟨ht2⟩, ?_⟩
                refine Cv.fold ([15] ++ [60, 61, 62, 63, 64, 65, 66, 67, 68, 69, 70, 71]) 11 [] (by exact Nat.le_refl _) (by exact Nat.le_of_ble_eq_true rfl) (by rfl) (by cbv) ?_
                intro js
                refine ⟨(_, _, _), ?_, js, rfl⟩
                exact ⟨⟨kn + 1, hkk1, hkk2, hT2⟩, hmu4 ()⟩
              · rw [qc, lss_false] at hz4
                obtain rfl : kk = s1 := by ((try simp only [nc] at *); omega)
                rw [hxs, hx2] at hT
                cbv
                intro js1
                cbv
                rw [hnf1]
                cbv
                rw [ek0, ew0, esl, ex2, eq1]
                refine ⟨⟨hk00⟩, ?_⟩
                refine Cv.fold ([6, 7] ++ [17, 18, 19, 20, 21, 22, 23, 24, 25, 26, 27, 28, 29, 30, 31, 32, 33, 34, 35, 36, 37, 38, 39, 40, 41, 42, 43, 44, 45, 46]) 10 [] (by exact Nat.le_refl _) (by exact Nat.le_of_ble_eq_true rfl) (by rfl) (by cbv) ?_
                intro js
                refine ⟨(_, _, _, _), ?_, js, rfl⟩
                exact ⟨⟨i + 1, hq1, hlt2, hx2, hT⟩, hmu2 ()⟩
    · rw [qc, leq_false] at hz1
      have hL : L = M + 2 := by ((try simp only [nc] at *); omega)
      subst hL
      rw [hgf] at hT
      have hMp : (2 : Int) ^ M ≤ 2 ^ 11 := pow_up hM11
      have htd := htid _ _ _ hT
      clear hgs0 hgss hgsn hgsr hgd hgf hge htip hti0 htid hT
      have hb64 : (2 : Int) ^ (IntKind.u64).bits = 18446744073709551616 := by decide
      cbv
      intro js1
      cbv
      refine WX.cv (Cv.nilT 16 5 .u8 (by rfl) (by cbv; exact ⟨fun _ => rfl, trivial⟩) (Cv.here ?_))
      cbv
      refine loop_fam (α := Int × Int × Int × Nat × Nat × List Int) ([19] ++ [72, 73, 74, 75, 76, 77, 78, 79, 80, 81, 82, 83, 84, 85, 86, 87, 88, 89, 90, 91, 92, 93, 94, 95, 96, 97, 98, 99, 100, 101, 102, 103, 104, 105, 106, 107, 108, 109, 110, 111]) [10] (fun (x, h, _, c, n1, _) => [(16, .slice 10 .z 1 n1 c), (17, .int .u64 x), (18, .int .i64 h)])
        (fun (_, _, a, c, _, L) => [(4, .one 108 [.slice 3 .z 1 lb cb, .int .i64 a]), (10, .buf 5 .u8 L c)])
        (fun (x, h, a, c, n1, L) => ∃ j hN : Nat, h = hN ∧ hN ≤ M ∧ (j : Int) ≤ N ∧ a = POS j - h ∧ 0 ≤ POS j ∧ x = RD (POS j) hN ∧ L = OUT j ∧ n1 = j ∧ n1 ≤ c) (fun (_, _, _, _, n1, _) => N.toNat - n1) hw hm ?_ ?_
      · refine Cv.genAt [17, 18] [] (Cv.fold ([19] ++ [72, 73, 74, 75, 76, 77, 78, 79, 80, 81, 82, 83, 84, 85, 86, 87, 88, 89, 90, 91, 92, 93, 94, 95, 96, 97, 98, 99, 100, 101, 102, 103, 104, 105, 106, 107, 108, 109, 110, 111]) 11 [10] (by exact Nat.le_refl _) (by exact Nat.le_of_ble_eq_true rfl) (by rfl) (by cbv) ?_)
        intro js
        refine ⟨(_, _, _, _, _, _), ?_, js, rfl⟩
        exact ⟨0, 0, rfl, by omega, by (try simp only [nc] at *); omega, by rw [hpos0]; omega, by rw [hpos0]; omega, (hr0 _).symm, ho0.symm, rfl, Nat.le_refl _⟩
      · rintro ⟨x, h, a, c, n1, L⟩ js ⟨j, hN2, hh, hhM, hjN, ha, hp, hx, hL, hn1, hnc⟩
        subst hn1
        obtain ⟨jI, hjI⟩ : ∃ jI : Int, jI = (n1 : Int) := ⟨_, rfl⟩
        have ej : vofN n1 = jI := by rw [qofN, hjI]
        cbv
        rw [ej]
        generalize hz2 : vc .lss jI N = z2
        cases z2
        · rw [qc, lss_false] at hz2
          have ez : vc .lss jI N = false := by rw [qc, lss_false]; exact hz2
          have hnN : N.toNat = n1 := by ((try simp only [nc] at *); omega)
          have hlf := hleft cb a
          obtain ⟨p1, hp1'⟩ : ∃ p1, p1 = POS n1 := ⟨_, rfl⟩
          have hpd0 := hpd 0 n1 (by omega)
          rw [hpos0] at hpd0
          have ep1 : vb .add .i64 a h = p1 := by
            have e : a + h = p1 := by ((try simp only [nc] at *); omega)
            rw [qb, add_i64 (by ((try simp only [nc] at *); omega)) (by ((try simp only [nc] at *); omega)), e]
          have hLn : L.length = n1 := by rw [hL]; exact hol n1
          rw [hnN]
          cbv
          rw [ej, ez]
          cbv
          refine call_con (ρ := [(4, .z), (3, .z)]) hlf ⟨by rfl, by rfl, by rfl, by cbv; exact ⟨fun _ => rfl, view_refl _, trivial⟩⟩ ?_
          rintro v H R js3 ⟨rfl, rfl, rfl⟩
          cbv
          rw [ep1]
          refine ⟨fun _ => rfl, ?_⟩
          generalize hz3 : vc .neq p1 0 = z3
          cases z3
          rotate_left
          · rw [qc, neq_true, hp1'] at hz3
            cbv
            exact ⟨L, c, rfl, .inl ⟨rfl, hz3⟩⟩
          · rw [qc, neq_false, Decidable.not_not, hp1'] at hz3
            cbv
            subst hLn
            exact ⟨L, c, rfl, .inr ⟨rfl, hL, hz3⟩⟩
        · rw [qc, lss_true] at hz2
          obtain ⟨dN, hdN⟩ : ∃ dN, dN = M - hN2 := ⟨_, rfl⟩
          obtain ⟨dI, hdI⟩ : ∃ dI : Int, dI = (dN : Int) := ⟨_, rfl⟩
          have ed : vb .sub .i64 mI h = dI := by (try simp only [nc] at *); rw [qb, sub_i64 (by omega) (by omega)]; omega
          have ewd : vw .u64 dI = dI := by (try simp only [nc] at *); rw [qw]; exact wrap_u64 (by omega) (by omega)
          have hcl1 := hcl dI (by ((try simp only [nc] at *); omega)) (by ((try simp only [nc] at *); omega))
          have hcl2 : CL dI = dN := by ((try simp only [nc] at *); omega)
          have hd0 : 0 ≤ dI := by ((try simp only [nc] at *); omega)
          have hpd0 := hpd 0 n1 (by omega)
          rw [hpos0] at hpd0
          have hbt := hbits cb a dI (by ((try simp only [nc] at *); omega))
          obtain ⟨a2, ha2⟩ : ∃ a2, a2 = a - dN := ⟨_, rfl⟩
          have hfl1 : FL a2 = a2 := hfl a2 (by ((try simp only [nc] at *); omega))
          obtain ⟨y, hy⟩ : ∃ y, y = RD a dN := ⟨_, rfl⟩
          rw [hcl2] at hbt
          simp only [nc] at hbt ha2
          rw [← ha2, hfl1, ← hy] at hbt
          have hMs : M = hN2 + dN := by ((try simp only [nc] at *); omega)
          have hra1 := hra (POS n1) hN2 dN
          rw [← hMs, ← hx] at hra1
          have haP : POS n1 - (hN2 : Int) = a := by ((try simp only [nc] at *); omega)
          simp only [nc] at hra1
          rw [haP, ← hy] at hra1
          obtain ⟨X, hX⟩ : ∃ X, X = RD (POS n1) M := ⟨_, rfl⟩
          rw [← hX] at hra1
          have hXr := hrb (POS n1) M
          rw [← hX] at hXr
          have hyr := hrb a dN
          rw [← hy] at hyr
          have hxr := hrb (POS n1) hN2
          rw [← hx] at hxr
          have hpd1 : (0 : Int) < 2 ^ dN := p2 dN
          obtain ⟨X0, hX0⟩ : ∃ X0, X0 = x * 2 ^ dN := ⟨_, rfl⟩
          have hX00 : 0 ≤ X0 := by rw [hX0]; exact Int.mul_nonneg hxr.1 (Int.le_of_lt hpd1)
          have eX0 : vb .shl .u64 x dI = X0 := by
            have e : x * 2 ^ dI.toNat = X0 := by rw [hdI, Int.toNat_natCast, hX0]
            rw [qb, shl_u rfl hxr.1 (by show dI ≤ 64; ((try simp only [nc] at *); omega)) (by rw [e, hb64]; omega), e]
          have eX : vb .or .u64 X0 y = X := by
            rw [qb, or_comm_u rfl, hX0, or_add rfl dN hyr.1 hyr.2 hxr.1 (by rw [hb64]; omega)]
            omega
          cbv
          rw [ed, ewd, eX0]
          refine ⟨⟨hd0⟩, ?_⟩
          refine call_con (ρ := [(4, .z), (3, .z)]) hbt ⟨by rfl, by rfl, by rfl, by cbv; exact ⟨fun _ => rfl, view_refl _, trivial⟩⟩ ?_
          rintro v H R js2 ⟨rfl, rfl, rfl⟩
          cbv
          obtain ⟨Xn, hXn⟩ : ∃ Xn : Nat, Xn = X.toNat := ⟨_, rfl⟩
          have hXv : vtoN X = Xn := by rw [qtoN, hXn]
          have hX2 : X < 2048 := by omega
          have hXR : 0 ≤ X ∧ X < (2048 : Int) := ⟨hXr.1, hX2⟩
          have hXn2 : Xn < 2048 := by omega
          have hXc : (Xn : Int) = X := by omega
          simp only [nc] at htd hps hsymd hXc
          obtain ⟨hA1, hB1⟩ := htd Xn (by rw [hXc]; exact hXr.2)
          obtain ⟨hp1, hn1a, hn1b, _, _⟩ := hps n1
          have hsd := hsymd n1
          rw [← hX] at hsd
          have hsl := hdl n1
          rw [hXc, ← hsd] at hA1 hB1
          obtain ⟨cI, hcI⟩ : ∃ cI : Int, cI = (SYM n1 : Int) := ⟨_, rfl⟩
          obtain ⟨nI, hnI⟩ : ∃ nI : Int, nI = NA (SYM n1) := ⟨_, rfl⟩
          rw [← hcI] at hA1
          rw [← hnI] at hB1 hp1 hn1a hn1b
          obtain ⟨nN, hnN⟩ : ∃ nN : Nat, nN = nI.toNat := ⟨_, rfl⟩
          obtain ⟨h2, hh2⟩ : ∃ h2 : Nat, h2 = M - nN := ⟨_, rfl⟩
          obtain ⟨h3, hh3⟩ : ∃ h3 : Int, h3 = (h2 : Int) := ⟨_, rfl⟩
          have eh3 : vb .sub .i64 mI nI = h3 := by (try simp only [nc] at *); rw [qb, sub_i64 (by omega) (by omega)]; omega
          have ewh : vw .u64 h3 = h3 := by (try simp only [nc] at *); rw [qw]; exact wrap_u64 (by omega) (by omega)
          have hh30 : 0 ≤ h3 := by rw [hh3]; omega
          have hh2p : (0 : Int) < 2 ^ h2 := p2 h2
          have hh2q : (2 : Int) ^ h2 ≤ 2 ^ 11 := pow_up (by omega)
          obtain ⟨q2, hq2⟩ : ∃ q2 : Int, q2 = 2 ^ h2 := ⟨_, rfl⟩
          have eq2 : vb .shl .u64 1 h3 = q2 := by
            have e : 1 * 2 ^ h3.toNat = q2 := by rw [hh3, Int.toNat_natCast, hq2, Int.one_mul]
            rw [qb, shl_u rfl (by decide) (by show h3 ≤ 64; (try simp only [nc] at *); omega) (by rw [e, hb64]; omega), e]
          obtain ⟨q3, hq3⟩ : ∃ q3 : Int, q3 = q2 - 1 := ⟨_, rfl⟩
          have eq3 : vb .sub .u64 q2 1 = q3 := by rw [qb, hq3]; exact wrap_u64 (by omega) (by omega)
          obtain ⟨x3, hx3⟩ : ∃ x3, x3 = RD (POS (n1 + 1)) h2 := ⟨_, rfl⟩
          have ex3 : vb .and .u64 X q3 = x3 := by
            have e1 := hrm (POS n1) nN h2
            rw [show nN + h2 = M by ((try simp only [nc] at *); omega), ← hX] at e1
            have e2 : POS n1 - (nN : Int) = POS (n1 + 1) := by ((try simp only [nc] at *); omega)
            simp only [nc] at e1
            rw [e2, ← hx3] at e1
            rw [qb, hq3, hq2, and_mask rfl h2 (by show h2 ≤ 64; omega) hXr.1 (by rw [hb64]; omega)]
            exact e1
          obtain ⟨p1, hp1'⟩ : ∃ p1, p1 = POS (n1 + 1) := ⟨_, rfl⟩
          have ep1 : vb .add .i64 a2 h3 = p1 := by
            have e : a2 + h3 = p1 := by ((try simp only [nc] at *); omega)
            rw [qb, add_i64 (by ((try simp only [nc] at *); omega)) (by ((try simp only [nc] at *); omega)), e]
          have hlf := hleft cb a2
          have hpdN := hpd (n1 + 1) N.toNat (by ((try simp only [nc] at *); omega))
          rw [← hp1'] at hpdN
          rw [eX]
          refine ⟨fun _ => rfl, ⟨hXR⟩, ?_⟩
          rw [hXv, hB1, eh3, ewh, eq2, eq3, ex3]
          refine ⟨⟨hXn2⟩, ⟨hXn2⟩, fun _ => rfl, ⟨hh30⟩, ?_⟩
          refine call_con (ρ := [(4, .z), (3, .z)]) hlf ⟨by rfl, by rfl, by rfl, by cbv; exact ⟨fun _ => rfl, view_refl _, trivial⟩⟩ ?_
          rintro v H R js3 ⟨rfl, rfl, rfl⟩
          cbv
          rw [ep1]
          refine ⟨fun _ => rfl, ?_⟩
          generalize hz3 : vc .lss p1 0 = z3
          cases z3
          rotate_left
          · rw [qc, lss_true] at hz3
            have hne : POS N.toNat ≠ 0 := by ((try simp only [nc] at *); omega)
            have ez : vc .lss jI N = true := by rw [qc, lss_true]; exact hz2
            cbv
            rw [ej, ez]
            cbv
            exact ⟨L, c, rfl, .inl ⟨rfl, hne⟩⟩
          · rw [qc, lss_false] at hz3
            have hLn : L.length = n1 := by rw [hL]; exact hol n1
            have hadd1 : vaddN n1 1 = n1 + 1 := by rw [qaddN]
            have hadd01 : vaddN 0 1 = 1 := by rw [qaddN]
            have hln1 : vln [cI] = 1 := by rw [qln]; rfl
            have hlnL : vln L = n1 := by rw [qln]; exact hLn
            have hont : vonto L n1 (vsub [cI] 0 1) = OUT (n1 + 1) := by
              have e1 : vsub [cI] 0 1 = [cI] := by rw [qsub]; rfl
              have e2 : L.take n1 = L := by rw [← hLn, List.take_length]
              rw [e1, qonto, hos n1, hcI, ← hL]
              simp only [e2]
            obtain ⟨L2, hL2⟩ : ∃ L2, L2 = OUT (n1 + 1) := ⟨_, rfl⟩
            rw [← hL2] at hont
            obtain ⟨n2, hn2'⟩ : ∃ n2, n2 = n1 + 1 := ⟨_, rfl⟩
            rw [← hn2'] at hadd1
            have hmu : ∀ _ : Unit, N.toNat - n2 < N.toNat - n1 := fun _ => by ((try simp only [nc] at *); omega)
            have hjn : ((n2 : Nat) : Int) ≤ N := by ((try simp only [nc] at *); omega)
            have ha3 : a2 = POS n2 - h3 := by rw [hn2']; ((try simp only [nc] at *); omega)
            have hpn2 : 0 ≤ POS n2 := by rw [hn2', ← hp1']; ((try simp only [nc] at *); omega)
            rw [← hn2'] at hx3 hL2
            have hh2M : h2 ≤ M := by omega
            have hn2b : n2 * 1 ≤ 140737488355328 := by ((try simp only [nc] at *); omega)
            cbv
            rw [hA1]
            refine ⟨fun _ => rfl, ⟨by rw [hadd01, hln1]; exact Nat.le_refl _⟩, ⟨by rw [hlnL]; exact Nat.le_refl _⟩, ⟨Nat.le_refl _⟩, ⟨by rw [hadd1]; exact hn2b⟩, fun _ => rfl, ?_⟩
            intro c1 js4 hle
            have hle' : n2 ≤ c1 := by have := hle.out; simp only at this; rw [hadd1] at this; exact this
            cbv
            rw [hont, hadd1]
            refine Cv.fold ([19] ++ [72, 73, 74, 75, 76, 77, 78, 79, 80, 81, 82, 83, 84, 85, 86, 87, 88, 89, 90, 91, 92, 93, 94, 95, 96, 97, 98, 99, 100, 101, 102, 103, 104, 105, 106, 107, 108, 109, 110, 111]) 11 [10] (by exact Nat.le_refl _) (by exact Nat.le_of_ble_eq_true rfl) (by rfl) (by cbv) ?_
            intro js
            refine ⟨(_, _, _, _, _, _), ?_, js, rfl⟩
            exact ⟨⟨n2, h2, hh3, hh2M, hjn, ha3, hpn2, hx3, hL2, rfl, hle'⟩, hmu ()⟩
end Go.Proofs.Ytbipjekiobmpgaa
namespace Go.Proofs.Ytbipjekiobmpgaa
open Go Go.Sx Go.Proofs
/-! The ways of no code, of a wrong size, of a text without a mark. -/
set_option maxRecDepth 10000
set_option maxHeartbeats 40000000
theorem pack_code (l : List Int) (B : List Int) (cap cap2 : Nat) (hl : ∀ c ∈ l, isU8 c) (hlen : l.length ≤ 140737488355328) (hW : ∀ M, ¬ Wt l M) :
    Con Try.prog 9 [.slice 0 .z 1 l.length cap, .slice 1 .z 1 B.length cap2] [.ro .u8 l, .ro .u8 B] (fun v H R => v = .tup [.val (.slice none 0 0), .int .i64 50] ∧ H = [.ro .u8 l, .ro .u8 B] ∧ R = []) := by
  have hsz := size_con l cap 0 hl hlen (.inr ⟨hW, rfl⟩)
  refine con_gen (con_cut 2 (by simp) (con_drop (con_walk hmix fn9 ?_)))
  intro vb vc vw vtoN vofN vaddN vsubN vmaxI vminI vcutN vgd vst vln vrep vsub vonto vsplice vstrEq vbyteV vnotB veqB hw qb qc qw qtoN qofN qaddN qsubN qmaxI qminI qcutN qgd qst qln qrep qsub qonto qsplice qstrEq qbyteV qnotB qeqB
  have hm := hmix; generalize Try.prog = P at *
  generalize hn : l.length = n at *
  generalize hlb : B.length = lb at *
  have d1 : vc .eql 0 0 = true := by rw [qc, eql_true]
  cbv
  refine call_con (ρ := [(0, .z)]) hsz ⟨by rfl, by rfl, by rfl, by cbv; exact ⟨⟨⟨by omega, fun i _ => by rw [Nat.zero_add]⟩⟩, trivial⟩⟩ ?_
  rintro v H R js ⟨rfl, rfl, rfl⟩
  cbv
  rw [d1]
  cbv
theorem unpack_code (l : List Int) (B : List Int) (cap cap2 : Nat) (N : Int) (hl : ∀ c ∈ l, isU8 c) (hlen : l.length ≤ 140737488355328) (hW : ∀ M, ¬ Wt l M) :
    Con Try.prog 11 [.slice 0 .z 1 l.length cap, .slice 1 .z 1 B.length cap2, .int .i64 N] [.ro .u8 l, .ro .u8 B] (fun v H R => v = .tup [.val (.slice none 0 0), .int .i64 50] ∧ H = [.ro .u8 l, .ro .u8 B] ∧ R = []) := by
  have hsz := size_con l cap 0 hl hlen (.inr ⟨hW, rfl⟩)
  refine con_gen (con_cut 2 (by simp) (con_drop (con_walk hmix fn11 ?_)))
  intro vb vc vw vtoN vofN vaddN vsubN vmaxI vminI vcutN vgd vst vln vrep vsub vonto vsplice vstrEq vbyteV vnotB veqB hw qb qc qw qtoN qofN qaddN qsubN qmaxI qminI qcutN qgd qst qln qrep qsub qonto qsplice qstrEq qbyteV qnotB qeqB
  have hm := hmix; generalize Try.prog = P at *
  generalize hn : l.length = n at *
  generalize hlb : B.length = lb at *
  have d1 : vc .eql 0 0 = true := by rw [qc, eql_true]
  cbv
  refine call_con (ρ := [(0, .z)]) hsz ⟨by rfl, by rfl, by rfl, by cbv; exact ⟨⟨⟨by omega, fun i _ => by rw [Nat.zero_add]⟩⟩, trivial⟩⟩ ?_
  rintro v H R js ⟨rfl, rfl, rfl⟩
  cbv
  rw [d1]
  cbv
theorem unpack_arg (l : List Int) (B : List Int) (cap cap2 M : Nat) (N : Int) (hl : ∀ c ∈ l, isU8 c) (hW : Wt l M) (hN : N < 0 ∨ 131072 < N) :
    Con Try.prog 11 [.slice 0 .z 1 l.length cap, .slice 1 .z 1 B.length cap2, .int .i64 N] [.ro .u8 l, .ro .u8 B] (fun v H R => v = .tup [.val (.slice none 0 0), .int .i64 2] ∧ H = [.ro .u8 l, .ro .u8 B] ∧ R = []) := by
  have hsz := size_con l cap M hl (by have := hW.2.1; omega) (.inl ⟨M, hW, rfl⟩)
  refine con_gen (con_cut 2 (by simp) (con_drop (con_walk hmix fn11 ?_)))
  intro vb vc vw vtoN vofN vaddN vsubN vmaxI vminI vcutN vgd vst vln vrep vsub vonto vsplice vstrEq vbyteV vnotB veqB hw qb qc qw qtoN qofN qaddN qsubN qmaxI qminI qcutN qgd qst qln qrep qsub qonto qsplice qstrEq qbyteV qnotB qeqB
  have hm := hmix; generalize Try.prog = P at *
  have hM1 := hW.pos
  have hn256 := hW.2.1
  obtain ⟨mI, hmI⟩ : ∃ mI : Int, mI = M := ⟨_, rfl⟩
  rw [← hmI] at hsz
  generalize hn : l.length = n at *
  generalize hlb : B.length = lb at *
  have d1 : vc .eql mI 0 = false := by rw [qc, eql_false]; omega
  cbv
  refine call_con (ρ := [(0, .z)]) hsz ⟨by rfl, by rfl, by rfl, by cbv; exact ⟨⟨⟨by omega, fun i _ => by rw [Nat.zero_add]⟩⟩, trivial⟩⟩ ?_
  rintro v H R js ⟨rfl, rfl, rfl⟩
  cbv
  rw [d1]
  cbv
  rcases hN with hN | hN
  · have d2 : vc .lss N 0 = true := by rw [qc, lss_true]; exact hN
    rw [d2]
    cbv
  · have d2 : vc .lss N 0 = false := by rw [qc, lss_false]; omega
    have d3 : vc .gtr N 131072 = true := by rw [qc, gtr_true]; exact hN
    rw [d2]
    cbv
    rw [d3]
    cbv
theorem unpack_bad (l : List Int) (b : List Int) (cap cap2 M : Nat) (N : Int) (hl : ∀ c ∈ l, isU8 c) (hW : Wt l M) (hN : 0 ≤ N ∧ N ≤ 131072) (hlast : b.getLastD 0 = 0) (hbl : b.length ≤ 2 ^ 48) :
    Con Try.prog 11 [.slice 0 .z 1 l.length cap, .slice 1 .z 1 b.length cap2, .int .i64 N] [.ro .u8 l, .ro .u8 b] (fun v H R => v = .tup [.val (.slice none 0 0), .int .i64 11] ∧ H = [.ro .u8 l, .ro .u8 b] ∧ R = []) := by
  have hsz := size_con l cap M hl (by have := hW.2.1; omega) (.inl ⟨M, hW, rfl⟩)
  have hnew := new_bad b cap2 hlast hbl
  refine con_gen (con_cut 2 (by simp) (con_drop (con_walk hmix fn11 ?_)))
  intro vb vc vw vtoN vofN vaddN vsubN vmaxI vminI vcutN vgd vst vln vrep vsub vonto vsplice vstrEq vbyteV vnotB veqB hw qb qc qw qtoN qofN qaddN qsubN qmaxI qminI qcutN qgd qst qln qrep qsub qonto qsplice qstrEq qbyteV qnotB qeqB
  have hm := hmix; generalize Try.prog = P at *
  have hM1 := hW.pos
  have hn256 := hW.2.1
  obtain ⟨mI, hmI⟩ : ∃ mI : Int, mI = M := ⟨_, rfl⟩
  rw [← hmI] at hsz
  generalize hn : l.length = n at *
  generalize hlb : b.length = lb at *
  have d1 : vc .eql mI 0 = false := by rw [qc, eql_false]; omega
  have d2 : vc .lss N 0 = false := by rw [qc, lss_false]; omega
  have d3 : vc .gtr N 131072 = false := by rw [qc, gtr_false]; omega
  cbv
  refine call_con (ρ := [(0, .z)]) hsz ⟨by rfl, by rfl, by rfl, by cbv; exact ⟨⟨⟨by omega, fun i _ => by rw [Nat.zero_add]⟩⟩, trivial⟩⟩ ?_
  rintro v H R js ⟨rfl, rfl, rfl⟩
  cbv
  rw [d1]
  cbv
  rw [d2]
  cbv
  rw [d3]
  cbv
  refine call_con (ρ := [(1, .z)]) hnew ⟨by rfl, by rfl, by rfl, by cbv; exact ⟨⟨⟨by omega, fun i _ => by rw [Nat.zero_add]⟩⟩, trivial⟩⟩ ?_
  rintro v H R js ⟨rfl, rfl, rfl⟩
  cbv
theorem pack_okP (l b : List Int) (cap cap2 : Nat) (M : Nat) (hl : ∀ c ∈ l, isU8 c) (hb : ∀ c ∈ b, isU8 c) (hW : Wt l M) (hbl : b.length ≤ 131072) :
    Con Try.prog 9 [.slice 0 .z 1 l.length cap, .slice 1 .z 1 b.length cap2] [.ro .u8 l, .ro .u8 b]
      (fun v H R => R = [] ∧ ∃ L c', H = [.ro .u8 l, .ro .u8 b, .buf 5 .u8 L c'] ∧
        ((v = .tup [.val (.slice none 0 0), .int .i64 2] ∧ ¬ AllSy l b b.length) ∨
         (v = .tup [.slice 2 .z 1 L.length c', .int .i64 0] ∧ L = pack (pb l M b b.length ++ [1]) ∧ AllSy l b b.length))) := by
  refine con_pick [0, 1, 8] rfl rfl (Con.mono (pack_ok l b cap cap2 M hl hb hW hbl) ?_)
  rintro v H R ⟨rfl, L, c', rfl, ⟨rfl, h⟩ | ⟨rfl, h1, h2⟩⟩
  · exact ⟨.tup [.val (.slice none 0 0), .int .i64 2], [.ro .u8 l, .ro .u8 b, .buf 5 .u8 L c'], rfl, rfl, ⟨rfl, rfl, rfl, trivial⟩, rfl, L, c', rfl, .inl ⟨rfl, h⟩⟩
  · exact ⟨.tup [.slice 2 .z 1 L.length c', .int .i64 0], [.ro .u8 l, .ro .u8 b, .buf 5 .u8 L c'], rfl, rfl, ⟨rfl, rfl, rfl, trivial⟩, rfl, L, c', rfl, .inr ⟨rfl, h1, h2⟩⟩
theorem unpack_okP (l b : List Int) (cap cap2 : Nat) (M : Nat) (N : Int) (hl : ∀ c ∈ l, isU8 c) (hb : ∀ c ∈ b, isByte c) (hW : Wt l M) (hN : 0 ≤ N ∧ N ≤ 131072) (hbl : b.length ≤ 140737488355328) (hlast : b.getLastD 0 ≠ 0) (p0 : Int)
    (hp0 : p0 = 8 * (b.length - 1) + (len8 (b.getLastD 0) - 1)) (hp1 : 0 ≤ p0 ∧ p0 ≤ 8 * b.length) :
    Con Try.prog 11 [.slice 0 .z 1 l.length cap, .slice 1 .z 1 b.length cap2, .int .i64 N] [.ro .u8 l, .ro .u8 b]
      (fun v H R => R = [] ∧ ∃ L c', H = [.ro .u8 l, .ro .u8 b, .buf 5 .u8 L c'] ∧
        ((v = .tup [.val (.slice none 0 0), .int .i64 11] ∧ pos l M b p0 N.toNat ≠ 0) ∨
         (v = .tup [.slice 2 .z 1 L.length c', .int .i64 0] ∧ L = outs l M b p0 N.toNat ∧ pos l M b p0 N.toNat = 0))) := by
  refine con_pick [0, 1, 10] rfl rfl (Con.mono (unpack_ok l b cap cap2 M N hl hb hW hN hbl hlast p0 hp0 hp1) ?_)
  rintro v H R ⟨rfl, L, c', rfl, ⟨rfl, h⟩ | ⟨rfl, h1, h2⟩⟩
  · exact ⟨.tup [.val (.slice none 0 0), .int .i64 11], [.ro .u8 l, .ro .u8 b, .buf 5 .u8 L c'], rfl, rfl, ⟨rfl, rfl, rfl, trivial⟩, rfl, L, c', rfl, .inl ⟨rfl, h⟩⟩
  · exact ⟨.tup [.slice 2 .z 1 L.length c', .int .i64 0], [.ro .u8 l, .ro .u8 b, .buf 5 .u8 L c'], rfl, rfl, ⟨rfl, rfl, rfl, trivial⟩, rfl, L, c', rfl, .inr ⟨rfl, h1, h2⟩⟩
end Go.Proofs.Ytbipjekiobmpgaa
namespace Go.Proofs.Ytbipjekiobmpgaa
open Go Go.Sx Go.Proofs
/-! balerlaw09.wakes. -/
def tbW : Tab := [(28, fun _ => x28, 71, [2, 3, 4]), (38, fun _ => x38, 51, [2, 3])]
theorem tbW_ok : TabOk Try.prog tbW := ⟨fn28, fn38, trivial⟩
theorem wt_w : Wt [1, 1, 2, 3] 3 := by
  refine ⟨by decide, by decide, by decide, ?_, by decide, by decide, by decide⟩
  intro i hi
  simp only [List.length_cons, List.length_nil] at hi
  rcases (by omega : i = 0 ∨ i = 1 ∨ i = 2 ∨ i = 3) with rfl | rfl | rfl | rfl <;> decide
theorem xA_of {l : List Int} {c : Nat} (h : Sy l c) : xA l c = wx l c := by unfold xA; rw [if_pos h]
theorem nA_of {l : List Int} {M c : Nat} (h : Sy l c) : nA l M c = (M : Int) + 1 - wn l c := by unfold nA; rw [if_pos h]
theorem pb_w : pack (pb [1, 1, 2, 3] 3 [3, 2, 0] 3 ++ [1]) = [104] := by
  have e : pb [1, 1, 2, 3] 3 [3, 2, 0] 3 = (([] ++ bitsN (xA [1, 1, 2, 3] 0) (nA [1, 1, 2, 3] 3 0).toNat) ++ bitsN (xA [1, 1, 2, 3] 2) (nA [1, 1, 2, 3] 3 2).toNat) ++ bitsN (xA [1, 1, 2, 3] 3) (nA [1, 1, 2, 3] 3 3).toNat := rfl
  have s0 : Sy [1, 1, 2, 3] 0 := ⟨by decide, by decide⟩
  have s2 : Sy [1, 1, 2, 3] 2 := ⟨by decide, by decide⟩
  have s3 : Sy [1, 1, 2, 3] 3 := ⟨by decide, by decide⟩
  rw [e, xA_of s0, xA_of s2, xA_of s3, nA_of s0, nA_of s2, nA_of s3]
  decide
theorem all_w : AllSy [1, 1, 2, 3] [3, 2, 0] 3 := by
  intro i hi
  rcases (by omega : i = 0 ∨ i = 1 ∨ i = 2) with rfl | rfl | rfl <;> exact ⟨by decide, by decide⟩
set_option maxRecDepth 100000 in
set_option maxHeartbeats 4000000 in
theorem wakes9_con : Con Try.prog 13 [] [] (fun v H R => v = .bool true ∧ H = [] ∧ R = []) := by
  have hT := tbW_ok
  have hp := fun cap cap2 => pack_okP [1, 1, 2, 3] [3, 2, 0] cap cap2 3 (by intro c hc; simp only [List.mem_cons, List.not_mem_nil, or_false] at hc; unfold isU8; omega) (by intro c hc; simp only [List.mem_cons, List.not_mem_nil, or_false] at hc; unfold isU8; omega) wt_w (by decide)
  have hl4 := len_con 4 (by decide)
  rw [show blen 4 = 3 by decide] at hl4
  have hsz := fun cap => size_con [1, 1, 2, 3] cap 3 (by intro c hc; simp only [List.mem_cons, List.not_mem_nil, or_false] at hc; unfold isU8; omega) (by decide) (.inl ⟨3, wt_w, rfl⟩)
  have hpw := pb_w
  have haw := all_w
  simp only [List.length_cons, List.length_nil] at hp hsz
  generalize pb [1, 1, 2, 3] 3 [3, 2, 0] = PB at *
  generalize AllSy [1, 1, 2, 3] [3, 2, 0] = ALL at *
  generalize pack = PK at *
  have hm := hmix
  refine con_gen (con_cut 0 (by simp) (con_drop (con_run 1000 tbW hmix hT fn13 ?_)))
  generalize Try.prog = P at *
  cbv
  repeat (first | refine And.intro ⟨by decide⟩ ?_ | refine And.intro ⟨Nat.le_refl _⟩ ?_ | ((intro _ _ _; skip); cbv; done) | ((intro _ _ _; skip); cbv) | ((intro _ _; skip); cbv) | (intro _; cbv))
  rename_i cA jA hle
  have hle' : 4 ≤ cA := hle.out
  refine ⟨⟨by omega⟩, ?_⟩
  repeat (first | refine And.intro ⟨by decide⟩ ?_ | refine And.intro ⟨Nat.le_refl _⟩ ?_ | ((intro _ _ _; skip); cbv; done) | ((intro _ _ _; skip); cbv) | ((intro _ _; skip); cbv) | (intro _; cbv))
  refine CallX.mono' (fun _ _ h => h) (call_con (ρ := []) hl4 ⟨by rfl, by rfl, by rfl, by cbv⟩ ?_)
  rintro v H R js ⟨rfl, rfl, rfl⟩
  cbv
  refine ⟨⟨by decide⟩, ?_⟩
  refine CallX.mono' (fun _ _ h => h) (call_con (ρ := []) hl4 ⟨by rfl, by rfl, by rfl, by cbv⟩ ?_)
  rintro v H R js ⟨rfl, rfl, rfl⟩
  cbv
  refine ⟨⟨by decide⟩, ⟨by decide⟩, ⟨by omega⟩, ⟨by decide⟩, ?_⟩
  intro c2 j2 hle2
  cbv
  refine CallX.mono' (fun _ _ h => h) (call_con (ρ := [(2, .z)]) (hsz c2) ⟨by rfl, by rfl, by rfl, by cbv; exact ⟨⟨⟨by decide, fun i _ => by rw [Nat.zero_add]; rfl⟩⟩, trivial⟩⟩ ?_)
  rintro v H R js ⟨rfl, rfl, rfl⟩
  cbv
  intro js1
  cbv
  refine CallX.mono' (fun _ _ h => h) (call_con (ρ := [(2, .z), (5, .z)]) (hp c2 3) ⟨by rfl, by rfl, by rfl, by cbv; exact ⟨⟨⟨by decide, fun i _ => by rw [Nat.zero_add]; rfl⟩⟩, ⟨⟨by decide, fun i _ => by rw [Nat.zero_add]⟩⟩, trivial⟩⟩ ?_)
  rintro v H R js ⟨rfl, L, c', rfl, hor⟩
  rcases hor with ⟨_, hbad⟩ | ⟨rfl, hL, _⟩
  · exact (hbad haw).elim
  obtain rfl : L = [104] := hL.trans hpw
  cbv
  exact ⟨⟨by decide, by decide⟩, ⟨by decide⟩, ⟨by decide⟩, ⟨by decide⟩, trivial⟩
end Go.Proofs.Ytbipjekiobmpgaa
namespace Go.Proofs.Ytbipjekiobmpgaa
open Go Go.Sx Go.Proofs
/-! Plain: what is packed is unpacked as it was, what is unpacked is packed as it was. -/
theorem pb_split (l : List Int) (M : Nat) (b : List Int) {k : Nat} : ∀ {n : Nat}, k ≤ n → ∃ rest, pb l M b n = pb l M b k ++ rest
  | 0, h => by obtain rfl : k = 0 := by omega
               exact ⟨[], by simp⟩
  | n + 1, h => by
    by_cases e : k = n + 1
    · subst e; exact ⟨[], by simp⟩
    · obtain ⟨r, hr⟩ := pb_split l M b (k := k) (n := n) (by omega)
      exact ⟨r ++ bitsN (xA l (b.getD (b.length - 1 - n) 0).toNat) (nA l M (b.getD (b.length - 1 - n) 0).toNat).toNat, by simp only [pb]; rw [hr, List.append_assoc]⟩
theorem sym_at {l : List Int} {M : Nat} (hl : ∀ c ∈ l, isU8 c) (hW : Wt l M) {c : Nat} (hc : Sy l c) (pre rest : List Int) (h : ∀ b ∈ pre ++ bitsN (xA l c) (nA l M c).toNat ++ rest, isBit b) :
    dc l (rd (pack (pre ++ bitsN (xA l c) (nA l M c).toNat ++ rest)) ((pre ++ bitsN (xA l c) (nA l M c).toNat).length : Nat) M) = c := by
  have hwn := wn_le hW hc.1
  have hx := wx_range hW hc
  have h1 := hc.2
  have e : ((M : Int) + 1 - wn l c).toNat = M + 1 - wn l c := by omega
  have e' := e
  rw [xA_of hc, nA_of hc] at *
  rw [e]
  apply dc_of hl
  rw [Dc_iff hW hc.1 hc.2]
  have := rd_div (pack (pre ++ bitsN (wx l c) (M + 1 - wn l c) ++ rest)) ((pre ++ bitsN (wx l c) (M + 1 - wn l c)).length : Nat) (M + 1 - wn l c) (wn l c - 1)
  rw [show (M + 1 - wn l c) + (wn l c - 1) = M by omega] at this
  rw [this]
  rw [e'] at h
  rw [rd_put _ _ _ _ hx.1 h, Int.emod_eq_of_lt hx.1 hx.2]
theorem pos_back {l : List Int} {M : Nat} (hl : ∀ c ∈ l, isU8 c) (hW : Wt l M) (b : List Int) (hall : AllSy l b b.length) : ∀ j, j ≤ b.length →
    pos l M (pack (pb l M b b.length ++ [1])) (pb l M b b.length).length j = (pb l M b (b.length - j)).length ∧ ∀ i, i < j → sym l M (pack (pb l M b b.length ++ [1])) (pb l M b b.length).length i = (b.getD i 0).toNat
  | 0, _ => ⟨rfl, fun i hi => by omega⟩
  | j + 1, hj => by
    obtain ⟨h1, h2⟩ := pos_back hl hW b hall j (by omega)
    have hc := hall (b.length - 1 - j) (by omega)
    rw [show b.length - 1 - (b.length - 1 - j) = j by omega] at hc
    obtain ⟨rest, hr⟩ := pb_split l M b (k := b.length - 1 - j + 1) (n := b.length) (by omega)
    have hs : pb l M b (b.length - 1 - j + 1) = pb l M b (b.length - 1 - j) ++ bitsN (xA l (b.getD j 0).toNat) (nA l M (b.getD j 0).toNat).toNat := by
      simp only [pb]; rw [show b.length - 1 - (b.length - 1 - j) = j by omega]
    have hbits : ∀ x ∈ pb l M b b.length ++ [1], isBit x := fun x hx => (List.mem_append.1 hx).elim (pb_bit l M b _ x) (fun e => .inr (by simpa using e))
    have e : pb l M b b.length ++ [1] = pb l M b (b.length - 1 - j) ++ bitsN (xA l (b.getD j 0).toNat) (nA l M (b.getD j 0).toNat).toNat ++ (rest ++ [1]) := by
      rw [hr, hs]; simp only [List.append_assoc]
    have hsym : sym l M (pack (pb l M b b.length ++ [1])) (pb l M b b.length).length j = (b.getD j 0).toNat := by
      have := sym_at hl hW hc (pb l M b (b.length - 1 - j)) (rest ++ [1]) (by rw [← e]; exact hbits)
      rw [← e, ← hs, show b.length - 1 - j + 1 = b.length - j by omega, ← h1] at this
      exact this
    have hst := (pos_step hl hW (pack (pb l M b b.length ++ [1])) (pb l M b b.length).length j).1
    rw [hsym, h1] at hst
    have hlen : (pb l M b (b.length - j)).length = (pb l M b (b.length - (j + 1))).length + (nA l M (b.getD j 0).toNat).toNat := by
      rw [show b.length - j = b.length - 1 - j + 1 by omega, hs, List.length_append, bitsN_length]; congr 3; omega
    have hnn := (nA_range hW (b.getD j 0).toNat).1
    refine ⟨by rw [hst, hlen]; push_cast; omega, fun i hi => ?_⟩
    by_cases e : i = j
    · subst e; exact hsym
    · exact h2 i (by omega)
theorem there1 {l : List Int} {M : Nat} (hl : ∀ c ∈ l, isU8 c) (hW : Wt l M) {b : List Int} (hb : ∀ c ∈ b, isU8 c) (hall : AllSy l b b.length) :
    pos l M (pack (pb l M b b.length ++ [1])) (pb l M b b.length).length b.length = 0 ∧ outs l M (pack (pb l M b b.length ++ [1])) (pb l M b b.length).length b.length = b := by
  obtain ⟨h1, h2⟩ := pos_back hl hW b hall b.length (Nat.le_refl _)
  refine ⟨by rw [h1, Nat.sub_self]; rfl, ?_⟩
  apply List.ext_getElem
  · rw [outs_len]
  · intro i h3 h4
    simp only [outs, List.getElem_map, List.getElem_range]
    rw [h2 i h4, List.getD_eq_getElem?_getD, List.getElem?_eq_getElem h4]
    have := (hb b[i] (List.getElem_mem h4)).1
    simp only [Option.getD_some]
    omega
theorem bitsOf_add (b : List Int) (q n : Nat) : bitsOf b (q + n) = bitsOf b q ++ (List.range n).map fun i => bitAt b ((q + i : Nat) : Int) := by
  induction n with
  | zero => simp
  | succ n ih => rw [← Nat.add_assoc, bitsOf_succ, ih, List.range_succ, List.map_append, List.append_assoc]; rfl
theorem rd_bit (b : List Int) (p : Int) (n k : Nat) (hk : k < n) : rd b p n / 2 ^ k % 2 = bitAt b (p - n + k) := by
  have h := rd_div b p (n - k) k
  rw [show n - k + k = n by omega] at h
  rw [h, show n - k = n - k - 1 + 1 by omega, rd]
  have hb := bitAt_bit b (p - 1 - ((n - k - 1 : Nat) : Int))
  rw [Int.add_comm, Int.add_mul_emod_self_right, Int.emod_eq_of_lt hb.1 hb.2]
  congr 1
  omega
theorem bitsN_rd (b : List Int) (q n : Nat) : bitsOf b q ++ bitsN (rd b ((q + n : Nat) : Int) n) n = bitsOf b (q + n) := by
  rw [bitsOf_add]
  congr 1
  unfold bitsN
  apply List.map_congr_left
  intro k hk
  rw [rd_bit b _ n k (List.mem_range.1 hk)]
  congr 1
  push_cast
  omega
theorem bval_of (l : List Int) (i : Nat) (x : Int) : ∀ n, (∀ j, j < n → l.getD (i + j) 0 = x / 2 ^ j % 2) → bval l i n = x % 2 ^ n
  | 0, _ => by simp [bval, Int.emod_one]
  | n + 1, h => by
    simp only [bval]
    rw [bval_of l i x n (fun j hj => h j (by omega)), h n (by omega), p2s]
    have hp := p2 n
    rw [Int.emod_def x (2 ^ n * 2), ← Int.ediv_ediv_of_nonneg (by omega), Int.emod_def x (2 ^ n)]
    generalize x / 2 ^ n = q
    rw [Int.emod_def q 2, Int.sub_mul]
    have e1 : 2 * (q / 2) * 2 ^ n = 2 ^ n * 2 * (q / 2) := by rw [Int.mul_comm 2 (q / 2), Int.mul_comm (q / 2 * 2), Int.mul_assoc, Int.mul_comm (q / 2) 2]
    rw [e1, Int.mul_comm q]
    omega
theorem pack_mark (b : List Int) (hlast : b.getLastD 0 ≠ 0) (hb : ∀ x ∈ b, isByte x) {P : Nat} (hP : markAt b = P) : pack (bitsOf b P ++ [1]) = b := by
  obtain ⟨P', hP', hPl, hP1, hP0⟩ := markAt_spec b hlast hb
  obtain rfl : P = P' := by omega
  have hbyte : isByte (b.getLastD 0) := by
    rw [getLastD_eq]; exact byte_bit hb _
  have h0 : 1 ≤ b.length := by
    rcases b with _ | ⟨x, b⟩
    · exact absurd rfl hlast
    · simp
  obtain ⟨h1, h2, _, _⟩ := mark_byte (x := b.getLastD 0) (by have := hbyte.1; omega) hbyte.2
  have e : bitsOf b P ++ [1] = bitsOf b (P + 1) := by rw [bitsOf_succ, hP1]
  rw [e]
  have hlen : (pack (bitsOf b (P + 1))).length = b.length := by
    rw [pack_length, bitsOf_length]; unfold markAt at hP; omega
  apply List.ext_getElem hlen
  intro i hi hi2
  have e1 : (pack (bitsOf b (P + 1)))[i] = (pack (bitsOf b (P + 1))).getD i 0 := by rw [List.getD_eq_getElem?_getD, List.getElem?_eq_getElem hi]; rfl
  have e2 : b[i] = b.getD i 0 := by rw [List.getD_eq_getElem?_getD, List.getElem?_eq_getElem hi2]; rfl
  have hby := byte_bit hb i
  rw [e1, e2, pack_getD, bval_of _ _ (b.getD i 0) 8 ?_]
  · exact Int.emod_eq_of_lt hby.1 hby.2
  intro j hj
  have hba : bitAt b ((8 * i + j : Nat) : Int) = b.getD i 0 / 2 ^ j % 2 := by
    unfold bitAt
    rw [if_pos (by omega), show (((8 * i + j : Nat) : Int) / 8).toNat = i by omega, show (((8 * i + j : Nat) : Int) % 8).toNat = j by omega]
  rw [← hba]
  by_cases hlt : 8 * i + j < P + 1
  · exact bitsOf_get b _ _ hlt
  · rw [hP0 _ (by omega) (by omega), List.getD_eq_getElem?_getD, List.getElem?_eq_none (by rw [bitsOf_length]; omega)]
    rfl
theorem outs_get (l : List Int) (M : Nat) (b : List Int) (p : Int) {N i : Nat} (hi : i < N) : ((outs l M b p N).getD i 0).toNat = sym l M b p i := by
  rw [List.getD_eq_getElem?_getD]; simp [outs, hi]
theorem outs_sy {l : List Int} {M : Nat} (hl : ∀ c ∈ l, isU8 c) (hW : Wt l M) (b : List Int) (p : Int) (N : Nat) : AllSy l (outs l M b p N) (outs l M b p N).length := by
  intro i hi
  rw [outs_len] at *
  rw [outs_get _ _ _ _ (by omega)]
  exact (pos_step hl hW b p _).2.2.2.2
theorem pb_back {l : List Int} {M : Nat} (hl : ∀ c ∈ l, isU8 c) (hW : Wt l M) (b : List Int) (p : Int) (N : Nat) (h0 : pos l M b p N = 0) : ∀ j, j ≤ N → pb l M (outs l M b p N) j = bitsOf b (pos l M b p (N - j)).toNat
  | 0, _ => by rw [Nat.sub_zero, h0]; rfl
  | j + 1, hj => by
    have hd := pos_down hl hW b p (i := N - 1 - j + 1) (j := N) (by omega)
    obtain ⟨h1, h2, h3, h4, h5⟩ := pos_step hl hW b p (N - 1 - j)
    simp only [pb]
    rw [outs_len, outs_get _ _ _ _ (by omega), pb_back hl hW b p N h0 j (by omega), show N - j = N - 1 - j + 1 by omega, show N - (j + 1) = N - 1 - j by omega]
    generalize sym l M b p (N - 1 - j) = c at *
    have hwn := wn_le hW h5.1
    have hc := h5.2
    rw [nA_of h5] at *
    rw [xA_of h5]
    rw [Dc_iff hW h5.1 h5.2] at h4
    have h6 := rd_div b (pos l M b p (N - 1 - j)) (M + 1 - wn l c) (wn l c - 1)
    rw [show (M + 1 - wn l c) + (wn l c - 1) = M by omega] at h6
    rw [h6] at h4
    rw [← h4, show ((M : Int) + 1 - wn l c).toNat = M + 1 - wn l c by omega]
    have hq := bitsN_rd b (pos l M b p (N - 1 - j + 1)).toNat (M + 1 - wn l c)
    rw [show (((pos l M b p (N - 1 - j + 1)).toNat + (M + 1 - wn l c) : Nat) : Int) = pos l M b p (N - 1 - j) by omega, show (pos l M b p (N - 1 - j + 1)).toNat + (M + 1 - wn l c) = (pos l M b p (N - 1 - j)).toNat by omega] at hq
    exact hq
theorem there2 {l : List Int} {M : Nat} (hl : ∀ c ∈ l, isU8 c) (hW : Wt l M) {b : List Int} (hb : ∀ x ∈ b, isByte x) (hlast : b.getLastD 0 ≠ 0) (N : Nat) (h0 : pos l M b (markAt b) N = 0) :
    pack (pb l M (outs l M b (markAt b) N) (outs l M b (markAt b) N).length ++ [1]) = b := by
  obtain ⟨P, hP, _⟩ := markAt_spec b hlast hb
  rw [outs_len, pb_back hl hW b _ N h0 N (Nat.le_refl _), Nat.sub_self]
  show pack (bitsOf b (markAt b).toNat ++ [1]) = b
  rw [hP, Int.toNat_natCast]
  exact pack_mark b hlast hb hP
end Go.Proofs.Ytbipjekiobmpgaa
namespace Go.Proofs.Ytbipjekiobmpgaa
open Go Go.Sx Go.Proofs
/-! weights.Pack and weights.Unpack, all ways. -/
theorem isU8_byte {l : List Int} (h : ∀ c ∈ l, isU8 c) : ∀ c ∈ l, isByte c := fun c hc => by have := h c hc; unfold isU8 at this; exact ⟨this.1, by omega⟩
theorem isByte_U8 {l : List Int} (h : ∀ c ∈ l, isByte c) : ∀ c ∈ l, isU8 c := fun c hc => by have := h c hc; unfold isByte at this; exact ⟨this.1, by omega⟩
theorem outs_u8 {l : List Int} {M : Nat} (hl : ∀ c ∈ l, isU8 c) (hW : Wt l M) (b : List Int) (p : Int) (N : Nat) : ∀ c ∈ outs l M b p N, isU8 c := by
  intro c hc
  simp only [outs, List.mem_map, List.mem_range] at hc
  obtain ⟨i, hi, rfl⟩ := hc
  have h1 := (pos_step hl hW b p i).2.2.2.2.1
  have h2 := hW.2.1
  unfold isU8
  omega
/-- What Unpack does with weights that make a code. -/
theorem unpackA (l b : List Int) (cap cap2 M : Nat) (N : Int) (hl : ∀ c ∈ l, isU8 c) (hb : ∀ c ∈ b, isByte c) (hW : Wt l M) (hN : N ≤ 131072) (hbl : b.length ≤ 140737488355328) :
    Con Try.prog 11 [.slice 0 .z 1 l.length cap, .slice 1 .z 1 b.length cap2, .int .i64 N] [.ro .u8 l, .ro .u8 b]
      (fun v H R => R = [] ∧ ((H = [.ro .u8 l, .ro .u8 b] ∧ (v = .tup [.val (.slice none 0 0), .int .i64 2] ∧ N < 0 ∨ v = .tup [.val (.slice none 0 0), .int .i64 11] ∧ 0 ≤ N ∧ b.getLastD 0 = 0)) ∨ ∃ L c', H = [.ro .u8 l, .ro .u8 b, .buf 5 .u8 L c'] ∧
        ((v = .tup [.val (.slice none 0 0), .int .i64 11] ∧ 0 ≤ N ∧ b.getLastD 0 ≠ 0 ∧ pos l M b (markAt b) N.toNat ≠ 0) ∨
         (v = .tup [.slice 2 .z 1 L.length c', .int .i64 0] ∧ L = outs l M b (markAt b) N.toNat ∧ 0 ≤ N ∧ b.getLastD 0 ≠ 0 ∧ pos l M b (markAt b) N.toNat = 0)))) := by
  by_cases h1 : N < 0
  · exact (unpack_arg l b cap cap2 M N hl hW (.inl h1)).mono fun v H R ⟨e1, e2, e3⟩ => ⟨e3, .inl ⟨e2, .inl ⟨e1, h1⟩⟩⟩
  by_cases h2 : b.getLastD 0 = 0
  · exact (unpack_bad l b cap cap2 M N hl hW ⟨by omega, hN⟩ h2 (by omega)).mono fun v H R ⟨e1, e2, e3⟩ => ⟨e3, .inl ⟨e2, .inr ⟨e1, by omega, h2⟩⟩⟩
  obtain ⟨P, hP, hPl, _⟩ := markAt_spec b h2 hb
  refine (unpack_okP l b cap cap2 M N hl hb hW ⟨by omega, hN⟩ hbl h2 (markAt b) rfl (by omega)).mono ?_
  rintro v H R ⟨e1, L, c', e2, h | h⟩
  · exact ⟨e1, .inr ⟨L, c', e2, .inl ⟨h.1, by omega, h2, h.2⟩⟩⟩
  · exact ⟨e1, .inr ⟨L, c', e2, .inr ⟨h.1, h.2.1, by omega, h2, h.2.2⟩⟩⟩
/-- What is packed, unpacked. -/
theorem unpackB (l b : List Int) (cap cap2 M : Nat) (hl : ∀ c ∈ l, isU8 c) (hb : ∀ c ∈ b, isU8 c) (hW : Wt l M) (hbl : b.length ≤ 131072) (hall : AllSy l b b.length) :
    Con Try.prog 11 [.slice 0 .z 1 l.length cap, .slice 1 .z 1 (pack (pb l M b b.length ++ [1])).length cap2, .int .i64 b.length] [.ro .u8 l, .ro .u8 (pack (pb l M b b.length ++ [1]))]
      (fun v H R => R = [] ∧ ∃ c', H = [.ro .u8 l, .ro .u8 (pack (pb l M b b.length ++ [1])), .buf 5 .u8 b c'] ∧ v = .tup [.slice 2 .z 1 b.length c', .int .i64 0]) := by
  have hbit := pb_bit l M b b.length
  have hlen := pb_len hW b b.length
  have hbits : ∀ x ∈ pb l M b b.length ++ [1], isBit x := fun x hx => (List.mem_append.1 hx).elim (hbit x) (fun e => .inr (by simpa using e))
  obtain ⟨h1, h2⟩ := mark_at _ hbit
  obtain ⟨h3, h4⟩ := there1 hl hW hb hall
  have hml : markAt (pack (pb l M b b.length ++ [1])) = (pb l M b b.length).length := h2
  have hpl : (pack (pb l M b b.length ++ [1])).length = (pb l M b b.length).length / 8 + 1 := by rw [pack_length, List.length_append]; simp; omega
  refine (unpackA l _ cap cap2 M b.length hl (pack_byte _ hbits) hW (by omega) (by omega)).mono ?_
  rw [hml, Int.toNat_natCast, h3, h4]
  rintro v H R ⟨e1, ⟨_, h | h⟩ | ⟨L, c', e2, h | h⟩⟩
  · exact absurd h.2 (by omega)
  · exact absurd h.2.2 h1
  · exact absurd rfl h.2.2.2
  · obtain ⟨rfl, rfl, _⟩ := h
    exact ⟨e1, c', e2, rfl⟩
theorem packA (l b : List Int) (cap cap2 M : Nat) (hl : ∀ c ∈ l, isU8 c) (hb : ∀ c ∈ b, isByte c) (hW : Wt l M) (hlast : b.getLastD 0 ≠ 0) (N : Nat) (hN : N ≤ 131072) (h0 : pos l M b (markAt b) N = 0) :
    Con Try.prog 9 [.slice 0 .z 1 l.length cap, .slice 1 .z 1 (outs l M b (markAt b) N).length cap2] [.ro .u8 l, .ro .u8 (outs l M b (markAt b) N)]
      (fun v H R => R = [] ∧ ∃ c', H = [.ro .u8 l, .ro .u8 (outs l M b (markAt b) N), .buf 5 .u8 b c'] ∧ v = .tup [.slice 2 .z 1 b.length c', .int .i64 0]) := by
  refine (pack_okP l _ cap cap2 M hl (outs_u8 hl hW b _ N) hW (by rw [outs_len]; omega)).mono ?_
  rintro v H R ⟨e1, L, c', e2, h | h⟩
  · exact (h.2 (outs_sy hl hW b _ N)).elim
  · obtain ⟨rfl, h5, _⟩ := h
    rw [there2 hl hW hb hlast N h0] at h5
    subst h5
    exact ⟨e1, c', e2, rfl⟩
end Go.Proofs.Ytbipjekiobmpgaa
