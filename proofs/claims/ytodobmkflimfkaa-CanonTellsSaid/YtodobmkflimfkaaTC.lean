import Derived.Test.YtodobmkflimfkaaEB
import Derived.Test.YtodobmkflimfkaaRows
import Derived.Test.YtodobmkflimfkaaTB
/-
  The compact codes of this seat's functions (printed by wip/dev/Pr.lean.tpl), checked.
-/
namespace Go.Proofs.Ytodobmkflimfkaa
open Go Go.Sx Go.Proofs
/-- (*baler/balerref01.R).Left -/
def x49 : XC :=
  .seq (.ops [⟨(some 2), .mv (.k (.lit .i64 0)), none, []⟩])
    (.seq (.ops [⟨(some 3), .mv (.t 0), none, []⟩,
      ⟨(some 4), .nilchk (.t 3), none, []⟩,
      ⟨(some 5), .fadr 0 (.t 4), none, []⟩,
      ⟨(some 6), .load1 (.t 5), none, []⟩,
      ⟨(some 7), .len (.t 6), none, []⟩,
      ⟨(some 8), .bin .mul .i64 (.k (.lit .i64 8)) (.t 7), none, []⟩,
      ⟨(some 9), .mv (.t 0), none, []⟩,
      ⟨(some 10), .nilchk (.t 9), none, []⟩,
      ⟨(some 11), .fadr 1 (.t 10), none, []⟩,
      ⟨(some 12), .load1 (.t 11), none, []⟩,
      ⟨(some 13), .bin .sub .i64 (.t 8) (.t 12), none, []⟩,
      ⟨(some 2), .mv (.t 13), none, []⟩])
    (.ret))
theorem fn49 : FnOk Try.prog 49 x49 14 [2] := FnOk.of Try.call49 Try.func49 (by kernel_rfl) Try.ntmps49 (by kernel_rfl)
/-- (*baler/balerref01.R).Bits -/
def x92 : XC :=
  .seq (.ops [⟨(some 4), .mv (.k (.lit .u64 0)), none, []⟩,
      ⟨(some 5), .mv (.k (.lit .i64 0)), none, []⟩])
    (.seq (.seq (.ops [⟨(some 8), .mv (.t 1), none, []⟩,
      ⟨(some 9), .cmp .lss (.t 8) (.k (.lit .i64 0)), none, []⟩,
      ⟨(some 10), .mv (.t 9), none, []⟩,
      ⟨(some 11), .mv (.t 1), some (10, false), []⟩,
      ⟨(some 12), .cmp .gtr (.t 11) (.k (.lit .i64 56)), some (10, false), []⟩,
      ⟨(some 13), .pick (.t 10) (.k (.bool true)) (.t 12), none, []⟩])
    (.cond (.t 13) (.seq (.ops [⟨(some 4), .mv (.k (.lit .u64 0)), none, []⟩,
      ⟨(some 5), .mv (.k (.lit .i64 2)), none, []⟩])
    (.ret)) (.skip)))
    (.seq (.seq (.ops [⟨(some 14), .mv (.t 0), none, []⟩,
      ⟨(some 15), .call (.k (.fn 49 [])) [(.t 14)], none, []⟩,
      ⟨(some 16), .mv (.t 1), none, []⟩,
      ⟨(some 17), .cmp .lss (.t 15) (.t 16), none, []⟩])
    (.cond (.t 17) (.seq (.ops [⟨(some 4), .mv (.k (.lit .u64 0)), none, []⟩,
      ⟨(some 5), .mv (.k (.lit .i64 10)), none, []⟩])
    (.ret)) (.skip)))
    (.seq (.ops [⟨(some 6), .mv (.k (.lit .u64 0)), none, []⟩])
    (.seq (.seq (.ops [⟨(some 7), .mv (.k (.lit .i64 0)), none, []⟩])
    (.block 0 (.loop (.seq (.seq (.ops [⟨(some 18), .mv (.t 7), none, []⟩,
      ⟨(some 19), .mv (.t 1), none, []⟩,
      ⟨(some 20), .cmp .lss (.t 18) (.t 19), none, []⟩])
    (.cond (.t 20) (.skip) (.exit 0)))
    (.seq (.block 1 (.ops [⟨(some 23), .mv (.t 6), none, []⟩,
      ⟨(some 24), .mv (.t 0), none, []⟩,
      ⟨(some 25), .mv (.t 0), none, []⟩,
      ⟨(some 26), .nilchk (.t 25), none, []⟩,
      ⟨(some 27), .fadr 1 (.t 26), none, []⟩,
      ⟨(some 28), .load1 (.t 27), none, []⟩,
      ⟨(some 29), .mv (.t 7), none, []⟩,
      ⟨(some 30), .bin .add .i64 (.t 28) (.t 29), none, []⟩,
      ⟨(some 31), .call (.k (.fn 125 [])) [(.t 24), (.t 30)], none, []⟩,
      ⟨(some 32), .mv (.t 7), none, []⟩,
      ⟨(some 33), .conv .u64 (.t 32), none, []⟩,
      ⟨(some 34), .bin .shl .u64 (.t 31) (.t 33), none, []⟩,
      ⟨(some 35), .bin .or .u64 (.t 23) (.t 34), none, []⟩,
      ⟨(some 6), .mv (.t 35), none, []⟩]))
    (.ops [⟨(some 21), .mv (.t 7), none, []⟩,
      ⟨(some 22), .bin .add .i64 (.t 21) (.k (.lit .i64 1)), none, []⟩,
      ⟨(some 7), .mv (.t 22), none, []⟩]))))))
    (.seq (.ops [⟨(some 36), .mv (.t 0), none, []⟩,
      ⟨(some 37), .nilchk (.t 36), none, []⟩,
      ⟨(some 38), .fadr 1 (.t 37), none, []⟩,
      ⟨(some 39), .load1 (.t 38), none, []⟩,
      ⟨(some 40), .mv (.t 1), none, []⟩,
      ⟨(some 41), .bin .add .i64 (.t 39) (.t 40), none, []⟩,
      ⟨(some 42), .nilchk (.t 36), none, []⟩,
      ⟨(some 43), .fadr 1 (.t 42), none, []⟩,
      ⟨none, .store1 (.t 43) (.t 41), none, []⟩])
    (.seq (.ops [⟨(some 44), .mv (.t 6), none, []⟩,
      ⟨(some 4), .mv (.t 44), none, []⟩,
      ⟨(some 5), .mv (.k (.lit .i64 0)), none, []⟩])
    (.ret)))))))
theorem fn92 : FnOk Try.prog 92 x92 45 [4, 5] := FnOk.of Try.call92 Try.func92 (by kernel_rfl) Try.ntmps92 (by kernel_rfl)
/-- (*baler/balerref01.R).bit -/
def x125 : XC :=
  .seq (.ops [⟨(some 4), .mv (.k (.lit .u64 0)), none, []⟩])
    (.seq (.ops [⟨(some 5), .mv (.t 0), none, []⟩,
      ⟨(some 6), .nilchk (.t 5), none, []⟩,
      ⟨(some 7), .fadr 0 (.t 6), none, []⟩,
      ⟨(some 8), .load1 (.t 7), none, []⟩,
      ⟨(some 9), .mv (.t 1), none, []⟩,
      ⟨(some 10), .bin .quo .i64 (.t 9) (.k (.lit .i64 8)), none, []⟩,
      ⟨(some 11), .iadr 1 (.t 8) (.t 10), none, []⟩,
      ⟨(some 12), .load1 (.t 11), none, []⟩,
      ⟨(some 13), .mv (.t 1), none, []⟩,
      ⟨(some 14), .bin .rem .i64 (.t 13) (.k (.lit .i64 8)), none, []⟩,
      ⟨(some 15), .conv .u64 (.t 14), none, []⟩,
      ⟨(some 16), .bin .shr .u8 (.t 12) (.t 15), none, []⟩,
      ⟨(some 17), .conv .u64 (.t 16), none, []⟩,
      ⟨(some 18), .bin .and .u64 (.t 17) (.k (.lit .u64 1)), none, []⟩,
      ⟨(some 4), .mv (.t 18), none, []⟩])
    (.ret))
theorem fn125 : FnOk Try.prog 125 x125 19 [4] := FnOk.of Try.call125 Try.func125 (by kernel_rfl) Try.ntmps125 (by kernel_rfl)
end Go.Proofs.Ytodobmkflimfkaa
namespace Go.Proofs.Ytodobmkflimfkaa
open Go Go.Sx Go.Proofs
/-! canon.Write. -/
/-- A writer's state: the bits that were put, its bytes, how many bits. -/
def Wr (bs l : List Int) (n : Nat) (m : Int) : Prop := (∀ b ∈ bs, isBit b) ∧ l = pack bs ∧ n = l.length ∧ m = bs.length
theorem Wr.nil : Wr [] [] 0 0 := ⟨by simp, (show pack [] = [] by decide).symm, rfl, rfl⟩
theorem bitsN_one (x : Int) : bitsN x 1 = [x % 2] := by simp [bitsN]
theorem bput1 (bs l : List Int) (c n : Nat) (x m : Int) (hx : 0 ≤ x ∧ x < 2 ^ 64) (h : Wr bs l n m) (hl : bs.length ≤ 2 ^ 40) :
    Con Try.prog 68 [.ptr 0 .z 2 0, .int .u64 x, .int .i64 1] [.one 92 [.slice 1 .z 1 n c, .int .i64 m], .buf 5 .u8 l c]
      (fun v H R => R = [1] ∧ ∃ l' n' m' c', Wr (bs ++ [x % 2]) l' n' m' ∧ v = .int .i64 0 ∧ H = [.one 92 [.slice 1 .z 1 n' c', .int .i64 m'], .buf 5 .u8 l' c']) := by
  obtain ⟨h1, rfl, rfl, rfl⟩ := h
  refine (bputA_con bs c x 1 hx h1 hl).mono ?_
  rintro v H R ⟨rfl, rfl, c', rfl⟩
  have e : putBits bs x 1 = bs ++ [x % 2] := by unfold putBits; rw [if_pos (by omega)]; show bs ++ bitsN x 1 = _; rw [bitsN_one]
  have e2 : putErr 1 = 0 := by unfold putErr; rw [if_pos (by omega)]
  have h2 := putBits_bit (x := x) (n := 1) h1
  rw [e] at h2
  rw [e, e2]
  exact ⟨rfl, _, _, _, c', ⟨h2, rfl, rfl, rfl⟩, rfl, rfl⟩
/-- The first k of the L bits of x, the highest first. -/
def mb (x : Int) (L k : Nat) : List Int := (List.range k).map fun j => x / 2 ^ (L - 1 - j) % 2
theorem mb_succ (x : Int) (L k : Nat) : mb x L (k + 1) = mb x L k ++ [x / 2 ^ (L - 1 - k) % 2] := by simp [mb, List.range_succ]
theorem mb_length (x : Int) (L k : Nat) : (mb x L k).length = k := by simp [mb]
theorem mb_zero (x : Int) (L : Nat) : mb x L 0 = [] := rfl
set_option maxRecDepth 10000
set_option maxHeartbeats 40000000
theorem write5_ok (l bs bl : List Int) (bn c cap s : Nat) (bm : Int) (hl : ∀ c ∈ l, isU8 c) (h5 : Right5 l) (hs : s < l.length) (hs0 : l.getD s 0 ≠ 0) (hws : Wr bs bl bn bm) (hbl : bs.length ≤ 2 ^ 30) :
    Con Try.prog 42 [.ptr 0 .z 2 0, .slice 2 .z 1 l.length cap, .int .i64 s] [.one 92 [.slice 1 .z 1 bn c, .int .i64 bm], .buf 5 .u8 bl c, .ro .u8 l]
      (fun v H R => R = [1] ∧ ∃ l' n' m' c', Wr (bs ++ mb (wd l s) (l.getD s 0).toNat (l.getD s 0).toNat) l' n' m' ∧ v = .int .i64 0 ∧ H = [.one 92 [.slice 1 .z 1 n' c', .int .i64 m'], .buf 5 .u8 l' c', .ro .u8 l]) := by
  have hR := h5.rt hl
  have hrt := right5_con l cap hl (by have := hR.n1; omega) true (by simp [h5])
  have hput := @bput1
  refine con_gen (con_cut 3 (by simp) (con_red [1] (con_walk hmix fn42 ?_)))
  intro vb vc vw vtoN vofN vaddN vsubN vmaxI vminI vcutN vgd vst vln vrep vsub vonto vsplice vstrEq vbyteV vnotB veqB hw qb qc qw qtoN qofN qaddN qsubN qmaxI qminI qcutN qgd qst qln qrep qsub qonto qsplice qstrEq qbyteV qnotB qeqB
  have f79 := fn79
  have f118 := fn118
  have hm := hmix; generalize Try.prog = P at *
  have hn1 := hR.n1
  have hu8 := hR.u8
  have hl15 := hR.l15
  have hn0 := nx_zero l
  have hns := nx_step l
  have hnf := nx_full l
  have hnr := fun L i => nx_range hR L i
  have hwd := fun L i => @nx_wd l L i
  have hk0 : kp l l.length 0 = 0 := rfl
  have hms := mb_succ (wd l s)
  have hmz := mb_zero (wd l s)
  have hml := mb_length (wd l s)
  generalize mb (wd l s) = MB at *
  generalize wd l = WD at *
  generalize nx l = NX at *
  generalize kp l l.length = KP at *
  generalize @Wr = WR at *
  generalize hn : l.length = n at *
  have hto : ∀ i : Nat, vtoN (i : Int) = i := fun i => by simp only [qtoN, Int.toNat_natCast]
  have hadd0 : ∀ i, vaddN 0 i = i := fun i => by simp only [qaddN, Nat.zero_add]
  have hvl : vln l = n := by simp only [qln]; exact hn
  have hvgd : ∀ l i, vgd l i = l.getD i 0 := fun l i => by simp only [qgd]
  have hnf1 : vnotB true = false := by simp only [qnotB]; rfl
  have hnf2 : vnotB false = true := by simp only [qnotB]; rfl
  obtain ⟨sI, hsI⟩ : ∃ sI : Int, sI = s := ⟨_, rfl⟩
  rw [← hsI]
  obtain ⟨Ls, hLs⟩ : ∃ Ls : Nat, l.getD s 0 = Ls := ⟨(l.getD s 0).toNat, by have := hu8 s; omega⟩
  rw [hLs] at hs0
  have hLs1 : 1 ≤ Ls := by omega
  have hLs2 : Ls ≤ 15 := by have := hl15 s; omega
  have hts : vtoN sI = s := by rw [hsI]; exact hto s
  have g1 : vc .lss sI 0 = false := by rw [qc, lss_false]; omega
  have g2 : vc .geq sI (vofN n) = false := by rw [qc, geq_eq]; simp only [qofN, decide_eq_false_iff_not]; omega
  have hinS : 0 ≤ sI ∧ sI < (n : Int) := by omega
  obtain ⟨y, hy⟩ : ∃ y : Int, l.getD s 0 = y := ⟨_, rfl⟩
  have g3 : vc .eql y 0 = false := by rw [qc, eql_false]; omega
  have ewy : vw .i64 y = y := by rw [qw]; exact wrap_i64 (by omega) (by omega)
  have hyL : y = Ls := by omega
  have htL : (l.getD s 0).toNat = Ls := by omega
  rw [htL]
  cbv
  refine call_con (ρ := [(2, .z)]) hrt ⟨by rfl, by rfl, by rfl, by cbv; exact ⟨view_refl _, trivial⟩⟩ ?_
  rintro v H R js ⟨rfl, rfl, rfl⟩
  cbv
  rw [hnf1]
  cbv
  rw [g1]
  cbv
  rw [g2]
  cbv
  rw [hts, hadd0, hvgd, hy, g3]
  refine ⟨⟨hinS⟩, ⟨by omega⟩, ⟨by omega⟩, ?_⟩
  cbv
  refine inl_walkD hw hm f79 (by rfl) ?_
  cbv
  intro js
  refine range_rule (by rfl) (by rfl) (by cbv) (by cbv) (by rfl) ?_
  refine inl_walkD hw hm f118 (by rfl) ?_
  cbv
  refine loop_fam (α := Int × Int) [5, 6, 7, 8, 9, 10, 11, 12, 13, 14, 15, 16, 17, 18, 19, 20, 21, 22, 23, 24, 25, 26, 27, 28, 29, 30, 31, 32] [] (fun (k, m) => [(4, .int .i64 k), (3, .int .i64 m)]) (fun _ => [])
    (fun (k, m) => ∃ L : Nat, k = L ∧ 1 ≤ L ∧ L ≤ Ls ∧ m = KP (L - 1)) (fun (k, _) => 16 - k.toNat) hw hm ?_ ?_
  · refine Cv.genAt [4, 3] [] (Cv.fold [5, 6, 7, 8, 9, 10, 11, 12, 13, 14, 15, 16, 17, 18, 19, 20, 21, 22, 23, 24, 25, 26, 27, 28, 29, 30, 31, 32] 9 [] (by exact Nat.le_refl _) (by exact Nat.le_of_ble_eq_true rfl) (by rfl) (by cbv) ?_)
    intro js
    refine ⟨(_, _), ?_, js, rfl⟩
    exact ⟨1, rfl, by omega, by omega, hk0.symm⟩
  · rintro ⟨k, m⟩ js ⟨L, hk, hL1, hL2, hm1⟩
    have g4 : vc .leq k 15 = true := by rw [qc, leq_eq]; simp only [decide_eq_true_eq]; simp only [nc] at *; omega
    cbv
    rw [g4]
    cbv
    have hr0 := hnr L 0 hL1 (by omega) (by omega)
    have hx0 := hn0 L hL1
    obtain ⟨m1, hm2⟩ : ∃ m1, m1 = NX L 0 := ⟨_, rfl⟩
    have em : vb .mul .i64 m 2 = m1 := by rw [qb, mul_i64 (by omega) (by omega)]; omega
    have hmu : ∀ k1 : Int, k1 = ((L + 1 : Nat) : Int) → ∀ _ : Unit, 16 - k1.toNat < 16 - k.toNat := by intro k1 h _; simp only [nc] at *; omega
    rw [em]
    refine loop_fam (α := Int × Int) ([5, 6] ++ [16, 17, 18, 19, 20, 21, 22, 23, 24, 25, 26, 27, 28, 29, 30, 31, 32]) [] (fun (k, m) => [(15, .int .i64 k), (3, .int .i64 m)]) (fun _ => [])
      (fun (k, m) => ∃ i : Nat, k = i ∧ i ≤ n ∧ m = NX L i ∧ (L = Ls → i ≤ s)) (fun (k, _) => n - k.toNat) hw hm ?_ ?_
    · refine Cv.genAt [15, 3] [] (Cv.fold ([5, 6] ++ [16, 17, 18, 19, 20, 21, 22, 23, 24, 25, 26, 27, 28, 29, 30, 31, 32]) 9 [] (by exact Nat.le_refl _) (by exact Nat.le_of_ble_eq_true rfl) (by rfl) (by cbv) ?_)
      intro js
      refine ⟨(_, _), ?_, js, rfl⟩
      exact ⟨0, rfl, by omega, hm2, by omega⟩
    · rintro ⟨q, m⟩ js2 ⟨i, hq, hi, hm1, hiS⟩
      have hni := hnr L i hL1 (by omega) hi
      cbv
      split
      · rename_i hlt2
        cbv
        have hlt2 : i < n := by rw [qc, lss_true] at hlt2; simp only [qofN] at hlt2; simp only [nc] at *; omega
        have hti : vtoN q = i := by rw [hq]; exact hto i
        have hinR : 0 ≤ q ∧ q < (n : Int) := by simp only [nc] at *; omega
        obtain ⟨q1, hq1⟩ : ∃ q1 : Int, q1 = ((i + 1 : Nat) : Int) := ⟨_, rfl⟩
        have eq1 : vb .add .i64 q 1 = q1 := by simp only [nc] at *; rw [qb, add_i64 (by omega) (by omega)]; omega
        have hmu2 : ∀ _ : Unit, n - q1.toNat < n - q.toNat := fun _ => by simp only [nc] at *; omega
        have hx0 := hu8 i
        have hx1 := hl15 i
        have hns := hns L i
        have hwd := hwd L i
        have hsi : i = s → l.getD i 0 = y := fun h => by rw [h]; exact hy
        have hli : i < vln l := by omega
        rw [hti, hadd0, hvgd]
        refine ⟨⟨hinR⟩, ⟨hli⟩, ⟨hli⟩, ?_⟩
        generalize hxi : l.getD i 0 = x at *
        have ew : vw .i64 x = x := by rw [qw]; exact wrap_i64 (by omega) (by omega)
        rw [ew]
        generalize hz : vc .neq x k = z
        cases z
        rotate_left
        · rw [qc, neq_eq] at hz
          simp only [decide_eq_true_eq] at hz
          rw [if_neg (by simp only [nc] at *; omega)] at hns
          have hiS2 : L = Ls → i + 1 ≤ s := fun h => by
            have h1 := hiS h
            by_cases h2 : i = s
            · have h3 := hsi h2; simp only [nc] at *; omega
            · omega
          cbv
          rw [eq1]
          refine Cv.fold ([5, 6] ++ [16, 17, 18, 19, 20, 21, 22, 23, 24, 25, 26, 27, 28, 29, 30, 31, 32]) 9 [] (by exact Nat.le_refl _) (by exact Nat.le_of_ble_eq_true rfl) (by rfl) (by cbv) ?_
          intro js
          refine ⟨(_, _), ?_, js, rfl⟩
          exact ⟨⟨i + 1, hq1, hlt2, by omega, hiS2⟩, hmu2 ()⟩
        · rw [qc, neq_eq] at hz
          simp only [decide_eq_false_iff_not, Decidable.not_not] at hz
          have hxL : x = (L : Int) := by simp only [nc] at *; omega
          rw [if_pos hxL] at hns
          have hwd := hwd hxL
          have ew2 : vw .u16 m = m := by rw [qw]; exact wrap_u16 (by omega) (by omega)
          obtain ⟨m3, hm3⟩ : ∃ m3, m3 = NX L (i + 1) := ⟨_, rfl⟩
          have em3 : vb .add .i64 m 1 = m3 := by rw [qb, add_i64 (by omega) (by omega)]; omega
          cbv
          rw [ew2]
          refine yield_walk hw hm (by rfl) ?_
          cbv
          generalize hz2 : vc .neq q sI = z2
          cases z2
          rotate_left
          · rw [qc, neq_eq] at hz2
            simp only [decide_eq_true_eq] at hz2
            cbv
            intro js1
            cbv
            rw [hnf1]
            cbv
            rw [em3, eq1]
            refine Cv.fold ([5, 6] ++ [16, 17, 18, 19, 20, 21, 22, 23, 24, 25, 26, 27, 28, 29, 30, 31, 32]) 9 [] (by exact Nat.le_refl _) (by exact Nat.le_of_ble_eq_true rfl) (by rfl) (by cbv) ?_
            intro js
            refine ⟨(_, _), ?_, js, rfl⟩
            exact ⟨⟨i + 1, hq1, hlt2, hm3, fun h => by have := hiS h; simp only [nc] at *; omega⟩, hmu2 ()⟩
          · rw [qc, neq_eq] at hz2
            simp only [decide_eq_false_iff_not, Decidable.not_not] at hz2
            have his : i = s := by simp only [nc] at *; omega
            subst his
            cbv
            have hxy : x = y := hsi rfl
            have hLL : L = Ls := by simp only [nc] at *; omega
            subst hLL
            obtain ⟨x1, hx1'⟩ : ∃ x1, x1 = x - 1 := ⟨_, rfl⟩
            have es1 : vb .sub .i64 x 1 = x1 := by rw [qb, sub_i64 (by omega) (by omega)]; omega
            rw [hti, hadd0, hvgd, hxi, ew, es1]
            refine ⟨⟨hinR⟩, ⟨hli⟩, ⟨hli⟩, ?_⟩
            have hmW : m = WD i := by omega
            have hmb : 0 ≤ m ∧ m < 65536 := by omega
            have hms := hms L
            have hml := hml L
            have hmz := hmz L
            rw [← hmW] at hms
            clear hns hwd hn0 hnf hnr hsi hiS hk0 hmu hmu2
            refine loop_fam (α := Int × List Int × Nat × Int × Nat) [43, 44, 45, 46, 47, 48, 49, 50, 51, 52, 53] [1] (fun (j, _, _, _, _) => [(9, .int .i64 j)])
              (fun (_, l', n', m', c') => [(0, .one 92 [.slice 1 .z 1 n' c', .int .i64 m']), (1, .buf 5 .u8 l' c')])
              (fun (j, l', n', m', c') => ∃ k : Nat, j = x1 - k ∧ k ≤ L ∧ WR (bs ++ MB L k) l' n' m') (fun (j, _) => (j + 1).toNat) hw hm ?_ ?_
            · refine Cv.fold [43, 44, 45, 46, 47, 48, 49, 50, 51, 52, 53] 9 [1] (by exact Nat.le_refl _) (by exact Nat.le_of_ble_eq_true rfl) (by rfl) (by cbv) ?_
              intro js
              refine ⟨(_, _, _, _, _), ?_, js, rfl⟩
              exact ⟨0, by omega, by omega, by rw [hmz, List.append_nil]; exact hws⟩
            · rintro ⟨j, l', n', m', c'⟩ js3 ⟨k', hj, hk', hws2⟩
              cbv
              split
              · rename_i hge
                cbv
                have hge : 0 ≤ j := by rw [qc, geq_eq] at hge; simpa using hge
                simp only [nc] at hj hxL
                have hjt : j.toNat = L - 1 - k' := by omega
                have hkL : k' + 1 ≤ L := by omega
                have hjk0 : j - 1 = x1 - ((k' + 1 : Nat) : Int) := by omega
                have hms1 := hms k'
                rw [← hjt] at hms1
                have hd0 : 0 ≤ m / 2 ^ j.toNat := Int.ediv_nonneg hmb.1 (Int.le_of_lt (Int.pow_pos (by decide)))
                have hd1 : m / 2 ^ j.toNat ≤ m := Int.ediv_le_self _ hmb.1
                have esh : vb .shr .u16 m j = m / 2 ^ j.toNat := by rw [qb, shr_eq (by simp only [IntKind.bits]; omega)]
                generalize m / 2 ^ j.toNat = mm at *
                have ewj : vw .u64 j = j := by rw [qw]; exact wrap_u64 (by omega) (by omega)
                have ewm : vw .u64 mm = mm := by rw [qw]; exact wrap_u64 (by omega) (by omega)
                have hlen3 : (bs ++ MB L k').length ≤ 2 ^ 40 := by rw [List.length_append, hml]; omega
                have hput1 := hput (bs ++ MB L k') l' c' n' mm m' ⟨hd0, by omega⟩ hws2 hlen3
                have hap : bs ++ MB L (k' + 1) = bs ++ MB L k' ++ [mm % 2] := by rw [hms1, List.append_assoc]
                rw [← hap] at hput1
                obtain ⟨j1, hj1⟩ : ∃ j1, j1 = j - 1 := ⟨_, rfl⟩
                have ej1 : vb .sub .i64 j 1 = j1 := by rw [qb, sub_i64 (by omega) (by omega)]; omega
                have hmu : ∀ _ : Unit, (j1 + 1).toNat < (j + 1).toNat := fun _ => by omega
                have hjk : j1 = x1 - ((k' + 1 : Nat) : Int) := by rw [hj1]; exact hjk0
                generalize bs ++ MB L k' = Q0 at *
                generalize hQ1 : bs ++ MB L (k' + 1) = Q1 at *
                rw [ewj, esh, ewm]
                refine ⟨⟨hge⟩, ?_⟩
                refine call_con (ρ := [(0, .z), (1, .z)]) hput1 ⟨by rfl, by rfl, by rfl, by cbv⟩ ?_
                rintro v H R js4 ⟨rfl, l2, n2, m2, c2, hw2, rfl, rfl⟩
                cbv
                rw [ej1]
                refine Cv.fold [43, 44, 45, 46, 47, 48, 49, 50, 51, 52, 53] 9 [1] (by exact Nat.le_refl _) (by exact Nat.le_of_ble_eq_true rfl) (by rfl) (by cbv) ?_
                intro js
                refine ⟨(_, _, _, _, _), ?_, js, rfl⟩
                exact ⟨⟨k' + 1, hjk, hkL, by rw [hQ1]; exact hw2⟩, hmu ()⟩
              · rename_i hge
                cbv
                have hge : k' = L := by rw [qc, geq_eq] at hge; simp only [Bool.not_eq_true, decide_eq_false_iff_not] at hge; simp only [nc] at *; omega
                subst hge
                intro js1
                cbv
                rw [hnf2]
                cbv
                intro js2
                cbv
                exact ⟨l', n', m', c', hws2, rfl, rfl⟩
      · rename_i hge2
        have hin : i = n := by rw [qc, lss_false] at hge2; simp only [qofN] at hge2; simp only [nc] at *; omega
        cbv
        rw [hin] at hm1 hiS
        have hLl : L < Ls := by
          by_cases h : L = Ls
          · have := hiS h; omega
          · omega
        obtain ⟨k1, hk1⟩ : ∃ k1 : Int, k1 = ((L + 1 : Nat) : Int) := ⟨_, rfl⟩
        have ek : vb .add .i64 k 1 = k1 := by simp only [nc] at *; rw [qb, add_i64 (by omega) (by omega)]; omega
        have hmu := hmu k1 hk1
        have hmk : m = KP L := by rw [hm1]; exact hnf L hL1
        rw [ek]
        refine Cv.fold [5, 6, 7, 8, 9, 10, 11, 12, 13, 14, 15, 16, 17, 18, 19, 20, 21, 22, 23, 24, 25, 26, 27, 28, 29, 30, 31, 32] 9 [] (by exact Nat.le_refl _) (by exact Nat.le_of_ble_eq_true rfl) (by rfl) (by cbv) ?_
        intro js
        refine ⟨(_, _), ?_, js, rfl⟩
        exact ⟨⟨L + 1, hk1, by omega, by omega, hmk⟩, hmu ()⟩
end Go.Proofs.Ytodobmkflimfkaa
namespace Go.Proofs.Ytodobmkflimfkaa
open Go Go.Sx Go.Proofs
/-! canon.Write of what has no word; balerref05.Write. -/
def WV (l : List Int) (s : Int) : Prop := 0 ≤ s ∧ s < l.length ∧ l.getD s.toNat 0 ≠ 0
instance (l : List Int) (s : Int) : Decidable (WV l s) := by unfold WV; infer_instance
def wE (l : List Int) (s : Int) : Int := if WV l s then 0 else 2
def wB (l : List Int) (s : Int) : List Int := if WV l s then mb (wd l s.toNat) (l.getD s.toNat 0).toNat (l.getD s.toNat 0).toNat else []
set_option maxRecDepth 10000
set_option maxHeartbeats 40000000
theorem write5_arg (l bl : List Int) (bn c cap : Nat) (bm s : Int) (hl : ∀ c ∈ l, isU8 c) (h5 : Right5 l) (hs : ¬ WV l s) :
    Con Try.prog 42 [.ptr 0 .z 2 0, .slice 2 .z 1 l.length cap, .int .i64 s] [.one 92 [.slice 1 .z 1 bn c, .int .i64 bm], .buf 5 .u8 bl c, .ro .u8 l]
      (fun v H R => R = [] ∧ v = .int .i64 2 ∧ H = [.one 92 [.slice 1 .z 1 bn c, .int .i64 bm], .buf 5 .u8 bl c, .ro .u8 l]) := by
  have hR := h5.rt hl
  have hrt := right5_con l cap hl (by have := hR.n1; omega) true (by simp [h5])
  refine con_gen (con_cut 3 (by simp) (con_drop (con_walk hmix fn42 ?_)))
  intro vb vc vw vtoN vofN vaddN vsubN vmaxI vminI vcutN vgd vst vln vrep vsub vonto vsplice vstrEq vbyteV vnotB veqB hw qb qc qw qtoN qofN qaddN qsubN qmaxI qminI qcutN qgd qst qln qrep qsub qonto qsplice qstrEq qbyteV qnotB qeqB
  have hm := hmix; generalize Try.prog = P at *
  have hn1 := hR.n1
  unfold WV at hs
  generalize hn : l.length = n at *
  have hto : ∀ i : Nat, vtoN (i : Int) = i := fun i => by simp only [qtoN, Int.toNat_natCast]
  have htoI : vtoN s = s.toNat := by simp only [qtoN]
  have hadd0 : ∀ i, vaddN 0 i = i := fun i => by simp only [qaddN, Nat.zero_add]
  have hvl : vln l = n := by simp only [qln]; exact hn
  have hvgd : ∀ l i, vgd l i = l.getD i 0 := fun l i => by simp only [qgd]
  have hnf1 : vnotB true = false := by simp only [qnotB]; rfl
  cbv
  refine call_con (ρ := [(2, .z)]) hrt ⟨by rfl, by rfl, by rfl, by cbv; exact ⟨view_refl _, trivial⟩⟩ ?_
  rintro v H R js ⟨rfl, rfl, rfl⟩
  cbv
  rw [hnf1]
  cbv
  generalize h1 : vc .lss s 0 = z1
  cases z1
  rotate_left
  · cbv
  rw [qc, lss_false] at h1
  cbv
  generalize h2 : vc .geq s (vofN n) = z2
  cases z2
  rotate_left
  · cbv
  rw [qc, geq_eq] at h2
  simp only [qofN, decide_eq_false_iff_not] at h2
  simp only [nc] at h2 hs
  have hy : l.getD s.toNat 0 = 0 := by
    by_cases h : l.getD s.toNat 0 = 0
    · exact h
    · exact absurd ⟨by omega, by omega, h⟩ hs
  have hinS : 0 ≤ s ∧ s < (n : Int) := by omega
  have hlt : s.toNat < vln l := by omega
  have h00 : vc .eql 0 0 = true := by rw [qc]; rfl
  cbv
  rw [htoI, hadd0, hvgd, hy, h00]
  refine ⟨⟨hinS⟩, ⟨hlt⟩, ⟨hlt⟩, ?_⟩
  cbv
theorem write5_bad (l bl : List Int) (bn c cap : Nat) (bm s : Int) (hl : ∀ c ∈ l, isU8 c) (hlen : l.length ≤ 9223372036854775807) (h5 : ¬ Right5 l) :
    Con Try.prog 42 [.ptr 0 .z 2 0, .slice 2 .z 1 l.length cap, .int .i64 s] [.one 92 [.slice 1 .z 1 bn c, .int .i64 bm], .buf 5 .u8 bl c, .ro .u8 l]
      (fun v H R => R = [] ∧ v = .int .i64 50 ∧ H = [.one 92 [.slice 1 .z 1 bn c, .int .i64 bm], .buf 5 .u8 bl c, .ro .u8 l]) := by
  have hrt := right5_con l cap hl hlen false (by simp [h5])
  refine con_gen (con_cut 3 (by simp) (con_drop (con_walk hmix fn42 ?_)))
  intro vb vc vw vtoN vofN vaddN vsubN vmaxI vminI vcutN vgd vst vln vrep vsub vonto vsplice vstrEq vbyteV vnotB veqB hw qb qc qw qtoN qofN qaddN qsubN qmaxI qminI qcutN qgd qst qln qrep qsub qonto qsplice qstrEq qbyteV qnotB qeqB
  have hm := hmix; generalize Try.prog = P at *
  generalize hn : l.length = n at *
  have hnf1 : vnotB false = true := by simp only [qnotB]; rfl
  cbv
  refine call_con (ρ := [(2, .z)]) hrt ⟨by rfl, by rfl, by rfl, by cbv; exact ⟨view_refl _, trivial⟩⟩ ?_
  rintro v H R js ⟨rfl, rfl, rfl⟩
  cbv
  rw [hnf1]
  cbv
theorem write5_con (l bs bl : List Int) (bn c cap : Nat) (bm s : Int) (hl : ∀ c ∈ l, isU8 c) (h5 : Right5 l) (hws : Wr bs bl bn bm) (hbl : bs.length ≤ 2 ^ 30) :
    Con Try.prog 42 [.ptr 0 .z 2 0, .slice 2 .z 1 l.length cap, .int .i64 s] [.one 92 [.slice 1 .z 1 bn c, .int .i64 bm], .buf 5 .u8 bl c, .ro .u8 l]
      (fun v H R => R = [1] ∧ ∃ l' n' m' c', Wr (bs ++ wB l s) l' n' m' ∧ v = .int .i64 (wE l s) ∧ H = [.one 92 [.slice 1 .z 1 n' c', .int .i64 m'], .buf 5 .u8 l' c', .ro .u8 l]) := by
  by_cases hv : WV l s
  · have hv' := hv
    obtain ⟨h1, h2, h3⟩ := hv'
    obtain ⟨k, rfl⟩ : ∃ k : Nat, s = k := ⟨s.toNat, by omega⟩
    have e1 : wE l k = 0 := by unfold wE; rw [if_pos hv]
    have e2 : wB l k = mb (wd l k) (l.getD k 0).toNat (l.getD k 0).toNat := by unfold wB; rw [if_pos hv]; simp
    rw [e1, e2]
    exact write5_ok l bs bl bn c cap k bm hl h5 (by omega) (by simpa using h3) hws hbl
  · have e1 : wE l s = 2 := by unfold wE; rw [if_neg hv]
    have e2 : wB l s = [] := by unfold wB; rw [if_neg hv]
    rw [e1, e2]
    refine con_red [1] ((write5_arg l bl bn c cap bm s hl h5 hv).mono ?_)
    rintro v H R ⟨rfl, rfl, rfl⟩
    exact ⟨rfl, rfl, bl, bn, bm, c, by rw [List.append_nil]; exact hws, rfl, rfl⟩
theorem brefput1 (L : List Int) (c n : Nat) (x : Int) (hx : 0 ≤ x ∧ x < 2 ^ 64) (hn : n = L.length) (hl : L.length ≤ 2 ^ 40) :
    Con Try.prog 71 [.ptr 0 .z 1 0, .int .u64 x, .int .i64 1] [.one 95 [.slice 1 .z 1 n c], .buf 5 .u8 L c]
      (fun v H R => R = [1] ∧ ∃ n' c', n' = (L ++ [x % 2]).length ∧ v = .int .i64 0 ∧ H = [.one 95 [.slice 1 .z 1 n' c'], .buf 5 .u8 (L ++ [x % 2]) c']) := by
  subst hn
  refine (brefput_con L c x 1 hx hl).mono ?_
  rintro v H R ⟨rfl, rfl, c', rfl⟩
  have e : putBits L x 1 = L ++ [x % 2] := by unfold putBits; rw [if_pos (by omega)]; show L ++ bitsN x 1 = _; rw [bitsN_one]
  have e2 : putErr 1 = 0 := by unfold putErr; rw [if_pos (by omega)]
  rw [e, e2]
  exact ⟨rfl, _, c', rfl, rfl, rfl⟩
theorem refwrite5_bad (l bl : List Int) (bn c cap : Nat) (s : Int) (hl : ∀ c ∈ l, isU8 c) (hlen : l.length ≤ 9223372036854775807) (h5 : ¬ Right5 l) :
    Con Try.prog 52 [.ptr 0 .z 1 0, .slice 2 .z 1 l.length cap, .int .i64 s] [.one 95 [.slice 1 .z 1 bn c], .buf 5 .u8 bl c, .ro .u8 l]
      (fun v H R => R = [] ∧ v = .int .i64 50 ∧ H = [.one 95 [.slice 1 .z 1 bn c], .buf 5 .u8 bl c, .ro .u8 l]) := by
  have hrt := refright5_con l cap hl hlen false (by simp [h5])
  refine con_gen (con_cut 3 (by simp) (con_drop (con_walk hmix fn52 ?_)))
  intro vb vc vw vtoN vofN vaddN vsubN vmaxI vminI vcutN vgd vst vln vrep vsub vonto vsplice vstrEq vbyteV vnotB veqB hw qb qc qw qtoN qofN qaddN qsubN qmaxI qminI qcutN qgd qst qln qrep qsub qonto qsplice qstrEq qbyteV qnotB qeqB
  have hm := hmix; generalize Try.prog = P at *
  generalize hn : l.length = n at *
  have hnf1 : vnotB false = true := by simp only [qnotB]; rfl
  cbv
  refine call_con (ρ := [(2, .z)]) hrt ⟨by rfl, by rfl, by rfl, by cbv; exact ⟨view_refl _, trivial⟩⟩ ?_
  rintro v H R js ⟨rfl, rfl, rfl⟩
  cbv
  rw [hnf1]
  cbv
theorem refwrite5_con (l bl : List Int) (bn c cap : Nat) (s : Int) (hl : ∀ c ∈ l, isU8 c) (h5 : Right5 l) (hbn : bn = bl.length) (hbl : bl.length ≤ 2 ^ 30) :
    Con Try.prog 52 [.ptr 0 .z 1 0, .slice 2 .z 1 l.length cap, .int .i64 s] [.one 95 [.slice 1 .z 1 bn c], .buf 5 .u8 bl c, .ro .u8 l]
      (fun v H R => R = [1] ∧ ∃ n' c', n' = (bl ++ wB l s).length ∧ v = .int .i64 (wE l s) ∧ H = [.one 95 [.slice 1 .z 1 n' c'], .buf 5 .u8 (bl ++ wB l s) c', .ro .u8 l]) := by
  have hR := h5.rt hl
  have hrt := refright5_con l cap hl (by have := hR.n1; omega) true (by simp [h5])
  have hwo := refwords_con l cap hR
  have hput := brefput1
  have hWg : ∀ s, s < l.length → l.getD s 0 ≠ 0 → (WL l).getD s 0 = wd l s := fun s h h0 => by
    rw [WL_getD l h, if_pos (by have := hR.u8 s; omega)]
  have hwr : ∀ s, s < l.length → l.getD s 0 ≠ 0 → 0 ≤ wd l s ∧ wd l s ≤ 32768 := fun s h h0 => by
    have a := hR.u8 s
    have b := hR.l15 s
    rw [nx_wd (L := (l.getD s 0).toNat) (i := s) (by omega)]
    exact nx_range hR _ _ (by omega) (by omega) (by omega)
  have hWlen := WL_len l
  refine con_gen (con_cut 3 (by simp) (con_red [1] (con_walk hmix fn52 ?_)))
  intro vb vc vw vtoN vofN vaddN vsubN vmaxI vminI vcutN vgd vst vln vrep vsub vonto vsplice vstrEq vbyteV vnotB veqB hw qb qc qw qtoN qofN qaddN qsubN qmaxI qminI qcutN qgd qst qln qrep qsub qonto qsplice qstrEq qbyteV qnotB qeqB
  have hm := hmix; generalize Try.prog = P at *
  have hn1 := hR.n1
  have hu8 := hR.u8
  have hl15 := hR.l15
  have hms := fun s => mb_succ (wd l s)
  have hmz := fun s => mb_zero (wd l s)
  have hml := fun s => mb_length (wd l s)
  have hE0 : WV l s → wE l s = 0 := fun h => by unfold wE; rw [if_pos h]
  have hE1 : ¬ WV l s → wE l s = 2 := fun h => by unfold wE; rw [if_neg h]
  have hB0 : WV l s → wB l s = mb (wd l s.toNat) (l.getD s.toNat 0).toNat (l.getD s.toNat 0).toNat := fun h => by unfold wB; rw [if_pos h]
  have hB1 : ¬ WV l s → wB l s = [] := fun h => by unfold wB; rw [if_neg h]
  unfold WV at hE0 hE1 hB0 hB1
  generalize wE l s = e0 at *
  generalize wB l s = B0 at *
  generalize WL l = W at *
  generalize mb = MB at *
  generalize wd l = WD at *
  generalize hn : l.length = n at *
  have htoI : ∀ s, vtoN s = s.toNat := fun s => by simp only [qtoN]
  have hadd0 : ∀ i, vaddN 0 i = i := fun i => by simp only [qaddN, Nat.zero_add]
  have hvl : vln l = n := by simp only [qln]; exact hn
  have hvW : vln W = n := by simp only [qln]; exact hWlen
  have hvgd : ∀ l i, vgd l i = l.getD i 0 := fun l i => by simp only [qgd]
  have hnf1 : vnotB true = false := by simp only [qnotB]; rfl
  cbv
  refine call_con (ρ := [(2, .z)]) hrt ⟨by rfl, by rfl, by rfl, by cbv; exact ⟨view_refl _, trivial⟩⟩ ?_
  rintro v H R js ⟨rfl, rfl, rfl⟩
  cbv
  rw [hnf1]
  cbv
  generalize h1 : vc .lss s 0 = z1
  cases z1
  rotate_left
  · rw [qc, lss_true] at h1
    have hnv : ¬ (0 ≤ s ∧ s < (n : Int) ∧ l.getD s.toNat 0 ≠ 0) := fun h => by omega
    rw [hE1 hnv, hB1 hnv]
    cbv
    exact ⟨bn, c, by rw [List.append_nil]; exact hbn, rfl, by rw [List.append_nil]; rfl⟩
  rw [qc, lss_false] at h1
  cbv
  generalize h2 : vc .geq s (vofN n) = z2
  cases z2
  rotate_left
  · rw [qc, geq_eq] at h2
    simp only [qofN, decide_eq_true_eq] at h2
    simp only [nc] at h2
    have hnv : ¬ (0 ≤ s ∧ s < (n : Int) ∧ l.getD s.toNat 0 ≠ 0) := fun h => by omega
    rw [hE1 hnv, hB1 hnv]
    cbv
    exact ⟨bn, c, by rw [List.append_nil]; exact hbn, rfl, by rw [List.append_nil]; rfl⟩
  rw [qc, geq_eq] at h2
  simp only [qofN, decide_eq_false_iff_not] at h2
  simp only [nc] at h2
  have hinS : 0 ≤ s ∧ s < (n : Int) := by omega
  have hlt : s.toNat < vln l := by omega
  have hltW : s.toNat < vln W := by omega
  have hu := hu8 s.toNat
  have h15 := hl15 s.toNat
  have hWs := hWg s.toNat (by omega)
  have hwrs := hwr s.toNat (by omega)
  have hms := hms s.toNat
  have hmz := hmz s.toNat
  have hml := hml s.toNat
  cbv
  rw [htoI, hadd0, hvgd]
  refine ⟨⟨hinS⟩, ⟨hlt⟩, ⟨hlt⟩, ?_⟩
  generalize hx : l.getD s.toNat 0 = x at *
  generalize h3 : vc .eql x 0 = z3
  cases z3
  rotate_left
  · rw [qc, eql_true] at h3
    have hnv : ¬ (0 ≤ s ∧ s < (n : Int) ∧ x ≠ 0) := fun h => by omega
    rw [hE1 hnv, hB1 hnv]
    cbv
    exact ⟨bn, c, by rw [List.append_nil]; exact hbn, rfl, by rw [List.append_nil]; rfl⟩
  rw [qc, eql_false] at h3
  have hva : 0 ≤ s ∧ s < (n : Int) ∧ x ≠ 0 := ⟨by omega, by omega, h3⟩
  rw [hE0 hva, hB0 hva]
  have hWs := hWs h3
  have hwrs := hwrs h3
  cbv
  refine call_con (ρ := [(2, .z)]) hwo ⟨by rfl, by rfl, by rfl, by cbv; exact ⟨view_refl _, trivial⟩⟩ ?_
  rintro v H R js ⟨rfl, rfl, rfl⟩
  cbv
  obtain ⟨w, hw0⟩ : ∃ w, WD s.toNat = w := ⟨_, rfl⟩
  rw [hw0] at hms hWs hwrs
  obtain ⟨x1, hx1⟩ : ∃ x1, x1 = x - 1 := ⟨_, rfl⟩
  have ew : vw .i64 x = x := by rw [qw]; exact wrap_i64 (by omega) (by omega)
  have es1 : vb .sub .i64 x 1 = x1 := by rw [qb, sub_i64 (by omega) (by omega)]; omega
  obtain ⟨L, hL⟩ : ∃ L : Nat, x.toNat = L := ⟨_, rfl⟩
  rw [hL]
  have hms := hms L
  have hmz := hmz L
  have hml := hml L
  rw [hw0] at hmz hml ⊢
  generalize MB w L = MB' at *
  rw [htoI, hadd0, hvgd W, hWs, hvgd l, hx, ew, es1]
  refine ⟨⟨hinS⟩, ⟨hltW⟩, ⟨hinS⟩, ⟨hlt⟩, ⟨hlt⟩, ?_⟩
  refine loop_fam (α := Int × List Int × Nat × Nat) [38, 39, 40, 41, 42, 43, 44, 45, 46, 47, 48] [1] (fun (j, _, _, _) => [(8, .int .i64 j)])
    (fun (_, l', n', c') => [(0, .one 95 [.slice 1 .z 1 n' c']), (1, .buf 5 .u8 l' c')])
    (fun (j, l', n', c') => ∃ k : Nat, j = x1 - k ∧ k ≤ L ∧ l' = bl ++ MB' k ∧ n' = l'.length) (fun (j, _) => (j + 1).toNat) hw hm ?_ ?_
  · refine Cv.fold [38, 39, 40, 41, 42, 43, 44, 45, 46, 47, 48] 4 [1] (by exact Nat.le_refl _) (by exact Nat.le_of_ble_eq_true rfl) (by rfl) (by cbv) ?_
    intro js
    refine ⟨(_, _, _, _), ?_, js, rfl⟩
    exact ⟨0, by omega, by omega, by rw [hmz, List.append_nil], hbn⟩
  · rintro ⟨j, l', n', c'⟩ js3 ⟨k', hj, hk', hl', hn'⟩
    cbv
    split
    · rename_i hge
      cbv
      have hge : 0 ≤ j := by rw [qc, geq_eq] at hge; simpa using hge
      simp only [nc] at hj
      have hjt : j.toNat = L - 1 - k' := by omega
      have hkL : k' + 1 ≤ L := by omega
      obtain ⟨j1, hj1⟩ : ∃ j1, j1 = j - 1 := ⟨_, rfl⟩
      have hjk : j1 = x1 - ((k' + 1 : Nat) : Int) := by omega
      have hms1 := hms k'
      rw [← hjt] at hms1
      have hd0 : 0 ≤ w / 2 ^ j.toNat := Int.ediv_nonneg hwrs.1 (Int.le_of_lt (Int.pow_pos (by decide)))
      have hd1 : w / 2 ^ j.toNat ≤ w := Int.ediv_le_self _ hwrs.1
      have esh : vb .shr .u16 w j = w / 2 ^ j.toNat := by rw [qb, shr_eq (by simp only [IntKind.bits]; omega)]
      generalize w / 2 ^ j.toNat = mm at *
      have ewj : vw .u64 j = j := by rw [qw]; exact wrap_u64 (by omega) (by omega)
      have ewm : vw .u64 mm = mm := by rw [qw]; exact wrap_u64 (by omega) (by omega)
      have hlen3 : l'.length ≤ 2 ^ 40 := by rw [hl', List.length_append, hml]; omega
      have hput1 := hput l' c' n' mm ⟨hd0, by omega⟩ hn' hlen3
      have hap : l' ++ [mm % 2] = bl ++ MB' (k' + 1) := by rw [hms1, hl', List.append_assoc]
      have ej1 : vb .sub .i64 j 1 = j1 := by rw [qb, sub_i64 (by omega) (by omega)]; omega
      have hmu : ∀ _ : Unit, (j1 + 1).toNat < (j + 1).toNat := fun _ => by omega
      generalize l' ++ [mm % 2] = Q1 at *
      rw [ewj, esh, ewm]
      refine ⟨⟨hge⟩, ?_⟩
      refine call_con (ρ := [(0, .z), (1, .z)]) hput1 ⟨by rfl, by rfl, by rfl, by cbv⟩ ?_
      rintro v H R js4 ⟨rfl, n2, c2, hn2, rfl, rfl⟩
      cbv
      rw [ej1]
      refine Cv.fold [38, 39, 40, 41, 42, 43, 44, 45, 46, 47, 48] 4 [1] (by exact Nat.le_refl _) (by exact Nat.le_of_ble_eq_true rfl) (by rfl) (by cbv) ?_
      intro js
      refine ⟨(_, _, _, _), ?_, js, rfl⟩
      exact ⟨⟨k' + 1, hjk, hkL, hap, hn2⟩, hmu ()⟩
    · rename_i hge
      cbv
      have hge : k' = L := by rw [qc, geq_eq] at hge; simp only [Bool.not_eq_true, decide_eq_false_iff_not] at hge; simp only [nc] at *; omega
      subst hge
      subst hl'
      exact ⟨n', c', hn', rfl, rfl⟩
end Go.Proofs.Ytodobmkflimfkaa
namespace Go.Proofs.Ytodobmkflimfkaa
open Go Go.Sx Go.Proofs
theorem refbit_con (b : List Int) (cap i : Nat) (p : Int) (hby : ∀ x ∈ b, isByte x) (hl : b.length ≤ 2 ^ 50) (hi : i < 8 * b.length) :
    Con Try.prog 125 [.ptr 0 .z 2 0, .int .i64 i] [.one 76 [.slice 1 .z 1 b.length cap, .int .i64 p], .ro .u8 b]
      (fun v H R => v = .int .u64 ((bitL b).getD i 0) ∧ R = [] ∧ H = [.one 76 [.slice 1 .z 1 b.length cap, .int .i64 p], .ro .u8 b]) := by
  have hg := bitL_get b i hi
  have hbb := byte_bit hby (i / 8)
  refine con_walk hmix fn125 ?_
  intro vb vc vw vtoN vofN vaddN vsubN vmaxI vminI vcutN vgd vst vln vrep vsub vonto vsplice vstrEq vbyteV vnotB veqB hw qb qc qw qtoN qofN qaddN qsubN qmaxI qminI qcutN qgd qst qln qrep qsub qonto qsplice qstrEq qbyteV qnotB qeqB
  generalize Try.prog = P at *
  generalize (bitL b).getD i 0 = X at *
  generalize hi0 : ((i : Nat) : Int) = i0 at *
  generalize hlen : b.length = len at *
  have hq : vb .quo .i64 i0 8 = i0 / 8 := by rw [qb, quo_i64 (by omega) (by omega) (by omega)]
  have hr : vb .rem .i64 i0 8 = i0 % 8 := by rw [qb, rem_i64 (by omega)]
  have hwr : vw .u64 (i0 % 8) = i0 % 8 := by simp only [qw]; exact wrap_u64 (by omega) (by omega)
  have hin : 0 ≤ vb .quo .i64 i0 8 ∧ vb .quo .i64 i0 8 < len := by rw [hq]; omega
  have hqn : vtoN (vb .quo .i64 i0 8) = i / 8 := by rw [hq]; simp only [qtoN]; omega
  have hlt : vtoN (vb .quo .i64 i0 8) < vln b := by rw [hqn]; simp only [qln]; omega
  have hlt2 : vaddN 0 (vtoN (vb .quo .i64 i0 8)) < vln b := by simp only [qaddN, Nat.zero_add]; exact hlt
  have hnn : 0 ≤ vw .u64 (vb .rem .i64 i0 8) := by rw [hr, hwr]; omega
  have hval : vb .and .u64 (vw .u64 (vb .shr .u8 (vgd b (vtoN (vb .quo .i64 i0 8))) (vw .u64 (vb .rem .i64 i0 8)))) 1 = X := by
    rw [hr, hwr, hqn, qb, shr_eq (by show i0 % 8 ≤ ((8 : Nat) : Int); omega)]
    simp only [qgd, qw]
    have e : X = b.getD (i / 8) 0 / 2 ^ (i0 % 8).toNat % 2 := by
      rw [hg]; unfold bitAt; rw [if_pos (by omega)]
      have : (i0 / 8).toNat = i / 8 := by omega
      rw [this]
    rw [e]
    generalize b.getD (i / 8) 0 = y at *
    have h1 : 0 ≤ y / 2 ^ (i0 % 8).toNat := Int.ediv_nonneg hbb.1 (Int.le_of_lt (Int.pow_pos (by decide)))
    have h2 : y / 2 ^ (i0 % 8).toNat ≤ y := Int.ediv_le_self _ hbb.1
    have h3 := hbb.2
    rw [wrap_u64 h1 (by omega), and_one rfl h1 (by show _ < (2 : Int) ^ 64; omega)]
  cbv
  refine ⟨⟨hin⟩, ⟨hlt2⟩, ⟨hlt⟩, ⟨hnn⟩, ?_⟩
  rw [hval]
  exact ⟨rfl, trivial⟩
theorem refleft_con (b : List Int) (cap pos : Nat) (hl : b.length ≤ 2 ^ 50) (hp : pos ≤ 8 * b.length) :
    Con Try.prog 49 [.ptr 0 .z 2 0] [.one 76 [.slice 1 .z 1 b.length cap, .int .i64 pos], .ro .u8 b]
      (fun v H R => v = .int .i64 (8 * b.length - pos) ∧ R = [] ∧ H = [.one 76 [.slice 1 .z 1 b.length cap, .int .i64 pos], .ro .u8 b]) := by
  refine con_walk hmix fn49 ?_
  intro vb vc vw vtoN vofN vaddN vsubN vmaxI vminI vcutN vgd vst vln vrep vsub vonto vsplice vstrEq vbyteV vnotB veqB hw qb qc qw qtoN qofN qaddN qsubN qmaxI qminI qcutN qgd qst qln qrep qsub qonto qsplice qstrEq qbyteV qnotB qeqB
  generalize Try.prog = P at *
  generalize hL : (8 * (b.length : Int) - pos) = L
  generalize hlen : b.length = len at *
  generalize hp0 : ((pos : Nat) : Int) = p0 at *
  have e1 : vb .sub .i64 (vb .mul .i64 8 (vofN len)) p0 = L := by simp only [qb, qofN]; rw [mul_i64 (by omega) (by omega), sub_i64 (by omega) (by omega)]; omega
  cbv
  rw [e1]
  exact ⟨rfl, trivial⟩
set_option maxHeartbeats 2000000 in
theorem refbits_ok (b : List Int) (cap pos n : Nat) (hby : ∀ x ∈ b, isByte x) (hl : b.length ≤ 2 ^ 50) (hn : n ≤ 56) (hen : pos + n ≤ 8 * b.length) :
    Con Try.prog 92 [.ptr 0 .z 2 0, .int .i64 n] [.one 76 [.slice 1 .z 1 b.length cap, .int .i64 pos], .ro .u8 b]
      (fun v H R => v = .tup [.int .u64 (bval (bitL b) pos n), .lit .i64 0] ∧ R = [] ∧ H = [.one 76 [.slice 1 .z 1 b.length cap, .int .i64 ((pos + n : Nat))], .ro .u8 b]) := by
  have hbit := fun i hi => refbit_con b cap i pos hby hl hi
  have hleft := refleft_con b cap pos hl (by omega)
  refine con_cut 2 (by simp) (con_red [] (con_walk hmix fn92 ?_))
  intro vb vc vw vtoN vofN vaddN vsubN vmaxI vminI vcutN vgd vst vln vrep vsub vonto vsplice vstrEq vbyteV vnotB veqB hw qb qc qw qtoN qofN qaddN qsubN qmaxI qminI qcutN qgd qst qln qrep qsub qonto qsplice qstrEq qbyteV qnotB qeqB
  have hm := hmix
  generalize Try.prog = P at *
  generalize hX : bval (bitL b) pos n = X
  generalize hL : (8 * (b.length : Int) - pos) = L at *
  generalize hp1 : ((pos + n : Nat) : Int) = p1 at *
  generalize hp0 : ((pos : Nat) : Int) = p0 at *
  generalize hn0 : ((n : Nat) : Int) = n0 at *
  have hbd : ∀ i, 0 ≤ bval (bitL b) pos i ∧ bval (bitL b) pos i < 2 ^ i := bval_bound (bitL b) (bitL_bit b) pos
  have hbl : ∀ i, 0 ≤ (bitL b).getD i 0 ∧ (bitL b).getD i 0 < 2 := fun i => by
    rw [List.getD_eq_getElem?_getD]
    cases hg : (bitL b)[i]? with
    | none => exact ⟨by simp, by simp⟩
    | some y => have := bitL_bit b y (List.mem_of_getElem? hg); unfold isBit at this; simp; omega
  generalize hlen : b.length = len at *
  cbv
  have e1 : vc .lss n0 0 = false := by rw [qc, lss_false]; simp only [nc] at *; omega
  have e2 : vc .gtr n0 56 = false := by rw [qc, gtr_false]; simp only [nc] at *; omega
  have e3 : vc .lss L n0 = false := by rw [qc, lss_false]; simp only [nc] at *; omega
  rw [e1]
  cbv
  rw [e2]
  cbv
  refine call_con (ρ := [(0, .z), (1, .z)]) hleft ⟨by rfl, by rfl, by rfl, by cbv; exact ⟨view_refl _, trivial⟩⟩ ?_
  rintro v H R js ⟨rfl, rfl, rfl⟩
  cbv
  rw [e3]
  cbv
  refine loop_fam (α := Int × Int) [18, 19, 20, 21, 22, 23, 24, 25, 26, 27, 28, 29, 30, 31, 32, 33, 34, 35] []
    (fun (x, k) => [(6, .int .u64 x), (7, .int .i64 k)]) (fun (x, k) => [])
    (fun (x, k) => ∃ i : Nat, k = i ∧ i ≤ n ∧ x = bval (bitL b) pos i) (fun (x, k) => n - k.toNat) hw hm ?_ ?_
  · refine Cv.genAt [6, 7] [] (Cv.fold [18, 19, 20, 21, 22, 23, 24, 25, 26, 27, 28, 29, 30, 31, 32, 33, 34, 35] 2 [] (by exact Nat.le_refl _) (by exact Nat.le_of_ble_eq_true rfl) (by rfl) (by cbv) ?_)
    intro js
    refine ⟨(_, _), ?_, js, rfl⟩
    exact ⟨0, rfl, by omega, rfl⟩
  · rintro ⟨x, k⟩ js ⟨i, hk, hi, hx⟩
    cbv
    split
    · rename_i hlt
      have hlt : i < n := by rw [qc, lss_true] at hlt; simp only [nc] at *; omega
      have hbit' := hbit (pos + i) (by omega)
      have hadd : vb .add .i64 p0 k = ((pos + i : Nat) : Int) := by simp only [nc] at *; rw [qb, add_i64 (by omega) (by omega)]; omega
      have hbd' := hbd i
      have hbl' := hbl (pos + i)
      have hsucc : bval (bitL b) pos (i + 1) = bval (bitL b) pos i + (bitL b).getD (pos + i) 0 * 2 ^ i := rfl
      simp only [nc] at hbit' hadd
      rw [← hadd] at hbit'
      generalize hy : (bitL b).getD (pos + i) 0 = y at *
      generalize hz : vb .add .i64 p0 k = z at *
      have hwk : vw .u64 k = k := by simp only [nc] at *; simp only [qw]; exact wrap_u64 (by omega) (by omega)
      have hnn : 0 ≤ vw .u64 k := by rw [hwk]; simp only [nc] at *; omega
      have hk1 : vb .add .i64 k 1 = ((i + 1 : Nat) : Int) := by simp only [nc] at *; rw [qb, add_i64 (by omega) (by omega)]; omega
      have hval : vb .or .u64 x (vb .shl .u64 y (vw .u64 k)) = bval (bitL b) pos (i + 1) := by
        have hp56 := pow_le_56 (show i ≤ 56 by omega)
        have hpp : (0 : Int) < 2 ^ i := Int.pow_pos (by decide)
        have hyb : 0 ≤ y * 2 ^ i ∧ y * 2 ^ i ≤ 2 ^ i := by
          have : y = 0 ∨ y = 1 := by omega
          rcases this with rfl | rfl <;> omega
        have hkn : k.toNat = i := by simp only [nc] at *; omega
        rw [hsucc, hwk, qb, shl_u rfl hbl'.1 (by show k ≤ ((64 : Nat) : Int); simp only [nc] at *; omega) (by rw [hkn]; show _ < (2 : Int) ^ 64; omega), hkn, hx, or_add rfl _ hbd'.1 hbd'.2 hbl'.1 (by show _ < (2 : Int) ^ 64; omega)]
      cbv
      rw [hz]
      refine call_con (ρ := [(0, .z), (1, .z)]) hbit' ⟨by rfl, by rfl, by rfl, by cbv; exact ⟨view_refl _, trivial⟩⟩ ?_
      rintro v H R js ⟨rfl, rfl, rfl⟩
      cbv
      refine ⟨⟨hnn⟩, ?_⟩
      refine Cv.fold [18, 19, 20, 21, 22, 23, 24, 25, 26, 27, 28, 29, 30, 31, 32, 33, 34, 35] 2 [] (by exact Nat.le_refl _) (by exact Nat.le_of_ble_eq_true rfl) (by rfl) (by cbv) ?_
      intro js
      refine ⟨(_, _), ?_, js, rfl⟩
      exact ⟨⟨i + 1, hk1, hlt, hval⟩, by show n - (vb .add .i64 k 1).toNat < n - k.toNat; rw [hk1, hk]; simp only [nc] at *; omega⟩
    · rename_i hge
      have hin : i = n := by rw [qc, lss_false] at hge; simp only [nc] at *; omega
      have hxX : x = X := by rw [hx, hin, hX]
      have hpp : vb .add .i64 p0 n0 = p1 := by simp only [nc] at *; rw [qb, add_i64 (by omega) (by omega)]; omega
      cbv
      rw [hxX, hpp]
      exact ⟨rfl, rfl⟩
theorem refbits_bad (b : List Int) (cap pos : Nat) (n : Int) (hl : b.length ≤ 2 ^ 50) (hp : pos ≤ 8 * b.length) (hn : ¬ (0 ≤ n ∧ n ≤ 56 ∧ pos + n ≤ 8 * b.length)) :
    Con Try.prog 92 [.ptr 0 .z 2 0, .int .i64 n] [.one 76 [.slice 1 .z 1 b.length cap, .int .i64 pos], .ro .u8 b]
      (fun v H R => v = .tup [.int .u64 0, .int .i64 (rbE b pos n)] ∧ R = [] ∧ H = [.one 76 [.slice 1 .z 1 b.length cap, .int .i64 pos], .ro .u8 b]) := by
  have hleft := refleft_con b cap pos hl hp
  have hE : rbE b pos n = if 0 ≤ n ∧ n ≤ 56 then 10 else 2 := by unfold rbE; split <;> (first | rfl | (rw [if_neg (by omega)]))
  rw [hE]
  refine con_gen (con_walk hmix fn92 ?_)
  intro vb vc vw vtoN vofN vaddN vsubN vmaxI vminI vcutN vgd vst vln vrep vsub vonto vsplice vstrEq vbyteV vnotB veqB hw qb qc qw qtoN qofN qaddN qsubN qmaxI qminI qcutN qgd qst qln qrep qsub qonto qsplice qstrEq qbyteV qnotB qeqB
  generalize Try.prog = P at *
  generalize hL : (8 * (b.length : Int) - pos) = L at *
  generalize hp0 : ((pos : Nat) : Int) = p0 at *
  generalize hlen : b.length = len at *
  by_cases h1 : n < 0
  · have e1 : vc .lss n 0 = true := by rw [qc, lss_true]; exact h1
    rw [if_neg (by omega)]
    cbv
    rw [e1]
    cbv
  · have e1 : vc .lss n 0 = false := by rw [qc, lss_false]; exact h1
    by_cases h2 : 56 < n
    · have e2 : vc .gtr n 56 = true := by rw [qc, gtr_true]; exact h2
      rw [if_neg (by omega)]
      cbv
      rw [e1]
      cbv
      rw [e2]
      cbv
    · have e2 : vc .gtr n 56 = false := by rw [qc, gtr_false]; exact h2
      have e3 : vc .lss L n = true := by rw [qc, lss_true]; omega
      rw [if_pos (by omega)]
      cbv
      rw [e1]
      cbv
      rw [e2]
      cbv
      refine call_con (ρ := [(0, .z), (1, .z)]) hleft ⟨by rfl, by rfl, by rfl, by cbv; exact ⟨view_refl _, trivial⟩⟩ ?_
      rintro v H R js ⟨rfl, rfl, rfl⟩
      cbv
      rw [e3]
      cbv
theorem refbitsB_con (b : List Int) (cap pos : Nat) (n : Int) (hby : ∀ x ∈ b, isByte x) (hl : b.length ≤ 2 ^ 50) (hp : pos ≤ 8 * b.length) :
    Con Try.prog 92 [.ptr 0 .z 2 0, .int .i64 n] [.one 76 [.slice 1 .z 1 b.length cap, .int .i64 pos], .ro .u8 b]
      (fun v H R => v = .tup [.int .u64 (rbX b pos n), .int .i64 (rbE b pos n)] ∧ R = [] ∧ H = [.one 76 [.slice 1 .z 1 b.length cap, .int .i64 (rbP b pos n)], .ro .u8 b]) := by
  by_cases hn : 0 ≤ n ∧ n ≤ 56 ∧ pos + n ≤ 8 * b.length
  · obtain ⟨m, rfl⟩ : ∃ m : Nat, n = m := ⟨n.toNat, by omega⟩
    have e1 : rbX b pos m = bval (bitL b) pos m := by unfold rbX; rw [if_pos hn]; rfl
    have e2 : rbE b pos m = 0 := by unfold rbE; rw [if_pos ⟨hn.1, hn.2.1⟩, if_pos hn.2.2]
    have e3 : rbP b pos m = pos + m := by unfold rbP; rw [if_pos hn]; rfl
    rw [e1, e2, e3]
    refine con_gen ((refbits_ok b cap pos m hby hl (by omega) (by omega)).mono ?_)
    rintro v H R ⟨rfl, rfl, rfl⟩
    exact ⟨rfl, rfl, rfl⟩
  · have e1 : rbX b pos n = 0 := by unfold rbX; rw [if_neg hn]
    have e3 : rbP b pos n = pos := by unfold rbP; rw [if_neg hn]
    rw [e1, e3]
    refine con_gen ((refbits_bad b cap pos n hl hp hn).mono ?_)
    rintro v H R ⟨rfl, rfl, rfl⟩
    exact ⟨rfl, rfl, rfl⟩
end Go.Proofs.Ytodobmkflimfkaa
namespace Go.Proofs.Ytodobmkflimfkaa
open Go Go.Sx Go.Proofs
/-! balerref05.ReadWord and Read. -/
theorem refrbit_con (b : List Int) (cap pos : Nat) (hby : ∀ x ∈ b, isByte x) (hl : b.length ≤ 2 ^ 50) (hp : pos ≤ 8 * b.length) :
    Con Try.prog 92 [.ptr 0 .z 2 0, .int .i64 1] [.one 76 [.slice 1 .z 1 b.length cap, .int .i64 pos], .ro .u8 b]
      (fun v H R => ∃ x e, ∃ pos2 : Nat, v = .tup [.int .u64 x, .int .i64 e] ∧ ((e = 0 ∧ pos + 1 ≤ 8 * b.length ∧ x = bt b pos ∧ pos2 = pos + 1) ∨ (e = 10 ∧ 8 * b.length ≤ pos ∧ pos2 = pos)) ∧ R = [] ∧ H = [.one 76 [.slice 1 .z 1 b.length cap, .int .i64 pos2], .ro .u8 b]) := by
  refine (refbitsB_con b cap pos 1 hby hl hp).mono ?_
  rintro v H R ⟨rfl, rfl, rfl⟩
  refine ⟨_, _, _, rfl, ?_, rfl, rfl⟩
  by_cases hp : pos + 1 ≤ 8 * b.length
  · refine .inl ⟨?_, hp, ?_, ?_⟩
    · unfold rbE; rw [if_pos (by omega), if_pos (by omega)]
    · unfold rbX; rw [if_pos ⟨by omega, by omega, by omega⟩]; simp [bval, bt]
    · unfold rbP; rw [if_pos ⟨by omega, by omega, by omega⟩]; rfl
  · refine .inr ⟨?_, by omega, ?_⟩
    · unfold rbE; rw [if_pos (by omega), if_neg (by omega)]
    · unfold rbP; rw [if_neg (by omega)]
set_option maxRecDepth 10000
set_option maxHeartbeats 40000000
theorem refword_con (l b : List Int) (p cap cap2 cap3 : Nat) (hR : Rt l) (hby : ∀ x ∈ b, isByte x) (hl : b.length ≤ 2 ^ 50) (hp : p ≤ 8 * b.length) :
    Con Try.prog 96 [.ptr 0 .z 2 0, .slice 2 .z 1 l.length cap2, .slice 3 .z 1 l.length cap3] [.one 76 [.slice 1 .z 1 b.length cap, .int .i64 p], .ro .u8 b, .ro .u8 l, .ro .u16 (WL l)]
      (fun v H R => ∃ s e, ∃ q : Nat, v = .tup [.int .i64 s, .int .i64 e] ∧ Dec l b p s e q ∧ R = [] ∧
        H = [.one 76 [.slice 1 .z 1 b.length cap, .int .i64 q], .ro .u8 b, .ro .u8 l, .ro .u16 (WL l)]) := by
  have hrd : ∀ (pI : Int) (pos : Nat), pI = pos → pos ≤ 8 * b.length → Con Try.prog 92 [.ptr 0 .z 2 0, .int .i64 1] [.one 76 [.slice 1 .z 1 b.length cap, .int .i64 pI], .ro .u8 b]
      (fun v H R => ∃ x e pI2 : Int, ∃ pos2 : Nat, v = .tup [.int .u64 x, .int .i64 e] ∧ pI2 = pos2 ∧ ((e = 0 ∧ pos + 1 ≤ 8 * b.length ∧ x = bt b pos ∧ pos2 = pos + 1) ∨ (e = 10 ∧ 8 * b.length ≤ pos ∧ pos2 = pos)) ∧ R = [] ∧ H = [.one 76 [.slice 1 .z 1 b.length cap, .int .i64 pI2], .ro .u8 b]) := by
    rintro pI pos rfl h
    refine (refrbit_con b cap pos hby hl h).mono ?_
    rintro v H R ⟨x, e, pos2, rfl, h2, rfl, rfl⟩
    exact ⟨x, e, _, pos2, rfl, rfl, h2, rfl, rfl⟩
  have hWg : ∀ u L : Nat, u < l.length → 1 ≤ L → l.getD u 0 = L → (WL l).getD u 0 = st l L + cn l L u := fun u L h h1 h2 => by
    rw [WL_getD l h, if_pos (by omega)]
    unfold wd
    rw [h2]; simp
  have hlt : ∀ u L : Nat, u < l.length → l.getD u 0 = L → cn l L u + 1 ≤ cn l L l.length := fun u L h h2 => by
    have := cn_lt l h; rw [h2] at this; exact this
  have hfind : ∀ (L : Nat) (q : Int), 0 ≤ q → q < cn l L l.length → ∃ i, i < l.length ∧ l.getD i 0 = L ∧ cn l L i = q := fun L q h1 h2 => cn_find l L q h1 h2
  have hWlen := WL_len l
  obtain ⟨pI, hpI⟩ : ∃ pI : Int, pI = p := ⟨_, rfl⟩
  have hq : ∀ (s e qI : Int) (q : Nat) (W : List Int), qI = q → Dec l b p s e q → ∃ s' e', ∃ q' : Nat, SV.tup [.int .i64 s, .int .i64 e] = .tup [.int .i64 s', .int .i64 e'] ∧ Dec l b p s' e' q' ∧
      [SB.one 76 [.slice 1 .z 1 b.length cap, .int .i64 qI], .ro .u8 b, .ro .u8 l, .ro .u16 W] = [.one 76 [.slice 1 .z 1 b.length cap, .int .i64 q'], .ro .u8 b, .ro .u8 l, .ro .u16 W] := by
    rintro s e qI q W rfl h
    exact ⟨s, e, q, rfl, h, rfl⟩
  suffices h : Con Try.prog 96 [.ptr 0 .z 2 0, .slice 2 .z 1 l.length cap2, .slice 3 .z 1 l.length cap3] [.one 76 [.slice 1 .z 1 b.length cap, .int .i64 pI], .ro .u8 b, .ro .u8 l, .ro .u16 (WL l)]
      (fun v H R => ∃ s e qI : Int, ∃ q : Nat, v = .tup [.int .i64 s, .int .i64 e] ∧ qI = q ∧ Dec l b p s e q ∧ R = [] ∧
        H = [.one 76 [.slice 1 .z 1 b.length cap, .int .i64 qI], .ro .u8 b, .ro .u8 l, .ro .u16 (WL l)]) by
    subst hpI
    refine h.mono ?_
    rintro v H R ⟨s, e, qI, q, rfl, rfl, h, rfl, rfl⟩
    exact ⟨s, e, _, rfl, h, rfl, rfl⟩
  clear hq
  refine con_gen (con_cut 4 (by simp) (con_drop (con_walk hmix fn96 ?_)))
  intro vb vc vw vtoN vofN vaddN vsubN vmaxI vminI vcutN vgd vst vln vrep vsub vonto vsplice vstrEq vbyteV vnotB veqB hw qb qc qw qtoN qofN qaddN qsubN qmaxI qminI qcutN qgd qst qln qrep qsub qonto qsplice qstrEq qbyteV qnotB qeqB
  have hm := hmix; generalize Try.prog = P at *
  have hn1 := hR.n1
  have hu8 := hR.u8
  have hl15 := hR.l15
  have hbt := bt_range b
  have hxr := xv_range b p
  have hxs : ∀ L, xv b p (L + 1) = 2 * xv b p L + bt b (p + L) := fun _ => rfl
  have hx0 : xv b p 0 = 0 := rfl
  have hxt := kp_top (b := b) hR p
  have hk0 : kp l l.length 0 = 0 := rfl
  have hks : ∀ L : Nat, 1 ≤ L → kp l l.length L = st l L + cn l L l.length := fun L h => by
    obtain ⟨k, rfl⟩ : ∃ k, L = k + 1 := ⟨L - 1, by omega⟩
    simp [kp, st]
  have hkp := kp_nonneg l l.length
  have hcr := cn_range l
  have hktop := hR.top
  have hD1 : ∀ L i : Nat, 1 ≤ L → L ≤ 15 → p + L ≤ 8 * b.length → (∀ j, j < L → kp l l.length j ≤ xv b p j) → xv b p L < kp l l.length L → i < l.length → l.getD i 0 = L → cn l L i = xv b p L - st l L → Dec l b p i 0 (p + L) :=
    fun L i h1 h2 h3 h4 h5 h6 h7 h8 => .inl ⟨L, i, h1, h2, h3, h4, h5, h6, h7, h8, rfl, rfl, rfl⟩
  have hD2 : ∀ L : Nat, L ≤ 14 → p + L = 8 * b.length → (∀ j, j ≤ L → kp l l.length j ≤ xv b p j) → Dec l b p 0 10 (p + L) := fun L h1 h2 h3 => .inr ⟨L, h1, h2, h3, rfl, rfl, rfl⟩
  have hst : ∀ L, st l L = 2 * kp l l.length (L - 1) := fun _ => rfl
  generalize Dec l b p = DEC at *
  generalize st l = ST at *
  generalize xv b p = XV at *
  generalize bt b = BT at *
  generalize kp l l.length = KP at *
  generalize cn l = CN at *
  generalize WL l = W at *
  generalize hT : 8 * b.length = T at *
  generalize b.length = lb at *
  generalize hn : l.length = n at *
  have hto : ∀ i : Nat, vtoN (i : Int) = i := fun i => by simp only [qtoN, Int.toNat_natCast]
  have hadd0 : ∀ i, vaddN 0 i = i := fun i => by simp only [qaddN, Nat.zero_add]
  have hvl : vln l = n := by simp only [qln]; exact hn
  have hvW : vln W = n := by simp only [qln]; exact hWlen
  have hvgd : ∀ l i, vgd l i = l.getD i 0 := fun l i => by simp only [qgd]
  have hne0 : vc .neq 0 0 = false := by rw [qc]; rfl
  have hne1 : vc .neq 10 0 = true := by rw [qc]; rfl
  cbv
  refine loop_fam (α := Int × Int × Int) ([10, 11, 12] ++ [13, 14, 15, 16, 17, 18, 19, 20, 21, 22, 23, 24, 25, 26, 27, 28, 29, 30, 31, 32, 33, 34, 35, 36, 37, 38, 39, 40, 41, 42, 43, 44, 45, 46, 47, 48, 49, 50, 51, 52]) [] (fun (k, x, _) => [(9, .int .i64 k), (8, .int .i64 x)])
    (fun (_, _, pI) => [(0, .one 76 [.slice 1 .z 1 lb cap, .int .i64 pI])])
    (fun (k, x, pI) => ∃ L : Nat, k = L ∧ 1 ≤ L ∧ L ≤ 16 ∧ x = XV (L - 1) ∧ pI = ((p + (L - 1) : Nat) : Int) ∧ p + (L - 1) ≤ T ∧ (∀ j, j < L → KP j ≤ XV j)) (fun (k, _) => 16 - k.toNat) hw hm ?_ ?_
  · refine Cv.genAt [9, 8] [0] (Cv.fold ([10, 11, 12] ++ [13, 14, 15, 16, 17, 18, 19, 20, 21, 22, 23, 24, 25, 26, 27, 28, 29, 30, 31, 32, 33, 34, 35, 36, 37, 38, 39, 40, 41, 42, 43, 44, 45, 46, 47, 48, 49, 50, 51, 52]) 4 [] (by exact Nat.le_refl _) (by exact Nat.le_of_ble_eq_true rfl) (by rfl) (by cbv) ?_)
    intro js
    refine ⟨(_, _, _), ?_, js, rfl⟩
    exact ⟨1, rfl, by omega, by omega, hx0.symm, hpI, hp, fun j hj => by (have h0 : j = 0 := by omega); subst h0; omega⟩
  · rintro ⟨k, x, pI⟩ js ⟨L, hk, hL1, hL2, hx, hpI, hpT, hj⟩
    cbv
    split
    · rename_i hlt
      have hlt : L ≤ 15 := by rw [qc, leq_eq] at hlt; simp only [decide_eq_true_eq] at hlt; simp only [nc] at *; omega
      have hrd1 := hrd pI (p + (L - 1)) hpI hpT
      cbv
      refine call_con (ρ := [(0, .z), (1, .z)]) hrd1 ⟨by rfl, by rfl, by rfl, by cbv; exact ⟨view_refl _, trivial⟩⟩ ?_
      rintro v H R js2 ⟨y, e, pI2, pos2, rfl, hpI2, hcase, rfl, rfl⟩
      cbv
      rcases hcase with ⟨rfl, hp1, hy, rfl⟩ | ⟨rfl, hp1, rfl⟩
      rotate_left
      · rw [hne1]
        cbv
        exact ⟨0, 10, _, _, rfl, hpI2, hD2 (L - 1) (by omega) (by omega) (fun j h => hj j (by omega)), rfl, rfl⟩
      rw [hne0]
      cbv
      obtain ⟨M, rfl⟩ : ∃ M, L = M + 1 := ⟨L - 1, by omega⟩
      simp only [nc] at hk
      simp only [Nat.add_sub_cancel] at hx hpT hy hp1 hpI2
      have hxL := hxs M
      have hstL := hst (M + 1)
      simp only [Nat.add_sub_cancel] at hstL
      have hb1 := hbt (p + M)
      have hxr1 := hxr (M + 1)
      have hxr0 := hxr M
      have hj0 := hj M (by omega)
      have hkp0 := hkp M
      have hall : ∀ kk : Int, kk = ((M + 1 : Nat) : Int) → KP (M + 1) = ST (M + 1) + CN kk n ∧ (∀ u : Nat, 0 ≤ CN kk u ∧ CN kk u ≤ u) ∧ (∀ q, 0 ≤ q → q < CN kk n → ∃ i, i < n ∧ l.getD i 0 = kk ∧ CN kk i = q) ∧
          (∀ u, u < n → l.getD u 0 = kk → W.getD u 0 = ST (M + 1) + CN kk u) ∧ (∀ u, u < n → l.getD u 0 = kk → CN kk u + 1 ≤ CN kk n) ∧
          (∀ i, XV (M + 1) < KP (M + 1) → i < n → l.getD i 0 = kk → CN kk i = XV (M + 1) - ST (M + 1) → DEC i 0 (p + (M + 1))) := by
        rintro kk rfl
        exact ⟨hks (M + 1) (by omega), hcr _, hfind (M + 1), fun u h1 h2 => hWg u (M + 1) h1 (by omega) h2, fun u h1 h2 => ‹∀ u L : Nat, u < n → l.getD u 0 = L → CN L u + 1 ≤ CN L n› u (M + 1) h1 h2,
          fun i h1 h2 h3 h4 => hD1 (M + 1) i (by omega) hlt (by omega) hj h1 h2 h3 h4⟩
      obtain ⟨hkL, hcr1, hfind, hWg, hlt', hD1⟩ := hall k hk
      have hcn := hcr1 n
      have hpw : (2 : Int) ^ (M + 1) ≤ 2 ^ 15 := pow_up hlt
      have hpw0 : (2 : Int) ^ M ≤ 2 ^ 15 := pow_up (by omega)
      have htp := hktop (M + 1) hlt
      obtain ⟨x1, hx1⟩ : ∃ x1, x1 = XV (M + 1) := ⟨_, rfl⟩
      obtain ⟨x2, hx2⟩ : ∃ x2, x2 = 2 * x := ⟨_, rfl⟩
      have em1 : vb .mul .i64 2 x = x2 := by rw [qb, mul_i64 (by omega) (by omega)]; omega
      have ew1 : vw .i64 y = y := by rw [qw]; exact wrap_i64 (by omega) (by omega)
      have ea1 : vb .add .i64 x2 y = x1 := by rw [qb, add_i64 (by omega) (by omega)]; omega
      have hmu : ∀ k1 : Int, k1 = ((M + 1 + 1 : Nat) : Int) → ∀ _ : Unit, 16 - k1.toNat < 16 - k.toNat := by intro k1 h _; omega
      obtain ⟨k1, hk1⟩ : ∃ k1 : Int, k1 = ((M + 1 + 1 : Nat) : Int) := ⟨_, rfl⟩
      have hmu := hmu k1 hk1
      have ek : vb .add .i64 k 1 = k1 := by rw [qb, add_i64 (by omega) (by omega)]; omega
      rw [em1, ew1, ea1]
      refine loop_fam (α := Int) [30, 31, 32, 33, 34, 35, 36, 37, 38, 39, 40, 41, 42, 43, 44, 45, 46, 47, 48, 49, 50, 51, 52] [] (fun q => [(12, .int .i64 q)]) (fun _ => [])
        (fun q => ∃ u : Nat, q = u ∧ u ≤ n ∧ ∀ t, t < u → l.getD t 0 = k → W.getD t 0 ≠ x1) (fun q => n - q.toNat) hw hm ?_ ?_
      · refine Cv.genAt [12] [] (Cv.fold [30, 31, 32, 33, 34, 35, 36, 37, 38, 39, 40, 41, 42, 43, 44, 45, 46, 47, 48, 49, 50, 51, 52] 4 [] (by exact Nat.le_refl _) (by exact Nat.le_of_ble_eq_true rfl) (by rfl) (by cbv) ?_)
        intro js
        refine ⟨_, ?_, js, rfl⟩
        exact ⟨0, rfl, by omega, fun t h => by omega⟩
      · rintro q js3 ⟨u, hq, hu, hno⟩
        cbv
        split
        · rename_i hlt2
          cbv
          have hlt2 : u < n := by rw [qc, lss_true] at hlt2; simp only [qofN] at hlt2; simp only [nc] at *; omega
          have hti : vtoN q = u := by rw [hq]; exact hto u
          have hinR : 0 ≤ q ∧ q < (n : Int) := by simp only [nc] at *; omega
          obtain ⟨q1, hq1⟩ : ∃ q1 : Int, q1 = ((u + 1 : Nat) : Int) := ⟨_, rfl⟩
          have eq1 : vb .add .i64 q 1 = q1 := by simp only [nc] at *; rw [qb, add_i64 (by omega) (by omega)]; omega
          have hmu2 : ∀ _ : Unit, n - q1.toNat < n - q.toNat := fun _ => by simp only [nc] at *; omega
          have hxu := hu8 u
          have hxu1 := hl15 u
          have hlu : u < vln l := by omega
          have hlW : u < vln W := by omega
          have hWu := hWg u hlt2
          have hltu := hlt' u hlt2
          have hcru := hcr1 u
          have hDu := hD1 u
          rw [← hq] at hDu
          have hno2 : (l.getD u 0 = k → W.getD u 0 ≠ x1) → ∀ t, t < u + 1 → l.getD t 0 = k → W.getD t 0 ≠ x1 := fun h t ht h2 => by
            by_cases e : t = u
            · subst e; exact h h2
            · exact hno t (by omega) h2
          rw [hti, hadd0, hvgd l]
          refine ⟨⟨hinR⟩, ⟨hlu⟩, ⟨hlu⟩, ?_⟩
          generalize hxg : l.getD u 0 = g at *
          have ewg : vw .i64 g = g := by rw [qw]; exact wrap_i64 (by omega) (by omega)
          rw [ewg]
          generalize hz3 : vc .eql g k = z3
          cases z3
          · rw [qc, eql_false] at hz3
            cbv
            rw [eq1]
            refine Cv.fold [30, 31, 32, 33, 34, 35, 36, 37, 38, 39, 40, 41, 42, 43, 44, 45, 46, 47, 48, 49, 50, 51, 52] 4 [] (by exact Nat.le_refl _) (by exact Nat.le_of_ble_eq_true rfl) (by rfl) (by cbv) ?_
            intro js
            refine ⟨_, ?_, js, rfl⟩
            exact ⟨⟨u + 1, hq1, hlt2, hno2 (fun h => absurd h hz3)⟩, hmu2 ()⟩
          · rw [qc, eql_true] at hz3
            have hWu := hWu hz3
            have hltu := hltu hz3
            have hDu := fun h => hDu h hlt2 hz3
            have hkp1 := hkp (M + 1 - 1)
            generalize hwv : W.getD u 0 = wv at *
            have ewv : vw .i64 wv = wv := by rw [qw]; exact wrap_i64 (by omega) (by omega)
            cbv
            rw [hti, hadd0, hvgd W, hwv, ewv]
            refine ⟨⟨hinR⟩, ⟨hlW⟩, ⟨hlW⟩, ?_⟩
            generalize hz4 : vc .eql wv x1 = z4
            cases z4
            · rw [qc, eql_false] at hz4
              cbv
              rw [eq1]
              refine Cv.fold [30, 31, 32, 33, 34, 35, 36, 37, 38, 39, 40, 41, 42, 43, 44, 45, 46, 47, 48, 49, 50, 51, 52] 4 [] (by exact Nat.le_refl _) (by exact Nat.le_of_ble_eq_true rfl) (by rfl) (by cbv) ?_
              intro js
              refine ⟨_, ?_, js, rfl⟩
              exact ⟨⟨u + 1, hq1, hlt2, hno2 (fun _ => hz4)⟩, hmu2 ()⟩
            · rw [qc, eql_true] at hz4
              have hDu := hDu (by omega) (by omega)
              cbv
              exact ⟨q, 0, pI2, _, rfl, hpI2, hDu, rfl, rfl⟩
        · rename_i hge
          cbv
          have hui : u = n := by rw [qc, lss_false] at hge; simp only [qofN] at hge; simp only [nc] at *; omega
          subst hui
          have hfull : KP (M + 1) ≤ XV (M + 1) := by
            by_cases h : KP (M + 1) ≤ XV (M + 1)
            · exact h
            · obtain ⟨i, h1, h2, h3⟩ := hfind (XV (M + 1) - ST (M + 1)) (by omega) (by omega)
              exact absurd (by rw [hWg i h1 h2, h3]; omega) (hno i h1 h2)
          rw [ek]
          refine Cv.fold ([10, 11, 12] ++ [13, 14, 15, 16, 17, 18, 19, 20, 21, 22, 23, 24, 25, 26, 27, 28, 29, 30, 31, 32, 33, 34, 35, 36, 37, 38, 39, 40, 41, 42, 43, 44, 45, 46, 47, 48, 49, 50, 51, 52]) 4 [] (by exact Nat.le_refl _) (by exact Nat.le_of_ble_eq_true rfl) (by rfl) (by cbv) ?_
          intro js
          refine ⟨(_, _, _), ?_, js, rfl⟩
          refine ⟨⟨M + 1 + 1, hk1, by omega, by omega, hx1, hpI2, by simp only [Nat.add_sub_cancel]; omega, fun j h => ?_⟩, hmu ()⟩
          by_cases hjM : j = M + 1
          · subst hjM; exact hfull
          · exact hj j (by omega)
    · rename_i hge
      have hL : L = 16 := by rw [qc, leq_eq] at hge; simp only [Bool.not_eq_true, decide_eq_false_iff_not] at hge; simp only [nc] at *; omega
      have := hj 15 (by omega)
      omega
theorem refread5_ok (l b : List Int) (p cap cap2 : Nat) (pI : Int) (hpI : pI = p) (hlu : ∀ c ∈ l, isU8 c) (h5 : Right5 l) (hby : ∀ x ∈ b, isByte x) (hl : b.length ≤ 2 ^ 50) (hp : p ≤ 8 * b.length) :
    Con Try.prog 55 [.ptr 0 .z 2 0, .slice 2 .z 1 l.length cap2] [.one 76 [.slice 1 .z 1 b.length cap, .int .i64 pI], .ro .u8 b, .ro .u8 l]
      (fun v H R => ∃ s e qI : Int, ∃ q : Nat, v = .tup [.int .i64 s, .int .i64 e] ∧ qI = q ∧ Dec l b p s e q ∧ R = [] ∧
        H = [.one 76 [.slice 1 .z 1 b.length cap, .int .i64 qI], .ro .u8 b, .ro .u8 l]) := by
  have hR := h5.rt hlu
  have hrt := refright5_con l cap2 hlu (by have := hR.n1; omega) true (by simp [h5])
  have hwo := refwords_con l cap2 hR
  have hwd : Con Try.prog 96 [.ptr 0 .z 2 0, .slice 2 .z 1 l.length cap2, .slice 3 .z 1 l.length l.length] [.one 76 [.slice 1 .z 1 b.length cap, .int .i64 pI], .ro .u8 b, .ro .u8 l, .ro .u16 (WL l)]
      (fun v H R => ∃ s e qI : Int, ∃ q : Nat, v = .tup [.int .i64 s, .int .i64 e] ∧ qI = q ∧ Dec l b p s e q ∧ R = [] ∧
        H = [.one 76 [.slice 1 .z 1 b.length cap, .int .i64 qI], .ro .u8 b, .ro .u8 l, .ro .u16 (WL l)]) := by
    subst hpI
    refine (refword_con l b p cap cap2 l.length hR hby hl hp).mono ?_
    rintro v H R ⟨s, e, q, rfl, h, rfl, rfl⟩
    exact ⟨s, e, _, q, rfl, rfl, h, rfl, rfl⟩
  refine con_gen (con_cut 3 (by simp) (con_drop (con_walk hmix fn55 ?_)))
  intro vb vc vw vtoN vofN vaddN vsubN vmaxI vminI vcutN vgd vst vln vrep vsub vonto vsplice vstrEq vbyteV vnotB veqB hw qb qc qw qtoN qofN qaddN qsubN qmaxI qminI qcutN qgd qst qln qrep qsub qonto qsplice qstrEq qbyteV qnotB qeqB
  have hm := hmix; generalize Try.prog = P at *
  generalize Dec l b p = DEC at *
  generalize WL l = W at *
  generalize b.length = lb at *
  generalize hn : l.length = n at *
  have hnf1 : vnotB true = false := by simp only [qnotB]; rfl
  cbv
  refine call_con (ρ := [(2, .z)]) hrt ⟨by rfl, by rfl, by rfl, by cbv; exact ⟨view_refl _, trivial⟩⟩ ?_
  rintro v H R js ⟨rfl, rfl, rfl⟩
  cbv
  rw [hnf1]
  cbv
  refine call_con (ρ := [(2, .z)]) hwo ⟨by rfl, by rfl, by rfl, by cbv; exact ⟨view_refl _, trivial⟩⟩ ?_
  rintro v H R js ⟨rfl, rfl, rfl⟩
  cbv
  refine call_con (ρ := [(0, .z), (1, .z), (2, .z), (3, .z)]) hwd ⟨by rfl, by rfl, by rfl, by cbv; exact ⟨view_refl _, view_refl _, view_refl _, trivial⟩⟩ ?_
  rintro v H R js ⟨s, e, qI, q, rfl, hq, hd, rfl, rfl⟩
  cbv
  exact ⟨s, e, qI, q, rfl, hq, hd, rfl, rfl⟩
theorem refread5_bad (l b : List Int) (lb cap cap2 : Nat) (pI : Int) (hlu : ∀ c ∈ l, isU8 c) (hlen : l.length ≤ 9223372036854775807) (h5 : ¬ Right5 l) :
    Con Try.prog 55 [.ptr 0 .z 2 0, .slice 2 .z 1 l.length cap2] [.one 76 [.slice 1 .z 1 lb cap, .int .i64 pI], .ro .u8 b, .ro .u8 l]
      (fun v H R => v = .tup [.int .i64 0, .int .i64 50] ∧ R = [] ∧ H = [.one 76 [.slice 1 .z 1 lb cap, .int .i64 pI], .ro .u8 b, .ro .u8 l]) := by
  have hrt := refright5_con l cap2 hlu hlen false (by simp [h5])
  refine con_gen (con_cut 3 (by simp) (con_drop (con_walk hmix fn55 ?_)))
  intro vb vc vw vtoN vofN vaddN vsubN vmaxI vminI vcutN vgd vst vln vrep vsub vonto vsplice vstrEq vbyteV vnotB veqB hw qb qc qw qtoN qofN qaddN qsubN qmaxI qminI qcutN qgd qst qln qrep qsub qonto qsplice qstrEq qbyteV qnotB qeqB
  have hm := hmix; generalize Try.prog = P at *
  generalize hn : l.length = n at *
  have hnf1 : vnotB false = true := by simp only [qnotB]; rfl
  cbv
  refine call_con (ρ := [(2, .z)]) hrt ⟨by rfl, by rfl, by rfl, by cbv; exact ⟨view_refl _, trivial⟩⟩ ?_
  rintro v H R js ⟨rfl, rfl, rfl⟩
  cbv
  rw [hnf1]
  cbv
end Go.Proofs.Ytodobmkflimfkaa
namespace Go.Proofs.Ytodobmkflimfkaa
open Go Go.Sx Go.Proofs
/-! What is written is read. -/
/-- The bits of a row of symbols. -/
def cbs (l : List Int) (cs : List Int) : List Int := cs.flatMap (wB l)
theorem cbs_snoc (l cs : List Int) (s : Int) : cbs l (cs ++ [s]) = cbs l cs ++ wB l s := by simp [cbs]
theorem wB_length (l : List Int) (s : Int) : (wB l s).length = if WV l s then (l.getD s.toNat 0).toNat else 0 := by
  unfold wB; split
  · exact mb_length _ _ _
  · rfl
theorem bt_pack (bs : List Int) (hb : ∀ b ∈ bs, isBit b) (p : Nat) : bt (pack bs) p = bs.getD p 0 := by
  have := bitL_pack bs hb p 1
  simpa [bval, bt] using this
theorem kp_up (l : List Int) (i j : Nat) : ∀ d, 2 ^ d * kp l i j ≤ kp l i (j + d)
  | 0 => by simp
  | d + 1 => by
    have h1 := kp_up l i j d
    have h2 := kp_mono l i (j + d)
    have e : (2 : Int) ^ (d + 1) * kp l i j = 2 * (2 ^ d * kp l i j) := by rw [Int.pow_succ, Int.mul_comm (2 ^ d) 2, Int.mul_assoc]
    rw [e]
    show _ ≤ kp l i (j + d + 1)
    omega
theorem wd_range {l : List Int} (hR : Rt l) {s : Nat} (hs : s < l.length) (h0 : l.getD s 0 ≠ 0) {L : Nat} (hL : l.getD s 0 = L) : st l L ≤ wd l s ∧ wd l s < kp l l.length L ∧ wd l s < 2 ^ L ∧ cn l L s = wd l s - st l L := by
  have h1 := cn_lt l hs
  rw [hL] at h1
  have h2 := (cn_range l L s).1
  have h3 : kp l l.length L = st l L + cn l L l.length := by
    obtain ⟨k, rfl⟩ : ∃ k, L = k + 1 := ⟨L - 1, by omega⟩
    simp [kp, st]
  have h4 := hR.l15 s
  have h5 := hR.top L (by omega)
  have e : wd l s = st l L + cn l L s := by unfold wd; rw [hL]; simp
  rw [e]
  exact ⟨by omega, by omega, by omega, by omega⟩
theorem half (w : Int) (L j : Nat) (h : j + 1 ≤ L) : 2 * (w / 2 ^ (L - j)) + w / 2 ^ (L - 1 - j) % 2 = w / 2 ^ (L - (j + 1)) := by
  obtain ⟨d, hd⟩ : ∃ d, L - j = d + 1 := ⟨L - j - 1, by omega⟩
  have e1 : L - 1 - j = d := by omega
  have e2 : L - (j + 1) = d := by omega
  rw [hd, e1, e2, Int.pow_succ, ← Int.ediv_ediv_of_nonneg (Int.le_of_lt (Int.pow_pos (by decide)))]
  omega
theorem xv_word {b : List Int} {p : Nat} {w : Int} {L : Nat} (hw : 0 ≤ w ∧ w < 2 ^ L) (hb : ∀ j, j < L → bt b (p + j) = w / 2 ^ (L - 1 - j) % 2) : ∀ j, j ≤ L → xv b p j = w / 2 ^ (L - j)
  | 0, _ => by simp only [xv, Nat.sub_zero]; rw [Int.ediv_eq_zero_of_lt hw.1 hw.2]
  | j + 1, h => by
    simp only [xv]
    rw [xv_word hw hb j (by omega), hb j (by omega), half w L j h]
theorem Dec.word {l b : List Int} (hR : Rt l) {p s : Nat} (hs : s < l.length) (h0 : l.getD s 0 ≠ 0) {L : Nat} (hL : l.getD s 0 = L) (hp : p + L ≤ 8 * b.length) (hb : ∀ j, j < L → bt b (p + j) = wd l s / 2 ^ (L - 1 - j) % 2) : Dec l b p s 0 (p + L) := by
  obtain ⟨h1, h2, h3, h4⟩ := wd_range hR hs h0 hL
  have hst : 0 ≤ st l L := by have := kp_nonneg l l.length (L - 1); unfold st; omega
  have hx := xv_word (p := p) ⟨by omega, h3⟩ hb
  have hLs : 1 ≤ L := by omega
  refine .inl ⟨L, s, hLs, by have := hR.l15 s; omega, hp, fun j hj => ?_, ?_, hs, hL, ?_, rfl, rfl, rfl⟩
  · rw [hx j (by omega)]
    have hk := kp_up l l.length j (L - 1 - j)
    rw [show j + (L - 1 - j) = L - 1 by omega] at hk
    have e : (2 : Int) ^ (L - j) = 2 * 2 ^ (L - 1 - j) := by
      rw [show L - j = (L - 1 - j) + 1 by omega, Int.pow_succ]; omega
    have hp2 : (0 : Int) < 2 ^ (L - j) := Int.pow_pos (by decide)
    rw [Int.le_ediv_iff_mul_le hp2, e]
    have e3 : kp l l.length j * (2 * 2 ^ (L - 1 - j)) = 2 * (2 ^ (L - 1 - j) * kp l l.length j) := by
      rw [← Int.mul_assoc, Int.mul_comm _ 2, Int.mul_assoc, Int.mul_comm (kp l l.length j)]
    rw [e3]
    unfold st at h1
    omega
  · rw [hx L (Nat.le_refl _), Nat.sub_self]; simpa using h2
  · rw [hx L (Nat.le_refl _), Nat.sub_self]; simpa using h4
theorem mb_getD (w : Int) (L k j : Nat) (h : j < k) : (mb w L k).getD j 0 = w / 2 ^ (L - 1 - j) % 2 := by
  simp [mb, List.getD_eq_getElem?_getD, List.getElem?_map, List.getElem?_range h]
/-- The word of a symbol among bits. -/
theorem Dec.of_wB {l pre rest : List Int} (hR : Rt l) {s : Int} (hs : WV l s) (hb : ∀ b ∈ pre ++ wB l s ++ rest, isBit b) : Dec l (pack (pre ++ wB l s ++ rest)) pre.length s 0 (pre ++ wB l s).length := by
  have hlen := wB_length l s
  rw [if_pos hs] at hlen
  have e2 : wB l s = mb (wd l s.toNat) (l.getD s.toNat 0).toNat (l.getD s.toNat 0).toNat := by unfold wB; rw [if_pos hs]
  obtain ⟨h1, h2, h3⟩ := hs
  have hu := hR.u8 s.toNat
  obtain ⟨L, hL⟩ : ∃ L : Nat, l.getD s.toNat 0 = L := ⟨(l.getD s.toNat 0).toNat, by omega⟩
  rw [hL] at e2 hlen
  simp only [Int.toNat_natCast] at e2 hlen
  have := Dec.word (b := pack (pre ++ wB l s ++ rest)) (p := pre.length) hR (s := s.toNat) (by omega) h3 hL (by rw [pack_length]; simp only [List.length_append]; omega) (fun j hj => by
    rw [bt_pack _ hb, e2, List.append_assoc, List.getD_eq_getElem?_getD, List.getElem?_append_right (by omega), List.getElem?_append_left (by rw [mb_length]; omega), ← List.getD_eq_getElem?_getD, show pre.length + j - pre.length = j by omega, mb_getD _ _ _ _ hj])
  rw [show ((s.toNat : Nat) : Int) = s by omega] at this
  rw [List.length_append, hlen]
  exact this
theorem cbs_split (l cs : List Int) {i : Nat} (h : i < cs.length) : cbs l cs = cbs l (cs.take i) ++ wB l (cs.getD i 0) ++ cbs l (cs.drop (i + 1)) := by
  have e : cs = cs.take i ++ (cs.getD i 0 :: cs.drop (i + 1)) := by
    rw [List.getD_eq_getElem?_getD, List.getElem?_eq_getElem h, Option.getD_some, ← List.drop_eq_getElem_cons h, List.take_append_drop]
  conv => lhs; rw [e]
  simp [cbs]
theorem cbs_take (l cs : List Int) {i : Nat} (h : i < cs.length) : cbs l (cs.take (i + 1)) = cbs l (cs.take i) ++ wB l (cs.getD i 0) := by
  rw [List.take_add_one, List.getElem?_eq_getElem h]
  rw [List.getD_eq_getElem?_getD, List.getElem?_eq_getElem h, Option.getD_some]
  exact cbs_snoc l _ _
/-- What stands at the i-th word's place is read as it was written. -/
theorem cbs_dec {l cs : List Int} (hR : Rt l) (hv : ∀ s ∈ cs, WV l s) (hb : ∀ b ∈ cbs l cs, isBit b) {i : Nat} (h : i < cs.length) : Dec l (pack (cbs l cs)) (cbs l (cs.take i)).length (cs.getD i 0) 0 (cbs l (cs.take (i + 1))).length := by
  have hs : WV l (cs.getD i 0) := hv _ (by rw [List.getD_eq_getElem?_getD, List.getElem?_eq_getElem h]; exact List.getElem_mem _)
  have e := cbs_split l cs h
  rw [cbs_take l cs h]
  rw [e] at hb ⊢
  exact Dec.of_wB hR hs hb
theorem cbs_length {l : List Int} (hR : Rt l) (cs : List Int) : (cbs l cs).length ≤ 15 * cs.length := by
  induction cs with
  | nil => simp [cbs]
  | cons s cs ih =>
    have h1 := wB_length l s
    have h2 := hR.l15 s.toNat
    have : (wB l s).length ≤ 15 := by rw [h1]; split <;> omega
    have e : cbs l (s :: cs) = wB l s ++ cbs l cs := by simp [cbs]
    rw [e, List.length_append, List.length_cons]
    omega
end Go.Proofs.Ytodobmkflimfkaa
