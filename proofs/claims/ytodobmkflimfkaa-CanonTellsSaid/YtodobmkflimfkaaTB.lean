import Derived.Test.YtodobmkflimfkaaTA
import Derived.Test.YtodobmkflimfkaaBB
namespace Go.Proofs.Ytodobmkflimfkaa
open Go Go.Sx Go.Proofs
/-! Lengths of a code, plainly. -/
def isU8 (x : Int) : Prop := 0 ≤ x ∧ x < 256
def nz (l : List Int) : Nat → Int
  | 0 => 0
  | i + 1 => nz l i + (if l.getD i 0 > 0 then 1 else 0)
def ks (l : List Int) : Nat → Int
  | 0 => 0
  | i + 1 => ks l i + (if l.getD i 0 > 0 then 2 ^ (15 - l.getD i 0).toNat else 0)
/-- Lengths make a code. -/
def Right5 (l : List Int) : Prop := l.length ≤ 1024 ∧ (∀ i, i < l.length → l.getD i 0 ≤ 15) ∧ 2 ≤ nz l l.length ∧ ks l l.length = 32768
/-- How many of the first i have length k. -/
def cn (l : List Int) (k : Int) : Nat → Int
  | 0 => 0
  | i + 1 => cn l k i + (if l.getD i 0 = k then 1 else 0)
def kp (l : List Int) (i : Nat) : Nat → Int
  | 0 => 0
  | L + 1 => 2 * kp l i L + cn l (L + 1 : Nat) i
/-- The first word of a length. -/
def st (l : List Int) (L : Nat) : Int := 2 * kp l l.length (L - 1)
/-- A symbol's word. -/
def wd (l : List Int) (i : Nat) : Int := st l (l.getD i 0).toNat + cn l (l.getD i 0) i
theorem pow_up {a : Nat} : ∀ {b : Nat}, a ≤ b → (2 : Int) ^ a ≤ 2 ^ b
  | 0, h => by obtain rfl : a = 0 := by omega
               exact Int.le_refl _
  | b + 1, h => by
    by_cases e : a = b + 1
    · subst e; exact Int.le_refl _
    · have := pow_up (a := a) (b := b) (by omega)
      have hp : (0 : Int) < 2 ^ b := Int.pow_pos (by omega)
      rw [Int.pow_succ]; omega
theorem getD_mem_or5 {l : List Int} (i : Nat) : l.getD i 0 ∈ l ∨ l.getD i 0 = 0 := by
  by_cases h : i < l.length
  · left; simp [List.getD_eq_getElem?_getD, List.getElem?_eq_getElem h]
  · right; simp [List.getD_eq_getElem?_getD, List.getElem?_eq_none (by omega : l.length ≤ i)]
theorem nz_range (l : List Int) : ∀ i : Nat, 0 ≤ nz l i ∧ nz l i ≤ i
  | 0 => by simp [nz]
  | i + 1 => by have := nz_range l i; simp only [nz]; split <;> omega
theorem ks_range (l : List Int) (h0 : ∀ i, 0 ≤ l.getD i 0) : ∀ i : Nat, 0 ≤ ks l i ∧ ks l i ≤ 16384 * i
  | 0 => by simp [ks]
  | i + 1 => by
    have := ks_range l h0 i
    simp only [ks]
    split
    · rename_i h
      have hp : (0 : Int) < 2 ^ (15 - l.getD i 0).toNat := Int.pow_pos (by omega)
      have hq : (2 : Int) ^ (15 - l.getD i 0).toNat ≤ 2 ^ 14 := pow_up (by omega)
      omega
    · omega
theorem cn_range (l : List Int) (k : Int) : ∀ i : Nat, 0 ≤ cn l k i ∧ cn l k i ≤ i
  | 0 => by simp [cn]
  | i + 1 => by have := cn_range l k i; simp only [cn]; split <;> omega
theorem cn_mono (l : List Int) (k : Int) {i : Nat} : ∀ {j : Nat}, i ≤ j → cn l k i ≤ cn l k j
  | 0, h => by obtain rfl : i = 0 := by omega
               exact Int.le_refl _
  | j + 1, h => by
    by_cases e : i = j + 1
    · subst e; exact Int.le_refl _
    · have := cn_mono l k (i := i) (j := j) (by omega)
      simp only [cn]; split <;> omega
theorem cn_lt (l : List Int) {i j : Nat} (h : i < j) : cn l (l.getD i 0) i + 1 ≤ cn l (l.getD i 0) j := by
  have := cn_mono l (l.getD i 0) (i := i + 1) (j := j) (by omega)
  simp only [cn, if_true] at this
  exact this
/-- There is one that has so many of its length ahead. -/
theorem cn_find (l : List Int) (k q : Int) (hq : 0 ≤ q) : ∀ {n : Nat}, q < cn l k n → ∃ i, i < n ∧ l.getD i 0 = k ∧ cn l k i = q
  | 0, h => by simp only [cn] at h; omega
  | n + 1, h => by
    by_cases h1 : q < cn l k n
    · obtain ⟨i, h2, h3⟩ := cn_find l k q hq h1
      exact ⟨i, by omega, h3⟩
    · simp only [cn] at h
      split at h
      · rename_i e; exact ⟨n, by omega, e, by omega⟩
      · omega
theorem kp_mono (l : List Int) (i L : Nat) : 2 * kp l i L ≤ kp l i (L + 1) := by
  have := (cn_range l ((L + 1 : Nat) : Int) i).1
  simp only [kp]; omega
theorem kp_nonneg (l : List Int) (i : Nat) : ∀ L, 0 ≤ kp l i L
  | 0 => by simp [kp]
  | L + 1 => by have := kp_nonneg l i L; have := kp_mono l i L; omega
theorem kp_step (l : List Int) (i : Nat) (h0 : 0 ≤ l.getD i 0) (h15 : l.getD i 0 ≤ 15) : kp l (i + 1) 15 = kp l i 15 + (if l.getD i 0 > 0 then 2 ^ (15 - l.getD i 0).toNat else 0) := by
  simp only [kp, cn]
  generalize l.getD i 0 = x at *
  have : x = 0 ∨ x = 1 ∨ x = 2 ∨ x = 3 ∨ x = 4 ∨ x = 5 ∨ x = 6 ∨ x = 7 ∨ x = 8 ∨ x = 9 ∨ x = 10 ∨ x = 11 ∨ x = 12 ∨ x = 13 ∨ x = 14 ∨ x = 15 := by omega
  rcases this with rfl | rfl | rfl | rfl | rfl | rfl | rfl | rfl | rfl | rfl | rfl | rfl | rfl | rfl | rfl | rfl <;> simp <;> omega
theorem kp_zero (l : List Int) : ∀ L, kp l 0 L = 0
  | 0 => rfl
  | L + 1 => by simp [kp, cn, kp_zero l L]
theorem kraft (l : List Int) (n : Nat) (h0 : ∀ i, 0 ≤ l.getD i 0) (h15 : ∀ i, i < n → l.getD i 0 ≤ 15) : ∀ i, i ≤ n → kp l i 15 = ks l i
  | 0, _ => by rw [kp_zero]; rfl
  | i + 1, h => by rw [kp_step l i (h0 i) (h15 i (by omega)), kraft l n h0 h15 i (by omega)]; rfl
theorem kp_le (l : List Int) (i : Nat) (h : kp l i 15 ≤ 2 ^ 15) : ∀ d L, L + d = 15 → kp l i L ≤ 2 ^ L
  | 0, L, e => by obtain rfl : L = 15 := by omega
                  exact h
  | d + 1, L, e => by
    have h1 := kp_le l i h d (L + 1) (by omega)
    have h2 := kp_mono l i L
    have h3 : (2 : Int) ^ (L + 1) = 2 * 2 ^ L := by rw [Int.pow_succ]; omega
    omega
structure Rt (l : List Int) : Prop where
  n1 : l.length ≤ 1024
  u8 : ∀ i, 0 ≤ l.getD i 0
  l15 : ∀ i, l.getD i 0 ≤ 15
  full : kp l l.length 15 = 32768
  top : ∀ L, L ≤ 15 → kp l l.length L ≤ 2 ^ L
theorem getD_u8 {l : List Int} (h : ∀ x ∈ l, isU8 x) (i : Nat) : 0 ≤ l.getD i 0 ∧ l.getD i 0 < 256 := by
  rcases getD_mem_or5 (l := l) i with hh | hh
  · exact h _ hh
  · omega
theorem Right5.rt {l : List Int} (hl : ∀ x ∈ l, isU8 x) (h : Right5 l) : Rt l := by
  obtain ⟨h1, h2, h3, h4⟩ := h
  have h0 := fun i => (getD_u8 hl i).1
  have hk := kraft l l.length h0 h2 l.length (Nat.le_refl _)
  refine ⟨h1, h0, fun i => ?_, by omega, fun L hL => kp_le l _ (by omega) (15 - L) L (by omega)⟩
  by_cases hi : i < l.length
  · exact h2 i hi
  · simp only [List.getD_eq_getElem?_getD, List.getElem?_eq_none (by omega : l.length ≤ i), Option.getD_none]; omega
end Go.Proofs.Ytodobmkflimfkaa
namespace Go.Proofs.Ytodobmkflimfkaa
open Go Go.Sx Go.Proofs
/-! Do lengths make a code? canon.right and balerref05.Right. -/
theorem shl1 {x : Int} (h0 : 0 ≤ x) (h1 : x ≤ 62) : bV .shl .i64 1 x = 2 ^ x.toNat := by
  obtain ⟨n, rfl⟩ : ∃ n : Nat, x = n := ⟨x.toNat, by omega⟩
  have hn : n ≤ 62 := by omega
  show IntKind.i64.wrap (1 * 2 ^ (min ((n : Int).toNat) IntKind.i64.bits)) = 2 ^ ((n : Int).toNat)
  have e : min ((n : Int).toNat) IntKind.i64.bits = n := by simp [IntKind.bits]; omega
  have hp : (2 : Int) ^ n ≤ 2 ^ 62 := pow_up hn
  have hp0 : (0 : Int) < 2 ^ n := Int.pow_pos (by omega)
  rw [e, Int.one_mul, Int.toNat_natCast]
  exact wrap_i64 (by omega) (by omega)
theorem sub_u8 {x y : Int} (h0 : 0 ≤ x - y) (h1 : x - y < 256) : bV .sub .u8 x y = x - y := wrap_u8 h0 h1
set_option maxRecDepth 10000
set_option maxHeartbeats 40000000
theorem right5_con (l : List Int) (cap : Nat) (hl : ∀ c ∈ l, isU8 c) (hlen : l.length ≤ 9223372036854775807) (z : Bool) (hz : z = true ↔ Right5 l) :
    Con Try.prog 78 [.slice 0 .z 1 l.length cap] [.ro .u8 l] (fun v H R => v = .bool z ∧ H = [.ro .u8 l] ∧ R = []) := by
  refine con_gen (con_cut 1 (by simp) (con_drop (con_walk hmix fn78 ?_)))
  intro vb vc vw vtoN vofN vaddN vsubN vmaxI vminI vcutN vgd vst vln vrep vsub vonto vsplice vstrEq vbyteV vnotB veqB hw qb qc qw qtoN qofN qaddN qsubN qmaxI qminI qcutN qgd qst qln qrep qsub qonto qsplice qstrEq qbyteV qnotB qeqB
  have hm := hmix; generalize Try.prog = P at *
  have hge := getD_u8 hl
  have hA : z = true ↔ (l.length ≤ 1024 ∧ (∀ i, i < l.length → l.getD i 0 ≤ 15) ∧ 2 ≤ nz l l.length ∧ ks l l.length = 32768) := hz
  clear hz
  have hzr := nz_range l
  have hkr := ks_range l (fun i => (hge i).1)
  have hz0 : nz l 0 = 0 := rfl
  have hk0 : ks l 0 = 0 := rfl
  have hzs : ∀ i, nz l (i + 1) = nz l i + (if l.getD i 0 > 0 then 1 else 0) := fun _ => rfl
  have hks : ∀ i, ks l (i + 1) = ks l i + (if l.getD i 0 > 0 then 2 ^ (15 - l.getD i 0).toNat else 0) := fun _ => rfl
  generalize nz l = NZ at *
  generalize ks l = KS at *
  generalize hn : l.length = n at *
  have hto : ∀ i : Nat, vtoN (i : Int) = i := fun i => by simp only [qtoN, Int.toNat_natCast]
  have hadd0 : ∀ i, vaddN 0 i = i := fun i => by simp only [qaddN, Nat.zero_add]
  have hvln : vln l = n := by simp only [qln, hn]
  have hvgd : ∀ i, vgd l i = l.getD i 0 := fun i => by simp only [qgd]
  cbv
  refine loop_fam (α := Int × Int × Int) ([6] ++ [10, 11, 12, 13, 14, 15, 16, 17, 18, 19, 20, 21, 22, 23, 24, 25]) [] (fun (k, m, a) => [(9, .int .i64 k), (3, .int .i64 m), (4, .int .i64 a)]) (fun _ => [])
    (fun (k, m, a) => ∃ i : Nat, k = i ∧ i ≤ n ∧ m = NZ i ∧ (i ≤ 1024 → a = KS i) ∧ ∀ j, j < i → l.getD j 0 ≤ 15) (fun (k, _) => n - k.toNat) hw hm ?_ ?_
  · refine Cv.genAt [9, 3, 4] [] (Cv.fold ([6] ++ [10, 11, 12, 13, 14, 15, 16, 17, 18, 19, 20, 21, 22, 23, 24, 25]) 1 [] (by exact Nat.le_refl _) (by exact Nat.le_of_ble_eq_true rfl) (by rfl) (by cbv) ?_)
    intro js
    refine ⟨(_, _, _), ?_, js, rfl⟩
    exact ⟨0, rfl, by omega, hz0.symm, fun _ => hk0.symm, fun j hj => by omega⟩
  · rintro ⟨k, m, a⟩ js ⟨i, hk, hi, hm1, ha, hj⟩
    have hsi := hzr i
    cbv
    split
    · rename_i hlt
      have hlt : i < n := by rw [qc, lss_true] at hlt; simp only [qofN] at hlt; simp only [nc] at *; omega
      have hti : vtoN k = i := by rw [hk]; exact hto i
      have hinR : 0 ≤ k ∧ k < (n : Int) := by simp only [nc] at *; omega
      obtain ⟨k1, hk1⟩ : ∃ k1 : Int, k1 = ((i + 1 : Nat) : Int) := ⟨_, rfl⟩
      have ek : vb .add .i64 k 1 = k1 := by simp only [nc] at *; rw [qb, add_i64 (by omega) (by omega)]; omega
      have em : vb .add .i64 m 1 = m + 1 := by simp only [nc] at *; rw [qb, add_i64 (by omega) (by omega)]
      have hmu : n - k1.toNat < n - k.toNat := by simp only [nc] at *; omega
      have hzi := hzs i
      have hki := hks i
      have hgi := hge i
      have hri := hkr i
      cbv
      rw [hti, hadd0, hvgd]
      refine ⟨⟨hinR⟩, ⟨by omega⟩, ⟨by omega⟩, ?_⟩
      have hlast : ∀ q, l.getD i 0 = q → (∀ j, j < i + 1 → l.getD j 0 ≤ 15) ∨ 15 < q := fun q hq => by
        by_cases h : q ≤ 15
        · exact .inl fun j h1 => by
            by_cases e : j = i
            · subst e; omega
            · exact hj j (by omega)
        · exact .inr (by omega)
      have hno : 15 < l.getD i 0 → z = false := fun h => by
        cases z
        · rfl
        · have := (hA.1 rfl).2.1 i (by omega); omega
      generalize hci : l.getD i 0 = ci at *
      have hlast := hlast ci rfl
      generalize h15 : vc .gtr ci 15 = z1
      cases z1
      rotate_left
      · rw [qc, gtr_true] at h15
        obtain rfl := hno h15
        cbv
      rw [qc, gtr_false] at h15
      have hlast := hlast.resolve_right (by omega)
      cbv
      generalize hz : vc .gtr ci 0 = z2
      cases z2
      · rw [qc, gtr_false] at hz
        rw [if_neg (by omega)] at hzi hki
        cbv
        rw [ek]
        refine Cv.fold ([6] ++ [10, 11, 12, 13, 14, 15, 16, 17, 18, 19, 20, 21, 22, 23, 24, 25]) 1 [] (by exact Nat.le_refl _) (by exact Nat.le_of_ble_eq_true rfl) (by rfl) (by cbv) ?_
        intro js
        refine ⟨(_, _, _), ?_, js, rfl⟩
        exact ⟨⟨i + 1, hk1, hlt, by omega, fun h => by have := ha (by omega); omega, hlast⟩, hmu⟩
      · rw [qc, gtr_true] at hz
        rw [if_pos (by omega)] at hzi hki
        have e1 : vb .sub .u8 15 ci = 15 - ci := by rw [qb]; exact sub_u8 (by omega) (by omega)
        have e2 : vw .u64 (15 - ci) = 15 - ci := by rw [qw]; exact wrap_u64 (by omega) (by omega)
        have e3 : vb .shl .i64 1 (15 - ci) = 2 ^ (15 - ci).toNat := by rw [qb]; exact shl1 (by omega) (by omega)
        have hp : (0 : Int) < 2 ^ (15 - ci).toNat := Int.pow_pos (by omega)
        have hq : (2 : Int) ^ (15 - ci).toNat ≤ 2 ^ 14 := pow_up (by omega)
        generalize (2 : Int) ^ (15 - ci).toNat = pw at *
        cbv
        rw [ek, em, e1, e2, e3]
        refine ⟨⟨by omega⟩, ?_⟩
        refine Cv.fold ([6] ++ [10, 11, 12, 13, 14, 15, 16, 17, 18, 19, 20, 21, 22, 23, 24, 25]) 1 [] (by exact Nat.le_refl _) (by exact Nat.le_of_ble_eq_true rfl) (by rfl) (by cbv) ?_
        intro js
        refine ⟨(_, _, _), ?_, js, rfl⟩
        refine ⟨⟨i + 1, hk1, hlt, by omega, fun h => ?_, hlast⟩, hmu⟩
        have := ha (by omega)
        simp only [nc] at *
        rw [qb, add_i64 (by omega) (by omega)]; omega
    · rename_i hge1
      have hin : i = n := by rw [qc, lss_false] at hge1; simp only [qofN] at hge1; simp only [nc] at *; omega
      subst hin
      have hand : ∀ z1 z2 z3 : Bool, (z1 = true ↔ i ≤ 1024) → (z2 = true ↔ 2 ≤ m) → (z3 = true ↔ a = 32768) → z = (if z1 then (if z2 then z3 else false) else false) := by
        intro z1 z2 z3 h1 h2 h3
        subst hm1
        cases z1
        · cases z
          · rfl
          · have := (hA.1 rfl).1; simp only [Bool.false_eq_true, false_iff] at h1; omega
        · cases z2
          · cases z
            · rfl
            · have := (hA.1 rfl).2.2.1; simp only [Bool.false_eq_true, false_iff] at h2; omega
          · have h4 := ha (h1.1 rfl)
            cases z3
            · cases z
              · rfl
              · have := (hA.1 rfl).2.2.2; simp only [Bool.false_eq_true, false_iff] at h3; omega
            · have := hA.2 ⟨h1.1 rfl, hj, h2.1 rfl, by rw [← h4]; exact h3.1 rfl⟩
              simp [this]
      obtain ⟨z1, h1, b1⟩ : ∃ z1, vc .leq (vofN i) 1024 = z1 ∧ (z1 = true ↔ i ≤ 1024) := ⟨_, rfl, by rw [qc, leq_eq]; simp only [qofN, decide_eq_true_eq, nc]; omega⟩
      obtain ⟨z2, h2, b2⟩ : ∃ z2, vc .geq m 2 = z2 ∧ (z2 = true ↔ 2 ≤ m) := ⟨_, rfl, by rw [qc, geq_eq]; simp only [decide_eq_true_eq, ge_iff_le]⟩
      obtain ⟨z3, h3, b3⟩ : ∃ z3, vc .eql a 32768 = z3 ∧ (z3 = true ↔ a = 32768) := ⟨_, rfl, by rw [qc, eql_eq]; simp only [decide_eq_true_eq]⟩
      have hand := hand z1 z2 z3 b1 b2 b3
      cbv
      rw [h1]
      cases z1
      · obtain rfl : z = false := hand
        cbv
      · cbv
        rw [h2]
        cases z2
        · obtain rfl : z = false := hand
          cbv
        · cbv
          rw [h3]
          obtain rfl : z = z3 := hand
          cbv
theorem refright5_con (l : List Int) (cap : Nat) (hl : ∀ c ∈ l, isU8 c) (hlen : l.length ≤ 9223372036854775807) (z : Bool) (hz : z = true ↔ Right5 l) :
    Con Try.prog 18 [.slice 0 .z 1 l.length cap] [.ro .u8 l] (fun v H R => v = .bool z ∧ H = [.ro .u8 l] ∧ R = []) := by
  refine con_gen (con_cut 1 (by simp) (con_drop (con_walk hmix fn18 ?_)))
  intro vb vc vw vtoN vofN vaddN vsubN vmaxI vminI vcutN vgd vst vln vrep vsub vonto vsplice vstrEq vbyteV vnotB veqB hw qb qc qw qtoN qofN qaddN qsubN qmaxI qminI qcutN qgd qst qln qrep qsub qonto qsplice qstrEq qbyteV qnotB qeqB
  have hm := hmix; generalize Try.prog = P at *
  have hge := getD_u8 hl
  have hA : z = true ↔ (l.length ≤ 1024 ∧ (∀ i, i < l.length → l.getD i 0 ≤ 15) ∧ 2 ≤ nz l l.length ∧ ks l l.length = 32768) := hz
  clear hz
  have hzr := nz_range l
  have hkr := ks_range l (fun i => (hge i).1)
  have hz0 : nz l 0 = 0 := rfl
  have hk0 : ks l 0 = 0 := rfl
  have hzs : ∀ i, nz l (i + 1) = nz l i + (if l.getD i 0 > 0 then 1 else 0) := fun _ => rfl
  have hks : ∀ i, ks l (i + 1) = ks l i + (if l.getD i 0 > 0 then 2 ^ (15 - l.getD i 0).toNat else 0) := fun _ => rfl
  generalize nz l = NZ at *
  generalize ks l = KS at *
  generalize hn : l.length = n at *
  have hto : ∀ i : Nat, vtoN (i : Int) = i := fun i => by simp only [qtoN, Int.toNat_natCast]
  have hadd0 : ∀ i, vaddN 0 i = i := fun i => by simp only [qaddN, Nat.zero_add]
  have hvln : vln l = n := by simp only [qln, hn]
  have hvgd : ∀ i, vgd l i = l.getD i 0 := fun i => by simp only [qgd]
  cbv
  obtain ⟨z0, h0, b0⟩ : ∃ z0, vc .gtr (vofN (vln l)) 1024 = z0 ∧ (z0 = true ↔ 1024 < n) := ⟨_, rfl, by rw [hvln, qc, gtr_eq]; simp only [qofN, decide_eq_true_eq, nc]; omega⟩
  rw [hvln] at h0
  rw [h0]
  cases z0
  rotate_left
  · obtain rfl : z = false := by
      cases z
      · rfl
      · have := (hA.1 rfl).1; have := b0.1 rfl; omega
    cbv
  have hn1 : n ≤ 1024 := by
    by_cases h : n ≤ 1024
    · exact h
    · have := b0.2 (by omega); cases this
  cbv
  refine loop_fam (α := Int × Int × Int) [9, 10, 11, 12, 13, 14, 15, 16, 17, 18, 19, 20, 21, 22, 23, 24, 25, 26, 27, 28, 29, 30, 31, 32, 33, 34, 35] [] (fun (k, m, a) => [(5, .int .i64 k), (3, .int .i64 m), (4, .int .i64 a)]) (fun _ => [])
    (fun (k, m, a) => ∃ i : Nat, k = i ∧ i ≤ n ∧ m = NZ i ∧ (i ≤ 1024 → a = KS i) ∧ ∀ j, j < i → l.getD j 0 ≤ 15) (fun (k, _) => n - k.toNat) hw hm ?_ ?_
  · refine Cv.genAt [5, 3, 4] [] (Cv.fold [9, 10, 11, 12, 13, 14, 15, 16, 17, 18, 19, 20, 21, 22, 23, 24, 25, 26, 27, 28, 29, 30, 31, 32, 33, 34, 35] 1 [] (by exact Nat.le_refl _) (by exact Nat.le_of_ble_eq_true rfl) (by rfl) (by cbv) ?_)
    intro js
    refine ⟨(_, _, _), ?_, js, rfl⟩
    exact ⟨0, rfl, by omega, hz0.symm, fun _ => hk0.symm, fun j hj => by omega⟩
  · rintro ⟨k, m, a⟩ js ⟨i, hk, hi, hm1, ha, hj⟩
    have hsi := hzr i
    cbv
    split
    · rename_i hlt
      have hlt : i < n := by rw [qc, lss_true] at hlt; simp only [qofN] at hlt; simp only [nc] at *; omega
      have hti : vtoN k = i := by rw [hk]; exact hto i
      have hinR : 0 ≤ k ∧ k < (n : Int) := by simp only [nc] at *; omega
      obtain ⟨k1, hk1⟩ : ∃ k1 : Int, k1 = ((i + 1 : Nat) : Int) := ⟨_, rfl⟩
      have ek : vb .add .i64 k 1 = k1 := by simp only [nc] at *; rw [qb, add_i64 (by omega) (by omega)]; omega
      have em : vb .add .i64 m 1 = m + 1 := by simp only [nc] at *; rw [qb, add_i64 (by omega) (by omega)]
      have hmu : n - k1.toNat < n - k.toNat := by simp only [nc] at *; omega
      have hzi := hzs i
      have hki := hks i
      have hgi := hge i
      have hri := hkr i
      cbv
      rw [hti, hadd0, hvgd]
      refine ⟨⟨hinR⟩, ⟨by omega⟩, ⟨by omega⟩, ?_⟩
      have hlast : ∀ q, l.getD i 0 = q → (∀ j, j < i + 1 → l.getD j 0 ≤ 15) ∨ 15 < q := fun q hq => by
        by_cases h : q ≤ 15
        · exact .inl fun j h1 => by
            by_cases e : j = i
            · subst e; omega
            · exact hj j (by omega)
        · exact .inr (by omega)
      have hno : 15 < l.getD i 0 → z = false := fun h => by
        cases z
        · rfl
        · have := (hA.1 rfl).2.1 i (by omega); omega
      generalize hci : l.getD i 0 = ci at *
      have hlast := hlast ci rfl
      generalize h15 : vc .gtr ci 15 = z1
      cases z1
      rotate_left
      · rw [qc, gtr_true] at h15
        obtain rfl := hno h15
        cbv
      rw [qc, gtr_false] at h15
      have hlast := hlast.resolve_right (by omega)
      cbv
      rw [hti, hadd0, hvgd, hci]
      refine ⟨⟨hinR⟩, ⟨by omega⟩, ⟨by omega⟩, ?_⟩
      generalize hz : vc .gtr ci 0 = z2
      cases z2
      · rw [qc, gtr_false] at hz
        rw [if_neg (by omega)] at hzi hki
        cbv
        rw [ek]
        refine Cv.fold [9, 10, 11, 12, 13, 14, 15, 16, 17, 18, 19, 20, 21, 22, 23, 24, 25, 26, 27, 28, 29, 30, 31, 32, 33, 34, 35] 1 [] (by exact Nat.le_refl _) (by exact Nat.le_of_ble_eq_true rfl) (by rfl) (by cbv) ?_
        intro js
        refine ⟨(_, _, _), ?_, js, rfl⟩
        exact ⟨⟨i + 1, hk1, hlt, by omega, fun h => by have := ha (by omega); omega, hlast⟩, hmu⟩
      · rw [qc, gtr_true] at hz
        rw [if_pos (by omega)] at hzi hki
        have e1 : vb .sub .u8 15 ci = 15 - ci := by rw [qb]; exact sub_u8 (by omega) (by omega)
        have e2 : vw .u64 (15 - ci) = 15 - ci := by rw [qw]; exact wrap_u64 (by omega) (by omega)
        have e3 : vb .shl .i64 1 (15 - ci) = 2 ^ (15 - ci).toNat := by rw [qb]; exact shl1 (by omega) (by omega)
        have hp : (0 : Int) < 2 ^ (15 - ci).toNat := Int.pow_pos (by omega)
        have hq : (2 : Int) ^ (15 - ci).toNat ≤ 2 ^ 14 := pow_up (by omega)
        generalize (2 : Int) ^ (15 - ci).toNat = pw at *
        cbv
        rw [hti, hadd0, hvgd, hci]
        refine ⟨⟨hinR⟩, ⟨by omega⟩, ⟨by omega⟩, ?_⟩
        rw [ek, em, e1, e2, e3]
        refine ⟨⟨by omega⟩, ?_⟩
        refine Cv.fold [9, 10, 11, 12, 13, 14, 15, 16, 17, 18, 19, 20, 21, 22, 23, 24, 25, 26, 27, 28, 29, 30, 31, 32, 33, 34, 35] 1 [] (by exact Nat.le_refl _) (by exact Nat.le_of_ble_eq_true rfl) (by rfl) (by cbv) ?_
        intro js
        refine ⟨(_, _, _), ?_, js, rfl⟩
        refine ⟨⟨i + 1, hk1, hlt, by omega, fun h => ?_, hlast⟩, hmu⟩
        have := ha (by omega)
        simp only [nc] at *
        rw [qb, add_i64 (by omega) (by omega)]; omega
    · rename_i hge1
      have hin : i = n := by rw [qc, lss_false] at hge1; simp only [qofN] at hge1; simp only [nc] at *; omega
      subst hin
      have hand : ∀ z1 z2 z3 : Bool, (z1 = true ↔ i ≤ 1024) → (z2 = true ↔ 2 ≤ m) → (z3 = true ↔ a = 32768) → z = (if z1 then (if z2 then z3 else false) else false) := by
        intro z1 z2 z3 h1 h2 h3
        subst hm1
        cases z1
        · cases z
          · rfl
          · have := (hA.1 rfl).1; simp only [Bool.false_eq_true, false_iff] at h1; omega
        · cases z2
          · cases z
            · rfl
            · have := (hA.1 rfl).2.2.1; simp only [Bool.false_eq_true, false_iff] at h2; omega
          · have h4 := ha (h1.1 rfl)
            cases z3
            · cases z
              · rfl
              · have := (hA.1 rfl).2.2.2; simp only [Bool.false_eq_true, false_iff] at h3; omega
            · have := hA.2 ⟨h1.1 rfl, hj, h2.1 rfl, by rw [← h4]; exact h3.1 rfl⟩
              simp [this]
      obtain ⟨z1, h1, b1⟩ : ∃ z1, vc .leq (vofN i) 1024 = z1 ∧ (z1 = true ↔ i ≤ 1024) := ⟨_, rfl, by rw [qc, leq_eq]; simp only [qofN, decide_eq_true_eq, nc]; omega⟩
      obtain ⟨z2, h2, b2⟩ : ∃ z2, vc .geq m 2 = z2 ∧ (z2 = true ↔ 2 ≤ m) := ⟨_, rfl, by rw [qc, geq_eq]; simp only [decide_eq_true_eq, ge_iff_le]⟩
      obtain ⟨z3, h3, b3⟩ : ∃ z3, vc .eql a 32768 = z3 ∧ (z3 = true ↔ a = 32768) := ⟨_, rfl, by rw [qc, eql_eq]; simp only [decide_eq_true_eq]⟩
      have hand := hand z1 z2 z3 b1 b2 b3
      cbv
      rw [h2]
      obtain rfl : z1 = true := b1.2 hn1
      cases z2
      · obtain rfl : z = false := hand
        cbv
      · cbv
        rw [h3]
        obtain rfl : z = z3 := hand
        cbv
end Go.Proofs.Ytodobmkflimfkaa
namespace Go.Proofs.Ytodobmkflimfkaa
open Go Go.Sx Go.Proofs
/-! All symbols' words: balerref05.words. -/
def Pl (l : List Int) (L i : Nat) (vals : List Int) : Prop := vals.length = l.length ∧ ∀ s, s < l.length → vals.getD s 0 = if 0 < l.getD s 0 ∧ (l.getD s 0 < L ∨ (l.getD s 0 = L ∧ s < i)) then wd l s else 0
def WL (l : List Int) : List Int := (List.range l.length).map (fun s => if 0 < l.getD s 0 then wd l s else 0)
theorem WL_len (l : List Int) : (WL l).length = l.length := by simp [WL]
theorem WL_getD (l : List Int) {s : Nat} (h : s < l.length) : (WL l).getD s 0 = if 0 < l.getD s 0 then wd l s else 0 := by
  simp [WL, List.getD_eq_getElem?_getD, List.getElem?_map, List.getElem?_range h]
theorem Pl.zero (l : List Int) : Pl l 1 0 (List.replicate l.length 0) := by
  refine ⟨by simp, fun s hs => ?_⟩
  rw [if_neg (by omega)]
  simp [List.getD_eq_getElem?_getD, List.getElem?_replicate, hs]
theorem Pl.skip {l vals : List Int} {L i : Nat} (h : Pl l L i vals) (hx : l.getD i 0 ≠ L) : Pl l L (i + 1) vals := by
  refine ⟨h.1, fun s hs => ?_⟩
  rw [h.2 s hs]
  by_cases e : s = i
  · subst e
    have : (0 < l.getD s 0 ∧ (l.getD s 0 < L ∨ (l.getD s 0 = L ∧ s < s))) = (0 < l.getD s 0 ∧ (l.getD s 0 < L ∨ (l.getD s 0 = L ∧ s < s + 1))) := by
      apply propext; omega
    simp only [this]
  · have : (0 < l.getD s 0 ∧ (l.getD s 0 < L ∨ (l.getD s 0 = L ∧ s < i))) = (0 < l.getD s 0 ∧ (l.getD s 0 < L ∨ (l.getD s 0 = L ∧ s < i + 1))) := by
      apply propext; omega
    simp only [this]
theorem Pl.put {l vals : List Int} {L i : Nat} (h : Pl l L i vals) (hi : i < l.length) (hL : 1 ≤ L) (hx : l.getD i 0 = L) : Pl l L (i + 1) (vals.set i (wd l i)) := by
  refine ⟨by simp [h.1], fun s hs => ?_⟩
  by_cases e : s = i
  · subst e
    rw [if_pos (by omega)]
    simp [List.getD_eq_getElem?_getD, List.getElem?_set, h.1, hs]
  · have e2 : (vals.set i (wd l i)).getD s 0 = vals.getD s 0 := by
      simp [List.getD_eq_getElem?_getD, List.getElem?_set, Ne.symm e]
    rw [e2, h.2 s hs]
    have : (0 < l.getD s 0 ∧ (l.getD s 0 < L ∨ (l.getD s 0 = L ∧ s < i))) = (0 < l.getD s 0 ∧ (l.getD s 0 < L ∨ (l.getD s 0 = L ∧ s < i + 1))) := by
      apply propext; omega
    simp only [this]
theorem Pl.next {l vals : List Int} {L : Nat} (h : Pl l L l.length vals) : Pl l (L + 1) 0 vals := by
  refine ⟨h.1, fun s hs => ?_⟩
  rw [h.2 s hs]
  have : (0 < l.getD s 0 ∧ (l.getD s 0 < L ∨ (l.getD s 0 = L ∧ s < l.length))) = (0 < l.getD s 0 ∧ (l.getD s 0 < (L + 1 : Nat) ∨ (l.getD s 0 = (L + 1 : Nat) ∧ s < 0))) := by
    apply propext; omega
  simp only [this]
theorem Pl.done {l vals : List Int} (hR : Rt l) (h : Pl l 16 0 vals) : vals = WL l := by
  apply List.ext_getElem?
  intro s
  by_cases hs : s < l.length
  · have h1 := h.2 s hs
    have h2 := WL_getD l hs
    have h3 := hR.l15 s
    have e : (0 < l.getD s 0 ∧ (l.getD s 0 < (16 : Nat) ∨ (l.getD s 0 = (16 : Nat) ∧ s < 0))) = (0 < l.getD s 0) := by apply propext; omega
    simp only [e] at h1
    rw [← h2] at h1
    have a1 : s < vals.length := by rw [h.1]; exact hs
    have a2 : s < (WL l).length := by rw [WL_len]; exact hs
    rw [List.getElem?_eq_getElem a1, List.getElem?_eq_getElem a2]
    simp only [List.getD_eq_getElem?_getD, List.getElem?_eq_getElem a1, List.getElem?_eq_getElem a2, Option.getD_some] at h1
    rw [h1]
  · rw [List.getElem?_eq_none (by rw [h.1]; omega), List.getElem?_eq_none (by rw [WL_len]; omega)]
/-- Where the words of a length go on. -/
def nx (l : List Int) (L i : Nat) : Int := st l L + cn l L i
theorem nx_zero (l : List Int) (L : Nat) (h : 1 ≤ L) : nx l L 0 = 2 * kp l l.length (L - 1) := by simp [nx, cn, st]
theorem nx_step (l : List Int) (L i : Nat) : nx l L (i + 1) = nx l L i + (if l.getD i 0 = L then 1 else 0) := by simp only [nx, cn]; omega
theorem nx_full (l : List Int) (L : Nat) (h : 1 ≤ L) : nx l L l.length = kp l l.length L := by
  obtain ⟨k, rfl⟩ : ∃ k, L = k + 1 := ⟨L - 1, by omega⟩
  simp [nx, st, kp]
theorem nx_range {l : List Int} (hR : Rt l) (L i : Nat) (h1 : 1 ≤ L) (h2 : L ≤ 15) (hi : i ≤ l.length) : 0 ≤ nx l L i ∧ nx l L i ≤ 32768 := by
  have a := kp_nonneg l l.length (L - 1)
  have b := cn_range l L i
  have c := cn_mono l L hi
  have d := nx_full l L h1
  have e := hR.top L h2
  have f : (2 : Int) ^ L ≤ 2 ^ 15 := pow_up h2
  simp only [nx, st] at *
  omega
theorem nx_wd {l : List Int} {L i : Nat} (h : l.getD i 0 = L) : wd l i = nx l L i := by
  simp only [wd, nx, h, Int.toNat_natCast]
theorem wrap_u16 {x : Int} (h0 : 0 ≤ x) (h1 : x < 65536) : IntKind.u16.wrap x = x := by
  simp [IntKind.wrap, IntKind.bits, IntKind.signed]; omega
set_option maxRecDepth 10000
set_option maxHeartbeats 40000000
theorem refwords_con (l : List Int) (cap : Nat) (hR : Rt l) :
    Con Try.prog 97 [.slice 0 .z 1 l.length cap] [.ro .u8 l] (fun v H R => v = .slice 1 .z 1 l.length l.length ∧ H = [.ro .u8 l, .ints 48 .u16 (WL l)] ∧ R = []) := by
  refine con_gen (con_cut 2 (by simp) (con_drop (con_walk hmix fn97 ?_)))
  intro vb vc vw vtoN vofN vaddN vsubN vmaxI vminI vcutN vgd vst vln vrep vsub vonto vsplice vstrEq vbyteV vnotB veqB hw qb qc qw qtoN qofN qaddN qsubN qmaxI qminI qcutN qgd qst qln qrep qsub qonto qsplice qstrEq qbyteV qnotB qeqB
  have hm := hmix; generalize Try.prog = P at *
  have hn1 := hR.n1
  have hu8 := hR.u8
  have hl15 := hR.l15
  have hz := Pl.zero l
  have hdone := fun vals => Pl.done (vals := vals) hR
  have hskip := fun vals L i => @Pl.skip l vals L i
  have hput := fun vals L i => @Pl.put l vals L i
  have hnext := fun vals L => @Pl.next l vals L
  have hlen : ∀ vals L i, Pl l L i vals → vals.length = l.length := fun vals L i h => h.1
  have hn0 := nx_zero l
  have hns := nx_step l
  have hnf := nx_full l
  have hnr := fun L i => nx_range hR L i
  have hwd := fun L i => @nx_wd l L i
  have hk0 : kp l l.length 0 = 0 := rfl
  generalize WL l = W at *
  generalize wd l = WD at *
  generalize nx l = NX at *
  generalize kp l l.length = KP at *
  generalize Pl l = PL at *
  generalize hn : l.length = n at *
  have hto : ∀ i : Nat, vtoN (i : Int) = i := fun i => by simp only [qtoN, Int.toNat_natCast]
  have hadd0 : ∀ i, vaddN 0 i = i := fun i => by simp only [qaddN, Nat.zero_add]
  have hvl : ∀ l, vln l = l.length := fun l => by simp only [qln]
  have hvgd : ∀ l i, vgd l i = l.getD i 0 := fun l i => by simp only [qgd]
  have hvst : ∀ l i x, vst l i x = l.set i x := fun l i x => by simp only [qst]
  have hrep : ∀ n x, vrep n x = List.replicate n x := fun n x => by simp only [qrep]
  cbv
  have e1 : vtoN (vofN n) = n := by simp only [qofN]; exact hto n
  have en : vofN n = (n : Int) := by simp only [qofN]
  have hnat : ∀ i : Nat, vofN i = (i : Int) := fun i => by simp only [qofN]
  refine ⟨⟨by rw [en]; omega⟩, ⟨by rw [en]; omega⟩, ⟨by rw [e1, en]; omega⟩, ⟨by rw [en]; omega⟩, ?_⟩
  rw [e1]
  refine loop_fam (α := Int × Int × List Int) ([6] ++ [10, 11, 12, 13, 14, 15, 16, 17, 18, 19, 20, 21, 22, 23, 24, 25, 26, 27, 28, 29, 30, 31, 32, 33, 34, 35]) [] (fun (k, m, _) => [(5, .int .i64 k), (4, .int .i64 m)]) (fun (_, _, v) => [(1, .ints 48 .u16 v)])
    (fun (k, m, v) => ∃ L : Nat, k = L ∧ 1 ≤ L ∧ L ≤ 16 ∧ m = KP (L - 1) ∧ PL L 0 v) (fun (k, _) => 16 - k.toNat) hw hm ?_ ?_
  · refine Cv.genAt [5, 4] [1] (Cv.fold ([6] ++ [10, 11, 12, 13, 14, 15, 16, 17, 18, 19, 20, 21, 22, 23, 24, 25, 26, 27, 28, 29, 30, 31, 32, 33, 34, 35]) 2 [] (by exact Nat.le_refl _) (by exact Nat.le_of_ble_eq_true rfl) (by rfl) (by cbv) ?_)
    intro js
    refine ⟨(_, _, _), ?_, js, rfl⟩
    exact ⟨1, rfl, by omega, by omega, hk0.symm, by rw [hrep]; exact hz⟩
  · rintro ⟨k, m, v⟩ js ⟨L, hk, hL1, hL2, hm1, hv⟩
    cbv
    split
    · rename_i hlt
      have hlt : L ≤ 15 := by rw [qc, leq_eq] at hlt; simp only [decide_eq_true_eq] at hlt; simp only [nc] at *; omega
      have hr0 := hnr L 0 hL1 hlt (by omega)
      have hx0 := hn0 L hL1
      obtain ⟨m1, hm2⟩ : ∃ m1, m1 = NX L 0 := ⟨_, rfl⟩
      have em : vb .mul .i64 m 2 = m1 := by rw [qb, mul_i64 (by omega) (by omega)]; omega
      have hmu : ∀ k1 : Int, k1 = ((L + 1 : Nat) : Int) → 16 - k1.toNat < 16 - k.toNat := by intro k1 h; simp only [nc] at *; omega
      cbv
      rw [em]
      refine loop_fam (α := Int × Int × List Int) [16, 17, 18, 19, 20, 21, 22, 23, 24, 25, 26, 27, 28, 29, 30, 31, 32, 33, 34, 35] [] (fun (k, m, _) => [(6, .int .i64 k), (4, .int .i64 m)]) (fun (_, _, v) => [(1, .ints 48 .u16 v)])
        (fun (k, m, v) => ∃ i : Nat, k = i ∧ i ≤ n ∧ m = NX L i ∧ PL L i v) (fun (k, _) => n - k.toNat) hw hm ?_ ?_
      · refine Cv.genAt [6, 4] [1] (Cv.fold [16, 17, 18, 19, 20, 21, 22, 23, 24, 25, 26, 27, 28, 29, 30, 31, 32, 33, 34, 35] 2 [] (by exact Nat.le_refl _) (by exact Nat.le_of_ble_eq_true rfl) (by rfl) (by cbv) ?_)
        intro js
        refine ⟨(_, _, _), ?_, js, rfl⟩
        exact ⟨0, rfl, by omega, hm2, hv⟩
      · rintro ⟨q, m, v⟩ js2 ⟨i, hq, hi, hm1, hv⟩
        have hni := hnr L i hL1 hlt hi
        have hvlen := hlen v L i hv
        cbv
        split
        · rename_i hlt2
          have hlt2 : i < n := by rw [qc, lss_true] at hlt2; simp only [qofN] at hlt2; simp only [nc] at *; omega
          have hti : vtoN q = i := by rw [hq]; exact hto i
          have hinR : 0 ≤ q ∧ q < (n : Int) := by simp only [nc] at *; omega
          obtain ⟨q1, hq1⟩ : ∃ q1 : Int, q1 = ((i + 1 : Nat) : Int) := ⟨_, rfl⟩
          have eq1 : vb .add .i64 q 1 = q1 := by simp only [nc] at *; rw [qb, add_i64 (by omega) (by omega)]; omega
          have hmu2 : n - q1.toNat < n - q.toNat := by simp only [nc] at *; omega
          have hx0 := hu8 i
          have hx1 := hl15 i
          have hsk := hskip v L i hv
          have hpu := hput v L i hv hlt2 hL1
          have hns := hns L i
          have hwd := hwd L i
          have hvl1 := hvl v
          have hvl2 := hvl l
          cbv
          rw [hti, hadd0, hvgd]
          refine ⟨⟨hinR⟩, ⟨by omega⟩, ⟨by omega⟩, ?_⟩
          generalize hxi : l.getD i 0 = x at *
          have ew : vw .i64 x = x := by rw [qw]; exact wrap_i64 (by omega) (by omega)
          rw [ew]
          generalize hz : vc .eql x k = z
          cases z
          · rw [qc, eql_false] at hz
            rw [if_neg (by simp only [nc] at *; omega)] at hns
            have hsk := hsk (by simp only [nc] at *; omega)
            cbv
            rw [eq1]
            refine Cv.fold [16, 17, 18, 19, 20, 21, 22, 23, 24, 25, 26, 27, 28, 29, 30, 31, 32, 33, 34, 35] 2 [] (by exact Nat.le_refl _) (by exact Nat.le_of_ble_eq_true rfl) (by rfl) (by cbv) ?_
            intro js
            refine ⟨(_, _, _), ?_, js, rfl⟩
            exact ⟨⟨i + 1, hq1, hlt2, by omega, hsk⟩, hmu2⟩
          · rw [qc, eql_true] at hz
            have hxL : x = (L : Int) := by simp only [nc] at *; omega
            rw [if_pos hxL] at hns
            have hpu := hpu hxL
            rw [hwd hxL, ← hm1, ← hvst] at hpu
            have ew2 : vw .u16 m = m := by rw [qw]; exact wrap_u16 (by omega) (by omega)
            obtain ⟨m3, hm3⟩ : ∃ m3, m3 = NX L (i + 1) := ⟨_, rfl⟩
            have em3 : vb .add .i64 m 1 = m3 := by rw [qb, add_i64 (by omega) (by omega)]; omega
            cbv
            rw [ew2, hti, em3, eq1]
            refine ⟨⟨hinR⟩, ⟨by omega⟩, ?_⟩
            refine Cv.fold [16, 17, 18, 19, 20, 21, 22, 23, 24, 25, 26, 27, 28, 29, 30, 31, 32, 33, 34, 35] 2 [] (by exact Nat.le_refl _) (by exact Nat.le_of_ble_eq_true rfl) (by rfl) (by cbv) ?_
            intro js
            refine ⟨(_, _, _), ?_, js, rfl⟩
            exact ⟨⟨i + 1, hq1, hlt2, hm3, hpu⟩, hmu2⟩
        · rename_i hge2
          have hin : i = n := by rw [qc, lss_false] at hge2; simp only [qofN] at hge2; simp only [nc] at *; omega
          rw [hin] at hv hm1
          obtain ⟨k1, hk1⟩ : ∃ k1 : Int, k1 = ((L + 1 : Nat) : Int) := ⟨_, rfl⟩
          have ek : vb .add .i64 k 1 = k1 := by simp only [nc] at *; rw [qb, add_i64 (by omega) (by omega)]; omega
          have hnx := hnext v L hv
          have hmu := hmu k1 hk1
          have hmk : m = KP L := by rw [hm1]; exact hnf L hL1
          cbv
          rw [ek]
          refine Cv.fold ([6] ++ [10, 11, 12, 13, 14, 15, 16, 17, 18, 19, 20, 21, 22, 23, 24, 25, 26, 27, 28, 29, 30, 31, 32, 33, 34, 35]) 2 [] (by exact Nat.le_refl _) (by exact Nat.le_of_ble_eq_true rfl) (by rfl) (by cbv) ?_
          intro js
          refine ⟨(_, _, _), ?_, js, rfl⟩
          exact ⟨⟨L + 1, hk1, by omega, by omega, hmk, hnx⟩, hmu⟩
    · rename_i hge
      have hL : L = 16 := by rw [qc, leq_eq] at hge; simp only [Bool.not_eq_true, decide_eq_false_iff_not] at hge; simp only [nc] at *; omega
      subst hL
      obtain rfl := hdone v hv
      cbv
end Go.Proofs.Ytodobmkflimfkaa
namespace Go.Proofs.Ytodobmkflimfkaa
open Go Go.Sx Go.Proofs
/-! canon.Codes. -/
set_option maxRecDepth 10000
set_option maxHeartbeats 40000000
theorem codes_ok (l : List Int) (cap : Nat) (hl : ∀ c ∈ l, isU8 c) (h5 : Right5 l) :
    Con Try.prog 32 [.slice 0 .z 1 l.length cap] [.ro .u8 l] (fun v H R => v = .tup [.slice 1 .z 1 l.length l.length, .int .i64 0] ∧ H = [.ro .u8 l, .ints 48 .u16 (WL l)] ∧ R = []) := by
  have hR := h5.rt hl
  have hrt := right5_con l cap hl (by have := hR.n1; omega) true (by simp [h5])
  refine con_gen (con_cut 2 (by simp) (con_drop (con_walk hmix fn32 ?_)))
  intro vb vc vw vtoN vofN vaddN vsubN vmaxI vminI vcutN vgd vst vln vrep vsub vonto vsplice vstrEq vbyteV vnotB veqB hw qb qc qw qtoN qofN qaddN qsubN qmaxI qminI qcutN qgd qst qln qrep qsub qonto qsplice qstrEq qbyteV qnotB qeqB
  have f79 := fn79
  have f118 := fn118
  have hm := hmix; generalize Try.prog = P at *
  have hn1 := hR.n1
  have hu8 := hR.u8
  have hl15 := hR.l15
  have hz := Pl.zero l
  have hdone := fun vals => Pl.done (vals := vals) hR
  have hskip := fun vals L i => @Pl.skip l vals L i
  have hput := fun vals L i => @Pl.put l vals L i
  have hnext := fun vals L => @Pl.next l vals L
  have hlen : ∀ vals L i, Pl l L i vals → vals.length = l.length := fun vals L i h => h.1
  have hn0 := nx_zero l
  have hns := nx_step l
  have hnf := nx_full l
  have hnr := fun L i => nx_range hR L i
  have hwd := fun L i => @nx_wd l L i
  have hk0 : kp l l.length 0 = 0 := rfl
  generalize WL l = W at *
  generalize wd l = WD at *
  generalize nx l = NX at *
  generalize kp l l.length = KP at *
  generalize Pl l = PL at *
  generalize hn : l.length = n at *
  have hto : ∀ i : Nat, vtoN (i : Int) = i := fun i => by simp only [qtoN, Int.toNat_natCast]
  have hadd0 : ∀ i, vaddN 0 i = i := fun i => by simp only [qaddN, Nat.zero_add]
  have hvl : ∀ l, vln l = l.length := fun l => by simp only [qln]
  have hvgd : ∀ l i, vgd l i = l.getD i 0 := fun l i => by simp only [qgd]
  have hvst : ∀ l i x, vst l i x = l.set i x := fun l i x => by simp only [qst]
  have hrep : ∀ n x, vrep n x = List.replicate n x := fun n x => by simp only [qrep]
  have e1 : vtoN (vofN n) = n := by simp only [qofN]; exact hto n
  have hnf1 : vnotB true = false := by simp only [qnotB]; rfl
  cbv
  refine call_con (ρ := [(0, .z)]) hrt ⟨by rfl, by rfl, by rfl, by cbv; exact ⟨⟨⟨by omega, fun i _ => by rw [Nat.zero_add]⟩⟩, trivial⟩⟩ ?_
  rintro v H R js ⟨rfl, rfl, rfl⟩
  cbv
  rw [hnf1]
  cbv
  have en : vofN n = (n : Int) := by simp only [qofN]
  refine ⟨⟨by rw [en]; omega⟩, ⟨by rw [en]; omega⟩, ⟨by rw [e1, en]; omega⟩, ⟨by rw [en]; omega⟩, ?_⟩
  rw [e1]
  refine inl_walkD hw hm f79 (by rfl) ?_
  cbv
  intro js
  refine range_rule (by rfl) (by rfl) (by cbv) (by cbv) (by rfl) ?_
  refine inl_walkD hw hm f118 (by rfl) ?_
  cbv
  refine loop_fam (α := Int × Int × List Int) [5, 6, 7, 8, 9, 10, 11, 12, 13, 14, 15, 16, 17, 18, 19, 20, 21, 22, 23, 24, 25, 26, 27, 28, 29, 30, 31, 32] [] (fun (k, m, _) => [(4, .int .i64 k), (3, .int .i64 m)]) (fun (_, _, v) => [(1, .ints 48 .u16 v)])
    (fun (k, m, v) => ∃ L : Nat, k = L ∧ 1 ≤ L ∧ L ≤ 16 ∧ m = KP (L - 1) ∧ PL L 0 v) (fun (k, _) => 16 - k.toNat) hw hm ?_ ?_
  · refine Cv.genAt [4, 3] [1] (Cv.fold [5, 6, 7, 8, 9, 10, 11, 12, 13, 14, 15, 16, 17, 18, 19, 20, 21, 22, 23, 24, 25, 26, 27, 28, 29, 30, 31, 32] 6 [] (by exact Nat.le_refl _) (by exact Nat.le_of_ble_eq_true rfl) (by rfl) (by cbv) ?_)
    intro js
    refine ⟨(_, _, _), ?_, js, rfl⟩
    exact ⟨1, rfl, by omega, by omega, hk0.symm, by rw [hrep]; exact hz⟩
  · rintro ⟨k, m, v⟩ js ⟨L, hk, hL1, hL2, hm1, hv⟩
    cbv
    split
    · rename_i hlt
      have hlt : L ≤ 15 := by rw [qc, leq_eq] at hlt; simp only [decide_eq_true_eq] at hlt; simp only [nc] at *; omega
      have hr0 := hnr L 0 hL1 hlt (by omega)
      have hx0 := hn0 L hL1
      obtain ⟨m1, hm2⟩ : ∃ m1, m1 = NX L 0 := ⟨_, rfl⟩
      have em : vb .mul .i64 m 2 = m1 := by rw [qb, mul_i64 (by omega) (by omega)]; omega
      have hmu : ∀ k1 : Int, k1 = ((L + 1 : Nat) : Int) → 16 - k1.toNat < 16 - k.toNat := by intro k1 h; simp only [nc] at *; omega
      cbv
      rw [em]
      refine loop_fam (α := Int × Int × List Int) ([5, 6] ++ [16, 17, 18, 19, 20, 21, 22, 23, 24, 25, 26, 27, 28, 29, 30, 31, 32]) [] (fun (k, m, _) => [(15, .int .i64 k), (3, .int .i64 m)]) (fun (_, _, v) => [(1, .ints 48 .u16 v)])
        (fun (k, m, v) => ∃ i : Nat, k = i ∧ i ≤ n ∧ m = NX L i ∧ PL L i v) (fun (k, _) => n - k.toNat) hw hm ?_ ?_
      · refine Cv.genAt [15, 3] [1] (Cv.fold ([5, 6] ++ [16, 17, 18, 19, 20, 21, 22, 23, 24, 25, 26, 27, 28, 29, 30, 31, 32]) 6 [] (by exact Nat.le_refl _) (by exact Nat.le_of_ble_eq_true rfl) (by rfl) (by cbv) ?_)
        intro js
        refine ⟨(_, _, _), ?_, js, rfl⟩
        exact ⟨0, rfl, by omega, hm2, hv⟩
      · rintro ⟨q, m, v⟩ js2 ⟨i, hq, hi, hm1, hv⟩
        have hni := hnr L i hL1 hlt hi
        have hvlen := hlen v L i hv
        cbv
        split
        · rename_i hlt2
          have hlt2 : i < n := by rw [qc, lss_true] at hlt2; simp only [qofN] at hlt2; simp only [nc] at *; omega
          have hti : vtoN q = i := by rw [hq]; exact hto i
          have hinR : 0 ≤ q ∧ q < (n : Int) := by simp only [nc] at *; omega
          obtain ⟨q1, hq1⟩ : ∃ q1 : Int, q1 = ((i + 1 : Nat) : Int) := ⟨_, rfl⟩
          have eq1 : vb .add .i64 q 1 = q1 := by simp only [nc] at *; rw [qb, add_i64 (by omega) (by omega)]; omega
          have hmu2 : n - q1.toNat < n - q.toNat := by simp only [nc] at *; omega
          have hx0 := hu8 i
          have hx1 := hl15 i
          have hsk := hskip v L i hv
          have hpu := hput v L i hv hlt2 hL1
          have hns := hns L i
          have hwd := hwd L i
          have hvl1 := hvl v
          have hvl2 := hvl l
          cbv
          rw [hti, hadd0, hvgd]
          refine ⟨⟨hinR⟩, ⟨by omega⟩, ⟨by omega⟩, ?_⟩
          generalize hxi : l.getD i 0 = x at *
          have ew : vw .i64 x = x := by rw [qw]; exact wrap_i64 (by omega) (by omega)
          rw [ew]
          generalize hz : vc .neq x k = z
          cases z
          rotate_left
          · rw [qc, neq_eq] at hz
            simp only [decide_eq_true_eq] at hz
            rw [if_neg (by simp only [nc] at *; omega)] at hns
            have hsk := hsk (by simp only [nc] at *; omega)
            cbv
            rw [eq1]
            refine Cv.fold ([5, 6] ++ [16, 17, 18, 19, 20, 21, 22, 23, 24, 25, 26, 27, 28, 29, 30, 31, 32]) 6 [] (by exact Nat.le_refl _) (by exact Nat.le_of_ble_eq_true rfl) (by rfl) (by cbv) ?_
            intro js
            refine ⟨(_, _, _), ?_, js, rfl⟩
            exact ⟨⟨i + 1, hq1, hlt2, by omega, hsk⟩, hmu2⟩
          · rw [qc, neq_eq] at hz
            simp only [decide_eq_false_iff_not, Decidable.not_not] at hz
            have hxL : x = (L : Int) := by simp only [nc] at *; omega
            rw [if_pos hxL] at hns
            have hpu := hpu hxL
            rw [hwd hxL, ← hm1, ← hvst] at hpu
            have ew2 : vw .u16 m = m := by rw [qw]; exact wrap_u16 (by omega) (by omega)
            obtain ⟨m3, hm3⟩ : ∃ m3, m3 = NX L (i + 1) := ⟨_, rfl⟩
            have em3 : vb .add .i64 m 1 = m3 := by rw [qb, add_i64 (by omega) (by omega)]; omega
            cbv
            rw [ew2]
            refine yield_walk hw hm (by rfl) ?_
            cbv
            rw [hti]
            refine ⟨⟨hinR⟩, ⟨by omega⟩, ?_⟩
            intro js1
            cbv
            rw [hnf1]
            cbv
            rw [em3, eq1]
            refine Cv.fold ([5, 6] ++ [16, 17, 18, 19, 20, 21, 22, 23, 24, 25, 26, 27, 28, 29, 30, 31, 32]) 6 [] (by exact Nat.le_refl _) (by exact Nat.le_of_ble_eq_true rfl) (by rfl) (by cbv) ?_
            intro js
            refine ⟨(_, _, _), ?_, js, rfl⟩
            exact ⟨⟨i + 1, hq1, hlt2, hm3, hpu⟩, hmu2⟩
        · rename_i hge2
          have hin : i = n := by rw [qc, lss_false] at hge2; simp only [qofN] at hge2; simp only [nc] at *; omega
          rw [hin] at hv hm1
          obtain ⟨k1, hk1⟩ : ∃ k1 : Int, k1 = ((L + 1 : Nat) : Int) := ⟨_, rfl⟩
          have ek : vb .add .i64 k 1 = k1 := by simp only [nc] at *; rw [qb, add_i64 (by omega) (by omega)]; omega
          have hnx := hnext v L hv
          have hmu := hmu k1 hk1
          have hmk : m = KP L := by rw [hm1]; exact hnf L hL1
          cbv
          rw [ek]
          refine Cv.fold [5, 6, 7, 8, 9, 10, 11, 12, 13, 14, 15, 16, 17, 18, 19, 20, 21, 22, 23, 24, 25, 26, 27, 28, 29, 30, 31, 32] 6 [] (by exact Nat.le_refl _) (by exact Nat.le_of_ble_eq_true rfl) (by rfl) (by cbv) ?_
          intro js
          refine ⟨(_, _, _), ?_, js, rfl⟩
          exact ⟨⟨L + 1, hk1, by omega, by omega, hmk, hnx⟩, hmu⟩
    · rename_i hge
      have hL : L = 16 := by rw [qc, leq_eq] at hge; simp only [Bool.not_eq_true, decide_eq_false_iff_not] at hge; simp only [nc] at *; omega
      subst hL
      obtain rfl := hdone v hv
      cbv
      intro js1
      cbv
theorem codes_bad (l : List Int) (cap : Nat) (hl : ∀ c ∈ l, isU8 c) (hlen : l.length ≤ 9223372036854775807) (h5 : ¬ Right5 l) :
    Con Try.prog 32 [.slice 0 .z 1 l.length cap] [.ro .u8 l] (fun v H R => v = .tup [.val (.slice none 0 0), .int .i64 50] ∧ H = [.ro .u8 l] ∧ R = []) := by
  have hrt := right5_con l cap hl hlen false (by simp [h5])
  refine con_gen (con_cut 1 (by simp) (con_drop (con_walk hmix fn32 ?_)))
  intro vb vc vw vtoN vofN vaddN vsubN vmaxI vminI vcutN vgd vst vln vrep vsub vonto vsplice vstrEq vbyteV vnotB veqB hw qb qc qw qtoN qofN qaddN qsubN qmaxI qminI qcutN qgd qst qln qrep qsub qonto qsplice qstrEq qbyteV qnotB qeqB
  have hm := hmix; generalize Try.prog = P at *
  generalize hn : l.length = n at *
  have hnf1 : vnotB false = true := by simp only [qnotB]; rfl
  cbv
  refine call_con (ρ := [(0, .z)]) hrt ⟨by rfl, by rfl, by rfl, by cbv; exact ⟨⟨⟨by omega, fun i _ => by rw [Nat.zero_add]⟩⟩, trivial⟩⟩ ?_
  rintro v H R js ⟨rfl, rfl, rfl⟩
  cbv
  rw [hnf1]
  cbv
theorem refcodes_bad (l : List Int) (cap : Nat) (hl : ∀ c ∈ l, isU8 c) (hlen : l.length ≤ 9223372036854775807) (h5 : ¬ Right5 l) :
    Con Try.prog 50 [.slice 0 .z 1 l.length cap] [.ro .u8 l] (fun v H R => v = .tup [.val (.slice none 0 0), .int .i64 50] ∧ H = [.ro .u8 l] ∧ R = []) := by
  have hrt := refright5_con l cap hl hlen false (by simp [h5])
  refine con_gen (con_cut 1 (by simp) (con_drop (con_walk hmix fn50 ?_)))
  intro vb vc vw vtoN vofN vaddN vsubN vmaxI vminI vcutN vgd vst vln vrep vsub vonto vsplice vstrEq vbyteV vnotB veqB hw qb qc qw qtoN qofN qaddN qsubN qmaxI qminI qcutN qgd qst qln qrep qsub qonto qsplice qstrEq qbyteV qnotB qeqB
  have hm := hmix; generalize Try.prog = P at *
  generalize hn : l.length = n at *
  have hnf1 : vnotB false = true := by simp only [qnotB]; rfl
  cbv
  refine call_con (ρ := [(0, .z)]) hrt ⟨by rfl, by rfl, by rfl, by cbv; exact ⟨⟨⟨by omega, fun i _ => by rw [Nat.zero_add]⟩⟩, trivial⟩⟩ ?_
  rintro v H R js ⟨rfl, rfl, rfl⟩
  cbv
  rw [hnf1]
  cbv
theorem refcodes_ok (l : List Int) (cap : Nat) (hl : ∀ c ∈ l, isU8 c) (h5 : Right5 l) :
    Con Try.prog 50 [.slice 0 .z 1 l.length cap] [.ro .u8 l] (fun v H R => v = .tup [.slice 1 .z 1 l.length l.length, .int .i64 0] ∧ H = [.ro .u8 l, .ints 48 .u16 (WL l)] ∧ R = []) := by
  have hR := h5.rt hl
  have hrt := refright5_con l cap hl (by have := hR.n1; omega) true (by simp [h5])
  have hwo := refwords_con l cap hR
  refine con_gen (con_cut 2 (by simp) (con_drop (con_walk hmix fn50 ?_)))
  intro vb vc vw vtoN vofN vaddN vsubN vmaxI vminI vcutN vgd vst vln vrep vsub vonto vsplice vstrEq vbyteV vnotB veqB hw qb qc qw qtoN qofN qaddN qsubN qmaxI qminI qcutN qgd qst qln qrep qsub qonto qsplice qstrEq qbyteV qnotB qeqB
  have hm := hmix; generalize Try.prog = P at *
  generalize WL l = W at *
  generalize hn : l.length = n at *
  have hnf1 : vnotB true = false := by simp only [qnotB]; rfl
  cbv
  refine call_con (ρ := [(0, .z)]) hrt ⟨by rfl, by rfl, by rfl, by cbv; exact ⟨⟨⟨by omega, fun i _ => by rw [Nat.zero_add]⟩⟩, trivial⟩⟩ ?_
  rintro v H R js ⟨rfl, rfl, rfl⟩
  cbv
  rw [hnf1]
  cbv
  refine call_con (ρ := [(0, .z)]) hwo ⟨by rfl, by rfl, by rfl, by cbv; exact ⟨⟨⟨by omega, fun i _ => by rw [Nat.zero_add]⟩⟩, trivial⟩⟩ ?_
  rintro v H R js ⟨rfl, rfl, rfl⟩
  cbv
end Go.Proofs.Ytodobmkflimfkaa
namespace Go.Proofs.Ytodobmkflimfkaa
open Go Go.Sx Go.Proofs
/-! Words read out of bits, plainly. -/
def bt (b : List Int) (p : Nat) : Int := (bitL b).getD p 0
theorem bt_range (b : List Int) (p : Nat) : 0 ≤ bt b p ∧ bt b p ≤ 1 := by
  rcases getD_mem_or5 (l := bitL b) p with h | h
  · rcases bitL_bit b _ h with h | h <;> (unfold bt; omega)
  · unfold bt; omega
/-- The value of L bits, the first one the highest. -/
def xv (b : List Int) (p : Nat) : Nat → Int
  | 0 => 0
  | L + 1 => 2 * xv b p L + bt b (p + L)
theorem xv_range (b : List Int) (p : Nat) : ∀ L, 0 ≤ xv b p L ∧ xv b p L < 2 ^ L
  | 0 => by simp [xv]
  | L + 1 => by
    have h1 := xv_range b p L
    have h2 := bt_range b (p + L)
    have h3 : (2 : Int) ^ (L + 1) = 2 * 2 ^ L := by rw [Int.pow_succ]; omega
    simp only [xv]; omega
/-- A word (or too few bits) from place p: the symbol, the error, the place behind. -/
def Dec (l b : List Int) (p : Nat) (s e : Int) (q : Nat) : Prop :=
  (∃ L i : Nat, 1 ≤ L ∧ L ≤ 15 ∧ p + L ≤ 8 * b.length ∧ (∀ j, j < L → kp l l.length j ≤ xv b p j) ∧ xv b p L < kp l l.length L ∧ i < l.length ∧ l.getD i 0 = L ∧ cn l L i = xv b p L - st l L ∧ s = i ∧ e = 0 ∧ q = p + L) ∨
  (∃ L : Nat, L ≤ 14 ∧ p + L = 8 * b.length ∧ (∀ j, j ≤ L → kp l l.length j ≤ xv b p j) ∧ s = 0 ∧ e = 10 ∧ q = p + L)
theorem cn_inj (l : List Int) {i j : Nat} {k : Int} (hi : l.getD i 0 = k) (hj : l.getD j 0 = k) (h : cn l k i = cn l k j) : i = j := by
  have a := @cn_lt l i j
  have c := @cn_lt l j i
  rw [hi] at a
  rw [hj] at c
  by_cases h1 : i < j
  · have := a h1; omega
  · by_cases h2 : j < i
    · have := c h2; omega
    · omega
theorem Dec.det {l b : List Int} {p : Nat} {s e s' e' : Int} {q q' : Nat} (h : Dec l b p s e q) (h' : Dec l b p s' e' q') : s = s' ∧ e = e' ∧ q = q' := by
  rcases h with ⟨L, i, h1, h2, h3, h4, h5, h6, h7, h8, rfl, rfl, rfl⟩ | ⟨L, h1, h2, h3, rfl, rfl, rfl⟩
  · rcases h' with ⟨L', i', k1, k2, k3, k4, k5, k6, k7, k8, rfl, rfl, rfl⟩ | ⟨L', k1, k2, k3, rfl, rfl, rfl⟩
    · have : L = L' := by
        by_cases a : L < L'
        · have := k4 L a; omega
        · by_cases c : L' < L
          · have := h4 L' c; omega
          · omega
      subst this
      have : i = i' := cn_inj l h7 k7 (by omega)
      subst this
      exact ⟨rfl, rfl, rfl⟩
    · have := k3 L (by omega); omega
  · rcases h' with ⟨L', i', k1, k2, k3, k4, k5, k6, k7, k8, rfl, rfl, rfl⟩ | ⟨L', k1, k2, k3, rfl, rfl, rfl⟩
    · have := h3 L' (by omega); omega
    · exact ⟨rfl, rfl, by omega⟩
theorem kp_top {l b : List Int} (hR : Rt l) (p : Nat) : xv b p 15 < kp l l.length 15 := by
  have := xv_range b p 15
  rw [hR.full]; omega
theorem rbit_con (b : List Int) (pos cap : Nat) (acc hv ai : Int) (hby : ∀ x ∈ b, isByte x) (hl : b.length ≤ 2 ^ 50) (h : RS b pos acc hv ai) :
    Con Try.prog 77 [.ptr 0 .z 4 0, .int .i64 1] [(.one 131 [.fn 80 [.ptr 1 .z 1 0, .ptr 2 .z 1 0], .int .u64 (acc), .int .i64 (hv), .fn 81 [.ptr 2 .z 1 0, .ptr 1 .z 1 0]]), .one 3 [.int .i64 ai], .one 23 [.slice 3 .z 1 b.length cap], .ro .u8 b]
      (fun v H R => ∃ acc2 hv2 ai2 x e, ∃ pos2, v = .tup [.int .u64 x, .int .i64 e] ∧ RS b pos2 acc2 hv2 ai2 ∧ ((e = 0 ∧ pos + 1 ≤ 8 * b.length ∧ x = bt b pos ∧ pos2 = pos + 1) ∨ (e = 10 ∧ 8 * b.length ≤ pos ∧ pos2 = pos)) ∧ R = [] ∧
        H = [(.one 131 [.fn 80 [.ptr 1 .z 1 0, .ptr 2 .z 1 0], .int .u64 (acc2), .int .i64 (hv2), .fn 81 [.ptr 2 .z 1 0, .ptr 1 .z 1 0]]), .one 3 [.int .i64 ai2], .one 23 [.slice 3 .z 1 b.length cap], .ro .u8 b]) := by
  refine (rbits_rs b pos cap 1 acc hv ai hby hl h).mono ?_
  rintro v H R ⟨rfl, rfl, acc2, hv2, ai2, h2, rfl⟩
  refine ⟨acc2, hv2, ai2, _, _, _, rfl, h2, ?_, rfl, rfl⟩
  by_cases hp : pos + 1 ≤ 8 * b.length
  · refine .inl ⟨?_, hp, ?_, ?_⟩
    · unfold rbE; rw [if_pos (by omega), if_pos (by omega)]
    · unfold rbX; rw [if_pos ⟨by omega, by omega, by omega⟩]; simp [bval, bt]
    · unfold rbP; rw [if_pos ⟨by omega, by omega, by omega⟩]; rfl
  · refine .inr ⟨?_, by omega, ?_⟩
    · unfold rbE; rw [if_pos (by omega), if_neg (by omega)]
    · unfold rbP; rw [if_neg (by omega)]
end Go.Proofs.Ytodobmkflimfkaa
namespace Go.Proofs.Ytodobmkflimfkaa
open Go Go.Sx Go.Proofs
/-! canon.Word. -/
def Mn (l : List Int) (i : Nat) (v : List Int) : Prop := v.length = 16 ∧ ∀ k : Nat, k < 16 → v.getD k 0 = cn l k i
theorem getD_rep0 (m k : Nat) : (List.replicate m (0 : Int)).getD k 0 = 0 := by
  by_cases h : k < m <;> simp [List.getD_eq_getElem?_getD, List.getElem?_replicate, h]
theorem Mn.zero (l : List Int) : Mn l 0 (List.replicate 16 0) := by
  refine ⟨by simp, fun k hk => ?_⟩
  rw [getD_rep0]
  rfl
theorem Mn.step {l v : List Int} {i x : Nat} (h : Mn l i v) (hx : l.getD i 0 = x) (h16 : x < 16) : Mn l (i + 1) (v.set x (v.getD x 0 + 1)) := by
  refine ⟨by simp [h.1], fun k hk => ?_⟩
  have h2 := h.2 k hk
  simp only [cn, hx]
  by_cases e : k = x
  · subst e
    rw [if_pos rfl, ← h2]
    simp [List.getD_eq_getElem?_getD, List.getElem?_set, h.1, hk]
  · rw [if_neg (by omega), ← h2]
    simp [List.getD_eq_getElem?_getD, List.getElem?_set, Ne.symm e]
set_option maxRecDepth 10000
set_option maxHeartbeats 40000000
theorem word_con (l b : List Int) (p cap cap2 : Nat) (acc hv ai : Int) (hR : Rt l) (hby : ∀ x ∈ b, isByte x) (hl : b.length ≤ 2 ^ 50) (hs : RS b p acc hv ai) (hp : p ≤ 8 * b.length) :
    Con Try.prog 82 [.ptr 0 .z 4 0, .slice 4 .z 1 l.length cap2] [(.one 131 [.fn 80 [.ptr 1 .z 1 0, .ptr 2 .z 1 0], .int .u64 (acc), .int .i64 (hv), .fn 81 [.ptr 2 .z 1 0, .ptr 1 .z 1 0]]), .one 3 [.int .i64 ai], .one 23 [.slice 3 .z 1 b.length cap], .ro .u8 b, .ro .u8 l]
      (fun v H R => ∃ acc2 hv2 ai2 s e, ∃ q, v = .tup [.int .i64 s, .int .i64 e] ∧ RS b q acc2 hv2 ai2 ∧ Dec l b p s e q ∧ R = [] ∧
        H = [(.one 131 [.fn 80 [.ptr 1 .z 1 0, .ptr 2 .z 1 0], .int .u64 (acc2), .int .i64 (hv2), .fn 81 [.ptr 2 .z 1 0, .ptr 1 .z 1 0]]), .one 3 [.int .i64 ai2], .one 23 [.slice 3 .z 1 b.length cap], .ro .u8 b, .ro .u8 l]) := by
  have hrd := fun pos acc hv ai h => rbit_con b pos cap acc hv ai hby hl h
  refine con_gen (con_cut 5 (by simp) (con_drop (con_walk hmix fn82 ?_)))
  intro vb vc vw vtoN vofN vaddN vsubN vmaxI vminI vcutN vgd vst vln vrep vsub vonto vsplice vstrEq vbyteV vnotB veqB hw qb qc qw qtoN qofN qaddN qsubN qmaxI qminI qcutN qgd qst qln qrep qsub qonto qsplice qstrEq qbyteV qnotB qeqB
  have hm := hmix; generalize Try.prog = P at *
  have hn1 := hR.n1
  have hu8 := hR.u8
  have hl15 := hR.l15
  have hbt := bt_range b
  have hxr := xv_range b p
  have hxs : ∀ L, xv b p (L + 1) = 2 * xv b p L + bt b (p + L) := fun _ => rfl
  have hx0 : xv b p 0 = 0 := rfl
  have hxt := kp_top (b := b) hR p
  have hk0 : kp l l.length 0 = 0 := rfl
  have hks : ∀ L, kp l l.length (L + 1) = 2 * kp l l.length L + cn l (L + 1 : Nat) l.length := fun _ => rfl
  have hkm := kp_mono l l.length
  have hkp := kp_nonneg l l.length
  have hc0 : ∀ k, cn l k 0 = 0 := fun _ => rfl
  have hcs : ∀ k i, cn l k (i + 1) = cn l k i + (if l.getD i 0 = k then 1 else 0) := fun _ _ => rfl
  have hcr := cn_range l
  have hm0 := Mn.zero l
  have hms := fun i v x => @Mn.step l v i x
  have hml : ∀ i v, Mn l i v → v.length = 16 := fun i v h => h.1
  have hmg : ∀ i v, Mn l i v → ∀ k : Nat, k < 16 → v.getD k 0 = cn l k i := fun i v h => h.2
  have hD1 : ∀ L i : Nat, 1 ≤ L → L ≤ 15 → p + L ≤ 8 * b.length → (∀ j, j < L → kp l l.length j ≤ xv b p j) → xv b p L < kp l l.length L → i < l.length → l.getD i 0 = L → cn l L i = xv b p L - st l L → Dec l b p i 0 (p + L) :=
    fun L i h1 h2 h3 h4 h5 h6 h7 h8 => .inl ⟨L, i, h1, h2, h3, h4, h5, h6, h7, h8, rfl, rfl, rfl⟩
  have hD2 : ∀ L : Nat, L ≤ 14 → p + L = 8 * b.length → (∀ j, j ≤ L → kp l l.length j ≤ xv b p j) → Dec l b p 0 10 (p + L) := fun L h1 h2 h3 => .inr ⟨L, h1, h2, h3, rfl, rfl, rfl⟩
  have hst : ∀ L, st l L = 2 * kp l l.length (L - 1) := fun _ => rfl
  generalize Dec l b p = DEC at *
  generalize st l = ST at *
  generalize xv b p = XV at *
  generalize bt b = BT at *
  generalize kp l l.length = KP at *
  generalize cn l = CN at *
  generalize Mn l = MN at *
  generalize RS b = RSb at *
  generalize hT : 8 * b.length = T at *
  generalize b.length = lb at *
  generalize hn : l.length = n at *
  have hto : ∀ i : Nat, vtoN (i : Int) = i := fun i => by simp only [qtoN, Int.toNat_natCast]
  have hadd0 : ∀ i, vaddN 0 i = i := fun i => by simp only [qaddN, Nat.zero_add]
  have hvl : ∀ l, vln l = l.length := fun l => by simp only [qln]
  have hvgd : ∀ l i, vgd l i = l.getD i 0 := fun l i => by simp only [qgd]
  have hvst : ∀ l i x, vst l i x = l.set i x := fun l i x => by simp only [qst]
  have hrep : ∀ n x, vrep n x = List.replicate n x := fun n x => by simp only [qrep]
  cbv
  refine loop_fam (α := Int × List Int) ([8] ++ [20, 21, 22, 23, 24, 25, 26, 27, 28]) [] (fun (k, _) => [(19, .int .i64 k)]) (fun (_, v) => [(5, .ints 171 .i64 v)])
    (fun (k, v) => ∃ i : Nat, k = i ∧ i ≤ n ∧ MN i v) (fun (k, _) => n - k.toNat) hw hm ?_ ?_
  · refine Cv.genAt [19] [5] (Cv.fold ([8] ++ [20, 21, 22, 23, 24, 25, 26, 27, 28]) 6 [] (by exact Nat.le_refl _) (by exact Nat.le_of_ble_eq_true rfl) (by rfl) (by cbv) ?_)
    intro js
    refine ⟨(_, _), ?_, js, rfl⟩
    exact ⟨0, rfl, by omega, by rw [hrep]; exact hm0⟩
  · rintro ⟨k, v⟩ js ⟨i, hk, hi, hv⟩
    cbv
    split
    · rename_i hlt
      have hlt : i < n := by rw [qc, lss_true] at hlt; simp only [qofN] at hlt; simp only [nc] at *; omega
      have hti : vtoN k = i := by rw [hk]; exact hto i
      have hinR : 0 ≤ k ∧ k < (n : Int) := by simp only [nc] at *; omega
      obtain ⟨k1, hk1⟩ : ∃ k1 : Int, k1 = ((i + 1 : Nat) : Int) := ⟨_, rfl⟩
      have ek : vb .add .i64 k 1 = k1 := by simp only [nc] at *; rw [qb, add_i64 (by omega) (by omega)]; omega
      have hmu : ∀ _ : Unit, n - k1.toNat < n - k.toNat := fun _ => by simp only [nc] at *; omega
      have hu := hu8 i
      have h15 := hl15 i
      have hvl1 := hvl l
      have hvl2 := hvl v
      have hv16 := hml i v hv
      obtain ⟨x, hx⟩ : ∃ x : Nat, l.getD i 0 = x := ⟨(l.getD i 0).toNat, by omega⟩
      have hx16 : x < 16 := by omega
      have hvx := hmg i v hv x hx16
      have hcx := hcr x i
      have hstep := hms i v x hv hx (by omega)
      rw [← hvst] at hstep
      obtain ⟨xI, hxI⟩ : ∃ xI : Int, xI = x := ⟨_, rfl⟩
      have htx : vtoN xI = x := by rw [hxI]; exact hto x
      obtain ⟨y, hy⟩ : ∃ y : Int, y = v.getD x 0 := ⟨_, rfl⟩
      have ey : vb .add .i64 y 1 = y + 1 := by simp only [nc] at *; rw [qb, add_i64 (by omega) (by omega)]
      rw [← hxI] at hx
      have hinX : 0 ≤ xI ∧ xI < (16 : Int) := by omega
      cbv
      rw [hti, hadd0, hvgd, hx]
      refine ⟨⟨hinR⟩, ⟨by omega⟩, ⟨by omega⟩, ?_⟩
      rw [htx, hvgd, ← hy, ey, ek]
      rw [← hy] at hstep
      have hlx : x < vln v := by omega
      refine ⟨⟨hinX⟩, ⟨hlx⟩, ⟨hinX⟩, ⟨hlx⟩, ?_⟩
      refine Cv.fold ([8] ++ [20, 21, 22, 23, 24, 25, 26, 27, 28]) 6 [] (by exact Nat.le_refl _) (by exact Nat.le_of_ble_eq_true rfl) (by rfl) (by cbv) ?_
      intro js
      refine ⟨(_, _), ?_, js, rfl⟩
      exact ⟨⟨i + 1, hk1, hlt, hstep⟩, hmu ()⟩
    · rename_i hge
      have hin : i = n := by rw [qc, lss_false] at hge; simp only [qofN] at hge; simp only [nc] at *; omega
      subst hin
      have hv16 := hml i v hv
      have hmv := hmg i v hv
      have hvl2 := hvl v
      have hvl1 := hvl l
      clear hm0 hms hml hmg hv
      cbv
      refine loop_fam (α := Int × Int × Int × Int × Int × Int) ([12, 13, 14, 15, 16] ++ [29, 30, 31, 32, 33, 34, 35, 36, 37, 38, 39, 40, 41, 42, 43, 44, 45, 46, 47, 48, 49, 50, 51, 52, 53, 54, 55, 56, 57, 58, 59, 60, 61, 62, 63, 64, 65, 66, 67, 68, 69, 70, 71, 72, 73, 74, 75, 76, 77, 78, 79]) [] (fun (k, x, f, _, _, _) => [(11, .int .i64 k), (9, .int .i64 x), (10, .int .i64 f)])
        (fun (_, _, _, acc, hv, ai) => [(0, .one 131 [.fn 80 [.ptr 1 .z 1 0, .ptr 2 .z 1 0], .int .u64 acc, .int .i64 hv, .fn 81 [.ptr 2 .z 1 0, .ptr 1 .z 1 0]]), (1, .one 3 [.int .i64 ai])])
        (fun (k, x, f, acc, hv, ai) => ∃ L : Nat, k = L ∧ 1 ≤ L ∧ L ≤ 16 ∧ x = XV (L - 1) ∧ f = KP (L - 1) ∧ p + (L - 1) ≤ T ∧ (∀ j, j < L → KP j ≤ XV j) ∧ RSb (p + (L - 1)) acc hv ai) (fun (k, _) => 16 - k.toNat) hw hm ?_ ?_
      · refine Cv.genAt [11, 9, 10] [0, 1] (Cv.fold ([12, 13, 14, 15, 16] ++ [29, 30, 31, 32, 33, 34, 35, 36, 37, 38, 39, 40, 41, 42, 43, 44, 45, 46, 47, 48, 49, 50, 51, 52, 53, 54, 55, 56, 57, 58, 59, 60, 61, 62, 63, 64, 65, 66, 67, 68, 69, 70, 71, 72, 73, 74, 75, 76, 77, 78, 79]) 6 [] (by exact Nat.le_refl _) (by exact Nat.le_of_ble_eq_true rfl) (by rfl) (by cbv) ?_)
        intro js
        refine ⟨(_, _, _, _, _, _), ?_, js, rfl⟩
        exact ⟨1, rfl, by omega, by omega, hx0.symm, hk0.symm, hp, fun j hj => by (have h0 : j = 0 := by omega); subst h0; omega, hs⟩
      · rintro ⟨k, x, f, acc, hv, ai⟩ js ⟨L, hk, hL1, hL2, hx, hf, hpT, hj, hrs⟩
        cbv
        split
        · rename_i hlt
          have hlt : L ≤ 15 := by rw [qc, leq_eq] at hlt; simp only [decide_eq_true_eq] at hlt; simp only [nc] at *; omega
          have hrd1 := hrd (p + (L - 1)) acc hv ai hrs
          cbv
          refine call_con (ρ := [(0, .z), (1, .z), (2, .z), (3, .z)]) hrd1 ⟨by rfl, by rfl, by rfl, by cbv; exact ⟨⟨⟨by omega, fun i _ => by rw [Nat.zero_add]⟩⟩, trivial⟩⟩ ?_
          rintro v H R js2 ⟨acc2, hv2, ai2, y, e, pos2, rfl, hrs2, hcase, rfl, rfl⟩
          cbv
          have hne0 : vc .neq 0 0 = false := by rw [qc]; rfl
          have hne1 : vc .neq 10 0 = true := by rw [qc]; rfl
          rcases hcase with ⟨rfl, hp1, hy, rfl⟩ | ⟨rfl, hp1, rfl⟩
          rotate_left
          · rw [hne1]
            cbv
            exact ⟨acc2, hv2, ai2, 0, 10, _, rfl, hrs2, hD2 (L - 1) (by omega) (by omega) (fun j h => hj j (by omega)), rfl, rfl⟩
          rw [hne0]
          cbv
          obtain ⟨M, rfl⟩ : ∃ M, L = M + 1 := ⟨L - 1, by omega⟩
          simp only [nc] at hk
          simp only [Nat.add_sub_cancel] at hx hf hpT hrs hy hrs2 hp1
          have hxL := hxs M
          have hkL := hks M
          have hstL := hst (M + 1)
          simp only [Nat.add_sub_cancel] at hstL
          have hb1 := hbt (p + M)
          have hxr1 := hxr (M + 1)
          have hxr0 := hxr M
          have hj0 := hj M (by omega)
          have hkp0 := hkp M
          simp only [nc] at hkL
          rw [← hk] at hkL
          have hcr1 := hcr k i
          have hpw : (2 : Int) ^ (M + 1) ≤ 2 ^ 15 := pow_up hlt
          have hpw0 : (2 : Int) ^ M ≤ 2 ^ 15 := pow_up (by omega)
          obtain ⟨x1, hx1⟩ : ∃ x1, x1 = XV (M + 1) := ⟨_, rfl⟩
          obtain ⟨f1, hf1⟩ : ∃ f1, f1 = ST (M + 1) := ⟨_, rfl⟩
          obtain ⟨d1, hd1⟩ : ∃ d1, d1 = x1 - f1 := ⟨_, rfl⟩
          obtain ⟨c1, hc1⟩ : ∃ c1, c1 = CN k i := ⟨_, rfl⟩
          obtain ⟨x2, hx2⟩ : ∃ x2, x2 = 2 * x := ⟨_, rfl⟩
          have em1 : vb .mul .i64 2 x = x2 := by rw [qb, mul_i64 (by omega) (by omega)]; omega
          have ew1 : vw .i64 y = y := by rw [qw]; exact wrap_i64 (by omega) (by omega)
          have ea1 : vb .add .i64 x2 y = x1 := by rw [qb, add_i64 (by omega) (by omega)]; omega
          have em2 : vb .mul .i64 2 f = f1 := by rw [qb, mul_i64 (by omega) (by omega)]; omega
          have es1 : vb .sub .i64 x1 f1 = d1 := by rw [qb, sub_i64 (by omega) (by omega)]; omega
          have htk : vtoN k = M + 1 := by rw [hk]; exact hto _
          have hgk : v.getD (M + 1) 0 = c1 := by have := hmv (M + 1) (by omega); simp only [nc] at this; rw [this, hc1, hk]
          have hinK : 0 ≤ k ∧ k < (16 : Int) := by omega
          have hlk : M + 1 < vln v := by omega
          have hmu : ∀ k1 : Int, k1 = ((M + 1 + 1 : Nat) : Int) → ∀ _ : Unit, 16 - k1.toNat < 16 - k.toNat := by intro k1 h _; omega
          obtain ⟨k1, hk1⟩ : ∃ k1 : Int, k1 = ((M + 1 + 1 : Nat) : Int) := ⟨_, rfl⟩
          have hmu := hmu k1 hk1
          have ek : vb .add .i64 k 1 = k1 := by rw [qb, add_i64 (by omega) (by omega)]; omega
          rw [em1, ew1, ea1, em2, es1, htk, hvgd, hgk]
          refine ⟨⟨hinK⟩, ⟨hlk⟩, ?_⟩
          generalize hz : vc .geq d1 c1 = z
          cases z
          rotate_left
          · rw [qc, geq_eq] at hz
            simp only [decide_eq_true_eq] at hz
            obtain ⟨f2, hf2⟩ : ∃ f2, f2 = KP (M + 1) := ⟨_, rfl⟩
            have ea2 : vb .add .i64 f1 c1 = f2 := by rw [qb, add_i64 (by omega) (by omega)]; omega
            cbv
            rw [htk, hvgd, hgk, ea2, ek]
            refine ⟨⟨hinK⟩, ⟨hlk⟩, ?_⟩
            refine Cv.fold ([12, 13, 14, 15, 16] ++ [29, 30, 31, 32, 33, 34, 35, 36, 37, 38, 39, 40, 41, 42, 43, 44, 45, 46, 47, 48, 49, 50, 51, 52, 53, 54, 55, 56, 57, 58, 59, 60, 61, 62, 63, 64, 65, 66, 67, 68, 69, 70, 71, 72, 73, 74, 75, 76, 77, 78, 79]) 6 [] (by exact Nat.le_refl _) (by exact Nat.le_of_ble_eq_true rfl) (by rfl) (by cbv) ?_
            intro js
            refine ⟨(_, _, _, _, _, _), ?_, js, rfl⟩
            refine ⟨⟨M + 1 + 1, hk1, by omega, by omega, hx1, hf2, by simp only [Nat.add_sub_cancel]; omega, fun j h => ?_, hrs2⟩, hmu ()⟩
            by_cases hjM : j = M + 1
            · subst hjM; omega
            · exact hj j (by omega)
          · rw [qc, geq_eq] at hz
            simp only [decide_eq_false_iff_not] at hz
            have hp2 : p + (M + 1) ≤ T := by omega
            have hxk : XV (M + 1) < KP (M + 1) := by omega
            have hM15 : M + 1 ≤ 15 := hlt
            have hD1k : ∀ u, u < i → l.getD u 0 = k → CN k u = XV (M + 1) - ST (M + 1) → DEC u 0 (p + (M + 1)) := fun u h1 h2 h3 => by
              subst hk; exact hD1 (M + 1) u (by omega) hM15 hp2 hj hxk h1 h2 h3
            cbv
            refine loop_fam (α := Int × Int) ([15, 16] ++ [66, 67, 68, 69, 70, 71, 72, 73, 74, 75, 76, 77, 78, 79]) [] (fun (q, d) => [(65, .int .i64 q), (14, .int .i64 d)]) (fun _ => [])
              (fun (q, d) => ∃ u : Nat, q = u ∧ u ≤ i ∧ d = d1 - CN k u ∧ 0 ≤ d) (fun (q, _) => i - q.toNat) hw hm ?_ ?_
            · refine Cv.genAt [65, 14] [] (Cv.fold ([15, 16] ++ [66, 67, 68, 69, 70, 71, 72, 73, 74, 75, 76, 77, 78, 79]) 6 [] (by exact Nat.le_refl _) (by exact Nat.le_of_ble_eq_true rfl) (by rfl) (by cbv) ?_)
              intro js
              refine ⟨(_, _), ?_, js, rfl⟩
              have h00 := hc0 k
              exact ⟨0, rfl, by omega, by omega, by omega⟩
            · rintro ⟨q, d⟩ js3 ⟨u, hq, hu, hd, hd0⟩
              cbv
              split
              · rename_i hlt2
                have hlt2 : u < i := by rw [qc, lss_true] at hlt2; simp only [qofN] at hlt2; simp only [nc] at *; omega
                have htq : vtoN q = u := by rw [hq]; exact hto u
                have hinR : 0 ≤ q ∧ q < (i : Int) := by simp only [nc] at *; omega
                obtain ⟨q1, hq1⟩ : ∃ q1 : Int, q1 = ((u + 1 : Nat) : Int) := ⟨_, rfl⟩
                have eq1 : vb .add .i64 q 1 = q1 := by simp only [nc] at *; rw [qb, add_i64 (by omega) (by omega)]; omega
                have hmu2 : ∀ _ : Unit, i - q1.toNat < i - q.toNat := fun _ => by simp only [nc] at *; omega
                have hxu := hu8 u
                have hxu1 := hl15 u
                have hcu := hcs k u
                have hcru := hcr k u
                have hlu : u < vln l := by omega
                have hfin : l.getD u 0 = k → d = 0 → DEC u 0 (p + (M + 1)) := fun h1 h2 => hD1k u hlt2 h1 (by omega)
                cbv
                rw [htq, hadd0, hvgd]
                refine ⟨⟨hinR⟩, ⟨hlu⟩, ⟨hlu⟩, ?_⟩
                generalize hxg : l.getD u 0 = g at *
                have ewg : vw .i64 g = g := by rw [qw]; exact wrap_i64 (by omega) (by omega)
                rw [ewg]
                generalize hz3 : vc .neq g k = z3
                cases z3
                rotate_left
                · rw [qc, neq_eq] at hz3
                  simp only [decide_eq_true_eq] at hz3
                  rw [if_neg (by omega)] at hcu
                  cbv
                  rw [eq1]
                  refine Cv.fold ([15, 16] ++ [66, 67, 68, 69, 70, 71, 72, 73, 74, 75, 76, 77, 78, 79]) 6 [] (by exact Nat.le_refl _) (by exact Nat.le_of_ble_eq_true rfl) (by rfl) (by cbv) ?_
                  intro js
                  refine ⟨(_, _), ?_, js, rfl⟩
                  exact ⟨⟨u + 1, hq1, hlt2, by omega, hd0⟩, hmu2 ()⟩
                · rw [qc, neq_eq] at hz3
                  simp only [decide_eq_false_iff_not, Decidable.not_not] at hz3
                  have hgM : g = k := hz3
                  have hfin := hfin hgM
                  rw [if_pos hgM] at hcu
                  cbv
                  generalize hz4 : vc .eql d 0 = z4
                  cases z4
                  rotate_left
                  · rw [qc, eql_true] at hz4
                    have hfin := hfin hz4
                    rw [← hq] at hfin
                    cbv
                    exact ⟨acc2, hv2, ai2, q, 0, _, rfl, hrs2, hfin, rfl, rfl⟩
                  · rw [qc, eql_false] at hz4
                    obtain ⟨d2, hd2⟩ : ∃ d2, d2 = d - 1 := ⟨_, rfl⟩
                    have ed2 : vb .sub .i64 d 1 = d2 := by rw [qb, sub_i64 (by omega) (by omega)]; omega
                    cbv
                    rw [ed2, eq1]
                    refine Cv.fold ([15, 16] ++ [66, 67, 68, 69, 70, 71, 72, 73, 74, 75, 76, 77, 78, 79]) 6 [] (by exact Nat.le_refl _) (by exact Nat.le_of_ble_eq_true rfl) (by rfl) (by cbv) ?_
                    intro js
                    refine ⟨(_, _), ?_, js, rfl⟩
                    exact ⟨⟨u + 1, hq1, hlt2, by rw [hd2, hd, hcu]; omega, by omega⟩, hmu2 ()⟩
              · rename_i hge
                have hui : u = i := by rw [qc, lss_false] at hge; simp only [qofN] at hge; simp only [nc] at *; omega
                rw [hui] at hd
                omega
        · rename_i hge
          have hL : L = 16 := by rw [qc, leq_eq] at hge; simp only [Bool.not_eq_true, decide_eq_false_iff_not] at hge; simp only [nc] at *; omega
          have := hj 15 (by omega)
          omega
end Go.Proofs.Ytodobmkflimfkaa
namespace Go.Proofs.Ytodobmkflimfkaa
open Go Go.Sx Go.Proofs
/-! canon.Read. -/
set_option maxRecDepth 10000
set_option maxHeartbeats 4000000
theorem read5_ok (l b : List Int) (p cap cap2 : Nat) (acc hv ai : Int) (hlu : ∀ c ∈ l, isU8 c) (h5 : Right5 l) (hby : ∀ x ∈ b, isByte x) (hl : b.length ≤ 2 ^ 50) (hs : RS b p acc hv ai) (hp : p ≤ 8 * b.length) :
    Con Try.prog 34 [.ptr 0 .z 4 0, .slice 4 .z 1 l.length cap2] [(.one 131 [.fn 80 [.ptr 1 .z 1 0, .ptr 2 .z 1 0], .int .u64 (acc), .int .i64 (hv), .fn 81 [.ptr 2 .z 1 0, .ptr 1 .z 1 0]]), .one 3 [.int .i64 ai], .one 23 [.slice 3 .z 1 b.length cap], .ro .u8 b, .ro .u8 l]
      (fun v H R => ∃ acc2 hv2 ai2 s e, ∃ q, v = .tup [.int .i64 s, .int .i64 e] ∧ RS b q acc2 hv2 ai2 ∧ Dec l b p s e q ∧ R = [] ∧
        H = [(.one 131 [.fn 80 [.ptr 1 .z 1 0, .ptr 2 .z 1 0], .int .u64 (acc2), .int .i64 (hv2), .fn 81 [.ptr 2 .z 1 0, .ptr 1 .z 1 0]]), .one 3 [.int .i64 ai2], .one 23 [.slice 3 .z 1 b.length cap], .ro .u8 b, .ro .u8 l]) := by
  have hR := h5.rt hlu
  have hw1 := word_con l b p cap cap2 acc hv ai hR hby hl hs hp
  have hrt := right5_con l cap2 hlu (by have := hR.n1; omega) true (by simp [h5])
  refine con_gen (con_cut 5 (by simp) (con_drop (con_walk hmix fn34 ?_)))
  intro vb vc vw vtoN vofN vaddN vsubN vmaxI vminI vcutN vgd vst vln vrep vsub vonto vsplice vstrEq vbyteV vnotB veqB hw qb qc qw qtoN qofN qaddN qsubN qmaxI qminI qcutN qgd qst qln qrep qsub qonto qsplice qstrEq qbyteV qnotB qeqB
  have hm := hmix; generalize Try.prog = P at *
  generalize Dec l b p = DEC at *
  generalize RS b = RSb at *
  generalize b.length = lb at *
  generalize hn : l.length = n at *
  have hnf1 : vnotB true = false := by simp only [qnotB]; rfl
  cbv
  refine call_con (ρ := [(4, .z)]) hrt ⟨by rfl, by rfl, by rfl, by cbv; exact ⟨⟨⟨by omega, fun i _ => by rw [Nat.zero_add]⟩⟩, trivial⟩⟩ ?_
  rintro v H R js ⟨rfl, rfl, rfl⟩
  cbv
  rw [hnf1]
  cbv
  refine call_con (ρ := [(0, .z), (1, .z), (2, .z), (3, .z), (4, .z)]) hw1 ⟨by rfl, by rfl, by rfl, by cbv; exact ⟨⟨⟨by omega, fun i _ => by rw [Nat.zero_add]⟩⟩, ⟨⟨by omega, fun i _ => by rw [Nat.zero_add]⟩⟩, trivial⟩⟩ ?_
  rintro v H R js ⟨acc2, hv2, ai2, s, e, q, rfl, h1, h2, rfl, rfl⟩
  cbv
  exact ⟨acc2, hv2, ai2, s, e, q, rfl, h1, h2, rfl, rfl⟩
theorem read5_bad (l b : List Int) (lb cap cap2 : Nat) (acc hv ai : Int) (hlu : ∀ c ∈ l, isU8 c) (hlen : l.length ≤ 9223372036854775807) (h5 : ¬ Right5 l) :
    Con Try.prog 34 [.ptr 0 .z 4 0, .slice 4 .z 1 l.length cap2] [(.one 131 [.fn 80 [.ptr 1 .z 1 0, .ptr 2 .z 1 0], .int .u64 (acc), .int .i64 (hv), .fn 81 [.ptr 2 .z 1 0, .ptr 1 .z 1 0]]), .one 3 [.int .i64 ai], .one 23 [.slice 3 .z 1 lb cap], .ro .u8 b, .ro .u8 l]
      (fun v H R => v = .tup [.int .i64 0, .int .i64 50] ∧ H = [(.one 131 [.fn 80 [.ptr 1 .z 1 0, .ptr 2 .z 1 0], .int .u64 (acc), .int .i64 (hv), .fn 81 [.ptr 2 .z 1 0, .ptr 1 .z 1 0]]), .one 3 [.int .i64 ai], .one 23 [.slice 3 .z 1 lb cap], .ro .u8 b, .ro .u8 l] ∧ R = []) := by
  have hrt := right5_con l cap2 hlu hlen false (by simp [h5])
  refine con_gen (con_cut 5 (by simp) (con_drop (con_walk hmix fn34 ?_)))
  intro vb vc vw vtoN vofN vaddN vsubN vmaxI vminI vcutN vgd vst vln vrep vsub vonto vsplice vstrEq vbyteV vnotB veqB hw qb qc qw qtoN qofN qaddN qsubN qmaxI qminI qcutN qgd qst qln qrep qsub qonto qsplice qstrEq qbyteV qnotB qeqB
  have hm := hmix; generalize Try.prog = P at *
  generalize hn : l.length = n at *
  have hnf1 : vnotB false = true := by simp only [qnotB]; rfl
  cbv
  refine call_con (ρ := [(4, .z)]) hrt ⟨by rfl, by rfl, by rfl, by cbv; exact ⟨⟨⟨by omega, fun i _ => by rw [Nat.zero_add]⟩⟩, trivial⟩⟩ ?_
  rintro v H R js ⟨rfl, rfl, rfl⟩
  cbv
  rw [hnf1]
  cbv
/-- Sixteen bits begin with a word. -/
theorem Dec.whole {l b : List Int} {s e : Int} {q : Nat} (hb : b.length = 2) (h : Dec l b 0 s e q) : ∃ i : Nat, s = i ∧ i < l.length ∧ e = 0 ∧ l.getD i 0 = q ∧ 1 ≤ q ∧ q ≤ 15 := by
  rcases h with ⟨L, i, h1, h2, h3, h4, h5, h6, h7, h8, rfl, rfl, rfl⟩ | ⟨L, h1, h2, h3, rfl, rfl, rfl⟩
  · refine ⟨i, rfl, h6, rfl, ?_, by omega, by omega⟩
    rw [h7]; simp
  · omega
end Go.Proofs.Ytodobmkflimfkaa
