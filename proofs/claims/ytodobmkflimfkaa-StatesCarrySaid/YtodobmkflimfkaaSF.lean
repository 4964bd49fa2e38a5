import Derived.Test.YtodobmkflimfkaaSD
namespace Go.Proofs.Ytodobmkflimfkaa
open Go Go.Sx Go.Proofs
/-! ### How many cells a symbol has -/
def orb (size : Int) (j : Nat) : Int := (j * (size / 2 + size / 8 + 3)) % size
abbrev isSize (size : Int) : Prop := size = 32 ∨ size = 64 ∨ size = 128 ∨ size = 256 ∨ size = 512 ∨ size = 1024 ∨ size = 2048 ∨ size = 4096
theorem size_inv {size : Int} (hs : isSize size) : ∃ inv : Int, (inv * (size / 2 + size / 8 + 3)) % size = 1 := by
  rcases hs with rfl | rfl | rfl | rfl | rfl | rfl | rfl | rfl
  · exact ⟨7, by decide⟩
  · exact ⟨3, by decide⟩
  · exact ⟨91, by decide⟩
  · exact ⟨11, by decide⟩
  · exact ⟨363, by decide⟩
  · exact ⟨43, by decide⟩
  · exact ⟨1451, by decide⟩
  · exact ⟨171, by decide⟩
theorem orb_inv {size inv : Int} (hp : 0 < size) (hi : (inv * (size / 2 + size / 8 + 3)) % size = 1) (j : Nat) (h : (j : Int) < size) : (orb size j * inv) % size = j := by
  unfold orb
  rw [Int.mul_emod, Int.emod_emod_of_dvd _ (Int.dvd_refl _), ← Int.mul_emod, Int.mul_assoc, Int.mul_comm (size / 2 + size / 8 + 3) inv, Int.mul_emod, hi, Int.mul_one, Int.emod_emod_of_dvd _ (Int.dvd_refl _)]
  exact Int.emod_eq_of_lt (by omega) h
theorem orb_onto {size inv : Int} (hp : 0 < size) (hi : (inv * (size / 2 + size / 8 + 3)) % size = 1) {a : Int} (h0 : 0 ≤ a) (h1 : a < size) : ∃ j : Nat, (j : Int) < size ∧ orb size j = a := by
  refine ⟨((a * inv) % size).toNat, ?_, ?_⟩
  · have := Int.emod_lt_of_pos (a * inv) hp
    have := Int.emod_nonneg (a * inv) (by omega : size ≠ 0)
    omega
  · unfold orb
    rw [Int.toNat_of_nonneg (Int.emod_nonneg _ (by omega)), Int.mul_emod, Int.emod_emod_of_dvd _ (Int.dvd_refl _), ← Int.mul_emod, Int.mul_assoc, Int.mul_emod, hi, Int.mul_one, Int.emod_emod_of_dvd _ (Int.dvd_refl _)]
    exact Int.emod_eq_of_lt h0 h1
theorem orb_step {size : Int} (j : Nat) : stepT size (orb size j) = orb size (j + 1) := by
  unfold stepT orb
  rw [Int.add_assoc, Int.add_assoc, Int.emod_add_emod]
  congr 1
  push_cast
  rw [Int.add_mul]
  omega
/-- How many of the first m places of the round are below high. -/
def hitN (size high : Int) : Nat → Int := sumI (fun j => if orb size j < high then 1 else 0)
theorem sumI_delta {n s : Nat} (h : s < n) : sumI (fun i => if i = s then 1 else 0) n = 1 := by
  rw [sumI_upd (f := fun _ => 0) h]
  have : ∀ n, sumI (fun _ => 0) n = 0 := by
    intro n
    induction n with
    | zero => rfl
    | succ n ih => simp only [sumI]; omega
  rw [this]; rfl
theorem hitN_all {size : Int} (hs : isSize size) : ∀ (h : Nat), (h : Int) ≤ size → hitN size h size.toNat = h := by
  obtain ⟨inv, hi⟩ := size_inv hs
  have hp : 0 < size := by omega
  intro h
  induction h with
  | zero =>
    intro _
    unfold hitN
    have : ∀ n, sumI (fun j => if orb size j < ((0 : Nat) : Int) then 1 else 0) n = 0 := by
      intro n
      induction n with
      | zero => rfl
      | succ n ih =>
        have := Int.emod_nonneg (n * (size / 2 + size / 8 + 3)) (by omega : size ≠ 0)
        simp only [sumI]
        rw [ih, if_neg (by unfold orb; omega)]; rfl
    rw [this]; rfl
  | succ h ih =>
    intro hle
    have ih := ih (by omega)
    obtain ⟨j0, hj0, hj1⟩ := orb_onto hp hi (a := h) (by omega) (by omega)
    have hsplit : ∀ n, sumI (fun j => if orb size j < ((h + 1 : Nat) : Int) then 1 else 0) n = sumI (fun j => if orb size j < (h : Int) then 1 else 0) n + sumI (fun j => if orb size j = (h : Int) then 1 else 0) n := by
      intro n
      induction n with
      | zero => rfl
      | succ n ih =>
        simp only [sumI]
        rw [ih]
        by_cases h1 : orb size n < (h : Int)
        · rw [if_pos h1, if_pos (by omega), if_neg (by omega)]; omega
        · by_cases h2 : orb size n = (h : Int)
          · rw [if_neg h1, if_pos (by omega), if_pos h2]; omega
          · rw [if_neg h1, if_neg (by omega), if_neg h2]; omega
    unfold hitN at *
    rw [hsplit, ih, sumI_congr (g := fun j => if j = j0 then 1 else 0) (fun j hj => ?_), sumI_delta (by omega)]
    · push_cast; rfl
    · by_cases he : j = j0
      · subst he; rw [if_pos hj1, if_pos rfl]
      · rw [if_neg he, if_neg (fun e => he ?_)]
        have h1 := orb_inv hp hi j (by omega)
        have h2 := orb_inv hp hi j0 hj0
        rw [e] at h1
        rw [hj1] at h2
        omega
theorem skip_orb {size high : Int} : ∀ (n m : Nat) (hm : ∃ d, d ≤ n ∧ orb size (m + d) < high), ∃ m', m ≤ m' ∧ skipT size high n (orb size m) = orb size m' ∧ orb size m' < high ∧ hitN size high m' = hitN size high m
  | 0, m, ⟨d, hd, h⟩ => by
    have : d = 0 := by omega
    subst this
    exact ⟨m, Nat.le_refl _, rfl, h, rfl⟩
  | n + 1, m, ⟨d, hd, h⟩ => by
    by_cases h0 : orb size m < high
    · exact ⟨m, Nat.le_refl _, by simp only [skipT]; rw [if_pos h0], h0, rfl⟩
    · have hd0 : d ≠ 0 := fun e => by subst e; exact h0 h
      obtain ⟨m', h1, h2, h3, h4⟩ := skip_orb n (m + 1) ⟨d - 1, by omega, by rw [show m + 1 + (d - 1) = m + d by omega]; exact h⟩
      refine ⟨m', by omega, by simp only [skipT]; rw [if_neg h0, orb_step]; exact h2, h3, ?_⟩
      rw [h4]
      unfold hitN
      simp only [sumI]
      rw [if_neg h0]; omega
theorem iter_orb {size : Int} : ∀ (n m : Nat), iterT size n (orb size m) = orb size (m + n)
  | 0, m => rfl
  | n + 1, m => by rw [iterT, orb_step, iter_orb n (m + 1)]; congr 1; omega
theorem pos_orb {size high : Int} (hs : isSize size) (hh : 0 < high) : ∀ q, ∃ m, posT size high q = orb size m ∧ orb size m < high ∧ hitN size high m = q
  | 0 => ⟨0, by simp [posT, orb], by simp [orb]; exact hh, rfl⟩
  | q + 1 => by
    obtain ⟨m, h1, h2, h3⟩ := pos_orb hs hh q
    have hsb := step_bound (size := size) (by omega) (posT size high q)
    obtain ⟨d, hd, hd0⟩ := hit0 hs hsb.1 hsb.2
    rw [h1, orb_step, iter_orb] at hd0
    obtain ⟨m', h4, h5, h6, h7⟩ := skip_orb (size := size) (high := high) 5000 (m + 1) ⟨d, by omega, by omega⟩
    refine ⟨m', by simp only [posT, nextT]; rw [h1, orb_step]; exact h5, h6, ?_⟩
    rw [h7]
    unfold hitN at *
    simp only [sumI]
    rw [if_pos h2, h3]; push_cast; rfl
theorem pos_inj {size : Int} {h : Nat} (hs : isSize size) (hle : (h : Int) ≤ size) {p q : Nat} (hp : p < h) (hq : q < h) (he : posT size h p = posT size h q) : p = q := by
  obtain ⟨inv, hi⟩ := size_inv hs
  obtain ⟨m, a1, a2, a3⟩ := pos_orb hs (by omega : (0 : Int) < h) p
  obtain ⟨n, b1, b2, b3⟩ := pos_orb hs (by omega : (0 : Int) < h) q
  have hall := hitN_all hs h hle
  have hlt : ∀ m k : Nat, k < h → hitN size h m = k → (m : Int) < size := by
    intro m k hk hm
    apply Classical.byContradiction
    intro hc
    have := sumI_mono (f := fun j => if orb size j < (h : Int) then 1 else 0) (m := size.toNat) (n := m) (fun i _ => by split <;> omega) (by omega)
    unfold hitN at hall hm
    omega
  have h1 := orb_inv (by omega) hi m (hlt m p hp a3)
  have h2 := orb_inv (by omega) hi n (hlt n q hq b3)
  rw [← a1, he, b1] at h1
  have : (m : Int) = n := by rw [← h1, ← h2]
  have : m = n := by omega
  subst this
  omega
end Go.Proofs.Ytodobmkflimfkaa
namespace Go.Proofs.Ytodobmkflimfkaa
open Go Go.Sx Go.Proofs
theorem cntT_upd {f : Nat → Int} {p : Nat} {v s : Int} : ∀ {N : Nat}, p < N → cntT (updI f p v) s N = cntT f s N - (if f p = s then 1 else 0) + (if v = s then 1 else 0) := by
  have e : ∀ (g : Nat → Int) N, cntT g s N = sumI (fun k => if g k = s then 1 else 0) N := by
    intro g N
    induction N with
    | zero => rfl
    | succ N ih => simp only [cntT, sumI, ih]
  intro N h
  rw [e, e, ← sumI_upd (f := fun k => if f k = s then 1 else 0) h]
  refine sumI_congr (fun i _ => ?_)
  rw [updI_eq]
  by_cases hi : i = p
  · rw [if_pos hi, if_pos hi]
  · rw [if_neg hi, if_neg hi]
theorem cntT_const {c s : Int} (h : c ≠ s) : ∀ N, cntT (fun _ => c) s N = 0
  | 0 => rfl
  | N + 1 => by simp only [cntT]; rw [cntT_const h N, if_neg h]; rfl
theorem cntT_all {c : Int} : ∀ N, cntT (fun _ => c) c N = N
  | 0 => rfl
  | N + 1 => by simp only [cntT]; rw [cntT_all N]; simp
theorem cntT_congr {f g : Nat → Int} {s : Int} : ∀ {N : Nat}, (∀ k, k < N → f k = g k) → cntT f s N = cntT g s N
  | 0, _ => rfl
  | N + 1, h => by simp only [cntT]; rw [cntT_congr (fun k hk => h k (by omega)), h N (by omega)]
theorem cntT_none {f : Nat → Int} {s : Int} : ∀ {N : Nat}, cntT f s N = 0 → ∀ k, k < N → f k ≠ s
  | 0, _, k, hk => by omega
  | N + 1, h, k, hk => by
    have h0 := cntT_range f s N
    simp only [cntT] at h
    by_cases he : f N = s
    · rw [if_pos he] at h; omega
    · rw [if_neg he] at h
      by_cases hkn : k = N
      · subst hkn; exact he
      · exact cntT_none (N := N) (by omega) k (by omega)
def negG (l : List Int) (size : Int) : Nat → Nat → Int
  | 0 => fun _ => -1
  | i + 1 => if l.getD i 0 < 0 then updI (negG l size i) (size - negN l (i + 1)).toNat i else negG l size i
theorem negG_spec {l : List Int} {size : Int} {N : Nat} (hN : size = N) : ∀ i : Nat, negN l i ≤ size → (∀ k : Nat, (k : Int) < size - negN l i → negG l size i k = -1) ∧ (∀ k, negG l size i k ≠ -1 → negS l size i k = negG l size i k) ∧
    (∀ s : Nat, cntT (negG l size i) s N = if s < i ∧ l.getD s 0 < 0 then 1 else 0) ∧ cntT (negG l size i) (-1) N = N - negN l i
  | 0, _ => by
    refine ⟨fun k _ => rfl, fun k h => absurd rfl h, fun s => ?_, ?_⟩
    · rw [if_neg (by omega)]; exact cntT_const (by omega) N
    · simp only [negG, negN]; rw [cntT_all]; omega
  | i + 1, hle => by
    have hd : negN l (i + 1) = negN l i + (if l.getD i 0 < 0 then 1 else 0) := rfl
    have hr := negN_range l i
    by_cases h : l.getD i 0 < 0
    · rw [if_pos h] at hd
      obtain ⟨h1, h2, h3, h4⟩ := negG_spec (l := l) (size := size) hN i (by omega)
      have hp : ((size - negN l (i + 1)).toNat : Int) = size - negN l (i + 1) := Int.toNat_of_nonneg (by omega)
      have hpN : (size - negN l (i + 1)).toNat < N := by omega
      have hfresh : negG l size i (size - negN l (i + 1)).toNat = -1 := h1 _ (by omega)
      simp only [negG, negS]
      rw [if_pos h, if_pos h]
      refine ⟨fun k hk => ?_, fun k hk => ?_, fun s => ?_, ?_⟩
      · rw [updI_eq, if_neg (by omega)]; exact h1 k (by omega)
      · rw [updI_eq] at hk ⊢
        rw [updI_eq]
        split
        · rfl
        · rename_i hne; rw [if_neg hne] at hk; exact h2 k hk
      · rw [cntT_upd hpN, hfresh, h3]
        by_cases hs : s = i
        · subst hs
          rw [if_neg (by omega), if_neg (by omega), if_pos rfl, if_pos ⟨by omega, h⟩]; rfl
        · rw [if_neg (show ¬ (-1 : Int) = s by omega), if_neg (show ¬ (i : Int) = s by omega)]
          by_cases hc : s < i ∧ l.getD s 0 < 0
          · rw [if_pos hc, if_pos ⟨by omega, hc.2⟩]; rfl
          · rw [if_neg hc, if_neg (fun hh => hc ⟨by omega, hh.2⟩)]; rfl
      · rw [cntT_upd hpN, hfresh, h4, if_pos rfl, if_neg (by omega)]; omega
    · rw [if_neg h] at hd
      obtain ⟨h1, h2, h3, h4⟩ := negG_spec (l := l) (size := size) hN i (by omega)
      simp only [negG, negS]
      rw [if_neg h, if_neg h, hd]
      refine ⟨fun k hk => h1 k (by omega), h2, fun s => ?_, by rw [h4]; omega⟩
      rw [h3]
      by_cases hc : s < i ∧ l.getD s 0 < 0
      · rw [if_pos hc, if_pos ⟨by omega, hc.2⟩]
      · rw [if_neg hc, if_neg]
        rintro ⟨h5, h6⟩
        by_cases hs : s = i
        · subst hs; exact h h6
        · exact hc ⟨by omega, h6⟩
theorem place_spec {l row : List Int} {size : Int} {N h n : Nat} (hs : isSize size) (hN : size = N) (hh : (h : Int) = size - negN l n) (hneg : negN l n ≤ size) : ∀ q : Nat, q ≤ h → (∀ j, j < q → 0 ≤ row.getD j 0) →
    (∀ k : Nat, k < h → (∀ j, j < q → posT size h j ≠ k) → placeT size h row (negG l size n) q k = -1) ∧ (∀ k, placeT size h row (negG l size n) q k ≠ -1 → placeT size h row (negS l size n) q k = placeT size h row (negG l size n) q k) ∧
    (∀ s : Nat, cntT (placeT size h row (negG l size n) q) s N = (if s < n ∧ l.getD s 0 < 0 then 1 else 0) + cntT (fun j => row.getD j 0) s q) ∧ cntT (placeT size h row (negG l size n) q) (-1) N = N - negN l n - q
  | 0, _, _ => by
    obtain ⟨h1, h2, h3, h4⟩ := negG_spec (l := l) (size := size) hN n hneg
    refine ⟨fun k hk _ => h1 k (by omega), h2, fun s => ?_, ?_⟩
    · show cntT (negG l size n) s N = _
      rw [h3]; simp [cntT]
    · show cntT (negG l size n) (-1) N = _
      rw [h4]; simp
  | q + 1, hq, hrow => by
    have hr := negN_range l n
    obtain ⟨h1, h2, h3, h4⟩ := place_spec (row := row) (h := h) (n := n) hs hN hh hneg q (by omega) (fun j hj => hrow j (by omega))
    have hpr := posT_range (size := size) (high := h) hs (by omega) q
    have hp : ((posT size h q).toNat : Int) = posT size h q := Int.toNat_of_nonneg hpr.1
    have hpN : (posT size h q).toNat < N := by omega
    have hfresh : placeT size h row (negG l size n) q (posT size h q).toNat = -1 := by
      refine h1 _ (by omega) (fun j hj e => ?_)
      have := pos_inj (size := size) (h := h) hs (by omega) (p := j) (q := q) (by omega) (by omega) (by omega)
      omega
    have hrq := hrow q (by omega)
    simp only [placeT]
    refine ⟨fun k hk hj => ?_, fun k hk => ?_, fun s => ?_, ?_⟩
    · rw [updI_eq, if_neg (fun e => hj q (by omega) (by omega))]
      exact h1 k hk (fun j hj' => hj j (by omega))
    · rw [updI_eq] at hk ⊢
      rw [updI_eq]
      split
      · rfl
      · rename_i hne; rw [if_neg hne] at hk; exact h2 k hk
    · rw [cntT_upd hpN, hfresh, h3, if_neg (show ¬ (-1 : Int) = s by omega)]
      simp only [cntT]
      omega
    · rw [cntT_upd hpN, hfresh, h4, if_pos rfl, if_neg (show ¬ row.getD q 0 = -1 by omega)]; push_cast; omega
theorem cnt_take (row : List Int) (s : Int) : ∀ i, i ≤ row.length → cntT (fun j => row.getD j 0) s i = (row.take i).count s
  | 0, _ => by simp [cntT]
  | i + 1, h => by
    simp only [cntT]
    rw [cnt_take row s i (by omega), take_snoc (by omega), List.count_append, List.count_singleton]
    by_cases he : row.getD i 0 = s
    · rw [if_pos he, if_pos (beq_iff_eq.mpr he)]; push_cast; rfl
    · rw [if_neg he, if_neg (fun h => he (beq_iff_eq.mp h))]; push_cast; rfl
theorem row_count (l : List Int) (s : Nat) : ∀ i, (rowT l i).count (s : Int) = if s < i then (l.getD s 0).toNat else 0
  | 0 => by simp [rowT]
  | i + 1 => by
    rw [rowT, List.count_append, row_count l s i, List.count_replicate]
    by_cases h : s = i
    · subst h; simp
    · have hb : (((i : Nat) : Int) == ((s : Nat) : Int)) = false := by simp; omega
      have hb' : (((s : Nat) : Int) == ((i : Nat) : Int)) = false := by simp; omega
      rw [if_neg (show ¬ ((((i : Nat) : Int) == ((s : Nat) : Int)) = true) by rw [hb]; simp)]
      by_cases h2 : s < i
      · rw [if_pos h2, if_pos (show s < i + 1 by omega)]; rfl
      · rw [if_neg h2, if_neg (show ¬ s < i + 1 by omega)]
/-- Each symbol has as many cells as its count tells. -/
theorem sym_count {l : List Int} {size : Int} {N : Nat} (hs : isSize size) (hN : size = N) (h1 : ∀ c ∈ l, -1 ≤ c) (hsum : sumP l = size) (s : Nat) (hsl : s < l.length) : cntT (symT l size) s N = partsN (l.getD s 0) := by
  have hrl := rowT_length l h1 l.length (Nat.le_refl _)
  rw [List.take_length, hsum] at hrl
  have hr := negN_range l l.length
  obtain ⟨h, hh⟩ : ∃ h : Nat, (h : Int) = size - negN l l.length := ⟨(rowT l l.length).length, hrl⟩
  have hrh : (rowT l l.length).length = h := by omega
  have hrow : ∀ j, j < h → 0 ≤ (rowT l l.length).getD j 0 := fun j _ => by
    rcases getD_mem_or (l := rowT l l.length) j with hm | hm
    · exact (rowT_mem l _ _ hm).1
    · omega
  obtain ⟨p1, p2, p3, p4⟩ := place_spec (l := l) (row := rowT l l.length) (n := l.length) hs hN hh (by omega) h (Nat.le_refl _) hrow
  have hnone := cntT_none (show cntT (placeT size h (rowT l l.length) (negG l size l.length) h) (-1) N = 0 by rw [p4]; omega)
  have hsy : symT l size = placeT size h (rowT l l.length) (negS l size l.length) h := by
    unfold symT
    rw [← hh]; simp
  rw [hsy, cntT_congr (fun k hk => p2 k (hnone k hk)), p3, cnt_take _ _ _ (by omega), ← hrh, List.take_length, row_count, if_pos hsl]
  have hc : -1 ≤ l.getD s 0 := h1 _ (by rw [List.getD_eq_getElem?_getD, List.getElem?_eq_getElem hsl]; exact List.getElem_mem _)
  unfold partsN
  by_cases hneg : l.getD s 0 < 0
  · rw [if_pos ⟨hsl, hneg⟩, if_pos hneg]; omega
  · rw [if_neg (fun hh => hneg hh.2), if_neg hneg]; omega
/-- Each number of a row is met. -/
theorem cnt_hit {f : Nat → Int} {s : Int} : ∀ {N : Nat} {c : Int}, 0 ≤ c → c < cntT f s N → ∃ k, k < N ∧ f k = s ∧ cntT f s k = c
  | 0, c, h0, h => by simp only [cntT] at h; omega
  | N + 1, c, h0, h => by
    simp only [cntT] at h
    by_cases hc : c < cntT f s N
    · obtain ⟨k, h1, h2, h3⟩ := cnt_hit h0 hc
      exact ⟨k, by omega, h2, h3⟩
    · by_cases he : f N = s
      · rw [if_pos he] at h
        exact ⟨N, by omega, he, by omega⟩
      · rw [if_neg he] at h; omega
end Go.Proofs.Ytodobmkflimfkaa
namespace Go.Proofs.Ytodobmkflimfkaa
open Go Go.Sx Go.Proofs
/-! ### The cells that lead to a state -/
theorem wrap_u16 {x : Int} (h0 : 0 ≤ x) (h1 : x < 65536) : IntKind.u16.wrap x = x := by
  simp [IntKind.wrap, IntKind.signed, IntKind.bits]; omega
theorem pow_le_pow2 {a b : Nat} (h : a ≤ b) : (2 : Int) ^ a ≤ 2 ^ b := by exact_mod_cast Nat.pow_le_pow_right (by omega : 0 < 2) h
theorem nb_spec {log x size : Int} (hlog : 5 ≤ log ∧ log ≤ 12) (hs : 2 ^ log.toNat = size) (h0 : 1 ≤ x) (h1 : x < 2 * size) : ∃ b : Nat, (b : Int) ≤ log ∧ size ≤ x * 2 ^ b ∧ (x + 1) * 2 ^ b ≤ 2 * size ∧ bT log x = b ∧ baseT log size x = x * 2 ^ b - size := by
  obtain ⟨n, hn⟩ : ∃ n : Nat, log = n := ⟨log.toNat, by omega⟩
  have hsn : (2 : Int) ^ n = size := by rw [← hs, hn]; simp
  have hle : (2 : Int) ^ n ≤ 2 ^ 12 := pow_le_pow2 (by omega)
  obtain ⟨k, k1, k2, k3⟩ := blen_spec (x := x) (by omega)
  have hkn : k ≤ n := by
    apply Classical.byContradiction
    intro hc
    have := pow_le_pow2 (a := n + 1) (b := k) (by omega)
    rw [Int.pow_succ] at this
    omega
  obtain ⟨b, hb⟩ : ∃ b : Nat, n = k + b := ⟨n - k, by omega⟩
  have hsz : (2 : Int) ^ k * 2 ^ b = size := by rw [← hsn, hb, Int.pow_add]
  have hb0 : (0 : Int) < 2 ^ b := Int.pow_pos (by omega)
  have a1 : size ≤ x * 2 ^ b := by rw [← hsz]; exact Int.mul_le_mul_of_nonneg_right k2 (by omega)
  have a2 : (x + 1) * 2 ^ b ≤ 2 * size := by
    have : (x + 1) * 2 ^ b ≤ 2 ^ (k + 1) * 2 ^ b := Int.mul_le_mul_of_nonneg_right (by omega) (by omega)
    rw [Int.pow_succ, Int.mul_right_comm, hsz] at this
    omega
  have a3 : x * 2 ^ b < 2 * size := by rw [Int.add_mul] at a2; omega
  have e1 : log + 1 - blen x = b := by omega
  refine ⟨b, by omega, a1, a2, ?_, ?_⟩
  · unfold bT
    rw [e1]
    have : IntKind.u8.wrap b = b := wrap_u8 (by omega) (by omega)
    exact this
  · have ew : IntKind.u64.wrap (b : Int) = b := wrap_u64 (by omega) (by omega)
    have es : bV .shl .i64 x b = x * 2 ^ b := by
      show IntKind.i64.wrap (x * 2 ^ (min ((b : Int).toNat) IntKind.i64.bits)) = x * 2 ^ b
      have e : min ((b : Int).toNat) IntKind.i64.bits = b := by simp [IntKind.bits]; omega
      rw [e]
      exact wrap_i64 (by omega) (by omega)
    unfold baseT
    rw [e1, ew, es, sub_i64 (by omega) (by omega)]
    exact wrap_u16 (by omega) (by omega)
theorem half_hit {c : Int} (hc : 1 ≤ c) : ∀ (n : Nat) (V : Int), c ≤ V → V < 2 ^ n → ∃ b : Nat, c ≤ V / 2 ^ b ∧ V / 2 ^ b < 2 * c
  | 0, V, h0, h1 => by simp at h1; omega
  | n + 1, V, h0, h1 => by
    by_cases h : V < 2 * c
    · exact ⟨0, by simpa using h0, by simpa using h⟩
    · rw [Int.pow_succ] at h1
      obtain ⟨b, b1, b2⟩ := half_hit hc n (V / 2) (by omega) (by omega)
      have e : V / 2 ^ (b + 1) = V / 2 / 2 ^ b := by rw [Int.pow_succ, Int.mul_comm, ← Int.ediv_ediv_of_nonneg (by omega)]
      exact ⟨b + 1, by rw [e]; exact b1, by rw [e]; exact b2⟩
theorem right_size {l : List Int} {log size : Int} (hR : Right l log) (hs : 2 ^ log.toNat = size) : isSize size := by
  obtain ⟨s, h1, h2⟩ := size_of ⟨hR.1, hR.2.1⟩
  rw [h1] at hs
  subst hs
  exact h2
/-- Each cell of a table leads to a stretch of the states. -/
theorem cell_in {l : List Int} {log size : Int} {N : Nat} (hR : Right l log) (hs : 2 ^ log.toNat = size) (hN : size = N) {k : Nat} (hk : k < N) : ∃ b : Nat, (b : Int) ≤ log ∧ tabB l log size N k = b ∧ 0 ≤ tabC l log size N k ∧ tabC l log size N k + 2 ^ b ≤ size ∧ 1 ≤ partsN (l.getD (symT l size k).toNat 0) := by
  have hsz := right_size hR hs
  obtain ⟨g1, g2, g3, g4, g5, g6, g7⟩ := hR
  have hr := symT_range (l := l) size (by omega) k
  obtain ⟨s, hsy⟩ : ∃ s : Nat, symT l size k = s := ⟨(symT l size k).toNat, by omega⟩
  have hcnt := sym_count hsz hN g6 (by rw [g7, hs]) s (by omega)
  have hlt : ∀ (f : Nat → Int) (s : Int) (N k : Nat), k < N → f k = s → cntT f s k + 1 ≤ cntT f s N := by
    intro f s N
    induction N with
    | zero => intro k h; omega
    | succ N ih =>
      intro k h he
      simp only [cntT]
      by_cases hk : k = N
      · subst hk; rw [if_pos he]; omega
      · have := ih k (by omega) he
        split <;> omega
  have h1 := hlt (symT l size) s N k hk hsy
  have h2 := cntT_range (symT l size) s k
  have h3 := partsN_le_sum g6 s
  have hx : xT l (symT l size) k = partsN (l.getD s 0) + cntT (symT l size) s k := by unfold xT; rw [hsy, Int.toNat_natCast]
  obtain ⟨b, b1, b2, b3, b4, b5⟩ := nb_spec ⟨g1, g2⟩ hs (x := xT l (symT l size) k) (by omega) (by rw [hx]; omega)
  refine ⟨b, b1, ?_, ?_, ?_, by rw [hsy, Int.toNat_natCast]; omega⟩
  · unfold tabB; rw [if_pos hk, b4]
  · unfold tabC; rw [if_pos hk, b5]; omega
  · unfold tabC; rw [if_pos hk, b5]; rw [Int.add_mul] at b3; omega
/-- For each symbol that has cells and each state there is a cell that leads there. -/
theorem cell_hit {l : List Int} {log size : Int} {N : Nat} (hR : Right l log) (hs : 2 ^ log.toNat = size) (hN : size = N) {s : Nat} (hsl : s < l.length) (hne : l.getD s 0 ≠ 0) {v : Int} (h0 : 0 ≤ v) (h1 : v < size) :
    ∃ k : Nat, k < N ∧ symT l size k = s ∧ tabC l log size N k ≤ v ∧ v - tabC l log size N k < 2 ^ (tabB l log size N k).toNat := by
  have hsz := right_size hR hs
  obtain ⟨g1, g2, g3, g4, g5, g6, g7⟩ := hR
  have hcnt := sym_count hsz hN g6 (by rw [g7, hs]) s hsl
  have h3 := partsN_le_sum g6 s
  have hc1 : -1 ≤ l.getD s 0 := g6 _ (by rw [List.getD_eq_getElem?_getD, List.getElem?_eq_getElem hsl]; exact List.getElem_mem _)
  obtain ⟨c, hc⟩ : ∃ c, c = partsN (l.getD s 0) := ⟨_, rfl⟩
  have hcp : 1 ≤ c := by rw [hc]; unfold partsN; split <;> omega
  have hcs : c ≤ size := by omega
  obtain ⟨b, b1, b2⟩ := half_hit hcp 14 (v + size) (by omega) (by omega)
  have hb0 : (0 : Int) < 2 ^ b := Int.pow_pos (by omega)
  obtain ⟨x, hx⟩ : ∃ x, x = (v + size) / 2 ^ b := ⟨_, rfl⟩
  rw [← hx] at b1 b2
  have hx1 : x * 2 ^ b ≤ v + size := by rw [hx]; exact Int.ediv_mul_le _ (by omega)
  have hx2 : v + size < (x + 1) * 2 ^ b := by rw [hx]; exact Int.lt_ediv_add_one_mul_self _ hb0
  obtain ⟨b', d1, d2, d3, d4, d5⟩ := nb_spec ⟨g1, g2⟩ hs (x := x) (by omega) (by omega)
  have hbb : b' = b := by
    apply Classical.byContradiction
    intro hne
    rcases Nat.lt_or_gt_of_ne hne with hlt | hgt
    · obtain ⟨d, rfl⟩ : ∃ d, b = b' + 1 + d := ⟨b - b' - 1, by omega⟩
      have hd : (1 : Int) ≤ 2 ^ d := pow_le_pow2 (a := 0) (by omega)
      rw [Int.pow_add, Int.pow_succ] at hx1
      have : x * (2 ^ b' * 2 * 2 ^ d) = x * 2 ^ b' * 2 * 2 ^ d := by simp only [Int.mul_assoc]
      have h5 : x * 2 ^ b' * 2 * 1 ≤ x * 2 ^ b' * 2 * 2 ^ d := Int.mul_le_mul_of_nonneg_left hd (by omega)
      omega
    · obtain ⟨d, rfl⟩ : ∃ d, b' = b + 1 + d := ⟨b' - b - 1, by omega⟩
      have hd : (1 : Int) ≤ 2 ^ d := pow_le_pow2 (a := 0) (by omega)
      rw [Int.pow_add, Int.pow_succ] at d3
      have : (x + 1) * (2 ^ b * 2 * 2 ^ d) = (x + 1) * 2 ^ b * 2 * 2 ^ d := by simp only [Int.mul_assoc]
      have h5 : (x + 1) * 2 ^ b * 2 * 1 ≤ (x + 1) * 2 ^ b * 2 * 2 ^ d := Int.mul_le_mul_of_nonneg_left hd (by omega)
      omega
  subst hbb
  obtain ⟨k, k1, k2, k3⟩ := cnt_hit (f := symT l size) (s := s) (N := N) (c := x - c) (by omega) (by rw [hcnt]; omega)
  have hxk : xT l (symT l size) k = x := by unfold xT; rw [k2, Int.toNat_natCast, k3]; omega
  refine ⟨k, k1, k2, ?_, ?_⟩
  · unfold tabC; rw [if_pos k1, hxk, d5]; omega
  · unfold tabC tabB
    rw [if_pos k1, if_pos k1, hxk, d5, d4, Int.toNat_natCast]
    rw [Int.add_mul] at hx2
    omega
/-- What the states of a row of symbols tell. -/
inductive Enc (N : Nat) (A B C : Nat → Int) : List Int → Nat → List Int → Prop
  | nil : Enc N A B C [] 0 []
  | cons {ls v bits s k} : Enc N A B C ls v bits → k < N → A k = s → C k ≤ v → v - C k < 2 ^ (B k).toNat → Enc N A B C (s :: ls) k (bits ++ bitsN (v - C k) (B k).toNat)
theorem enc_lt {N : Nat} {A B C : Nat → Int} {ls : List Int} {v : Nat} {bits : List Int} (h : Enc N A B C ls v bits) (hN : 0 < N) : v < N := by
  cases h with
  | nil => exact hN
  | cons _ h _ _ _ => exact h
theorem enc_bit {N : Nat} {A B C : Nat → Int} {ls : List Int} {v : Nat} {bits : List Int} (h : Enc N A B C ls v bits) : ∀ b ∈ bits, isBit b := by
  induction h with
  | nil => intro b hb; cases hb
  | cons _ _ _ _ _ ih => intro b hb; exact (List.mem_append.1 hb).elim (ih b) (fun e => bitsN_bit _ _ b e)
theorem enc_length {N : Nat} {A B C : Nat → Int} (hB : ∀ k, k < N → (B k).toNat ≤ 12) {ls : List Int} {v : Nat} {bits : List Int} (h : Enc N A B C ls v bits) : bits.length ≤ 12 * ls.length := by
  induction h with
  | nil => simp
  | cons _ h _ _ _ ih =>
    have := hB _ h
    rw [List.length_append, bitsN_length, List.length_cons]
    omega
end Go.Proofs.Ytodobmkflimfkaa
namespace Go.Proofs.Ytodobmkflimfkaa
open Go Go.Sx Go.Proofs
set_option maxRecDepth 10000
set_option maxHeartbeats 40000000
theorem ahead_con (N : Nat) (A B C : Nat → Int) (s next : Int) (cap : Nat) (hN4 : N ≤ 4096) (hbnd : ∀ k, k < N → 0 ≤ B k ∧ B k ≤ 12 ∧ 0 ≤ C k ∧ C k < 4096) (hn : 0 ≤ next ∧ next < 4096)
    (hit : ∃ k : Nat, k < N ∧ A k = s ∧ C k ≤ next ∧ next - C k < 2 ^ (B k).toNat) :
    Con Try.prog 36 [.slice 0 .z 3 N cap, .int .u8 s, .int .i64 next] [.arr 65 3 N (fun m => [.int .u8 (A m), .int .u8 (B m), .int .u16 (C m)])]
      (fun v H R => R = [] ∧ H = [.arr 65 3 N (fun m => [.int .u8 (A m), .int .u8 (B m), .int .u16 (C m)])] ∧ ∃ k : Nat, k < N ∧ A k = s ∧ C k ≤ next ∧ next - C k < 2 ^ (B k).toNat ∧ v = .tup [.int .i64 k, .bool true]) := by
  refine con_gen (con_cut 1 (by simp) (con_drop (con_walk hmix fn36 ?_)))
  intro vb vc vw vtoN vofN vaddN vsubN vmaxI vminI vcutN vgd vst vln vrep vsub vonto vsplice vstrEq vbyteV vnotB veqB hw qb qc qw qtoN qofN qaddN qsubN qmaxI qminI qcutN qgd qst qln qrep qsub qonto qsplice qstrEq qbyteV qnotB qeqB
  have hm := hmix; generalize Try.prog = P at *
  have hto : ∀ i : Nat, vtoN (i : Int) = i := fun i => by simp only [qtoN, Int.toNat_natCast]
  have hadd0 : ∀ i, vaddN 0 i = i := fun i => by simp only [qaddN, Nat.zero_add]
  cbv
  refine loop_fam (α := Int) ([8, 9] ++ [13, 14, 15, 16, 17, 18, 19, 20, 21, 22, 23, 24, 25, 26, 27, 28, 29, 30, 31, 32, 33, 34, 35, 36, 37, 38, 39, 40, 41, 42, 43, 44, 45, 46]) [] (fun k => [(12, .int .i64 k)]) (fun _ => []) (fun k => ∃ i : Nat, k = i ∧ i ≤ N ∧ ∃ j : Nat, i ≤ j ∧ j < N ∧ A j = s ∧ C j ≤ next ∧ next - C j < 2 ^ (B j).toNat) (fun k => N - k.toNat) hw hm ?_ ?_
  · refine Cv.genAt [12] [] (Cv.fold ([8, 9] ++ [13, 14, 15, 16, 17, 18, 19, 20, 21, 22, 23, 24, 25, 26, 27, 28, 29, 30, 31, 32, 33, 34, 35, 36, 37, 38, 39, 40, 41, 42, 43, 44, 45, 46]) 1 [] (by exact Nat.le_refl _) (by exact Nat.le_of_ble_eq_true rfl) (by rfl) (by cbv) ?_)
    intro js
    refine ⟨_, ?_, js, rfl⟩
    obtain ⟨j, h⟩ := hit
    exact ⟨0, rfl, by omega, j, by omega, h⟩
  · rintro k js ⟨i, hk, hi, j, hj, hjN, hj1, hj2, hj3⟩
    cbv
    split
    · rename_i hlt
      have hlt : i < N := by rw [qc, lss_true] at hlt; simp only [qofN] at hlt; simp only [nc] at *; omega
      have hti : vtoN k = i := by rw [hk]; exact hto i
      have hinR : 0 ≤ k ∧ k < (N : Int) := by simp only [nc] at *; omega
      obtain ⟨k1, hk1⟩ : ∃ k1 : Int, k1 = ((i + 1 : Nat) : Int) := ⟨_, rfl⟩
      have ek : vb .add .i64 k 1 = k1 := by simp only [nc] at *; rw [qb, add_i64 (by omega) (by omega)]; omega
      have hmu : N - k1.toNat < N - k.toNat := by simp only [nc] at *; omega
      obtain ⟨q1, q2, q3, q4⟩ := hbnd i hlt
      have hnext : ¬ (A i = s ∧ C i ≤ next ∧ next - C i < 2 ^ (B i).toNat) → ∃ j : Nat, i + 1 ≤ j ∧ j < N ∧ A j = s ∧ C j ≤ next ∧ next - C j < 2 ^ (B j).toNat := by
        intro h
        have : i ≠ j := fun e => by subst e; exact h ⟨hj1, hj2, hj3⟩
        exact ⟨j, by omega, hjN, hj1, hj2, hj3⟩
      have hwC : vw .i64 (C i) = C i := by rw [qw]; exact wrap_i64 (by omega) (by omega)
      have hwB : vw .u64 (B i) = B i := by rw [qw]; exact wrap_u64 (by omega) (by omega)
      have hB61 : vc .gtr (B i) 61 = false := by rw [qc, gtr_false]; omega
      have hsh : vb .shl .i64 1 (B i) = 2 ^ (B i).toNat := by rw [qb, one_shl (by omega) (by omega)]
      have hsub : vb .sub .i64 next (C i) = next - C i := by rw [qb, sub_i64 (by omega) (by omega)]
      have hAs : vc .eql (A i) s = decide (A i = s) := by rw [qc]; rfl
      cbv
      rw [hti]
      refine ⟨⟨hinR⟩, ⟨by omega⟩, ⟨by omega⟩, ⟨by omega⟩, fun _ => rfl, ?_⟩
      have hloop : ¬ (A i = s ∧ C i ≤ next ∧ next - C i < 2 ^ (B i).toNat) → (∃ i : Nat, k1 = i ∧ i ≤ N ∧ ∃ j : Nat, i ≤ j ∧ j < N ∧ A j = s ∧ C j ≤ next ∧ next - C j < 2 ^ (B j).toNat) ∧ N - k1.toNat < N - k.toNat := fun h => ⟨⟨i + 1, hk1, hlt, hnext h⟩, hmu⟩
      by_cases hA : A i = s
      · rw [show vc .eql (A i) s = true by rw [hAs]; simp [hA]]
        cbv
        rw [hwC]
        by_cases hC : C i ≤ next
        · rw [show vc .leq (C i) next = true by rw [qc, leq_true]; exact hC]
          cbv
          rw [hB61]
          cbv
          rw [hwC, hwB, hsub, hsh]
          by_cases hD : next - C i < 2 ^ (B i).toNat
          · rw [show vc .lss (next - C i) (2 ^ (B i).toNat) = true by rw [qc, lss_true]; exact hD]
            cbv
            refine ⟨⟨q1⟩, ?_⟩
            exact ⟨i, hlt, hA, hC, hD, by subst hk; rfl⟩
          · rw [show vc .lss (next - C i) (2 ^ (B i).toNat) = false by rw [qc, lss_false]; exact hD]
            cbv
            refine ⟨⟨q1⟩, ?_⟩
            rw [ek]
            refine Cv.fold ([8, 9] ++ [13, 14, 15, 16, 17, 18, 19, 20, 21, 22, 23, 24, 25, 26, 27, 28, 29, 30, 31, 32, 33, 34, 35, 36, 37, 38, 39, 40, 41, 42, 43, 44, 45, 46]) 1 [] (by exact Nat.le_refl _) (by exact Nat.le_of_ble_eq_true rfl) (by rfl) (by cbv) ?_
            intro js
            exact ⟨_, hloop (fun h => hD h.2.2), js, rfl⟩
        · rw [show vc .leq (C i) next = false by rw [qc, leq_false]; exact hC]
          cbv
          rw [ek]
          refine Cv.fold ([8, 9] ++ [13, 14, 15, 16, 17, 18, 19, 20, 21, 22, 23, 24, 25, 26, 27, 28, 29, 30, 31, 32, 33, 34, 35, 36, 37, 38, 39, 40, 41, 42, 43, 44, 45, 46]) 1 [] (by exact Nat.le_refl _) (by exact Nat.le_of_ble_eq_true rfl) (by rfl) (by cbv) ?_
          intro js
          exact ⟨_, hloop (fun h => hC h.2.1), js, rfl⟩
      · rw [show vc .eql (A i) s = false by rw [hAs]; simp [hA]]
        cbv
        rw [ek]
        refine Cv.fold ([8, 9] ++ [13, 14, 15, 16, 17, 18, 19, 20, 21, 22, 23, 24, 25, 26, 27, 28, 29, 30, 31, 32, 33, 34, 35, 36, 37, 38, 39, 40, 41, 42, 43, 44, 45, 46]) 1 [] (by exact Nat.le_refl _) (by exact Nat.le_of_ble_eq_true rfl) (by rfl) (by cbv) ?_
        intro js
        exact ⟨_, hloop (fun h => hA h.1), js, rfl⟩
    · rename_i hge
      exfalso
      rw [qc, lss_false] at hge; simp only [qofN] at hge; simp only [nc] at *; omega
end Go.Proofs.Ytodobmkflimfkaa
namespace Go.Proofs.Ytodobmkflimfkaa
open Go Go.Sx Go.Proofs
/-- A table, by its cells. -/
theorem table_abc (l : List Int) (log : Int) (cap : Nat) (hl : ∀ c ∈ l, isI16 c) (hlog : -9223372036854775808 ≤ log ∧ log ≤ 9223372036854775807) (hR : Right l log) :
    ∃ (N : Nat) (A B C : Nat → Int), 1 ≤ N ∧ N ≤ 4096 ∧ (N : Int) = 2 ^ log.toNat ∧ (∀ k, k < N → 0 ≤ B k ∧ B k ≤ 12 ∧ 0 ≤ C k ∧ C k < 4096) ∧
      (∀ s : Nat, s < l.length → l.getD s 0 ≠ 0 → ∀ v : Int, 0 ≤ v → v < N → ∃ k : Nat, k < N ∧ A k = s ∧ C k ≤ v ∧ v - C k < 2 ^ (B k).toNat) ∧
      Con Try.prog 23 [.slice 0 .z 1 l.length cap, .int .i64 log] [.ro .i16 l] (fun v H R => R = [] ∧ v = .tup [.slice 1 .z 3 N N, .int .i64 0] ∧
        H = [.ro .i16 l, .arr 65 3 N (fun m => [.int .u8 (A m), .int .u8 (B m), .int .u16 (C m)])]) := by
  obtain ⟨size, hs⟩ : ∃ size : Int, (2 : Int) ^ log.toNat = size := ⟨_, rfl⟩
  have hsz := right_size hR hs
  obtain ⟨N, hN⟩ : ∃ N : Nat, size = N := ⟨size.toNat, by omega⟩
  have hc := table_ok l log cap hl hlog hR
  rw [hs, hN, Int.toNat_natCast] at hc
  refine ⟨N, symT l size, tabB l log size N, tabC l log size N, by omega, by omega, by rw [← hN, hs], ?_, ?_, by rw [hN]; exact hc⟩
  · intro k hk
    obtain ⟨b, b1, b2, b3, b4, b5⟩ := cell_in hR hs hN hk
    have : (0 : Int) < 2 ^ b := Int.pow_pos (by omega)
    have := hR.2.1
    omega
  · intro s hsl hne v h0 h1
    exact cell_hit hR hs hN hsl hne h0 (by omega)
theorem enc_step {N : Nat} {A B C : Nat → Int} {ls : List Int} {j v : Nat} {bits : List Int} (h : Enc N A B C (ls.drop j) v bits) (hj : j < ls.length) :
    v < N ∧ A v = ls.getD j 0 ∧ ∃ (v' : Nat) (bits' : List Int), Enc N A B C (ls.drop (j + 1)) v' bits' ∧ C v ≤ v' ∧ v' - C v < 2 ^ (B v).toNat ∧ bits = bits' ++ bitsN (v' - C v) (B v).toNat := by
  rw [drop_cons hj] at h
  cases h with
  | cons h1 h2 h3 h4 h5 => exact ⟨h2, h3, _, _, h1, h4, h5, rfl⟩
theorem enc_end {N : Nat} {A B C : Nat → Int} {v : Nat} {bits : List Int} (h : Enc N A B C [] v bits) : v = 0 ∧ bits = [] := by
  cases h with
  | nil => exact ⟨rfl, rfl⟩
/-- What was put last is read first. -/
theorem bits_enc {W1 bits rest : List Int} {x k p : Int} (cap : Nat) (hW : W1 = bits ++ bitsN x k.toNat ++ rest) (hb : ∀ b ∈ W1, isBit b) (hk : 0 ≤ k ∧ k ≤ 56) (hx : 0 ≤ x ∧ x < 2 ^ k.toNat) (hp : p = bits.length + k) (hl : W1.length ≤ 5000) :
    Con Try.prog 40 [.ptr 0 .z 2 0, .int .i64 k] [.one 139 [.slice 1 .z 1 (pack W1).length cap, .int .i64 p], .ro .u8 (pack W1)]
      (fun v H R => v = .int .u64 x ∧ R = [] ∧ H = [.one 139 [.slice 1 .z 1 (pack W1).length cap, .int .i64 bits.length], .ro .u8 (pack W1)]) := by
  have hpl := pack_length W1
  have hWl : W1.length = bits.length + k.toNat + rest.length := by rw [hW]; simp [bitsN_length]; omega
  have h := bits_con (pack W1) cap p k (pack_byte _ hb) (by omega) (by omega)
  have hcl : clampN k = k.toNat := by unfold clampN; (repeat' split) <;> omega
  have hp' : p = ((bits ++ bitsN x k.toNat).length : Nat) := by rw [hp, List.length_append, bitsN_length]; omega
  have hr : rd (pack W1) p (clampN k) = x := by
    rw [hcl, hp', hW, rd_put _ _ _ _ hx.1 (by rw [← hW]; exact hb)]
    exact Int.emod_eq_of_lt hx.1 hx.2
  have hf : floorP (p - clampN k) = bits.length := by
    rw [hcl, hp]; unfold floorP; rw [if_neg (by omega)]; omega
  rw [hr, hf] at h
  exact h
end Go.Proofs.Ytodobmkflimfkaa
