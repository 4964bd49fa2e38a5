import Derived.Test.YtodobmkflimfkaaSA
import Derived.Test.YtodobmkflimfkaaEC
namespace Go.Proofs.Ytodobmkflimfkaa
open Go Go.Sx Go.Proofs
/-! ### A table, plainly -/
def stepT (size a : Int) : Int := (a + size / 2 + size / 8 + 3) % size
def skipT (size high : Int) : Nat → Int → Int
  | 0, a => a
  | n + 1, a => if a < high then a else skipT size high n (stepT size a)
/-- The place behind a place. -/
def nextT (size high a : Int) : Int := skipT size high 5000 (stepT size a)
def posT (size high : Int) : Nat → Int
  | 0 => 0
  | n + 1 => nextT size high (posT size high n)
def iterT (size : Int) : Nat → Int → Int
  | 0, a => a
  | n + 1, a => iterT size n (stepT size a)
theorem iterT_eq {size : Int} (h : 0 < size) : ∀ (n : Nat) (a : Int), 0 ≤ a → a < size → iterT size n a = (a + n * (size / 2 + size / 8 + 3)) % size
  | 0, a, h0, h1 => by simp only [iterT]; rw [show a + ((0 : Nat) : Int) * (size / 2 + size / 8 + 3) = a by simp]; exact (Int.emod_eq_of_lt h0 h1).symm
  | n + 1, a, h0, h1 => by
    have hs : 0 ≤ stepT size a ∧ stepT size a < size := ⟨Int.emod_nonneg _ (by omega), Int.emod_lt_of_pos _ h⟩
    rw [iterT, iterT_eq h n _ hs.1 hs.2]
    unfold stepT
    rw [Int.emod_add_emod]
    congr 1
    push_cast
    rw [Int.add_mul]
    omega
/-- From each place one comes to 0. -/
theorem hit0 {size : Int} (hs : size = 32 ∨ size = 64 ∨ size = 128 ∨ size = 256 ∨ size = 512 ∨ size = 1024 ∨ size = 2048 ∨ size = 4096) {a : Int} (h0 : 0 ≤ a) (h1 : a < size) : ∃ m : Nat, m ≤ 4096 ∧ iterT size m a = 0 := by
  have key : ∀ inv : Int, (inv * (size / 2 + size / 8 + 3)) % size = 1 → 0 < size → size ≤ 4096 → ∃ m : Nat, m ≤ 4096 ∧ iterT size m a = 0 := by
    intro inv hinv hp hle
    refine ⟨(((size - a) * inv) % size).toNat, ?_, ?_⟩
    · have := Int.emod_lt_of_pos ((size - a) * inv) hp
      omega
    · rw [iterT_eq hp _ _ h0 h1, Int.toNat_of_nonneg (Int.emod_nonneg _ (by omega))]
      have e : ((size - a) * inv % size * (size / 2 + size / 8 + 3)) % size = (size - a) % size := by
        rw [Int.mul_emod, Int.emod_emod_of_dvd _ (Int.dvd_refl _), ← Int.mul_emod, Int.mul_assoc, Int.mul_emod, hinv, Int.mul_one, Int.emod_emod_of_dvd _ (Int.dvd_refl _)]
      rw [Int.add_emod, e, Int.add_emod_emod, Int.emod_add_emod]
      rw [show a + (size - a) = size by omega, Int.emod_self]
  rcases hs with rfl | rfl | rfl | rfl | rfl | rfl | rfl | rfl
  · exact key 7 (by decide) (by decide) (by decide)
  · exact key 3 (by decide) (by decide) (by decide)
  · exact key 91 (by decide) (by decide) (by decide)
  · exact key 11 (by decide) (by decide) (by decide)
  · exact key 363 (by decide) (by decide) (by decide)
  · exact key 43 (by decide) (by decide) (by decide)
  · exact key 1451 (by decide) (by decide) (by decide)
  · exact key 171 (by decide) (by decide) (by decide)
theorem step_bound {size : Int} (h : 0 < size) (a : Int) : 0 ≤ stepT size a ∧ stepT size a < size := ⟨Int.emod_nonneg _ (by omega), Int.emod_lt_of_pos _ h⟩
theorem skipT_bound {size high : Int} (h : 0 < size) : ∀ (n : Nat) (a : Int), 0 ≤ a → a < size → 0 ≤ skipT size high n a ∧ skipT size high n a < size
  | 0, a, h0, h1 => ⟨h0, h1⟩
  | n + 1, a, h0, h1 => by
    simp only [skipT]
    split
    · exact ⟨h0, h1⟩
    · exact skipT_bound h n _ (step_bound h a).1 (step_bound h a).2
theorem skipT_lt {size high : Int} (h : 0 < high) : ∀ (n m : Nat) (a : Int), iterT size m a = 0 → m ≤ n → skipT size high n a < high
  | 0, m, a, hm, hmn => by
    have : m = 0 := by omega
    subst this
    simp only [iterT] at hm
    simp only [skipT]; omega
  | n + 1, m, a, hm, hmn => by
    simp only [skipT]
    split
    · assumption
    · rename_i ha
      cases m with
      | zero => simp only [iterT] at hm; omega
      | succ m => exact skipT_lt h n m _ hm (by omega)
theorem skipT_step {size high a : Int} {n m : Nat} (h : 0 < high) (ha : ¬ a < high) (hm : iterT size m a = 0) (hmn : m ≤ n) : ∃ n' m', n = n' + 1 ∧ m = m' + 1 ∧ skipT size high n a = skipT size high n' (stepT size a) ∧ iterT size m' (stepT size a) = 0 := by
  cases m with
  | zero => simp only [iterT] at hm; omega
  | succ m =>
    cases n with
    | zero => omega
    | succ n => exact ⟨n, m, rfl, rfl, by simp only [skipT]; rw [if_neg ha], hm⟩
theorem skipT_here {size high a : Int} {n : Nat} (ha : a < high) : skipT size high n a = a := by
  cases n with
  | zero => rfl
  | succ n => simp only [skipT]; rw [if_pos ha]
theorem size_of {log : Int} (h : 5 ≤ log ∧ log ≤ 12) : ∃ size : Int, 2 ^ log.toNat = size ∧ (size = 32 ∨ size = 64 ∨ size = 128 ∨ size = 256 ∨ size = 512 ∨ size = 1024 ∨ size = 2048 ∨ size = 4096) := by
  obtain ⟨n, rfl⟩ : ∃ n : Nat, log = n := ⟨log.toNat, by omega⟩
  have : n = 5 ∨ n = 6 ∨ n = 7 ∨ n = 8 ∨ n = 9 ∨ n = 10 ∨ n = 11 ∨ n = 12 := by omega
  refine ⟨_, rfl, ?_⟩
  rcases this with rfl | rfl | rfl | rfl | rfl | rfl | rfl | rfl <;> decide
/-- How many of the first i counts are -1. -/
def negN (l : List Int) : Nat → Int
  | 0 => 0
  | i + 1 => negN l i + (if l.getD i 0 < 0 then 1 else 0)
def negS (l : List Int) (size : Int) : Nat → Nat → Int
  | 0 => fun _ => 0
  | i + 1 => if l.getD i 0 < 0 then updI (negS l size i) (size - negN l (i + 1)).toNat i else negS l size i
def rowT (l : List Int) : Nat → List Int
  | 0 => []
  | i + 1 => rowT l i ++ List.replicate (l.getD i 0).toNat (i : Int)
def placeT (size high : Int) (row : List Int) (sy : Nat → Int) : Nat → Nat → Int
  | 0 => sy
  | i + 1 => updI (placeT size high row sy i) (posT size high i).toNat (row.getD i 0)
/-- The symbols of a table. -/
def symT (l : List Int) (size : Int) : Nat → Int :=
  placeT size (size - negN l l.length) (rowT l l.length) (negS l size l.length) (size - negN l l.length).toNat
def cntT (sy : Nat → Int) (s : Int) : Nat → Int
  | 0 => 0
  | k + 1 => cntT sy s k + (if sy k = s then 1 else 0)
def xT (l : List Int) (sy : Nat → Int) (k : Nat) : Int := partsN (l.getD (sy k).toNat 0) + cntT sy (sy k) k
def bT (log x : Int) : Int := IntKind.u8.wrap (log + 1 - blen x)
def baseT (log size x : Int) : Int := IntKind.u16.wrap (bV .sub .i64 (bV .shl .i64 x (IntKind.u64.wrap (log + 1 - blen x))) size)
/-- The second and third cells of the first i rows of a table. -/
def tabB (l : List Int) (log size : Int) (i m : Nat) : Int := if m < i then bT log (xT l (symT l size) m) else 0
def tabC (l : List Int) (log size : Int) (i m : Nat) : Int := if m < i then baseT log size (xT l (symT l size) m) else 0
theorem tabB_step (l : List Int) (log size : Int) (i : Nat) : updI (tabB l log size i) i (bT log (xT l (symT l size) i)) = tabB l log size (i + 1) := by
  funext m
  rw [updI_eq]
  unfold tabB
  by_cases h : m = i
  · subst h; rw [if_pos rfl, if_pos (by omega)]
  · rw [if_neg h]
    by_cases h2 : m < i
    · rw [if_pos h2, if_pos (by omega)]
    · rw [if_neg h2, if_neg (by omega)]
theorem tabC_step (l : List Int) (log size : Int) (i : Nat) : updI (tabC l log size i) i (baseT log size (xT l (symT l size) i)) = tabC l log size (i + 1) := by
  funext m
  rw [updI_eq]
  unfold tabC
  by_cases h : m = i
  · subst h; rw [if_pos rfl, if_pos (by omega)]
  · rw [if_neg h]
    by_cases h2 : m < i
    · rw [if_pos h2, if_pos (by omega)]
    · rw [if_neg h2, if_neg (by omega)]
theorem negN_range (l : List Int) : ∀ i, 0 ≤ negN l i ∧ negN l i ≤ i
  | 0 => by simp [negN]
  | i + 1 => by
    have := negN_range l i
    simp only [negN]; split <;> (push_cast; omega)
theorem rowT_length (l : List Int) (h : ∀ c ∈ l, -1 ≤ c) : ∀ i, i ≤ l.length → ((rowT l i).length : Int) = sumP (l.take i) - negN l i
  | 0, _ => by simp [rowT, negN, sumP]
  | i + 1, hi => by
    have ih := rowT_length l h i (by omega)
    have hc : -1 ≤ l.getD i 0 := h _ (by rw [List.getD_eq_getElem?_getD, List.getElem?_eq_getElem (by omega)]; exact List.getElem_mem _)
    rw [take_snoc (by omega), sumP_snoc, rowT, negN, List.length_append, List.length_replicate]
    unfold partsN
    split <;> (push_cast; omega)
theorem rowT_mem (l : List Int) : ∀ i, ∀ s ∈ rowT l i, 0 ≤ s ∧ s < i
  | 0, s, h => by simp [rowT] at h
  | i + 1, s, h => by
    simp only [rowT, List.mem_append] at h
    rcases h with h | h
    · have := rowT_mem l i s h; omega
    · have := List.eq_of_mem_replicate h; omega
theorem cntT_range (sy : Nat → Int) (s : Int) : ∀ k, 0 ≤ cntT sy s k ∧ cntT sy s k ≤ k
  | 0 => by simp [cntT]
  | k + 1 => by
    have := cntT_range sy s k
    simp only [cntT]; split <;> (push_cast; omega)
theorem negS_range (l : List Int) (size : Int) : ∀ i m, 0 ≤ negS l size i m ∧ negS l size i m < max i 1
  | 0, m => by simp [negS]
  | i + 1, m => by
    have := negS_range l size i m
    simp only [negS]
    split
    · rw [updI_eq]; split <;> omega
    · omega
theorem getD_mem_or {l : List Int} (i : Nat) : l.getD i 0 ∈ l ∨ l.getD i 0 = 0 := by
  rw [List.getD_eq_getElem?_getD]
  cases h : l[i]? with
  | none => exact .inr rfl
  | some v => exact .inl (List.mem_of_getElem? h)
theorem placeT_range {size high n : Int} {row : List Int} {sy : Nat → Int} (hn : 0 < n) (h1 : ∀ m, 0 ≤ sy m ∧ sy m < n) (h2 : ∀ s ∈ row, 0 ≤ s ∧ s < n) : ∀ i m, 0 ≤ placeT size high row sy i m ∧ placeT size high row sy i m < n
  | 0, m => h1 m
  | i + 1, m => by
    have := placeT_range (size := size) (high := high) hn h1 h2 i m
    simp only [placeT]
    rw [updI_eq]
    split
    · rcases getD_mem_or (l := row) i with h | h
      · exact h2 _ h
      · rw [h]; omega
    · exact this
theorem symT_range {l : List Int} (size : Int) (h : 0 < l.length) (m : Nat) : 0 ≤ symT l size m ∧ symT l size m < l.length := by
  refine placeT_range (by omega) (fun m => ?_) (fun s hs => ?_) _ m
  · have := negS_range l size l.length m; omega
  · exact rowT_mem l _ s hs
theorem partsN_le_sum {l : List Int} (h : ∀ c ∈ l, -1 ≤ c) (i : Nat) : 0 ≤ partsN (l.getD i 0) ∧ partsN (l.getD i 0) ≤ sumP l := by
  by_cases hi : i < l.length
  · have h1 := sumP_take_le h i
    have h2 := sumP_take_le h (i + 1)
    rw [take_snoc hi, sumP_snoc] at h2
    have := partsN_nonneg (h (l.getD i 0) (by rw [List.getD_eq_getElem?_getD, List.getElem?_eq_getElem (by omega)]; exact List.getElem_mem _))
    omega
  · have h1 := sumP_take_le h 0
    rw [List.getD_eq_getElem?_getD, List.getElem?_eq_none (by omega)]
    have : partsN ((none : Option Int).getD 0) = 0 := by decide
    omega
theorem posT_range {size high : Int} (hs : size = 32 ∨ size = 64 ∨ size = 128 ∨ size = 256 ∨ size = 512 ∨ size = 1024 ∨ size = 2048 ∨ size = 4096) (hh : 0 < high) : ∀ i, 0 ≤ posT size high i ∧ posT size high i < high ∧ posT size high i < size
  | 0 => by simp only [posT]; omega
  | i + 1 => by
    have ih := posT_range hs hh i
    have hsb := step_bound (size := size) (by omega) (posT size high i)
    obtain ⟨m, hm, hm0⟩ := hit0 hs hsb.1 hsb.2
    simp only [posT, nextT]
    have := skipT_lt hh 5000 m _ hm0 (by omega)
    have := skipT_bound (size := size) (high := high) (by omega) 5000 _ hsb.1 hsb.2
    omega
end Go.Proofs.Ytodobmkflimfkaa
namespace Go.Proofs.Ytodobmkflimfkaa
open Go Go.Sx Go.Proofs
set_option maxRecDepth 10000 in
set_option maxHeartbeats 40000000 in
theorem table_ok (l : List Int) (log : Int) (cap : Nat) (hl : ∀ c ∈ l, isI16 c) (hlog : -9223372036854775808 ≤ log ∧ log ≤ 9223372036854775807) (hR : Right l log) :
    Con Try.prog 23 [.slice 0 .z 1 l.length cap, .int .i64 log] [.ro .i16 l] (fun v H R => R = [] ∧ v = .tup [.slice 1 .z 3 (2 ^ log.toNat : Int).toNat (2 ^ log.toNat : Int).toNat, .int .i64 0] ∧
      H = [.ro .i16 l, .arr 65 3 (2 ^ log.toNat : Int).toNat (fun m => [.int .u8 (symT l (2 ^ log.toNat) m), .int .u8 (tabB l log (2 ^ log.toNat) (2 ^ log.toNat : Int).toNat m), .int .u16 (tabC l log (2 ^ log.toNat) (2 ^ log.toNat : Int).toNat m)])]) := by
  have hright := right_con l log cap hl hlog
  rw [show decide (Right l log) = true by simp [hR]] at hright
  have hparts := parts_con
  have hlen := len_con
  have f75 := fn75
  have f116 := fn116
  have f70 := fn70
  refine con_gen (con_cut 2 (by simp) (con_drop (con_walk hmix fn23 ?_)))
  intro vb vc vw vtoN vofN vaddN vsubN vmaxI vminI vcutN vgd vst vln vrep vsub vonto vsplice vstrEq vbyteV vnotB veqB hw qb qc qw qtoN qofN qaddN qsubN qmaxI qminI qcutN qgd qst qln qrep qsub qonto qsplice qstrEq qbyteV qnotB qeqB
  have hm := hmix
  generalize Try.prog = P at *
  obtain ⟨g1, g2, g3, g4, g5, g6, g7⟩ := hR
  have hpl := pow_log ⟨g1, g2⟩
  obtain ⟨size, hsz, hszs⟩ := size_of ⟨g1, g2⟩
  rw [hsz] at hpl g7
  rw [hsz]
  obtain ⟨N, hN⟩ : ∃ N : Nat, size = N := ⟨size.toNat, by omega⟩
  have hNt : size.toNat = N := by omega
  rw [hNt]
  generalize hn : l.length = n at *
  have hto : ∀ i : Nat, vtoN (i : Int) = i := fun i => by simp only [qtoN, Int.toNat_natCast]
  have htoN : vtoN size = N := by rw [qtoN]; exact hNt
  have hadd0 : ∀ i, vaddN 0 i = i := fun i => by simp only [qaddN, Nat.zero_add]
  have hvln : vln l = n := by simp only [qln, hn]
  have hvgd : ∀ i, vgd l i = l.getD i 0 := fun i => by simp only [qgd]
  have hmem : ∀ i, i < n → l.getD i 0 ∈ l := fun i hi => by rw [List.getD_eq_getElem?_getD, List.getElem?_eq_getElem (by omega)]; exact List.getElem_mem _
  have hsyd : symT l size = placeT size (size - negN l n) (rowT l n) (negS l size n) (size - negN l n).toNat := by rw [← hn]; rfl
  have hsyr := symT_range (l := l) size (by omega)
  generalize hsyT : symT l size = syT at *
  have hB0 : tabB l log size 0 = fun _ => 0 := rfl
  have hC0 : tabC l log size 0 = fun _ => 0 := rfl
  have hBs := tabB_step l log size
  have hCs := tabC_step l log size
  rw [hsyT] at hBs hCs
  generalize tabB l log size = tB at *
  generalize tabC l log size = tC at *
  cbv
  refine call_con (ρ := [(0, .z)]) hright ⟨by rfl, by rfl, by rfl, by cbv; exact ⟨view_refl _, trivial⟩⟩ ?_
  rintro v H R js ⟨rfl, rfl, rfl⟩
  have hnb : vnotB true = false := by simp only [qnotB]; rfl
  have e2 : vw .u64 log = log := by rw [qw]; exact wrap_u64 (by omega) (by omega)
  have e3 : vb .shl .i64 1 log = size := by rw [qb, one_shl (by omega) (by omega), hsz]
  cbv
  rw [hnb]
  cbv
  rw [e2, e3, htoN]
  refine ⟨⟨by omega⟩, ⟨by omega⟩, ⟨by omega⟩, ⟨by omega⟩, ⟨by omega⟩, fun _ => rfl, fun _ => rfl, fun _ => rfl, ?_⟩
  have hx16 : ∀ i, i < n → isI16 (l.getD i 0) := fun i hi => hl _ (hmem i hi)
  have hgx : ∀ i, i < n → -1 ≤ l.getD i 0 := fun i hi => g6 _ (hmem i hi)
  have hneg := negN_range l
  have hrl := rowT_length l g6
  have hsn : sumP (l.take n) = size := by rw [List.take_of_length_le (by omega)]; exact g7
  have htk := sumP_take_le g6
  have hv256 : vrep 256 0 = List.replicate 256 0 := by simp only [qrep]
  refine WX.cv (Cv.nilB 3 0 5 .u8 (by rfl) (by cbv; exact ⟨fun _ => rfl, trivial⟩) (Cv.arrEq 1 (fun m => [.int .u8 (negS l size 0 m), .int .u8 0, .int .u16 0]) (by rfl) (by intro i; rfl) (Cv.here ?_)))
  generalize hs0 : negS l size 0 = sy0
  cbv
  rw [hv256]
  generalize hxs0 : List.replicate 256 (0 : Int) = xs0
  refine loop_fam (α := Int × Int × (Nat → Int) × List Int × List Int × Nat × Nat) ([11, 12] ++ [31, 32, 33, 34, 35, 36, 37, 38, 39, 40, 41, 42, 43, 44, 45, 46, 47, 48, 49, 50, 51, 52, 53, 54, 55, 56, 57, 58]) [5]
    (fun (k, high, sy, xs, row, rl, c) => [(30, .int .i64 k), (8, .int .i64 high)])
    (fun (k, high, sy, xs, row, rl, c) => [(1, .arr 65 3 N (fun m => [.int .u8 (sy m), .int .u8 0, .int .u16 0])), (3, .one 23 [.slice 5 .z 1 rl c]), (4, .ints 118 .i64 xs), (5, .buf 5 .u8 row c)])
    (fun (k, high, sy, xs, row, rl, c) => ∃ i : Nat, k = i ∧ i ≤ n ∧ high = size - negN l i ∧ sy = negS l size i ∧ row = rowT l i ∧ rl = row.length ∧ xs.length = 256 ∧ ∀ s, xs.getD s 0 = if s < i then partsN (l.getD s 0) else 0)
    (fun (k, high, sy, xs, row, rl, c) => n - k.toNat) hw hm ?_ ?_
  · refine Cv.genAt [30] [] (Cv.fold ([11, 12] ++ [31, 32, 33, 34, 35, 36, 37, 38, 39, 40, 41, 42, 43, 44, 45, 46, 47, 48, 49, 50, 51, 52, 53, 54, 55, 56, 57, 58]) 6 [5] (by exact Nat.le_refl _) (by exact Nat.le_of_ble_eq_true rfl) (by rfl) (by cbv) ?_)
    intro js
    refine ⟨(_, _, _, _, _, _, _), ?_, js, rfl⟩
    refine ⟨0, rfl, by omega, by simp [negN], hs0.symm, rfl, rfl, by rw [← hxs0]; simp, fun s => ?_⟩
    rw [← hxs0, if_neg (by omega), List.getD_eq_getElem?_getD, List.getElem?_replicate]
    split <;> rfl
  · rintro ⟨k, high, sy, xs, row, rl, c⟩ js ⟨i, hk, hi, hhigh, hsy, hrow, hrl1, hxl, hxg⟩
    cbv
    split
    rotate_left
    · rename_i hlt
      have hin : i = n := by rw [qc, lss_false] at hlt; simp only [qofN] at hlt; simp only [nc] at *; omega
      subst hin
      cbv
      refine ⟨fun _ => rfl, ?_⟩
      refine inl_walk hw hm f75 (by rfl) ?_
      cbv
      refine ⟨fun _ => rfl, fun _ => rfl, ?_⟩
      intro js1
      cbv
      refine range_rule (by rfl) (by rfl) (by cbv; exact ⟨fun _ => rfl, trivial⟩) (by cbv; exact ⟨fun _ => rfl, trivial⟩) (by rfl) ?_
      refine inl_walk hw hm f116 (by rfl) ?_
      have hnegi := hneg i
      have hh0 : 0 ≤ high := by have := hrl i (by omega); rw [hsn] at this; simp only [nc] at *; omega
      obtain ⟨Hn, hHn⟩ : ∃ Hn : Nat, high = Hn := ⟨high.toNat, by omega⟩
      have hrowl : row.length = Hn := by have := hrl i (by omega); rw [hsn, ← hrow] at this; simp only [nc] at *; omega
      have hsyd2 : syT = placeT size high row sy Hn := by rw [hsyd, ← hhigh, hrow, hsy, hHn]; simp
      have hpos := fun h => posT_range (size := size) (high := high) hszs h
      have hp0 : posT size high 0 = 0 := rfl
      have hps : ∀ q, posT size high (q + 1) = skipT size high 5000 (stepT size (posT size high q)) := fun q => rfl
      have hpl0 : placeT size high row sy 0 = sy := rfl
      have hpls : ∀ q, placeT size high row sy (q + 1) = updI (placeT size high row sy q) (posT size high q).toNat (row.getD q 0) := fun q => rfl
      have hstd : ∀ a, stepT size a = (a + size / 2 + size / 8 + 3) % size := fun a => rfl
      have hsb := fun a => step_bound (size := size) (by omega) a
      have hhit := fun a h0 h1 => hit0 (size := size) hszs (a := a) h0 h1
      have hsk1 := @skipT_step size high
      have hsk2 := @skipT_here size high
      generalize placeT size high row sy = PL at *
      generalize posT size high = PO at *
      generalize stepT size = ST at *
      generalize skipT size high = SK at *
      have hNle : N ≤ 4096 := by simp only [nc] at *; omega
      clear hparts hright hrl htk hneg
      cbv
      refine loop_fam (α := Int × Int × Int × (Nat → Int)) [7, 8, 9, 10, 11, 12, 13, 14, 15, 16, 17, 18, 19, 20, 21, 22, 23, 24, 25, 26, 27, 28, 29, 30, 31, 32, 33, 34, 35, 36, 37] [5]
        (fun (cnt, a, ix, sy2) => [(6, .int .i64 cnt), (4, .int .i64 a)])
        (fun (cnt, a, ix, sy2) => [(1, .arr 65 3 N (fun m => [.int .u8 (sy2 m), .int .u8 0, .int .u16 0])), (6, .one 3 [.int .i64 ix])])
        (fun (cnt, a, ix, sy2) => ∃ q : Nat, cnt = q ∧ q ≤ Hn ∧ ix = q ∧ a = PO q ∧ sy2 = PL q)
        (fun (cnt, a, ix, sy2) => Hn - cnt.toNat) hw hm ?_ ?_
      · refine Cv.genAt [6, 4] [6] (Cv.fold [7, 8, 9, 10, 11, 12, 13, 14, 15, 16, 17, 18, 19, 20, 21, 22, 23, 24, 25, 26, 27, 28, 29, 30, 31, 32, 33, 34, 35, 36, 37] 11 [5] (by exact Nat.le_refl _) (by exact Nat.le_of_ble_eq_true rfl) (by rfl) (by cbv) ?_)
        intro js
        refine ⟨(_, _, _, _), ?_, js, rfl⟩
        exact ⟨0, rfl, by omega, rfl, hp0.symm, hpl0.symm⟩
      · rintro ⟨cnt, a, ix, sy2⟩ js ⟨q, hcnt, hqH, hix, ha, hsy2⟩
        cbv
        split
        rotate_left
        · rename_i hlt2
          have hqe : q = Hn := by rw [qc, lss_false] at hlt2; simp only [nc] at *; omega
          have hsyE : sy2 = syT := by rw [hsy2, hqe, hsyd2]
          subst hsyE
          cbv
          intro js2
          cbv
          have hNI : vofN N = size := by simp only [qofN]; exact hN.symm
          have hpsum := fun s => partsN_le_sum g6 s
          rw [g7] at hpsum
          have hcr := cntT_range sy2
          have hcs : ∀ s q, cntT sy2 s (q + 1) = cntT sy2 s q + (if sy2 q = s then 1 else 0) := fun _ _ => rfl
          have hc0 : ∀ s, cntT sy2 s 0 = 0 := fun _ => rfl
          have hxd : ∀ q, xT l sy2 q = partsN (l.getD (sy2 q).toNat 0) + cntT sy2 (sy2 q) q := fun _ => rfl
          generalize xT l sy2 = XT at *
          have hbd : ∀ x, bT log x = IntKind.u8.wrap (log + 1 - blen x) := fun _ => rfl
          have hcd : ∀ x, baseT log size x = IntKind.u16.wrap (bV .sub .i64 (bV .shl .i64 x (IntKind.u64.wrap (log + 1 - blen x))) size) := fun _ => rfl
          generalize bT log = bTf at *
          generalize baseT log size = bAf at *
          rw [hNI]
          clear hps hpls hpos hhit hsk1 hsk2 hsb hstd
          refine WX.cv (Cv.arrEq 1 (fun m => [.int .u8 (sy2 m), .int .u8 (tB 0 m), .int .u16 (tC 0 m)]) (by rfl) (by intro i; rw [hB0, hC0]) (Cv.here ?_))
          cbv
          refine loop_fam (α := Int × (Nat → Int) × (Nat → Int) × List Int) ([15, 16, 17] ++ [76, 77, 78, 79, 80, 81, 82, 83, 84, 85, 86, 87, 88, 89, 90, 91, 92, 93, 94, 95, 96, 97, 98, 99, 100, 101, 102, 103, 104, 105, 106, 107, 108, 109, 110, 111, 112, 113, 114, 115, 116, 117, 118, 119, 120]) [5]
            (fun (k, b, s, xs) => [(75, .int .i64 k)])
            (fun (k, b, s, xs) => [(1, .arr 65 3 N (fun m => [.int .u8 (sy2 m), .int .u8 (b m), .int .u16 (s m)])), (4, .ints 118 .i64 xs)])
            (fun (k, b, s, xs) => ∃ q : Nat, k = q ∧ q ≤ N ∧ b = tB q ∧ s = tC q ∧ xs.length = 256 ∧ ∀ s, xs.getD s 0 = partsN (l.getD s 0) + cntT sy2 s q)
            (fun (k, b, s, xs) => N - k.toNat) hw hm ?_ ?_
          · refine Cv.genAt [75] [] (Cv.fold ([15, 16, 17] ++ [76, 77, 78, 79, 80, 81, 82, 83, 84, 85, 86, 87, 88, 89, 90, 91, 92, 93, 94, 95, 96, 97, 98, 99, 100, 101, 102, 103, 104, 105, 106, 107, 108, 109, 110, 111, 112, 113, 114, 115, 116, 117, 118, 119, 120]) 11 [5] (by exact Nat.le_refl _) (by exact Nat.le_of_ble_eq_true rfl) (by rfl) (by cbv) ?_)
            intro js
            refine ⟨(_, _, _, _), ?_, js, rfl⟩
            refine ⟨0, rfl, by omega, rfl, rfl, hxl, fun s => ?_⟩
            rw [hxg, hc0]
            by_cases h : s < i
            · rw [if_pos h]; omega
            · rw [if_neg h, List.getD_eq_getElem?_getD, List.getElem?_eq_none (by omega)]
              have : partsN ((none : Option Int).getD 0) = 0 := by decide
              omega
          · rintro ⟨k3, b3, s3, xs3⟩ js ⟨q3, hk3, hq3, hb3, hs3, hxl3, hxg3⟩
            cbv
            split
            rotate_left
            · rename_i hlt3
              have hqe3 : q3 = N := by rw [qc, lss_false] at hlt3; simp only [nc] at *; omega
              subst hqe3
              subst hb3 hs3
              cbv
            · rename_i hlt3
              have hqe3 : q3 < N := by rw [qc, lss_true] at hlt3; simp only [nc] at *; omega
              have ht3 : vtoN k3 = q3 := by rw [hk3]; exact hto q3
              have hin3 : 0 ≤ k3 ∧ k3 < (N : Int) := by simp only [nc] at *; omega
              obtain ⟨hsr0, hsr1⟩ := hsyr q3
              have htsy : vtoN (sy2 q3) = (sy2 q3).toNat := by simp only [qtoN]
              have hin4 : 0 ≤ sy2 q3 ∧ sy2 q3 < ((256 : Nat) : Int) := by simp only [nc] at *; omega
              have hln3 : vln xs3 = 256 := by rw [qln]; exact hxl3
              have hgx3 : vgd xs3 (sy2 q3).toNat = XT q3 := by rw [qgd, hxd]; show xs3.getD _ 0 = _; have hcast : ((sy2 q3).toNat : Int) = sy2 q3 := Int.toNat_of_nonneg hsr0; rw [hxg3]; simp only [nc]; rw [hcast]
              have hxr0 := hpsum (sy2 q3).toNat
              have hxr1 := hcr (sy2 q3) q3
              have hxq := hxd q3
              generalize hxv : XT q3 = xv at *
              have hxv0 : 0 ≤ xv ∧ xv ≤ 8192 := by simp only [nc] at *; omega
              have exw : vw .u64 xv = xv := by rw [qw]; exact wrap_u64 (by omega) (by omega)
              have hlx := hlen xv (by omega)
              have hbl := blen_16 (x := xv) (by omega) (by omega)
              have hbv := hbd xv
              have hcv := hcd xv
              generalize blen xv = bl at *
              have enn : vb .sub .i64 (vb .add .i64 log 1) bl = log + 1 - bl := by
                have e : vb .add .i64 log 1 = log + 1 := by rw [qb, add_i64 (by omega) (by omega)]
                rw [e, qb, sub_i64 (by omega) (by omega)]
              generalize hnnv : log + 1 - bl = nn at *
              have hnn0 : 0 ≤ vw .u64 nn := by
                rw [qw]; simp only [IntKind.wrap, IntKind.bits, IntKind.signed]
                simp
                omega
              have eB : vw .u8 nn = bTf xv := by rw [hbv, qw]
              have eC : vw .u16 (vb .sub .i64 (vb .shl .i64 xv (vw .u64 nn)) size) = bAf xv := by rw [hcv, qw, qb]
              have hBq := hBs q3
              have hCq := hCs q3
              rw [hxv, ← hb3] at hBq
              rw [hxv, ← hs3] at hCq
              have ex1 : vb .add .i64 xv 1 = xv + 1 := by rw [qb, add_i64 (by omega) (by omega)]
              obtain ⟨k4, hk4⟩ : ∃ k4 : Int, k4 = ((q3 + 1 : Nat) : Int) := ⟨_, rfl⟩
              have ek4 : vb .add .i64 k3 1 = k4 := by simp only [nc] at *; rw [qb, add_i64 (by omega) (by omega)]; omega
              obtain ⟨xs4, hxs4⟩ : ∃ xs4, xs4 = xs3.set (sy2 q3).toNat (xv + 1) := ⟨_, rfl⟩
              have evs : vst xs3 (sy2 q3).toNat (xv + 1) = xs4 := by rw [qst, hxs4]
              have hxl4 : xs4.length = 256 := by rw [hxs4, List.length_set]; exact hxl3
              have hxg4 : ∀ s, xs4.getD s 0 = partsN (l.getD s 0) + cntT sy2 s (q3 + 1) := by
                intro s
                rw [hcs, hxs4, List.getD_eq_getElem?_getD, List.getElem?_set, hxl3]
                by_cases h : (sy2 q3).toNat = s
                · have hsy : sy2 q3 = s := by simp only [nc] at *; omega
                  rw [if_pos h, if_pos (by simp only [nc] at *; omega), if_pos hsy, ← hsy]
                  show xv + 1 = _
                  rw [hxq, hsy]
                  simp only [Int.toNat_natCast]
                  omega
                · rw [if_neg h, if_neg (by simp only [nc] at *; omega), ← List.getD_eq_getElem?_getD, hxg3]
                  simp only [nc]
                  omega
              generalize hsq : sy2 q3 = sq at *
              generalize hsqn : sq.toNat = sqn at *
              generalize hb4 : tB (q3 + 1) = b4 at *
              generalize hs4 : tC (q3 + 1) = s4 at *
              generalize bTf xv = bx at *
              generalize bAf xv = ax at *
              generalize xv + 1 = xv1 at *
              cbv
              rw [ht3, hsq, htsy, hgx3, exw]
              refine ⟨⟨hin3⟩, ⟨hqe3⟩, ⟨hin4⟩, ⟨by simp only [nc] at *; omega⟩, ?_⟩
              refine call_con (ρ := []) hlx ⟨by rfl, by rfl, by rfl, by cbv; exact ⟨fun _ => rfl, trivial⟩⟩ ?_
              rintro v H R js5 ⟨rfl, rfl, rfl⟩
              cbv
              rw [hsq, htsy, hgx3, enn, eB, eC, ex1, evs, updF_3_1, updF_3_2, hBq, hCq, ek4]
              refine ⟨fun _ => rfl, ⟨hqe3⟩, ⟨hin4⟩, ⟨by simp only [nc] at *; omega⟩, ⟨hnn0⟩, ⟨hqe3⟩, ⟨⟨by simp only [nc] at *; omega⟩, trivial⟩, ⟨hqe3⟩, ⟨hqe3⟩, ⟨hin4⟩, ⟨by simp only [nc] at *; omega⟩, ⟨hin4⟩, ⟨by simp only [nc] at *; omega⟩, ?_⟩
              refine Cv.fold ([15, 16, 17] ++ [76, 77, 78, 79, 80, 81, 82, 83, 84, 85, 86, 87, 88, 89, 90, 91, 92, 93, 94, 95, 96, 97, 98, 99, 100, 101, 102, 103, 104, 105, 106, 107, 108, 109, 110, 111, 112, 113, 114, 115, 116, 117, 118, 119, 120]) 11 [5] (by exact Nat.le_refl _) (by exact Nat.le_of_ble_eq_true rfl) (by rfl) (by cbv) ?_
              intro js
              refine ⟨(_, _, _, _), ?_, js, rfl⟩
              refine ⟨⟨q3 + 1, hk4, by omega, hb4.symm, hs4.symm, hxl4, hxg4⟩, ?_⟩
              show N - k4.toNat < N - k3.toNat
              simp only [nc] at *
              omega
        · rename_i hlt2
          have hqe : q < Hn := by rw [qc, lss_true] at hlt2; simp only [nc] at *; omega
          have hpq := hpos (by simp only [nc] at *; omega) q
          have hpq1 := hpos (by simp only [nc] at *; omega) (q + 1)
          obtain ⟨hst0, hst1⟩ := hsb (PO q)
          obtain ⟨mm, hmm, hmm0⟩ := hhit _ hst0 hst1
          have hgrow : vgd row q = row.getD q 0 := by simp only [qgd]
          have hlr : vln row = Hn := by simp only [qln, hrowl]
          have htq : vtoN ix = q := by rw [hix]; exact hto q
          have hta : vtoN a = (PO q).toNat := by rw [ha, qtoN]
          have hin1 : 0 ≤ ix ∧ ix < (rl : Int) := by simp only [nc] at *; omega
          have hin2 : 0 ≤ a ∧ a < (N : Int) := by simp only [nc] at *; omega
          have hinN : (PO q).toNat < N := by simp only [nc] at *; omega
          obtain ⟨q1, hq1⟩ : ∃ q1 : Int, q1 = ((q + 1 : Nat) : Int) := ⟨_, rfl⟩
          have ei : vb .add .i64 ix 1 = q1 := by simp only [nc] at *; rw [qb, add_i64 (by omega) (by omega)]; omega
          have ec : vb .add .i64 cnt 1 = q1 := by simp only [nc] at *; rw [qb, add_i64 (by omega) (by omega)]; omega
          have eS : ∀ x, 0 ≤ x → x < size → vb .rem .i64 (vb .add .i64 (vb .add .i64 (vb .add .i64 x (vb .quo .i64 size 2)) (vb .quo .i64 size 8)) 3) size = ST x := by
            intro x h0 h1
            have e1 : vb .quo .i64 size 2 = size / 2 := by rw [qb, quo_i64 (by omega) (by omega) (by omega)]
            have e2 : vb .quo .i64 size 8 = size / 8 := by rw [qb, quo_i64 (by omega) (by omega) (by omega)]
            have e3 : vb .add .i64 x (size / 2) = x + size / 2 := by rw [qb, add_i64 (by omega) (by omega)]
            have e4 : vb .add .i64 (x + size / 2) (size / 8) = x + size / 2 + size / 8 := by rw [qb, add_i64 (by omega) (by omega)]
            have e5 : vb .add .i64 (x + size / 2 + size / 8) 3 = x + size / 2 + size / 8 + 3 := by rw [qb, add_i64 (by omega) (by omega)]
            rw [e1, e2, hstd, e3, e4, e5, qb, rem_i64 (by omega)]
          have eSa := eS a (by omega) (by omega)
          cbv
          refine yield_walk hw hm (by rfl) ?_
          cbv
          rw [htq, hadd0, hta]
          refine ⟨⟨hin1⟩, ⟨by omega⟩, ⟨by omega⟩, ⟨hin2⟩, ⟨hinN⟩, ?_⟩
          intro js2
          rw [hgrow, updF_3_0, ei]
          have hPLq : updI sy2 (PO q).toNat (row.getD q 0) = PL (q + 1) := by rw [hpls, hsy2]
          rw [hPLq]
          generalize hsy3 : PL (q + 1) = sy3 at *
          have hnb2 : vnotB true = false := hnb
          cbv
          rw [hnb2]
          cbv
          rw [eSa]
          generalize hSTa : ST a = sta at *
          refine ⟨⟨by omega⟩, ?_⟩
          refine loop_fam (α := Nat × Int) [22, 23, 24, 25, 26, 27, 28, 29, 30, 31, 32, 33, 34, 35, 36] [5] (fun (nn, a) => [(4, .int .i64 a)]) (fun _ => [])
            (fun (nn, a) => ∃ m, SK nn a = PO (q + 1) ∧ iterT size m a = 0 ∧ m ≤ nn ∧ 0 ≤ a ∧ a < size) (fun (nn, a) => nn) hw hm ?_ ?_
          · refine Cv.fold [22, 23, 24, 25, 26, 27, 28, 29, 30, 31, 32, 33, 34, 35, 36] 11 [5] (by exact Nat.le_refl _) (by exact Nat.le_of_ble_eq_true rfl) (by rfl) (by cbv) ?_
            intro js
            refine ⟨(5000, _), ?_, js, rfl⟩
            rw [← ha, hSTa] at hst0 hst1 hmm0
            exact ⟨mm, by rw [hps, ← ha, hSTa], hmm0, by omega, hst0, hst1⟩
          · rintro ⟨nn, a2⟩ js ⟨m2, hSK, hit, hm2, ha0, ha1⟩
            have eS2 := eS a2 ha0 ha1
            cbv
            split
            rotate_left
            · rename_i hge
              rw [qc, geq_false] at hge
              have hh1 : SK nn a2 = a2 := hsk2 (by omega)
              cbv
              rw [ec]
              refine Cv.fold [7, 8, 9, 10, 11, 12, 13, 14, 15, 16, 17, 18, 19, 20, 21, 22, 23, 24, 25, 26, 27, 28, 29, 30, 31, 32, 33, 34, 35, 36, 37] 11 [5] (by exact Nat.le_refl _) (by exact Nat.le_of_ble_eq_true rfl) (by rfl) (by cbv) ?_
              intro js
              refine ⟨(_, _, _, _), ?_, js, rfl⟩
              refine ⟨⟨q + 1, hq1, by omega, hq1, by rw [← hSK, hh1], hsy3.symm⟩, ?_⟩
              show Hn - q1.toNat < Hn - cnt.toNat
              simp only [nc] at *
              omega
            · rename_i hge
              rw [qc, geq_true] at hge
              obtain ⟨n3, m3, hn3, hm3, hsk, hit3⟩ := hsk1 (a := a2) (n := nn) (m := m2) (by simp only [nc] at *; omega) (by omega) hit hm2
              obtain ⟨hsb2, hsb3⟩ := hsb a2
              cbv
              generalize hhz : vc .eql high 0 = hz
              have hhz2 : hz = false := by
                cases hz with
                | false => rfl
                | true => rw [qc, eql_true] at hhz; simp only [nc] at *; omega
              rw [hhz2]
              cbv
              rw [eS2]
              refine ⟨⟨by omega⟩, ?_⟩
              refine Cv.fold [22, 23, 24, 25, 26, 27, 28, 29, 30, 31, 32, 33, 34, 35, 36] 11 [5] (by exact Nat.le_refl _) (by exact Nat.le_of_ble_eq_true rfl) (by rfl) (by cbv) ?_
              intro js
              refine ⟨(n3, _), ?_, js, rfl⟩
              refine ⟨⟨m3, by rw [← hsk]; exact hSK, hit3, by omega, hsb2, hsb3⟩, ?_⟩
              show n3 < nn
              omega
    · rename_i hlt
      have hlt : i < n := by rw [qc, lss_true] at hlt; simp only [qofN] at hlt; simp only [nc] at *; omega
      have hti : vtoN k = i := by rw [hk]; exact hto i
      have hinR : 0 ≤ k ∧ k < (n : Int) := by simp only [nc] at *; omega
      have hin256 : 0 ≤ k ∧ k < ((256 : Nat) : Int) := by simp only [nc] at *; omega
      have hln : vln xs = 256 := by rw [qln]; exact hxl
      have h16 := hx16 i hlt
      have hpc := hparts _ h16
      have hgi := hgx i hlt
      have hlti : i < 256 := by omega
      have ew : vw .u8 k = k := by rw [qw]; simp only [nc] at *; exact wrap_u8 (by omega) (by omega)
      have ek : vb .add .i64 k 1 = ((i + 1 : Nat) : Int) := by simp only [nc] at *; rw [qb, add_i64 (by omega) (by omega)]; omega
      have hmu : n - ((i + 1 : Nat) : Int).toNat < n - k.toNat := by rw [hk]; simp only [nc] at *; omega
      have hn1 := hneg (i + 1)
      have hn0 := hneg i
      have hnd : negN l (i + 1) = negN l i + (if l.getD i 0 < 0 then 1 else 0) := rfl
      have hsd : negS l size (i + 1) = (if l.getD i 0 < 0 then updI (negS l size i) (size - negN l (i + 1)).toNat i else negS l size i) := rfl
      have hrd : rowT l (i + 1) = rowT l i ++ List.replicate (l.getD i 0).toNat (i : Int) := rfl
      have hxg2 : ∀ v, (∀ s, (xs.set i v).getD s 0 = if s = i then v else xs.getD s 0) := by
        intro v s
        rw [List.getD_eq_getElem?_getD, List.getElem?_set, hxl, List.getD_eq_getElem?_getD]
        by_cases h : i = s
        · subst h; simp [hlti]
        · rw [if_neg h, if_neg (fun e => h e.symm)]
      have hxgn : ∀ s, (xs.set i (partsN (l.getD i 0))).getD s 0 = if s < i + 1 then partsN (l.getD s 0) else 0 := by
        intro s
        rw [hxg2, hxg]
        by_cases h : s = i
        · subst h; rw [if_pos rfl, if_pos (by omega)]
        · rw [if_neg h]
          by_cases h2 : s < i
          · rw [if_pos h2, if_pos (by omega)]
          · rw [if_neg h2, if_neg (by omega)]
      have hvst : ∀ v, vst xs i v = xs.set i v := fun v => by rw [qst]
      have hrowl := hrl i (by omega)
      have hrowl1 := hrl (i + 1) (by omega)
      have htki := htk (i + 1)
      have htk0 := htk i
      clear hrl htk hright hlen
      cbv
      rw [hti, hadd0, hvgd]
      generalize hci : l.getD i 0 = ci at *
      generalize hpp : partsN ci = pc at *
      refine ⟨⟨hinR⟩, ⟨by omega⟩, ⟨by omega⟩, ?_⟩
      refine call_con (ρ := []) hpc ⟨by rfl, by rfl, by rfl, by cbv; exact ⟨fun _ => rfl, trivial⟩⟩ ?_
      rintro v H R js2 ⟨rfl, rfl, rfl⟩
      cbv
      rw [hti, hvst]
      have hx2l : (xs.set i pc).length = 256 := by rw [List.length_set]; exact hxl
      generalize hxs2 : xs.set i pc = xs2 at *
      generalize hz : vc .lss ci 0 = z
      cases z
      rotate_left
      · rw [qc, lss_true] at hz
        rw [if_pos hz] at hnd hsd
        have eh : vb .sub .i64 high 1 = size - negN l (i + 1) := by rw [qb, sub_i64 (by omega) (by omega)]; omega
        have ht0 : vtoN (size - negN l (i + 1)) = (size - negN l (i + 1)).toNat := by simp only [qtoN]
        generalize hh2 : size - negN l (i + 1) = high2 at *
        generalize hk2 : ((i + 1 : Nat) : Int) = k2 at *
        generalize hh2n : high2.toNat = h2n at *
        cbv
        rw [eh, ht0, ew, updF_3_0, ek]
        generalize hsy2 : updI sy h2n k = sy2 at *
        refine ⟨fun _ => rfl, ⟨hin256⟩, ⟨by omega⟩, ⟨by simp only [nc] at *; omega⟩, ⟨by simp only [nc] at *; omega⟩, ?_⟩
        refine Cv.fold ([11, 12] ++ [31, 32, 33, 34, 35, 36, 37, 38, 39, 40, 41, 42, 43, 44, 45, 46, 47, 48, 49, 50, 51, 52, 53, 54, 55, 56, 57, 58]) 6 [5] (by exact Nat.le_refl _) (by exact Nat.le_of_ble_eq_true rfl) (by rfl) (by cbv) ?_
        intro js
        refine ⟨(_, _, _, _, _, _, _), ?_, js, rfl⟩
        refine ⟨⟨i + 1, by first | exact hk2.symm | rfl, hlt, hh2.symm, ?_, ?_, hrl1, hx2l, hxgn⟩, hmu⟩
        · rw [hsd, ← hsy2, hsy, hk]; try rfl
        · rw [hrd, hrow]
          have : ci.toNat = 0 := by omega
          rw [this]; simp
      · rw [qc, lss_false] at hz
        rw [if_neg hz] at hnd hsd
        obtain ⟨q, hq⟩ : ∃ q : Nat, ci = q := ⟨ci.toNat, by omega⟩
        have hci15 : ci ≤ 32767 := h16.2
        have hnr : row.length ≤ 4096 := by rw [hrow]; simp only [nc] at *; omega
        cbv
        refine ⟨fun _ => rfl, ⟨hin256⟩, ⟨by omega⟩, ?_⟩
        refine loop_fam (α := Int × List Int × Nat × Nat) [51, 52, 53, 54, 55, 56, 57] [5]
          (fun (j, row, rl, c) => [(50, .int .i16 j)])
          (fun (j, row, rl, c) => [(3, .one 23 [.slice 5 .z 1 rl c]), (5, .buf 5 .u8 row c)])
          (fun (j, row, rl, c) => ∃ p : Nat, j = p ∧ p ≤ q ∧ row = rowT l i ++ List.replicate p (i : Int) ∧ rl = row.length)
          (fun (j, row, rl, c) => q - j.toNat) hw hm ?_ ?_
        · refine Cv.genAt [50] [] (Cv.fold [51, 52, 53, 54, 55, 56, 57] 6 [5] (by exact Nat.le_refl _) (by exact Nat.le_of_ble_eq_true rfl) (by rfl) (by cbv) ?_)
          intro js
          refine ⟨(_, _, _, _), ?_, js, rfl⟩
          exact ⟨0, rfl, by omega, by simp [hrow], hrl1⟩
        · rintro ⟨j, row2, rl2, c2⟩ js ⟨p, hj, hpq, hrow2, hrl2⟩
          have hl2 : row2.length ≤ 40000 := by
            rw [hrow2, List.length_append, List.length_replicate, ← hrow]; simp only [nc] at *; omega
          have hjw : vb .add .i16 j 1 = ((p + 1 : Nat) : Int) ∨ p = q := by
            by_cases h : p = q
            · exact .inr h
            · refine .inl ?_
              rw [qb]
              show IntKind.i16.wrap (j + 1) = _
              simp only [nc] at *
              simp [IntKind.wrap, IntKind.bits, IntKind.signed]
              omega
          cbv
          split
          rotate_left
          · rename_i hlt2
            have hpe : p = q := by rw [qc, lss_false] at hlt2; simp only [nc] at *; omega
            cbv
            rw [ek]
            generalize hk2 : ((i + 1 : Nat) : Int) = k2 at *
            refine Cv.fold ([11, 12] ++ [31, 32, 33, 34, 35, 36, 37, 38, 39, 40, 41, 42, 43, 44, 45, 46, 47, 48, 49, 50, 51, 52, 53, 54, 55, 56, 57, 58]) 6 [5] (by exact Nat.le_refl _) (by exact Nat.le_of_ble_eq_true rfl) (by rfl) (by cbv) ?_
            intro js
            refine ⟨(_, _, _, _, _, _, _), ?_, js, rfl⟩
            refine ⟨⟨i + 1, by first | exact hk2.symm | rfl, hlt, ?_, ?_, ?_, hrl2, hx2l, hxgn⟩, hmu⟩
            · rw [hhigh, hnd]; omega
            · rw [hsd, hsy]
            · rw [hrd, hrow2, hpe, hq]; rfl
          · rename_i hlt2
            have hpe : p < q := by rw [qc, lss_true] at hlt2; simp only [nc] at *; omega
            have hjw := hjw.resolve_right (by omega)
            have hsub : vsub [k] 0 1 = [k] := by simp only [qsub]; rfl
            have honto : vonto row2 rl2 [k] = row2 ++ [k] := by rw [qonto, hrl2]; simp
            have hlr : vln row2 = rl2 := by simp only [qln, hrl2]
            have hl1 : vln [k] = 1 := by simp only [qln]; rfl
            have ha1 : vaddN rl2 1 = rl2 + 1 := by simp only [qaddN]
            have ha01 : vaddN 0 1 = 1 := by simp only [qaddN]
            have hl3 : row2.length + 1 ≤ 140737488355328 := by omega
            rw [← hrl2] at hl3
            cbv
            rw [ew]
            refine ⟨fun _ => rfl, ⟨by rw [ha01, hl1]; exact Nat.le_refl _⟩, ⟨by rw [hlr]; exact Nat.le_refl _⟩, ⟨Nat.le_refl _⟩, ⟨by rw [ha1]; omega⟩, fun _ => rfl, ?_⟩
            intro c3 js3 hle3
            cbv
            rw [hsub, honto, hjw, ha1]
            generalize hrow3 : row2 ++ [k] = row3 at *
            refine Cv.fold [51, 52, 53, 54, 55, 56, 57] 6 [5] (by exact Nat.le_refl _) (by exact Nat.le_of_ble_eq_true rfl) (by rfl) (by cbv) ?_
            intro js
            refine ⟨(_, _, _, _), ?_, js, rfl⟩
            refine ⟨⟨p + 1, rfl, hpe, ?_, ?_⟩, ?_⟩
            · rw [← hrow3, hrow2, List.replicate_succ', List.append_assoc, hk]; try rfl
            · rw [← hrow3, List.length_append, hrl2]; try rfl
            · show q - ((p + 1 : Nat) : Int).toNat < q - j.toNat
              simp only [nc] at *
              omega
end Go.Proofs.Ytodobmkflimfkaa
namespace Go.Proofs.Ytodobmkflimfkaa
open Go Go.Sx Go.Proofs
set_option maxRecDepth 100000
set_option maxHeartbeats 40000000
def tbR : Tab := [(33, x33, 12, [2]), (35, x35, 15, [2]), (69, x69, 8, [2]), (70, x70, 7, [2]), (77, x77, 49, [4, 5]), (80, x80, 15, [2, 3]), (81, x81, 8, [2]), (113, x113, 6, [4]), (114, x114, 19, [2]), (115, x115, 25, [2]), (117, x117, 45, [4])]
theorem tbR_ok : TabOk Try.prog tbR := ⟨fn33, fn35, fn69, fn70, fn77, fn80, fn81, fn113, fn114, fn115, fn117, trivial⟩
theorem read_run (cap : Nat) : Con Try.prog 27 [.slice 0 .z 1 2 cap, .int .i64 5, .int .i64 3] [.ro .u8 [240, 3]] (fun v H R => R = [] ∧ ∃ c c1, v = .tup [.slice 6 .z 1 1 c1, .int .i64 5, .int .i64 2, .int .i64 0] ∧
    H = [.ro .u8 [240, 3], .buf 5 .u8 [240, 3] c, .one 23 [.slice 1 .z 1 2 c], .one 3 [.int .i64 2], .one 131 [.fn 80 [.ptr 3 .z 1 0, .ptr 2 .z 1 0], .int .u64 0, .int .i64 6, .fn 81 [.ptr 2 .z 1 0, .ptr 3 .z 1 0]], .ints 47 .i16 [32], .buf 47 .i16 [32] c1]) := by
  have hT := tbR_ok
  have hm := hmix
  refine con_gen (con_run 1000 tbR hmix hT fn27 ?_)
  generalize Try.prog = P at *
  cbv
  refine ⟨⟨by decide⟩, ⟨by decide⟩, ⟨by decide⟩, ⟨by decide⟩, ?_⟩
  intro c js hc
  cbv
  repeat' first
    | (refine And.intro ⟨by decide⟩ ?_)
  intro c1 hc1
  cbv
  repeat' first
    | (refine And.intro ⟨by decide⟩ ?_)
  exact ⟨c, c1, rfl, rfl⟩
theorem right_32 : Right [32] 5 := by decide
theorem right_4 : Right [16, 8, 4, 4] 5 := by decide
theorem wbits_32 : pack (wbits [32] 5) = [240, 3] ∧ ((wbits [32] 5).length : Int) = 10 := by decide
theorem sym_4 : symT [16, 8, 4, 4] 32 0 = 0 ∧ symT [16, 8, 4, 4] 32 23 = 0 ∧ tabB [16, 8, 4, 4] 5 32 32 0 = 1 ∧ tabC [16, 8, 4, 4] 5 32 32 0 = 0 := by decide +kernel
def tbW : Tab := [(28, x28, 26, [4])]
theorem tbW_ok : TabOk Try.prog tbW := ⟨fn28, trivial⟩
theorem wakes_con : Con Try.prog 26 [] [] (fun v H R => v = .bool true ∧ H = [] ∧ R = []) := by
  have hT := tbW_ok
  have hm := hmix
  have hwr := write_ok [32] 5 1 (by intro c hc; simp only [List.mem_cons, List.not_mem_nil, or_false] at hc; unfold isI16; omega) (by decide) right_32
  have hrd := read_run
  have htb := table_ok [16, 8, 4, 4] 5 4 (by intro c hc; simp only [List.mem_cons, List.not_mem_nil, or_false] at hc; unfold isI16; omega) (by decide) right_4
  have hw32 := wbits_32
  have hs4 := sym_4
  rw [show ((2 : Int) ^ (5 : Int).toNat) = 32 by decide, show (32 : Int).toNat = 32 by decide] at htb
  refine con_gen (con_cut 0 (by simp) (con_drop (con_run 1000 tbW hmix hT fn26 ?_)))
  generalize Try.prog = P at *
  generalize wbits [32] 5 = W at *
  generalize symT [16, 8, 4, 4] 32 = sy at *
  generalize tabB [16, 8, 4, 4] 5 32 32 = tB at *
  generalize tabC [16, 8, 4, 4] 5 32 32 = tC at *
  cbv
  refine CallX.mono' (fun _ _ h => h) (call_con (ρ := [(0, .z)]) hwr ⟨by rfl, by rfl, by rfl, by cbv; exact ⟨view_refl _, trivial⟩⟩ ?_)
  rintro v H R js ⟨rfl, l', n', m', c, c', ⟨_, h1, h2, h3⟩, rfl, rfl⟩
  rw [hw32.1] at h1
  subst h1
  try simp only [nc] at h3
  have h3 : m' = 10 := h3.trans hw32.2
  subst h2 h3
  cbv
  refine CallX.mono' (fun _ _ h => h) (call_con (ρ := [(3, .z)]) (hrd c') ⟨by rfl, by rfl, by rfl, by cbv; exact ⟨view_refl _, trivial⟩⟩ ?_)
  rintro v H R js ⟨rfl, c2, c3, rfl, rfl⟩
  cbv
  refine CallX.mono' (fun _ _ h => h) (call_con (ρ := [(10, .z)]) htb ⟨by rfl, by rfl, by rfl, by cbv; exact ⟨view_refl _, trivial⟩⟩ ?_)
  rintro v H R js ⟨rfl, rfl, rfl⟩
  cbv
  refine ⟨fun _ => rfl, ⟨by decide⟩, fun _ => rfl, ⟨by decide⟩, ⟨by decide⟩, ⟨by decide⟩, ⟨by decide⟩, ⟨by decide⟩, ⟨by decide⟩, ⟨by decide⟩, ⟨by decide⟩, ⟨by decide⟩, ?_⟩
  obtain ⟨k1, k2, k3, k4⟩ := hs4
  rw [k1]
  cbv
  rw [k3]
  cbv
  rw [k4]
  cbv
  rw [k2]
  cbv
  exact ⟨⟨by decide⟩, ⟨by decide⟩, trivial⟩
end Go.Proofs.Ytodobmkflimfkaa
