import Derived.Test.YtbipjekiobmpgaaBA
import Derived.Test.YtbipjekiobmpgaaEC
import Derived.Test.YtbipjekiobmpgaaED
namespace Go.Proofs.Ytbipjekiobmpgaa
open Go Go.Sx Go.Proofs
/-! How many bits a number has (as in the other seat's S2). -/
/-- How many bits a number has. -/
def blen (x : Int) : Int := if x ≤ 0 then 0 else (Nat.log2 x.toNat : Int) + 1
theorem blen_of {x : Int} {k : Nat} (h0 : 2 ^ k ≤ x) (h1 : x < 2 ^ (k + 1)) : blen x = k + 1 := by
  have hp : (0 : Int) < 2 ^ k := Int.pow_pos (by omega)
  unfold blen
  rw [if_neg (by omega)]
  obtain ⟨n, rfl⟩ : ∃ n : Nat, x = n := ⟨x.toNat, by omega⟩
  have a : 2 ^ k ≤ n := by exact_mod_cast h0
  have b : n < 2 ^ (k + 1) := by exact_mod_cast h1
  have hn : n ≠ 0 := by have : 0 < 2 ^ k := Nat.pow_pos (by omega); omega
  have c1 : n.log2 < k + 1 := (Nat.log2_lt hn).2 b
  have c2 : k ≤ n.log2 := (Nat.le_log2 hn).2 a
  simp only [Int.toNat_natCast]
  omega
theorem blen_spec {x : Int} (h : 0 < x) : ∃ k : Nat, blen x = k + 1 ∧ 2 ^ k ≤ x ∧ x < 2 ^ (k + 1) := by
  obtain ⟨n, rfl⟩ : ∃ n : Nat, x = n := ⟨x.toNat, by omega⟩
  have hn : n ≠ 0 := by omega
  refine ⟨n.log2, ?_, ?_, ?_⟩
  · unfold blen; rw [if_neg (by omega)]; simp
  · exact_mod_cast (Nat.le_log2 hn).1 (Nat.le_refl _)
  · exact_mod_cast (Nat.log2_lt hn).1 (Nat.lt_succ_self _)
theorem blen_half {x : Int} (h : 0 < x) : blen x = blen (x / 2) + 1 := by
  obtain ⟨k, h1, h2, h3⟩ := blen_spec h
  cases k with
  | zero =>
    have : x = 1 := by omega
    subst this; rfl
  | succ k =>
    have e : blen (x / 2) = k + 1 := blen_of (by rw [Int.pow_succ] at h2; omega) (by rw [Int.pow_succ] at h3; omega)
    rw [h1, e]; push_cast; omega
theorem blen_nonpos {x : Int} (h : x ≤ 0) : blen x = 0 := by unfold blen; rw [if_pos h]
theorem blen_range {x : Int} {n : Nat} (h0 : 0 ≤ x) (h : x < 2 ^ n) : 0 ≤ blen x ∧ blen x ≤ n := by
  rcases Int.lt_or_le 0 x with hx | hx
  · obtain ⟨k, h1, h2, h3⟩ := blen_spec hx
    have : k < n := by
      apply Classical.byContradiction
      intro hk
      have : (2 : Int) ^ n ≤ 2 ^ k := by exact_mod_cast Nat.pow_le_pow_right (by omega : 0 < 2) (by omega : n ≤ k)
      omega
    omega
  · rw [blen_nonpos hx]; omega
theorem blen_16 {x : Int} (h0 : 0 ≤ x) (h : x < 65536) : 0 ≤ blen x ∧ blen x ≤ 16 := blen_range (n := 16) h0 h
theorem blen_8 {x : Int} (h0 : 0 ≤ x) (h : x < 256) : 0 ≤ blen x ∧ blen x ≤ 8 := blen_range (n := 8) h0 h
set_option maxRecDepth 100000 in
theorem lenTab_blen (n : Fin 256) : IntKind.i64.wrap (((UInt8.ofNat (lenTab.getD n.val 0).toNat).toNat : Nat) : Int) = blen (n.val : Int) := by
  revert n
  decide +kernel
theorem blen_256 {x : Int} (h : 256 ≤ x) : blen x = 8 + blen (x / 256) := by
  have e : x / 256 = x / 2 / 2 / 2 / 2 / 2 / 2 / 2 / 2 := by omega
  rw [e, blen_half (x := x) (by omega), blen_half (x := x / 2) (by omega), blen_half (x := x / 2 / 2) (by omega), blen_half (x := x / 2 / 2 / 2) (by omega), blen_half (x := x / 2 / 2 / 2 / 2) (by omega),
    blen_half (x := x / 2 / 2 / 2 / 2 / 2) (by omega), blen_half (x := x / 2 / 2 / 2 / 2 / 2 / 2) (by omega), blen_half (x := x / 2 / 2 / 2 / 2 / 2 / 2 / 2) (by omega)]
  omega
set_option maxRecDepth 100000 in
theorem len64_con (x : Int) (hx : 0 ≤ x ∧ x < 65536) : Con Try.prog 48 [.int .u64 x] [] (fun v H R => v = .int .i64 (blen x) ∧ H = [] ∧ R = []) := by
  refine con_gen (con_walk hmix fn48 ?_)
  intro vb vc vw vtoN vofN vaddN vsubN vmaxI vminI vcutN vgd vst vln vrep vsub vonto vsplice vstrEq vbyteV vnotB veqB hw qb qc qw qtoN qofN qaddN qsubN qmaxI qminI qcutN qgd qst qln qrep qsub qonto qsplice qstrEq qbyteV qnotB qeqB
  have hm := hmix; generalize Try.prog = P at *
  have hl : lenTab.length = 256 := by rfl
  have key : ∀ y : Int, 0 ≤ y → y < 256 → vw .i64 (vbyteV (vgd lenTab (vtoN y))) = blen y := by
    intro y h0 h1
    obtain ⟨n, rfl⟩ : ∃ n : Nat, y = n := ⟨y.toNat, by omega⟩
    rw [qw, qbyteV, qgd, qtoN]
    exact lenTab_blen ⟨n, by omega⟩
  have hb256 := @blen_256 x
  have hbr := @blen_8 (x / 256) (by omega) (by omega)
  have hbx := @blen_16 x (by omega) (by omega)
  have e1 : x48 = (.seq (.ops [⟨(some 2), .mv (.k (.lit .i64 0)), none, []⟩])
    (.seq (.seq (.ops [⟨(some 3), .mv (.t 0), none, []⟩,
      ⟨(some 4), .cmp .geq (.t 3) (.k (.lit .u64 4294967296)), none, []⟩])
    (.cond (.t 4) (.seq (.ops [⟨(some 5), .mv (.t 0), none, []⟩,
      ⟨(some 6), .bin .shr .u64 (.t 5) (.k (.lit .u64 32)), none, []⟩,
      ⟨(some 0), .mv (.t 6), none, []⟩])
    (.ops [⟨(some 2), .mv (.k (.lit .i64 32)), none, []⟩])) (.skip)))
    (.seq (.seq (.ops [⟨(some 7), .mv (.t 0), none, []⟩,
      ⟨(some 8), .cmp .geq (.t 7) (.k (.lit .u64 65536)), none, []⟩])
    (.cond (.t 8) (.seq (.ops [⟨(some 9), .mv (.t 0), none, []⟩,
      ⟨(some 10), .bin .shr .u64 (.t 9) (.k (.lit .u64 16)), none, []⟩,
      ⟨(some 0), .mv (.t 10), none, []⟩])
    (.ops [⟨(some 11), .mv (.t 2), none, []⟩,
      ⟨(some 12), .bin .add .i64 (.t 11) (.k (.lit .i64 16)), none, []⟩,
      ⟨(some 2), .mv (.t 12), none, []⟩])) (.skip)))
    (.seq (.seq (.ops [⟨(some 13), .mv (.t 0), none, []⟩,
      ⟨(some 14), .cmp .geq (.t 13) (.k (.lit .u64 256)), none, []⟩])
    (.cond (.t 14) (.seq (.ops [⟨(some 15), .mv (.t 0), none, []⟩,
      ⟨(some 16), .bin .shr .u64 (.t 15) (.k (.lit .u64 8)), none, []⟩,
      ⟨(some 0), .mv (.t 16), none, []⟩])
    (.ops [⟨(some 17), .mv (.t 2), none, []⟩,
      ⟨(some 18), .bin .add .i64 (.t 17) (.k (.lit .i64 8)), none, []⟩,
      ⟨(some 2), .mv (.t 18), none, []⟩])) (.skip)))
    (.seq (.ops [⟨(some 19), .mv (.t 2), none, []⟩,
      ⟨(some 20), .mv (.t 0), none, []⟩,
      ⟨(some 21), .conv .u8 (.t 20), none, []⟩,
      ⟨(some 22), .idxS (.k (.str lenTab)) (.t 21), none, []⟩,
      ⟨(some 23), .conv .i64 (.t 22), none, []⟩,
      ⟨(some 24), .bin .add .i64 (.t 19) (.t 23), none, []⟩,
      ⟨(some 2), .mv (.t 24), none, []⟩])
    (.ret)))))) := rfl
  rw [e1]
  have hll : vln lenTab = 256 := by rw [qln]; exact hl
  generalize lenTab = T at *
  have d1 : vc .geq x 4294967296 = false := by rw [qc, geq_false]; omega
  have d2 : vc .geq x 65536 = false := by rw [qc, geq_false]; omega
  generalize hbl : blen x = bl at *
  generalize hbl2 : blen (x / 256) = bl2 at *
  cbv
  rw [d1]
  cbv
  rw [d2]
  cbv
  generalize d3 : vc .geq x 256 = z
  cases z
  · rw [qc, geq_false] at d3
    have w1 : vw .u8 x = x := by rw [qw]; exact wrap_u8 (by omega) (by omega)
    have hk := key x (by omega) (by omega)
    cbv
    rw [w1, hk, hbl]
    refine ⟨⟨?_⟩, ?_, trivial⟩
    · rw [hll]; omega
    · congr 1
      rw [qb, add_i64 (by omega) (by omega)]; omega
  · rw [qc, geq_true] at d3
    have s1 : vb .shr .u64 x 8 = x / 256 := by rw [qb]; show x.fdiv (2 ^ 8) = _; rw [Int.fdiv_eq_ediv_of_nonneg _ (by omega)]; rfl
    have w1 : vw .u8 (x / 256) = x / 256 := by rw [qw]; exact wrap_u8 (by omega) (by omega)
    have hk := key (x / 256) (by omega) (by omega)
    have := hb256 (by omega)
    cbv
    rw [s1, w1, hk, hbl2]
    refine ⟨⟨?_⟩, ?_, trivial⟩
    · rw [hll]; omega
    · congr 1
      rw [qb, add_i64 (by omega) (by omega)]; omega
theorem len_con (x : Int) (hx : 0 ≤ x ∧ x < 65536) : Con Try.prog 32 [.int .u64 x] [] (fun v H R => v = .int .i64 (blen x) ∧ H = [] ∧ R = []) := by
  have hc := len64_con x hx
  refine con_gen (con_walk hmix fn32 ?_)
  intro vb vc vw vtoN vofN vaddN vsubN vmaxI vminI vcutN vgd vst vln vrep vsub vonto vsplice vstrEq vbyteV vnotB veqB hw qb qc qw qtoN qofN qaddN qsubN qmaxI qminI qcutN qgd qst qln qrep qsub qonto qsplice qstrEq qbyteV qnotB qeqB
  have hm := hmix; generalize Try.prog = P at *
  generalize blen x = bl at *
  cbv
  refine call_con (ρ := []) hc ⟨by rfl, by rfl, by rfl, by cbv⟩ ?_
  rintro v H R js ⟨rfl, rfl, rfl⟩
  cbv
theorem pow_up {a : Nat} : ∀ {b : Nat}, a ≤ b → (2 : Int) ^ a ≤ 2 ^ b
  | 0, h => by obtain rfl : a = 0 := by omega
               exact Int.le_refl _
  | b + 1, h => by
    by_cases e : a = b + 1
    · subst e; exact Int.le_refl _
    · have := pow_up (a := a) (b := b) (by omega)
      have h2 : (2 : Int) ^ (b + 1) = 2 ^ b * 2 := Int.pow_succ _ _
      have h3 : (0 : Int) < 2 ^ b := Int.pow_pos (by omega)
      omega
end Go.Proofs.Ytbipjekiobmpgaa
namespace Go.Proofs.Ytbipjekiobmpgaa
open Go Go.Sx Go.Proofs
/-! Weights that make a code; weights.size. -/
def isU8 (c : Int) : Prop := 0 ≤ c ∧ c ≤ 255
theorem getD_u8 {l : List Int} (h : ∀ c ∈ l, isU8 c) (i : Nat) : 0 ≤ l.getD i 0 ∧ l.getD i 0 ≤ 255 := by
  rw [List.getD_eq_getElem?_getD]
  cases hg : l[i]? with
  | none => simp
  | some y => exact h y (List.mem_of_getElem? hg)
/-- What a weight counts. -/
def pw (w : Int) : Int := if w ≤ 0 then 0 else 2 ^ (w - 1).toNat
def sm (l : List Int) : Nat → Int
  | 0 => 0
  | n + 1 => sm l n + pw (l.getD n 0)
def on (l : List Int) : Nat → Int
  | 0 => 0
  | n + 1 => on l n + (if l.getD n 0 = 1 then 1 else 0)
def Wt (l : List Int) (M : Nat) : Prop := 2 ≤ l.length ∧ l.length ≤ 256 ∧ l.getD (l.length - 1) 0 ≠ 0 ∧ (∀ i, i < l.length → l.getD i 0 ≤ 11) ∧ 2 ≤ on l l.length ∧ sm l l.length = 2 ^ M ∧ M ≤ 11
def Msz (l : List Int) (m : Int) : Prop := (∃ M : Nat, Wt l M ∧ m = M) ∨ ((∀ M, ¬ Wt l M) ∧ m = 0)
theorem Msz.ex (l : List Int) : ∃ m, Msz l m := by
  by_cases h : ∃ M, Wt l M
  · obtain ⟨M, h⟩ := h; exact ⟨M, .inl ⟨M, h, rfl⟩⟩
  · exact ⟨0, .inr ⟨fun M hM => h ⟨M, hM⟩, rfl⟩⟩
theorem pw_range {w : Int} (h : w ≤ 11) : 0 ≤ pw w ∧ pw w ≤ 1024 := by
  unfold pw
  split
  · omega
  · have h1 : (2 : Int) ^ (w - 1).toNat ≤ 2 ^ 10 := pow_up (by omega)
    have h2 : (0 : Int) < 2 ^ (w - 1).toNat := Int.pow_pos (by omega)
    omega
theorem sm_range {l : List Int} : ∀ {i : Nat}, (∀ j, j < i → l.getD j 0 ≤ 11) → 0 ≤ sm l i ∧ sm l i ≤ 1024 * i
  | 0, _ => by simp [sm]
  | i + 1, h => by
    have h1 := sm_range (l := l) (i := i) (fun j hj => h j (by omega))
    have h2 := pw_range (h i (by omega))
    simp only [sm]
    push_cast
    omega
theorem on_range (l : List Int) : ∀ i, 0 ≤ on l i ∧ on l i ≤ i
  | 0 => by simp [on]
  | i + 1 => by
    have h1 := on_range l i
    simp only [on]
    push_cast
    split <;> omega
/-- So many ones weigh as much. -/
theorem on_sm {l : List Int} : ∀ {i : Nat}, (∀ j, j < i → l.getD j 0 ≤ 11) → on l i ≤ sm l i
  | 0, _ => by simp [on, sm]
  | i + 1, h => by
    have h1 := on_sm (l := l) (i := i) (fun j hj => h j (by omega))
    have h2 := pw_range (h i (by omega))
    simp only [on, sm]
    split
    · rename_i e
      rw [e, show pw 1 = 1 by decide]
      omega
    · omega
theorem nat_pow_and : ∀ n : Nat, 0 < n → (n &&& (n - 1) = 0 ↔ ∃ k, n = 2 ^ k) := by
  intro n
  induction n using Nat.strongRecOn with
  | _ n ih =>
    intro hn
    have hdiv : (n &&& (n - 1)) = 0 ↔ ((n &&& (n - 1)) / 2 = 0 ∧ (n &&& (n - 1)) % 2 = 0) := by omega
    rw [hdiv, Nat.and_div_two, show (n &&& (n - 1)) % 2 = (n % 2) &&& ((n - 1) % 2) by rw [← Nat.and_mod_two_pow (n := 1)]]
    rcases (by omega : n % 2 = 0 ∨ n % 2 = 1) with h | h
    · have h1 : (n - 1) / 2 = n / 2 - 1 := by omega
      rw [h1, h, Nat.zero_and, ih (n / 2) (by omega) (by omega)]
      constructor
      · rintro ⟨⟨k, hk⟩, _⟩
        exact ⟨k + 1, by rw [Nat.pow_succ]; omega⟩
      · rintro ⟨k, hk⟩
        cases k with
        | zero => omega
        | succ k => exact ⟨⟨k, by rw [Nat.pow_succ] at hk; omega⟩, rfl⟩
    · have h1 : (n - 1) / 2 = n / 2 := by omega
      rw [h1, Nat.and_self]
      constructor
      · rintro ⟨h2, _⟩
        exact ⟨0, by omega⟩
      · rintro ⟨k, hk⟩
        cases k with
        | zero => subst hk; exact ⟨rfl, rfl⟩
        | succ k => rw [Nat.pow_succ] at hk; omega
theorem and_pow {s : Int} (h0 : 1 ≤ s) (h1 : s < 2 ^ 64) : bV .and .u64 s (s - 1) = 0 ↔ ∃ k : Nat, s = 2 ^ k := by
  have hb : (2 : Int) ^ (IntKind.u64).bits = 18446744073709551616 := by decide
  rw [and_u rfl (by omega) (by rw [hb]; omega) (by omega) (by rw [hb]; omega)]
  have e : (s - 1).toNat = s.toNat - 1 := by omega
  rw [e]
  have key := nat_pow_and s.toNat (by omega)
  constructor
  · intro h
    obtain ⟨k, hk⟩ := key.1 (by exact_mod_cast h)
    refine ⟨k, ?_⟩
    have : ((s.toNat : Nat) : Int) = ((2 ^ k : Nat) : Int) := by rw [hk]
    rw [Int.toNat_of_nonneg (by omega)] at this
    rw [this]; push_cast; rfl
  · rintro ⟨k, hk⟩
    have : s.toNat = 2 ^ k := by
      have h2 : ((s.toNat : Nat) : Int) = ((2 ^ k : Nat) : Int) := by rw [Int.toNat_of_nonneg (by omega), hk]; push_cast; rfl
      exact_mod_cast h2
    exact_mod_cast key.2 ⟨k, this⟩
theorem blen_pow (k : Nat) : blen (2 ^ k) = k + 1 := blen_of (Int.le_refl _) (by have : (0 : Int) < 2 ^ k := Int.pow_pos (by omega); rw [Int.pow_succ]; omega)
theorem pow_inj {a b : Nat} (h : (2 : Int) ^ a = 2 ^ b) : a = b := by
  have := blen_pow a; rw [h, blen_pow] at this; omega
/-- What is asked at the end. -/
theorem Msz.ends {l : List Int} {m : Int} (hm : Msz l m) (h1 : 2 ≤ l.length) (h2 : l.length ≤ 256) (h3 : l.getD (l.length - 1) 0 ≠ 0) (h4 : ∀ i, i < l.length → l.getD i 0 ≤ 11) :
    (2 ≤ on l l.length → (∃ k : Nat, sm l l.length = 2 ^ k) → sm l l.length ≤ 2048 → m = blen (sm l l.length) - 1) ∧
    ((on l l.length < 2 ∨ (¬ ∃ k : Nat, sm l l.length = 2 ^ k) ∨ 2048 < sm l l.length) → m = 0) := by
  constructor
  · rintro k1 ⟨k, hk⟩ k3
    have hk11 : k ≤ 11 := by
      apply Classical.byContradiction
      intro h
      have : (2 : Int) ^ 12 ≤ 2 ^ k := pow_up (by omega)
      omega
    rcases hm with ⟨M, hW, rfl⟩ | ⟨hn, rfl⟩
    · have := hW.2.2.2.2.2.1
      rw [this, blen_pow]
      omega
    · exact (hn k ⟨h1, h2, h3, h4, k1, hk, hk11⟩).elim
  · intro h
    rcases hm with ⟨M, ⟨_, _, _, _, k1, k2, k3⟩, rfl⟩ | ⟨hn, rfl⟩
    · rcases h with h | h | h
      · omega
      · exact (h ⟨M, k2⟩).elim
      · have : (2 : Int) ^ M ≤ 2 ^ 11 := pow_up k3
        omega
    · rfl
theorem Msz.none {l : List Int} {m : Int} (hm : Msz l m) (h : l.length < 2 ∨ 256 < l.length ∨ l.getD (l.length - 1) 0 = 0 ∨ ∃ i, i < l.length ∧ 11 < l.getD i 0) : m = 0 := by
  rcases hm with ⟨M, ⟨k1, k2, k3, k4, _⟩, rfl⟩ | ⟨_, rfl⟩
  · rcases h with h | h | h | ⟨i, hi, h⟩
    · omega
    · omega
    · exact (k3 h).elim
    · have := k4 i hi; omega
  · rfl
theorem pw_word {w : Int} (h0 : 0 ≤ w) (h1 : w ≤ 11) : bV .shr .u64 (bV .shl .u64 1 w) 1 = pw w := by
  have hb : (2 : Int) ^ (IntKind.u64).bits = 18446744073709551616 := by decide
  have hp : (2 : Int) ^ w.toNat ≤ 2 ^ 11 := pow_up (by omega)
  rw [shl_u rfl (by omega) (by show w ≤ 64; omega) (by rw [hb]; omega), shr_eq (by decide)]
  unfold pw
  split
  · have : w.toNat = 0 := by omega
    rw [this]; rfl
  · obtain ⟨k, hk⟩ : ∃ k, w.toNat = k + 1 := ⟨w.toNat - 1, by omega⟩
    rw [hk, show (w - 1).toNat = k by omega, Int.pow_succ, Int.one_mul]
    show 2 ^ k * 2 / 2 = _
    omega
end Go.Proofs.Ytbipjekiobmpgaa
namespace Go.Proofs.Ytbipjekiobmpgaa
open Go Go.Sx Go.Proofs
set_option maxRecDepth 10000
set_option maxHeartbeats 40000000
theorem size_con (l : List Int) (cap : Nat) (m : Int) (hl : ∀ c ∈ l, isU8 c) (hlen : l.length ≤ 140737488355328) (hm0 : Msz l m) :
    Con Try.prog 15 [.slice 0 .z 1 l.length cap] [.ro .u8 l] (fun v H R => v = .int .i64 m ∧ H = [.ro .u8 l] ∧ R = []) := by
  have hlen1 := fun x h => len_con x h
  refine con_gen (con_cut 1 (by simp) (con_drop (con_walk hmix fn15 ?_)))
  intro vb vc vw vtoN vofN vaddN vsubN vmaxI vminI vcutN vgd vst vln vrep vsub vonto vsplice vstrEq vbyteV vnotB veqB hw qb qc qw qtoN qofN qaddN qsubN qmaxI qminI qcutN qgd qst qln qrep qsub qonto qsplice qstrEq qbyteV qnotB qeqB
  have hm := hmix; generalize Try.prog = P at *
  have hends := hm0.ends
  have hnone := hm0.none
  have hge := getD_u8 hl
  have hsr := fun i => @sm_range l i
  have hor := on_range l
  have hos := fun i => @on_sm l i
  have hs0 : sm l 0 = 0 := rfl
  have ho0 : on l 0 = 0 := rfl
  have hss : ∀ i, sm l (i + 1) = sm l i + pw (l.getD i 0) := fun _ => rfl
  have hosu : ∀ i, on l (i + 1) = on l i + (if l.getD i 0 = 1 then 1 else 0) := fun _ => rfl
  have hpr := @pw_range
  have hb16 := fun x h0 h1 => @blen_16 x h0 h1
  have hpwd : ∀ w : Int, 0 ≤ w → w ≤ 11 → vb .shr .u64 (vb .shl .u64 1 w) 1 = pw w := fun w h0 h1 => by rw [qb]; exact pw_word h0 h1
  have hand : ∀ s : Int, 1 ≤ s → s < 2 ^ 64 → (vb .and .u64 s (s - 1) = 0 ↔ ∃ k : Nat, s = 2 ^ k) := fun s h0 h1 => by rw [qb]; exact and_pow h0 h1
  clear hm0
  generalize sm l = SM at *
  generalize on l = ON at *
  generalize pw = PW at *
  generalize blen = BL at *
  generalize hn : l.length = n at *
  have hto : ∀ i : Nat, vtoN (i : Int) = i := fun i => by simp only [qtoN, Int.toNat_natCast]
  have hadd0 : ∀ i, vaddN 0 i = i := fun i => by simp only [qaddN, Nat.zero_add]
  have hvln : vln l = n := by simp only [qln, hn]
  have hvgd : ∀ i, vgd l i = l.getD i 0 := fun i => by simp only [qgd]
  obtain ⟨nI, hnI⟩ : ∃ nI : Int, nI = n := ⟨_, rfl⟩
  have en : vofN n = nI := by rw [hnI, qofN]
  cbv
  simp only [nc] at *
  rw [en]
  generalize hz1 : vc .lss nI 2 = z1
  cases z1
  rotate_left
  · rw [qc, lss_true] at hz1
    cbv
    have := hnone (.inl (by ((try simp only [nc] at *); omega)))
    subst this
    exact ⟨rfl, trivial⟩
  rw [qc, lss_false] at hz1
  cbv
  rw [en]
  generalize hz2 : vc .gtr nI 256 = z2
  cases z2
  rotate_left
  · rw [qc, gtr_true] at hz2
    cbv
    have := hnone (.inr (.inl (by ((try simp only [nc] at *); omega))))
    subst this
    exact ⟨rfl, trivial⟩
  rw [qc, gtr_false] at hz2
  obtain ⟨nm, hnm⟩ : ∃ nm : Int, nm = ((n - 1 : Nat) : Int) := ⟨_, rfl⟩
  have enm : vb .sub .i64 nI 1 = nm := by rw [qb, sub_i64 (by ((try simp only [nc] at *); omega)) (by ((try simp only [nc] at *); omega))]; ((try simp only [nc] at *); omega)
  have htm : vtoN nm = n - 1 := by rw [hnm]; exact hto _
  cbv
  rw [en, enm, htm, hadd0, hvgd, hvln]
  refine ⟨⟨by ((try simp only [nc] at *); omega)⟩, ⟨by ((try simp only [nc] at *); omega)⟩, ⟨by ((try simp only [nc] at *); omega)⟩, ?_⟩
  generalize hz3 : vc .eql (l.getD (n - 1) 0) 0 = z3
  cases z3
  rotate_left
  · rw [qc, eql_true] at hz3
    cbv
    have := hnone (.inr (.inr (.inl hz3)))
    subst this
    exact ⟨rfl, trivial⟩
  rw [qc, eql_false] at hz3
  have hends := hends (by ((try simp only [nc] at *); omega)) (by ((try simp only [nc] at *); omega)) hz3
  cbv
  rw [en]
  refine loop_fam (α := Int × Int × Int) ([6] ++ [27, 28, 29, 30, 31, 32, 33, 34, 35, 36, 37, 38, 39, 40, 41, 42, 43]) [] (fun (k, s, o) => [(26, .int .i64 k), (3, .int .u64 s), (4, .int .i64 o)]) (fun _ => [])
    (fun (k, s, o) => ∃ i : Nat, k = i ∧ i ≤ n ∧ s = SM i ∧ o = ON i ∧ ∀ j, j < i → l.getD j 0 ≤ 11) (fun (k, _) => n - k.toNat) hw hm ?_ ?_
  · refine Cv.genAt [26, 3, 4] [] (Cv.fold ([6] ++ [27, 28, 29, 30, 31, 32, 33, 34, 35, 36, 37, 38, 39, 40, 41, 42, 43]) 1 [] (by exact Nat.le_refl _) (by exact Nat.le_of_ble_eq_true rfl) (by rfl) (by cbv) ?_)
    intro js
    refine ⟨(_, _, _), ?_, js, rfl⟩
    exact ⟨0, rfl, by ((try simp only [nc] at *); omega), hs0.symm, ho0.symm, fun j hj => by ((try simp only [nc] at *); omega)⟩
  · rintro ⟨k, s, o⟩ js ⟨i, hk, hi, hs, ho, hj⟩
    have hsi := hsr i hj
    have hoi := hor i
    cbv
    generalize hz4 : vc .lss k nI = z4
    cases z4
    rotate_left
    · rw [qc, lss_true] at hz4
      have hlt : i < n := by ((try simp only [nc] at *); omega)
      have hti : vtoN k = i := by rw [hk]; exact hto i
      have hinR : 0 ≤ k ∧ k < (n : Int) := by ((try simp only [nc] at *); omega)
      obtain ⟨k1, hk1⟩ : ∃ k1 : Int, k1 = ((i + 1 : Nat) : Int) := ⟨_, rfl⟩
      have ek : vb .add .i64 k 1 = k1 := by rw [qb, add_i64 (by ((try simp only [nc] at *); omega)) (by ((try simp only [nc] at *); omega))]; ((try simp only [nc] at *); omega)
      have hmu : ∀ _ : Unit, n - k1.toNat < n - k.toNat := fun _ => by ((try simp only [nc] at *); omega)
      have hx := hge i
      have hss1 := hss i
      have hos1 := hosu i
      cbv
      rw [hti, hadd0, hvgd, hvln]
      refine ⟨⟨hinR⟩, ⟨hlt⟩, ⟨hlt⟩, ?_⟩
      generalize hxi : l.getD i 0 = x at *
      generalize hz5 : vc .gtr x 11 = z5
      cases z5
      rotate_left
      · rw [qc, gtr_true] at hz5
        cbv
        have := hnone (.inr (.inr (.inr ⟨i, hlt, by ((try simp only [nc] at *); omega)⟩)))
        subst this
        exact ⟨rfl, trivial⟩
      rw [qc, gtr_false] at hz5
      have hpx := hpr (w := x) (by ((try simp only [nc] at *); omega))
      have hpw := hpwd x (by ((try simp only [nc] at *); omega)) (by ((try simp only [nc] at *); omega))
      obtain ⟨s1, hs1⟩ : ∃ s1, s1 = SM (i + 1) := ⟨_, rfl⟩
      have es : vb .add .u64 s (PW x) = s1 := by
        rw [qb, hs1, hss1, ← hs]
        exact wrap_u64 (by ((try simp only [nc] at *); omega)) (by ((try simp only [nc] at *); omega))
      have hjj : ∀ j, j < i + 1 → l.getD j 0 ≤ 11 := fun j hj2 => by
        by_cases e : j = i
        · subst e; ((try simp only [nc] at *); omega)
        · exact hj j (by ((try simp only [nc] at *); omega))
      cbv
      generalize hz6 : vc .eql x 1 = z6
      cases z6
      · rw [qc, eql_false] at hz6
        rw [if_neg hz6] at hos1
        cbv
        rw [hpw, es, ek]
        refine ⟨⟨by ((try simp only [nc] at *); omega)⟩, ?_⟩
        refine Cv.fold ([6] ++ [27, 28, 29, 30, 31, 32, 33, 34, 35, 36, 37, 38, 39, 40, 41, 42, 43]) 1 [] (by exact Nat.le_refl _) (by exact Nat.le_of_ble_eq_true rfl) (by rfl) (by cbv) ?_
        intro js
        refine ⟨(_, _, _), ?_, js, rfl⟩
        exact ⟨⟨i + 1, hk1, hlt, hs1, by ((try simp only [nc] at *); omega), hjj⟩, hmu ()⟩
      · rw [qc, eql_true] at hz6
        rw [if_pos hz6] at hos1
        have eo : vb .add .i64 o 1 = o + 1 := by rw [qb, add_i64 (by ((try simp only [nc] at *); omega)) (by ((try simp only [nc] at *); omega))]
        obtain ⟨o1, ho1⟩ : ∃ o1, o1 = o + 1 := ⟨_, rfl⟩
        rw [← ho1] at eo
        cbv
        rw [hpw, es, ek, eo]
        refine ⟨⟨by ((try simp only [nc] at *); omega)⟩, ?_⟩
        refine Cv.fold ([6] ++ [27, 28, 29, 30, 31, 32, 33, 34, 35, 36, 37, 38, 39, 40, 41, 42, 43]) 1 [] (by exact Nat.le_refl _) (by exact Nat.le_of_ble_eq_true rfl) (by rfl) (by cbv) ?_
        intro js
        refine ⟨(_, _, _), ?_, js, rfl⟩
        exact ⟨⟨i + 1, hk1, hlt, hs1, by ((try simp only [nc] at *); omega), hjj⟩, hmu ()⟩
    · rw [qc, lss_false] at hz4
      obtain rfl : i = n := by ((try simp only [nc] at *); omega)
      obtain ⟨he1, he2⟩ := hends (fun j h => hj j h)
      rw [← hs, ← ho] at he1 he2
      have hos2 := hos i hj
      rw [← hs, ← ho] at hos2
      clear hends hnone
      cbv
      generalize hz5 : vc .lss o 2 = z5
      cases z5
      rotate_left
      · rw [qc, lss_true] at hz5
        cbv
        have := he2 (.inl hz5)
        subst this
        exact ⟨rfl, trivial⟩
      rw [qc, lss_false] at hz5
      have hs1 : 1 ≤ s := by ((try simp only [nc] at *); omega)
      have hs2 : s < 2 ^ 64 := by ((try simp only [nc] at *); omega)
      have hands := hand s hs1 hs2
      obtain ⟨sm1, hsm⟩ : ∃ sm1, sm1 = s - 1 := ⟨_, rfl⟩
      have esm : vb .sub .u64 s 1 = sm1 := by rw [qb, hsm]; exact wrap_u64 (by ((try simp only [nc] at *); omega)) (by ((try simp only [nc] at *); omega))
      rw [← hsm] at hands
      obtain ⟨an, han⟩ : ∃ an, an = vb .and .u64 s sm1 := ⟨_, rfl⟩
      rw [← han] at hands
      cbv
      rw [esm, ← han]
      generalize hz6 : vc .neq an 0 = z6
      cases z6
      rotate_left
      · rw [qc, neq_true] at hz6
        cbv
        have := he2 (.inr (.inl (fun h => hz6 (hands.2 h))))
        subst this
        exact ⟨rfl, trivial⟩
      rw [qc, neq_false] at hz6
      have hex := hands.1 (Classical.not_not.1 hz6)
      cbv
      generalize hz7 : vc .gtr s 2048 = z7
      cases z7
      rotate_left
      · rw [qc, gtr_true] at hz7
        cbv
        have := he2 (.inr (.inr hz7))
        subst this
        exact ⟨rfl, trivial⟩
      rw [qc, gtr_false] at hz7
      have hmv := he1 (by ((try simp only [nc] at *); omega)) hex (by ((try simp only [nc] at *); omega))
      have hlc := hlen1 s ⟨by ((try simp only [nc] at *); omega), by ((try simp only [nc] at *); omega)⟩
      obtain ⟨bl, hbl⟩ : ∃ bl, bl = BL s := ⟨_, rfl⟩
      rw [← hbl] at hmv hlc
      cbv
      refine call_con (ρ := []) hlc ⟨by rfl, by rfl, by rfl, by cbv⟩ ?_
      rintro v H R js2 ⟨rfl, rfl, rfl⟩
      have em : vb .sub .i64 bl 1 = m := by
        have := hb16 s (by ((try simp only [nc] at *); omega)) (by ((try simp only [nc] at *); omega))
        rw [qb, hmv, sub_i64 (by ((try simp only [nc] at *); omega)) (by ((try simp only [nc] at *); omega))]
      cbv
      rw [em]
      exact ⟨rfl, trivial⟩
end Go.Proofs.Ytbipjekiobmpgaa
namespace Go.Proofs.Ytbipjekiobmpgaa
open Go Go.Sx Go.Proofs
/-! Plain: the words tile what there is of numbers. -/
theorem isU8_0 {l : List Int} (h : ∀ c ∈ l, isU8 c) (i : Nat) : 0 ≤ l.getD i 0 := (getD_u8 h i).1
theorem p2 (n : Nat) : (0 : Int) < 2 ^ n := Int.pow_pos (by omega)
theorem p2s (n : Nat) : (2 : Int) ^ (n + 1) = 2 ^ n * 2 := Int.pow_succ _ _
theorem pw_of {w : Int} {L : Nat} (h : w = L) (hL : 1 ≤ L) : pw w = 2 ^ (L - 1) := by
  unfold pw
  rw [if_neg (by omega)]
  congr 1
  omega
def low (l : List Int) (L : Nat) : Nat → Int
  | 0 => 0
  | k + 1 => low l L k + (if l.getD k 0 < L then pw (l.getD k 0) else 0)
def gsum (l : List Int) (L : Nat) : Nat → Int
  | 0 => 0
  | i + 1 => gsum l L i + (if l.getD i 0 = L then 2 ^ (L - 1) else 0)
/-- What is next, among those of weight L at number i. -/
def gs (l : List Int) (L i : Nat) : Int := low l L l.length + gsum l L i
theorem pw_nn (w : Int) : 0 ≤ pw w := by
  unfold pw; split
  · omega
  · exact Int.le_of_lt (p2 _)
theorem low_one (l : List Int) (h : ∀ c ∈ l, isU8 c) : ∀ k, low l 1 k = 0
  | 0 => rfl
  | k + 1 => by
    have h0 := isU8_0 h k
    simp only [low, low_one l h k]
    split
    · rename_i e
      have : l.getD k 0 = 0 := by omega
      rw [this]; rfl
    · rfl
theorem gs_one (l : List Int) (h : ∀ c ∈ l, isU8 c) : gs l 1 0 = 0 := by unfold gs; rw [low_one l h]; rfl
theorem gs_step (l : List Int) (L i : Nat) : gs l L (i + 1) = gs l L i + (if l.getD i 0 = L then 2 ^ (L - 1) else 0) := by
  unfold gs
  simp only [gsum]
  omega
theorem low_succ (l : List Int) {L : Nat} (hL : 1 ≤ L) : ∀ k, low l (L + 1) k = low l L k + gsum l L k
  | 0 => rfl
  | k + 1 => by
    simp only [low, gsum, low_succ l hL k]
    by_cases h : l.getD k 0 = L
    · rw [if_pos (by push_cast; omega), if_neg (by omega), if_pos h, pw_of h hL]
      omega
    · rw [if_neg h]
      by_cases h2 : l.getD k 0 < L
      · rw [if_pos (by push_cast; omega), if_pos h2]; omega
      · rw [if_neg (by push_cast; omega), if_neg h2]; omega
theorem gs_next (l : List Int) {L : Nat} (hL : 1 ≤ L) : gs l (L + 1) 0 = gs l L l.length := by
  unfold gs
  rw [low_succ l hL]
  simp [gsum]
theorem low_all (l : List Int) {L : Nat} : ∀ k, (∀ j, j < k → l.getD j 0 < L) → low l L k = sm l k
  | 0, _ => rfl
  | k + 1, h => by
    simp only [low, sm, low_all l k (fun j hj => h j (by omega)), if_pos (h k (by omega))]
theorem gsum_nn (l : List Int) (L : Nat) : ∀ i, 0 ≤ gsum l L i
  | 0 => by simp [gsum]
  | i + 1 => by
    have := gsum_nn l L i
    have := p2 (L - 1)
    simp only [gsum]
    split <;> omega
theorem low_nn (l : List Int) (L : Nat) : ∀ i, 0 ≤ low l L i
  | 0 => by simp [low]
  | i + 1 => by
    have := low_nn l L i
    have := pw_nn (l.getD i 0)
    simp only [low]
    split <;> omega
theorem gs_mono (l : List Int) (L : Nat) {i : Nat} : ∀ {j : Nat}, i ≤ j → gs l L i ≤ gs l L j
  | 0, h => by obtain rfl : i = 0 := by omega
               exact Int.le_refl _
  | j + 1, h => by
    by_cases e : i = j + 1
    · subst e; exact Int.le_refl _
    · have h1 := gs_mono l L (i := i) (j := j) (by omega)
      have h2 := p2 (L - 1)
      rw [gs_step]
      split <;> omega
theorem gs_up (l : List Int) {L : Nat} (hL : 1 ≤ L) : ∀ {K : Nat}, L < K → gs l L l.length ≤ gs l K 0
  | 0, h => by omega
  | K + 1, h => by
    by_cases e : L = K
    · subst e; rw [gs_next l hL]; exact Int.le_refl _
    · have h1 := gs_up l hL (K := K) (by omega)
      have h2 := gs_mono l K (i := 0) (j := l.length) (by omega)
      rw [gs_next l (by omega)]
      omega
theorem on_plus {l : List Int} {i : Nat} (hi2 : 2 ≤ l.getD i 0) : ∀ {n : Nat}, i < n → (∀ j, j < n → l.getD j 0 ≤ 11) → on l n + pw (l.getD i 0) ≤ sm l n
  | 0, h, _ => by omega
  | n + 1, h, h11 => by
    have hpn := pw_nn (l.getD n 0)
    simp only [on, sm]
    by_cases e : i = n
    · subst e
      have := on_sm (l := l) (i := i) (fun j hj => h11 j (by omega))
      rw [if_neg (by omega)]
      omega
    · have := on_plus hi2 (n := n) (by omega) (fun j hj => h11 j (by omega))
      split
      · rename_i e1
        rw [e1, show pw 1 = 1 by decide]
        omega
      · omega
/-- No weight is above m. -/
theorem Wt.le {l : List Int} {M : Nat} (h : Wt l M) (i : Nat) (hi : i < l.length) : l.getD i 0 ≤ M := by
  obtain ⟨h1, h2, h3, h4, h5, h6, h7⟩ := h
  have ho := on_sm (l := l) (i := l.length) h4
  apply Classical.byContradiction
  intro hc
  by_cases e : 2 ≤ l.getD i 0
  · have hp := on_plus e hi h4
    have h8 : (2 : Int) ^ M ≤ pw (l.getD i 0) := by
      unfold pw
      rw [if_neg (by omega)]
      exact pow_up (by omega)
    omega
  · have hM : M = 0 := by omega
    subst hM
    omega
theorem Wt.pos {l : List Int} {M : Nat} (h : Wt l M) : 1 ≤ M := by
  obtain ⟨h1, h2, h3, h4, h5, h6, h7⟩ := h
  have ho := on_sm (l := l) (i := l.length) h4
  cases M with
  | zero => omega
  | succ M => omega
theorem gs_full {l : List Int} {M : Nat} (h : Wt l M) : gs l (M + 1) 0 = 2 ^ M := by
  unfold gs
  rw [low_all l l.length (fun j hj => by have := h.le j hj; push_cast; omega), h.2.2.2.2.2.1]
  simp [gsum]
theorem gs_none {l : List Int} {M : Nat} (h : Wt l M) : ∀ i, i ≤ l.length → gs l (M + 1) i = 2 ^ M
  | 0, _ => gs_full h
  | i + 1, hi => by
    have := h.le i (by omega)
    rw [gs_step, gs_none h i (by omega), if_neg (by push_cast; omega)]
    omega
theorem gs_range {l : List Int} {M : Nat} (h : Wt l M) {L i : Nat} (hL1 : 1 ≤ L) (hL : L ≤ M + 1) (hi : i ≤ l.length) : 0 ≤ gs l L i ∧ gs l L i ≤ 2 ^ M := by
  constructor
  · have := low_nn l L l.length
    have := gsum_nn l L i
    unfold gs
    omega
  · have h1 := gs_mono l L hi
    have h2 := gs_full h
    by_cases e : L = M + 1
    · subst e; rw [gs_none h i hi]; exact Int.le_refl _
    · have h3 := gs_up l hL1 (K := M + 1) (by omega)
      omega
theorem high_dvd (l : List Int) {L : Nat} (hL : 1 ≤ L) : ∀ k, ∃ q : Int, sm l k - low l L k = q * 2 ^ (L - 1)
  | 0 => ⟨0, by simp [sm, low]⟩
  | k + 1 => by
    obtain ⟨q, hq⟩ := high_dvd l hL k
    simp only [sm, low]
    by_cases h : l.getD k 0 < L
    · exact ⟨q, by rw [if_pos h]; omega⟩
    · rw [if_neg h]
      refine ⟨q + 2 ^ ((l.getD k 0).toNat - L), ?_⟩
      rw [Int.add_mul, ← hq, ← Int.pow_add]
      unfold pw
      rw [if_neg (by omega), show (l.getD k 0).toNat - L + (L - 1) = (l.getD k 0 - 1).toNat by omega]
      omega
theorem gsum_dvd (l : List Int) (L : Nat) : ∀ i, ∃ q : Int, gsum l L i = q * 2 ^ (L - 1)
  | 0 => ⟨0, by simp [gsum]⟩
  | i + 1 => by
    obtain ⟨q, hq⟩ := gsum_dvd l L i
    simp only [gsum]
    split
    · exact ⟨q + 1, by rw [hq, Int.add_mul]; omega⟩
    · exact ⟨q, by omega⟩
theorem gs_dvd {l : List Int} {M : Nat} (h : Wt l M) {L : Nat} (hL1 : 1 ≤ L) (hL : L ≤ M + 1) (i : Nat) : gs l L i = gs l L i / 2 ^ (L - 1) * 2 ^ (L - 1) := by
  obtain ⟨q, hq⟩ := high_dvd l hL1 l.length
  obtain ⟨r, hr⟩ := gsum_dvd l L i
  have e : gs l L i = (2 ^ (M - (L - 1)) - q + r) * 2 ^ (L - 1) := by
    unfold gs
    rw [hr, Int.add_mul, Int.sub_mul, ← hq, ← Int.pow_add, show M - (L - 1) + (L - 1) = M by omega, h.2.2.2.2.2.1]
    omega
  rw [e, Int.mul_ediv_cancel _ (by have := p2 (L - 1); omega)]
def wn (l : List Int) (c : Nat) : Nat := (l.getD c 0).toNat
/-- The number t begins with c's word. -/
def Dc (l : List Int) (t : Int) (c : Nat) : Prop := c < l.length ∧ 1 ≤ wn l c ∧ gs l (wn l c) c ≤ t ∧ t < gs l (wn l c) c + 2 ^ (wn l c - 1)
theorem gs_own {l : List Int} (h : ∀ c ∈ l, isU8 c) (c : Nat) (h1 : 1 ≤ wn l c) : gs l (wn l c) (c + 1) = gs l (wn l c) c + 2 ^ (wn l c - 1) := by
  have h0 := isU8_0 h c
  rw [gs_step, if_pos (by unfold wn at *; omega)]
theorem Dc.uniq {l : List Int} (h : ∀ c ∈ l, isU8 c) {t : Int} {c d : Nat} (hc : Dc l t c) (hd : Dc l t d) : c = d := by
  have key : ∀ c d, Dc l t c → Dc l t d → (wn l c < wn l d ∨ wn l c = wn l d ∧ c < d) → False := by
    rintro c d ⟨a1, a2, a3, a4⟩ ⟨b1, b2, b3, b4⟩ h3
    rw [← gs_own h c a2] at a4
    rcases h3 with h3 | ⟨h3, h4⟩
    · have k1 := gs_mono l (wn l c) (i := c + 1) (j := l.length) (by omega)
      have k2 := gs_up l a2 (K := wn l d) h3
      have k3 := gs_mono l (wn l d) (i := 0) (j := d) (by omega)
      omega
    · have k1 := gs_mono l (wn l c) (i := c + 1) (j := d) (by omega)
      rw [h3] at k1 a4
      omega
  apply Classical.byContradiction
  intro hne
  rcases (by omega : (wn l c < wn l d ∨ wn l c = wn l d ∧ c < d) ∨ (wn l d < wn l c ∨ wn l d = wn l c ∧ d < c)) with h1 | h1
  · exact key c d hc hd h1
  · exact key d c hd hc h1
theorem cover {l : List Int} (h : ∀ c ∈ l, isU8 c) : ∀ (L i : Nat) (t : Int), 1 ≤ L → i ≤ l.length → 0 ≤ t → t < gs l L i → ∃ c, Dc l t c
  | L, 0, t, hL, hi, h0, ht => by
    by_cases e : L = 1
    · subst e; rw [gs_one l h] at ht; omega
    · obtain ⟨K, hK, rfl⟩ : ∃ K, 1 ≤ K ∧ L = K + 1 := ⟨L - 1, by omega, by omega⟩
      rw [gs_next l hK] at ht
      exact cover h K l.length t hK (by omega) h0 ht
  | L, i + 1, t, hL, hi, h0, ht => by
    by_cases h1 : t < gs l L i
    · exact cover h L i t hL (by omega) h0 h1
    · rw [gs_step] at ht
      split at ht
      · rename_i e
        have hw : wn l i = L := by unfold wn; omega
        exact ⟨i, by omega, by omega, by rw [hw]; omega, by rw [hw]; omega⟩
      · omega
  termination_by L i => (L, i)
theorem Dc.ex {l : List Int} {M : Nat} (h : ∀ c ∈ l, isU8 c) (hW : Wt l M) {t : Int} (h0 : 0 ≤ t) (ht : t < 2 ^ M) : ∃ c, Dc l t c :=
  cover h (M + 1) 0 t (by omega) (by omega) h0 (by rw [gs_full hW]; exact ht)
theorem wn_le {l : List Int} {M : Nat} (hW : Wt l M) {c : Nat} (hc : c < l.length) : wn l c ≤ M := by have := hW.le c hc; unfold wn; omega
/-- A symbol's word. -/
def wx (l : List Int) (c : Nat) : Int := gs l (wn l c) c / 2 ^ (wn l c - 1)
theorem wx_mul {l : List Int} {M : Nat} (hW : Wt l M) {c : Nat} (hc : c < l.length) (h1 : 1 ≤ wn l c) : gs l (wn l c) c = wx l c * 2 ^ (wn l c - 1) :=
  gs_dvd hW h1 (by have := wn_le hW hc; omega) c
/-- The number begins with the word. -/
theorem Dc_iff {l : List Int} {M : Nat} (hW : Wt l M) {c : Nat} (hc : c < l.length) (h1 : 1 ≤ wn l c) (t : Int) : Dc l t c ↔ t / 2 ^ (wn l c - 1) = wx l c := by
  have hm := wx_mul hW hc h1
  have hp := p2 (wn l c - 1)
  generalize hq : (2 : Int) ^ (wn l c - 1) = Q at *
  unfold Dc
  rw [hq, hm]
  have h3 : wx l c * Q + Q = (wx l c + 1) * Q := by rw [Int.add_mul]; omega
  rw [h3]
  constructor
  · rintro ⟨_, _, h4, h5⟩
    have a := Int.le_ediv_of_mul_le hp h4
    have b := Int.ediv_lt_of_lt_mul hp h5
    omega
  · intro h4
    refine ⟨hc, h1, ?_, ?_⟩
    · have := Int.ediv_mul_le t (show Q ≠ 0 by omega)
      rw [h4] at this
      exact this
    · have := Int.lt_ediv_add_one_mul_self t hp
      rw [h4] at this
      exact this
end Go.Proofs.Ytbipjekiobmpgaa
namespace Go.Proofs.Ytbipjekiobmpgaa
open Go Go.Sx Go.Proofs
/-! Plain: the words, as they are told one after the other; what is packed. -/
def Pr (l : List Int) (L i c : Nat) : Prop := c < l.length ∧ 1 ≤ wn l c ∧ (wn l c < L ∨ wn l c = L ∧ c < i)
open Classical in
noncomputable def wA (l : List Int) (L i c : Nat) : Int := if Pr l L i c then wx l c else 0
open Classical in
noncomputable def wB (l : List Int) (M L i c : Nat) : Int := if Pr l L i c then (M : Int) + 1 - wn l c else 0
theorem Pr_zero {l : List Int} {c : Nat} : ¬ Pr l 1 0 c := by rintro ⟨_, h1, h2⟩; omega
theorem wA_zero (l : List Int) : wA l 1 0 = fun _ => 0 := by funext c; unfold wA; rw [if_neg Pr_zero]
theorem wB_zero (l : List Int) (M : Nat) : wB l M 1 0 = fun _ => 0 := by funext c; unfold wB; rw [if_neg Pr_zero]
theorem Pr_skip {l : List Int} {L i c : Nat} (h : ∀ c ∈ l, isU8 c) (hi : l.getD i 0 ≠ L) : Pr l L (i + 1) c ↔ Pr l L i c := by
  have h0 := isU8_0 h c
  unfold Pr
  constructor
  · rintro ⟨h1, h2, h3⟩
    refine ⟨h1, h2, ?_⟩
    rcases h3 with h3 | ⟨h3, h4⟩
    · exact .inl h3
    · by_cases e : c = i
      · subst e; unfold wn at h3; omega
      · exact .inr ⟨h3, by omega⟩
  · rintro ⟨h1, h2, h3⟩
    exact ⟨h1, h2, by omega⟩
theorem Pr_put {l : List Int} {L i c : Nat} (hn : i < l.length) (hL : 1 ≤ L) (hi : l.getD i 0 = L) : Pr l L (i + 1) c ↔ (c = i ∨ Pr l L i c) := by
  unfold Pr
  constructor
  · rintro ⟨h1, h2, h3⟩
    by_cases e : c = i
    · exact .inl e
    · exact .inr ⟨h1, h2, by omega⟩
  · rintro (rfl | ⟨h1, h2, h3⟩)
    · have : wn l c = L := by unfold wn; omega
      exact ⟨hn, by omega, by omega⟩
    · exact ⟨h1, h2, by omega⟩
theorem wA_skip {l : List Int} {L i : Nat} (h : ∀ c ∈ l, isU8 c) (hi : l.getD i 0 ≠ L) : wA l L (i + 1) = wA l L i := by
  funext c; unfold wA; rw [propext (Pr_skip (c := c) h hi)]
theorem wB_skip {l : List Int} {M L i : Nat} (h : ∀ c ∈ l, isU8 c) (hi : l.getD i 0 ≠ L) : wB l M L (i + 1) = wB l M L i := by
  funext c; unfold wB; rw [propext (Pr_skip (c := c) h hi)]
theorem wA_put {l : List Int} {L i : Nat} (hn : i < l.length) (hL : 1 ≤ L) (hi : l.getD i 0 = L) : wA l L (i + 1) = updI (wA l L i) i (gs l L i / 2 ^ (L - 1)) := by
  funext c
  rw [updI_eq]
  have hw : wn l i = L := by unfold wn; omega
  by_cases e : c = i
  · subst e
    rw [if_pos rfl]; unfold wA; rw [if_pos ((Pr_put hn hL hi).2 (.inl rfl))]; unfold wx; rw [hw]
  · rw [if_neg e]; unfold wA; rw [propext ((Pr_put (c := c) hn hL hi).trans ⟨fun h => h.resolve_left e, fun h => .inr h⟩)]
theorem wB_put {l : List Int} {M L i : Nat} (hn : i < l.length) (hL : 1 ≤ L) (hi : l.getD i 0 = L) : wB l M L (i + 1) = updI (wB l M L i) i ((M : Int) + 1 - L) := by
  funext c
  rw [updI_eq]
  have hw : wn l i = L := by unfold wn; omega
  by_cases e : c = i
  · subst e
    rw [if_pos rfl]; unfold wB; rw [if_pos ((Pr_put hn hL hi).2 (.inl rfl)), hw]
  · rw [if_neg e]; unfold wB; rw [propext ((Pr_put (c := c) hn hL hi).trans ⟨fun h => h.resolve_left e, fun h => .inr h⟩)]
theorem Pr_next {l : List Int} {L c : Nat} : Pr l L l.length c ↔ Pr l (L + 1) 0 c := by
  unfold Pr
  constructor
  · rintro ⟨h1, h2, h3⟩; exact ⟨h1, h2, by omega⟩
  · rintro ⟨h1, h2, h3⟩; exact ⟨h1, h2, by omega⟩
theorem wA_next (l : List Int) (L : Nat) : wA l L l.length = wA l (L + 1) 0 := by funext c; unfold wA; rw [propext (Pr_next (c := c))]
theorem wB_next (l : List Int) (M L : Nat) : wB l M L l.length = wB l M (L + 1) 0 := by funext c; unfold wB; rw [propext (Pr_next (c := c))]
/-- Is c a symbol? -/
def Sy (l : List Int) (c : Nat) : Prop := c < l.length ∧ 1 ≤ wn l c
open Classical in
noncomputable def xA (l : List Int) (c : Nat) : Int := if Sy l c then wx l c else 0
open Classical in
noncomputable def nA (l : List Int) (M c : Nat) : Int := if Sy l c then (M : Int) + 1 - wn l c else 0
theorem Pr_all {l : List Int} {M : Nat} (hW : Wt l M) {c : Nat} : Pr l (M + 2) 0 c ↔ Sy l c := by
  unfold Pr Sy
  constructor
  · rintro ⟨h1, h2, _⟩; exact ⟨h1, h2⟩
  · rintro ⟨h1, h2⟩
    have := wn_le hW h1
    exact ⟨h1, h2, by omega⟩
theorem wA_all {l : List Int} {M : Nat} (hW : Wt l M) : wA l (M + 2) 0 = xA l := by funext c; unfold wA xA; rw [propext (Pr_all (c := c) hW)]
theorem wB_all {l : List Int} {M : Nat} (hW : Wt l M) : wB l M (M + 2) 0 = nA l M := by funext c; unfold wB nA; rw [propext (Pr_all (c := c) hW)]
theorem nA_range {l : List Int} {M : Nat} (hW : Wt l M) (c : Nat) : 0 ≤ nA l M c ∧ nA l M c ≤ M ∧ (nA l M c = 0 ↔ ¬ Sy l c) := by
  unfold nA
  split
  · rename_i h
    have := wn_le hW h.1
    have h2 := h.2
    refine ⟨by omega, by omega, ?_, fun hh => (hh h).elim⟩
    intro; omega
  · rename_i h
    exact ⟨by omega, by omega, fun _ => h, fun _ => rfl⟩
theorem wx_range {l : List Int} {M : Nat} (hW : Wt l M) {c : Nat} (hc : Sy l c) : 0 ≤ wx l c ∧ wx l c < 2 ^ (M + 1 - wn l c) := by
  have h1 := gs_range hW hc.2 (by have := wn_le hW hc.1; omega) (i := c) (by have := hc.1; omega)
  have h2 := wx_mul hW hc.1 hc.2
  have hp := p2 (wn l c - 1)
  have hle := wn_le hW hc.1
  have hc2 := hc.2
  constructor
  · unfold wx; exact Int.ediv_nonneg h1.1 (by omega)
  · have h0 : Dc l (gs l (wn l c) c) c := ⟨hc.1, hc.2, Int.le_refl _, by omega⟩
    apply Int.ediv_lt_of_lt_mul hp
    rw [← Int.pow_add, show M + 1 - wn l c + (wn l c - 1) = M by omega]
    apply Classical.byContradiction
    intro hlt
    have e : gs l (wn l c) c = 2 ^ M := by omega
    have h3 := gs_mono l (wn l c) (i := c + 1) (j := l.length) (by have := hc.1; omega)
    have h4 := gs_range hW hc.2 (by omega) (i := l.length) (by omega)
    have h5 : gs l (wn l c) (c + 1) = gs l (wn l c) c + 2 ^ (wn l c - 1) := by
      rw [gs_step, if_pos (by unfold wn at *; omega)]
    omega
theorem xA_range {l : List Int} {M : Nat} (hW : Wt l M) (c : Nat) : 0 ≤ xA l c ∧ xA l c < 4096 := by
  unfold xA
  split
  · rename_i h
    have h1 := wx_range hW h
    have h2 : (2 : Int) ^ (M + 1 - wn l c) ≤ 2 ^ 12 := pow_up (by have := hW.2.2.2.2.2.2; have := h.2; omega)
    omega
  · omega
/-- The bits of the last j bytes. -/
noncomputable def pb (l : List Int) (M : Nat) (b : List Int) : Nat → List Int
  | 0 => []
  | j + 1 => pb l M b j ++ bitsN (xA l (b.getD (b.length - 1 - j) 0).toNat) (nA l M (b.getD (b.length - 1 - j) 0).toNat).toNat
theorem pb_bit (l : List Int) (M : Nat) (b : List Int) : ∀ j, ∀ x ∈ pb l M b j, isBit x
  | 0 => by simp [pb]
  | j + 1 => by
    intro x hx
    simp only [pb, List.mem_append] at hx
    rcases hx with hx | hx
    · exact pb_bit l M b j x hx
    · exact bitsN_bit _ _ x hx
theorem pb_len {l : List Int} {M : Nat} (hW : Wt l M) (b : List Int) : ∀ j, (pb l M b j).length ≤ 11 * j
  | 0 => by simp [pb]
  | j + 1 => by
    have h1 := pb_len hW b j
    have h2 := nA_range hW (b.getD (b.length - 1 - j) 0).toNat
    have h3 := hW.2.2.2.2.2.2
    simp only [pb, List.length_append, bitsN_length]
    omega
theorem pb_put {l : List Int} {M : Nat} (hW : Wt l M) (b : List Int) (j : Nat) : putBits (pb l M b j) (xA l (b.getD (b.length - 1 - j) 0).toNat) (nA l M (b.getD (b.length - 1 - j) 0).toNat) = pb l M b (j + 1) := by
  have h2 := nA_range hW (b.getD (b.length - 1 - j) 0).toNat
  have h3 := hW.2.2.2.2.2.2
  unfold putBits
  rw [if_pos (by omega)]
  rfl
end Go.Proofs.Ytbipjekiobmpgaa
namespace Go.Proofs.Ytbipjekiobmpgaa
open Go Go.Sx Go.Proofs
/-! weights.Pack. -/
set_option maxRecDepth 10000
set_option maxHeartbeats 40000000
def AllSy (l b : List Int) (j : Nat) : Prop := ∀ i, i < j → Sy l (b.getD (b.length - 1 - i) 0).toNat
theorem pack_ok (l b : List Int) (cap cap2 : Nat) (M : Nat) (hl : ∀ c ∈ l, isU8 c) (hb : ∀ c ∈ b, isU8 c) (hW : Wt l M) (hbl : b.length ≤ 131072) :
    Con Try.prog 9 [.slice 0 .z 1 l.length cap, .slice 1 .z 1 b.length cap2] [.ro .u8 l, .ro .u8 b]
      (fun v H R => R = [] ∧ ∃ L c', H = [.ro .u8 l, .ro .u8 b, .free, .free, .free, .free, .free, .free, .buf 5 .u8 L c'] ∧
        ((v = .tup [.val (.slice none 0 0), .int .i64 2] ∧ ¬ AllSy l b b.length) ∨
         (v = .tup [.slice 8 .z 1 L.length c', .int .i64 0] ∧ L = pack (pb l M b b.length ++ [1]) ∧ AllSy l b b.length))) := by
  have hsz := size_con l cap M hl (by have := hW.2.1; omega) (.inl ⟨M, hW, rfl⟩)
  have hput : ∀ j c, j < b.length → Con Try.prog 17 [.ptr 0 .z 2 0, .int .u64 (xA l (b.getD (b.length - 1 - j) 0).toNat), .int .i64 (nA l M (b.getD (b.length - 1 - j) 0).toNat)]
      [.one 51 [.slice 1 .z 1 (pack (pb l M b j)).length c, .int .i64 (pb l M b j).length], .buf 5 .u8 (pack (pb l M b j)) c]
      (fun v H R => v = .int .i64 (putErr (nA l M (b.getD (b.length - 1 - j) 0).toNat)) ∧ R = [1] ∧ ∃ c', H = [.one 51 [.slice 1 .z 1 (pack (pb l M b (j + 1))).length c', .int .i64 (pb l M b (j + 1)).length], .buf 5 .u8 (pack (pb l M b (j + 1))) c']) := by
    intro j c hj
    have h1 := xA_range hW (b.getD (b.length - 1 - j) 0).toNat
    have h2 := pb_len hW b j
    have := putA_con (pb l M b j) c (xA l (b.getD (b.length - 1 - j) 0).toNat) (nA l M (b.getD (b.length - 1 - j) 0).toNat) ⟨h1.1, by omega⟩ (pb_bit l M b j) (by omega)
    rw [pb_put hW] at this
    exact this
  have hclose := fun c => close_con (pb l M b b.length) c (pb_bit l M b b.length) (by have := pb_len hW b b.length; omega)
  have hsy : ∀ j, (nA l M (b.getD (b.length - 1 - j) 0).toNat = 0 ↔ ¬ Sy l (b.getD (b.length - 1 - j) 0).toNat) := fun j => (nA_range hW _).2.2
  have hpb0 : pack (pb l M b 0) = [] := (show pack [] = [] by decide)
  have hpl0 : ((pb l M b 0).length : Int) = 0 := rfl
  have hpbl := pb_len hW b
  have hall0 : AllSy l b 0 := fun i hi => by omega
  have halls : ∀ j, AllSy l b j → Sy l (b.getD (b.length - 1 - j) 0).toNat → AllSy l b (j + 1) := fun j h1 h2 i hi => by
    by_cases e : i = j
    · subst e; exact h2
    · exact h1 i (by omega)
  have hallb : ∀ j, j < b.length → ¬ Sy l (b.getD (b.length - 1 - j) 0).toNat → ¬ AllSy l b b.length := fun j h1 h2 h3 => h2 (h3 j h1)
  have hgb := getD_u8 hb
  refine con_gen (con_hide [2, 3, 4, 5, 6, 7] (con_drop (con_walk hmix fn9 ?_)))
  intro vb vc vw vtoN vofN vaddN vsubN vmaxI vminI vcutN vgd vst vln vrep vsub vonto vsplice vstrEq vbyteV vnotB veqB hw qb qc qw qtoN qofN qaddN qsubN qmaxI qminI qcutN qgd qst qln qrep qsub qonto qsplice qstrEq qbyteV qnotB qeqB
  have f16 := fn16
  have f33 := fn33
  have hm := hmix; generalize Try.prog = P at *
  have hM1 := hW.pos
  have hM11 := hW.2.2.2.2.2.2
  have hn2 := hW.1
  have hn256 := hW.2.1
  have hA0 := wA_zero l
  have hB0 := wB_zero l M
  have hgs0 := gs_one l hl
  have hgss := gs_step l
  have hgsn := fun L hL => @gs_next l L hL
  have hgsr := fun L i h1 h2 h3 => @gs_range l M hW L i h1 h2 h3
  have hgd := fun L i h1 h2 => @gs_dvd l M hW L h1 h2 i
  have hAs := fun L i h => @wA_skip l L i hl h
  have hBs := fun L i h => @wB_skip l M L i hl h
  have hAp := fun L i h1 h2 h3 => @wA_put l L i h1 h2 h3
  have hBp := fun L i h1 h2 h3 => @wB_put l M L i h1 h2 h3
  have hAn := wA_next l
  have hBn := wB_next l M
  have hAa := wA_all hW
  have hBa := wB_all hW
  have hge := getD_u8 hl
  clear hW
  generalize pb l M b = PB at *
  generalize AllSy l b = ALL at *
  generalize Sy l = SY at *
  generalize hpk : pack = PK at *
  generalize putErr = PE at *
  generalize gs l = GS at *
  generalize wA l = WA at *
  generalize wB l M = WB at *
  generalize xA l = XA at *
  generalize nA l M = NA at *
  obtain ⟨mI, hmI⟩ : ∃ mI : Int, mI = M := ⟨_, rfl⟩
  rw [← hmI] at hsz
  generalize hn : l.length = n at *
  generalize hlb : b.length = lb at *
  have hto : ∀ i : Nat, vtoN (i : Int) = i := fun i => by simp only [qtoN, Int.toNat_natCast]
  have hadd0 : ∀ i, vaddN 0 i = i := fun i => by simp only [qaddN, Nat.zero_add]
  have hvln : vln l = n := by simp only [qln, hn]
  have hvlb : vln b = lb := by simp only [qln, hlb]
  have hvgd : ∀ l i, vgd l i = l.getD i 0 := fun l i => by simp only [qgd]
  have hnf1 : vnotB true = false := by simp only [qnotB]; rfl
  have d1 : vc .eql mI 0 = false := by rw [qc, eql_false]; omega
  have d2 : vc .gtr (vofN lb) 131072 = false := by rw [qc, gtr_false, qofN]; simp only; omega
  cbv
  refine call_con (ρ := [(0, .z)]) hsz ⟨by rfl, by rfl, by rfl, by cbv; exact ⟨⟨⟨by omega, fun i _ => by rw [Nat.zero_add]⟩⟩, trivial⟩⟩ ?_
  rintro v H R js ⟨rfl, rfl, rfl⟩
  cbv
  rw [d1]
  cbv
  rw [d2]
  cbv
  refine inl_walkD hw hm f16 (by rfl) ?_
  cbv
  refine ⟨fun _ => rfl, fun _ => rfl, ?_⟩
  intro js
  refine range_rule (by rfl) (by rfl) (by cbv; exact ⟨fun _ => rfl, trivial⟩) (by cbv; exact ⟨fun _ => rfl, trivial⟩) (by rfl) ?_
  refine inl_walkD hw hm f33 (by rfl) ?_
  cbv
  refine WX.cv (Cv.arrEq 2 (fun m => [.int .u64 (WA 1 0 m), .int .i64 (WB 1 0 m)]) (by rfl) (by intro i; rw [hA0, hB0]; rfl) (Cv.here ?_))
  obtain ⟨m1, hm1⟩ : ∃ m1 : Int, m1 = mI + 1 := ⟨_, rfl⟩
  have em1 : vb .add .i64 mI 1 = m1 := by (try simp only [nc] at *); rw [qb, add_i64 (by omega) (by omega)]; omega
  have en : vofN n = (n : Int) := by simp only [qofN]
  refine loop_fam (α := Int × Int × (Nat → Int) × (Nat → Int)) [6, 7, 8, 9, 10, 11, 12, 13, 14, 15, 16, 17, 18, 19, 20, 21, 22, 23, 24, 25, 26, 27, 28, 29, 30, 31, 32, 33, 34, 35, 36, 37, 38, 39, 40, 41, 42, 43, 44, 45, 46] [] (fun (k, x, _, _) => [(5, .int .i64 k), (4, .int .i64 x)]) (fun (_, _, A, B) => [(2, .arr 45 2 256 (fun m => [.int .u64 (A m), .int .i64 (B m)]))])
    (fun (k, x, A, B) => ∃ L : Nat, k = L ∧ 1 ≤ L ∧ L ≤ M + 2 ∧ x = GS L 0 ∧ A = WA L 0 ∧ B = WB L 0) (fun (k, _) => M + 2 - k.toNat) hw hm ?_ ?_
  · refine Cv.genAt [5, 4] [] (Cv.fold [6, 7, 8, 9, 10, 11, 12, 13, 14, 15, 16, 17, 18, 19, 20, 21, 22, 23, 24, 25, 26, 27, 28, 29, 30, 31, 32, 33, 34, 35, 36, 37, 38, 39, 40, 41, 42, 43, 44, 45, 46] 7 [] (by exact Nat.le_refl _) (by exact Nat.le_of_ble_eq_true rfl) (by rfl) (by cbv) ?_)
    intro js
    refine ⟨(_, _, _, _), ?_, js, rfl⟩
    exact ⟨1, rfl, by omega, by omega, hgs0.symm, rfl, rfl⟩
  · rintro ⟨k, x, A, B⟩ js ⟨L, hk, hL1, hL2, hx, hA, hB⟩
    cbv
    rw [em1]
    generalize hz1 : vc .leq k m1 = z1
    cases z1
    rotate_left
    · rw [qc, leq_true] at hz1
      have hlt : L ≤ M + 1 := by ((try simp only [nc] at *); omega)
      have hgn := hgsn L hL1
      have hAn1 := hAn L
      have hBn1 := hBn L
      obtain ⟨k1, hk1⟩ : ∃ k1 : Int, k1 = ((L + 1 : Nat) : Int) := ⟨_, rfl⟩
      have ek : vb .add .i64 k 1 = k1 := by (try simp only [nc] at *); rw [qb, add_i64 (by omega) (by omega)]; omega
      have hmu : ∀ _ : Unit, M + 2 - k1.toNat < M + 2 - k.toNat := fun _ => by ((try simp only [nc] at *); omega)
      cbv
      rw [en]
      refine loop_fam (α := Int × Int × (Nat → Int) × (Nat → Int)) ([6, 7] ++ [17, 18, 19, 20, 21, 22, 23, 24, 25, 26, 27, 28, 29, 30, 31, 32, 33, 34, 35, 36, 37, 38, 39, 40, 41, 42, 43, 44, 45, 46]) [] (fun (q, x, _, _) => [(16, .int .i64 q), (4, .int .i64 x)]) (fun (_, _, A, B) => [(2, .arr 45 2 256 (fun m => [.int .u64 (A m), .int .i64 (B m)]))])
        (fun (q, x, A, B) => ∃ i : Nat, q = i ∧ i ≤ n ∧ x = GS L i ∧ A = WA L i ∧ B = WB L i) (fun (q, _) => n - q.toNat) hw hm ?_ ?_
      · refine Cv.genAt [16, 4] [] (Cv.fold ([6, 7] ++ [17, 18, 19, 20, 21, 22, 23, 24, 25, 26, 27, 28, 29, 30, 31, 32, 33, 34, 35, 36, 37, 38, 39, 40, 41, 42, 43, 44, 45, 46]) 7 [] (by exact Nat.le_refl _) (by exact Nat.le_of_ble_eq_true rfl) (by rfl) (by cbv) ?_)
        intro js
        refine ⟨(_, _, _, _), ?_, js, rfl⟩
        exact ⟨0, rfl, by omega, hx, hA, hB⟩
      · rintro ⟨q, x, A, B⟩ js2 ⟨i, hq, hi, hx, hA, hB⟩
        cbv
        generalize hz2 : vc .lss q (n : Int) = z2
        cases z2
        · rw [qc, lss_false] at hz2
          obtain rfl : i = n := by ((try simp only [nc] at *); omega)
          cbv
          rw [ek]
          refine Cv.fold [6, 7, 8, 9, 10, 11, 12, 13, 14, 15, 16, 17, 18, 19, 20, 21, 22, 23, 24, 25, 26, 27, 28, 29, 30, 31, 32, 33, 34, 35, 36, 37, 38, 39, 40, 41, 42, 43, 44, 45, 46] 7 [] (by exact Nat.le_refl _) (by exact Nat.le_of_ble_eq_true rfl) (by rfl) (by cbv) ?_
          intro js
          refine ⟨(_, _, _, _), ?_, js, rfl⟩
          exact ⟨⟨L + 1, hk1, by omega, by omega, by rw [hx, hgn], by rw [hA, hAn1], by rw [hB, hBn1]⟩, hmu ()⟩
        · rw [qc, lss_true] at hz2
          have hlt2 : i < n := by ((try simp only [nc] at *); omega)
          have hti : vtoN q = i := by rw [hq]; exact hto i
          have hinR : 0 ≤ q ∧ q < (n : Int) := by ((try simp only [nc] at *); omega)
          obtain ⟨q1, hq1⟩ : ∃ q1 : Int, q1 = ((i + 1 : Nat) : Int) := ⟨_, rfl⟩
          have eq1 : vb .add .i64 q 1 = q1 := by (try simp only [nc] at *); rw [qb, add_i64 (by omega) (by omega)]; omega
          have hmu2 : ∀ _ : Unit, n - q1.toNat < n - q.toNat := fun _ => by ((try simp only [nc] at *); omega)
          have hx0 := hge i
          have hgs1 := hgss L i
          have hr1 := hgsr L i hL1 hlt (by omega)
          have hr2 := hgsr L (i + 1) hL1 hlt (by omega)
          have hdv := hgd L i hL1 hlt
          have hAs1 := hAs L i
          have hBs1 := hBs L i
          have hAp1 := hAp L i hlt2 hL1
          have hBp1 := hBp L i hlt2 hL1
          have hp11 : (2 : Int) ^ M ≤ 2 ^ 11 := pow_up hM11
          cbv
          rw [hti, hadd0, hvgd]
          refine ⟨⟨hinR⟩, ⟨by omega⟩, ⟨by omega⟩, ?_⟩
          generalize hxi : l.getD i 0 = y at *
          have ew : vw .i64 y = y := by rw [qw]; exact wrap_i64 (by omega) (by omega)
          rw [ew]
          generalize hz3 : vc .neq y k = z3
          cases z3
          rotate_left
          · rw [qc, neq_true] at hz3
            have hne : y ≠ (L : Int) := by ((try simp only [nc] at *); omega)
            rw [if_neg hne] at hgs1
            cbv
            rw [eq1]
            refine Cv.fold ([6, 7] ++ [17, 18, 19, 20, 21, 22, 23, 24, 25, 26, 27, 28, 29, 30, 31, 32, 33, 34, 35, 36, 37, 38, 39, 40, 41, 42, 43, 44, 45, 46]) 7 [] (by exact Nat.le_refl _) (by exact Nat.le_of_ble_eq_true rfl) (by rfl) (by cbv) ?_
            intro js
            refine ⟨(_, _, _, _), ?_, js, rfl⟩
            exact ⟨⟨i + 1, hq1, hlt2, by rw [hx, hgs1]; omega, by rw [hA, hAs1 hne], by rw [hB, hBs1 hne]⟩, hmu2 ()⟩
          · rw [qc, neq_false] at hz3
            have hyL : y = (L : Int) := by (try simp only [nc] at *); omega
            rw [if_pos hyL] at hgs1
            have hAp2 := hAp1 hyL
            have hBp2 := hBp1 hyL
            obtain ⟨k0, hk0⟩ : ∃ k0 : Int, k0 = ((L - 1 : Nat) : Int) := ⟨_, rfl⟩
            have ek0 : vb .sub .i64 k 1 = k0 := by (try simp only [nc] at *); rw [qb, sub_i64 (by omega) (by omega)]; omega
            have ew0 : vw .u64 k0 = k0 := by (try simp only [nc] at *); rw [qw]; exact wrap_u64 (by omega) (by omega)
            obtain ⟨x1, hx1⟩ : ∃ x1 : Int, x1 = GS L i / 2 ^ (L - 1) := ⟨_, rfl⟩
            have hpL : (0 : Int) < 2 ^ (L - 1) := p2 _
            have hpL2 : (2 : Int) ^ (L - 1) ≤ 2 ^ 11 := pow_up (by omega)
            have hx1r : 0 ≤ x1 ∧ x1 ≤ 2048 := by
              rw [hx1]
              have a1 := Int.ediv_nonneg hr1.1 (Int.le_of_lt hpL)
              have a2 := Int.ediv_le_self (2 ^ (L - 1)) hr1.1
              constructor
              · exact a1
              · (try simp only [nc] at *); omega
            have es : vb .shr .i64 x k0 = x1 := by
              rw [qb, shr_eq (by show k0 ≤ 64; (try simp only [nc] at *); omega), hx1, hx, hk0, Int.toNat_natCast]
            have ew1 : vw .u64 x1 = x1 := by rw [qw]; exact wrap_u64 (by omega) (by omega)
            obtain ⟨n1, hn1⟩ : ∃ n1 : Int, n1 = (M : Int) + 1 - L := ⟨_, rfl⟩
            have en1 : vb .sub .i64 m1 k = n1 := by (try simp only [nc] at *); rw [qb, sub_i64 (by omega) (by omega)]; omega
            have hk00 : 0 ≤ k0 := by ((try simp only [nc] at *); omega)
            rw [← hx1] at hAp2
            rw [← hn1] at hBp2
            obtain ⟨s1, hs1⟩ : ∃ s1 : Int, s1 = 2 ^ (L - 1) := ⟨_, rfl⟩
            have esl : vb .shl .i64 1 k0 = s1 := by
              rw [qb, hs1, hk0]
              show IntKind.i64.wrap (1 * 2 ^ (min (((L - 1 : Nat) : Int).toNat) IntKind.i64.bits)) = _
              rw [Int.toNat_natCast, show min (L - 1) IntKind.i64.bits = L - 1 by simp [IntKind.bits]; omega, Int.one_mul]
              exact wrap_i64 (by omega) (by omega)
            obtain ⟨x2, hx2⟩ : ∃ x2 : Int, x2 = GS L (i + 1) := ⟨_, rfl⟩
            have ex2 : vb .add .i64 x s1 = x2 := by
              have e : x + s1 = x2 := by rw [hx2, hgs1, hx, hs1]
              rw [qb, add_i64 (by (try simp only [nc] at *); omega) (by (try simp only [nc] at *); omega), e]
            cbv
            rw [ek0, ew0, es, ew1, em1, en1]
            refine ⟨⟨hk00⟩, ?_⟩
            refine yield_walk hw hm (by rfl) ?_
            cbv
            rw [hti, updF_2_0, updF_2_1]
            rw [← hA] at hAp2
            rw [← hB] at hBp2
            have hi256 : i < 256 := by omega
            refine ⟨fun _ => rfl, ⟨⟨hinR.1, by ((try simp only [nc] at *); omega)⟩⟩, ⟨hi256⟩, ⟨hi256⟩, ?_⟩
            intro js1
            cbv
            rw [hnf1]
            cbv
            rw [ek0, ew0, esl, ex2, eq1]
            refine ⟨⟨hk00⟩, ?_⟩
            refine Cv.fold ([6, 7] ++ [17, 18, 19, 20, 21, 22, 23, 24, 25, 26, 27, 28, 29, 30, 31, 32, 33, 34, 35, 36, 37, 38, 39, 40, 41, 42, 43, 44, 45, 46]) 7 [] (by exact Nat.le_refl _) (by exact Nat.le_of_ble_eq_true rfl) (by rfl) (by cbv) ?_
            intro js
            refine ⟨(_, _, _, _), ?_, js, rfl⟩
            exact ⟨⟨i + 1, hq1, hlt2, hx2, hAp2.symm, hBp2.symm⟩, hmu2 ()⟩
    · rw [qc, leq_false] at hz1
      have hL : L = M + 2 := by ((try simp only [nc] at *); omega)
      subst hL
      rw [hAa] at hA
      rw [hBa] at hB
      cbv
      intro js1
      cbv
      refine ⟨fun _ => rfl, ?_⟩
      refine WX.cv (Cv.nilB 7 0 5 .u8 (by rfl) (by cbv; exact ⟨fun _ => rfl, trivial⟩) (Cv.here ?_))
      cbv
      have elb : vofN lb = (lb : Int) := by simp only [qofN]
      rw [elb]
      refine loop_fam (α := Int × Nat × Nat × Int × List Int) [34, 35, 36, 37, 38, 39, 40, 41, 42, 43, 44, 45, 46, 47, 48, 49, 50, 51, 52, 53, 54, 55, 56, 57, 58, 59, 60, 61] [8] (fun (k, _, _, _, _) => [(11, .int .i64 k)]) (fun (_, c, n1, m, L) => [(7, .one 51 [.slice 8 .z 1 n1 c, .int .i64 m]), (8, .buf 5 .u8 L c)])
        (fun (k, c, n1, m, L) => ∃ j : Nat, k = (lb : Int) - 1 - j ∧ j ≤ lb ∧ L = PK (PB j) ∧ n1 = L.length ∧ m = (PB j).length ∧ ALL j) (fun (k, _) => (k + 1).toNat) hw hm ?_ ?_
      · refine Cv.genAt [11] [7] (Cv.fold [34, 35, 36, 37, 38, 39, 40, 41, 42, 43, 44, 45, 46, 47, 48, 49, 50, 51, 52, 53, 54, 55, 56, 57, 58, 59, 60, 61] 9 [8] (by exact Nat.le_refl _) (by exact Nat.le_of_ble_eq_true rfl) (by rfl) (by cbv) ?_)
        intro js
        refine ⟨(_, _, _, _, _), ?_, js, rfl⟩
        exact ⟨0, by (try simp only [nc] at *); rw [qb, sub_i64 (by omega) (by omega)]; omega, by omega, hpb0.symm, rfl, hpl0.symm, hall0⟩
      · rintro ⟨k, c, n1, m, L⟩ js ⟨j, hk, hj, hL, hn1, hm2, hal⟩
        cbv
        generalize hz4 : vc .geq k 0 = z4
        cases z4
        · rw [qc, geq_false] at hz4
          obtain rfl : j = lb := by ((try simp only [nc] at *); omega)
          have hclose1 := hclose c
          simp only [nc] at hm2 hclose1
          rw [← hL, ← hn1, ← hm2] at hclose1
          generalize hl3 : PK (PB j ++ [1]) = L3 at *
          generalize hn3 : L3.length = n3 at *
          cbv
          refine call_con (ρ := [(7, .z), (8, .z)]) hclose1 ⟨by rfl, by rfl, by rfl, by cbv; exact ⟨fun _ => rfl, trivial⟩⟩ ?_
          rintro v H R js2 ⟨rfl, c', rfl, rfl⟩
          cbv
          subst hn3
          exact ⟨fun _ => rfl, L3, c', rfl, .inr ⟨rfl, rfl, hal⟩⟩
        · rw [qc, geq_true] at hz4
          have hjl : j < lb := by ((try simp only [nc] at *); omega)
          have hti : vtoN k = lb - 1 - j := by
            have e : k = ((lb - 1 - j : Nat) : Int) := by ((try simp only [nc] at *); omega)
            rw [e]; exact hto _
          have hinR : 0 ≤ k ∧ k < (lb : Int) := by ((try simp only [nc] at *); omega)
          have hput1 := hput j c hjl
          have hsy1 := hsy j
          have hs1 := halls j hal
          have hb1 := hallb j hjl
          have hy := hgb (lb - 1 - j)
          obtain ⟨ib, hib⟩ : ∃ ib, ib = lb - 1 - j := ⟨_, rfl⟩
          rw [← hib] at hti hput1 hsy1 hs1 hb1 hy
          simp only [nc] at hm2 hput1
          rw [← hL, ← hn1, ← hm2] at hput1
          generalize hyy : b.getD ib 0 = y at *
          have hty : vtoN y = y.toNat := by rw [qtoN]
          obtain ⟨Y, hY⟩ : ∃ Y, Y = y.toNat := ⟨_, rfl⟩
          rw [← hY] at hty hput1 hsy1 hs1 hb1
          have hY256 : Y < 256 := by omega
          have hyR : 0 ≤ y ∧ y < (256 : Int) := by omega
          rw [← hA] at hput1
          rw [← hB] at hput1 hsy1
          cbv
          rw [hti, hadd0, hvgd, hyy]
          refine ⟨⟨hinR⟩, ⟨by omega⟩, ⟨by omega⟩, ⟨hyR⟩, ?_⟩
          rw [hty]
          refine ⟨⟨hY256⟩, ?_⟩
          have hlt' : ib < vln b := by omega
          generalize hz5 : vc .eql (B Y) 0 = z5
          cases z5
          rotate_left
          · rw [qc, eql_true] at hz5
            have hbad := hb1 (hsy1.1 hz5)
            cbv
            exact ⟨L, c, rfl, .inl ⟨rfl, hbad⟩⟩
          · rw [qc, eql_false] at hz5
            have hal2 := hs1 (Classical.not_not.1 (fun h => hz5 (hsy1.2 h)))
            obtain ⟨k1, hk1⟩ : ∃ k1 : Int, k1 = (lb : Int) - 1 - ((j + 1 : Nat) : Int) := ⟨_, rfl⟩
            have ek1 : vb .sub .i64 k 1 = k1 := by (try simp only [nc] at *); rw [qb, sub_i64 (by omega) (by omega)]; omega
            have hmu : ∀ _ : Unit, (k1 + 1).toNat < (k + 1).toNat := fun _ => by ((try simp only [nc] at *); omega)
            simp only [nc] at hput1
            generalize hl3 : PK (PB (j + 1)) = L3 at *
            generalize hn3 : L3.length = n3 at *
            generalize hm3 : ((PB (j + 1)).length : Int) = m3 at *
            cbv
            rw [hti, hadd0, hvgd, hyy, hty]
            repeat (first | refine And.intro ⟨hinR⟩ ?_ | refine And.intro ⟨hyR⟩ ?_ | refine And.intro ⟨hY256⟩ ?_ | refine And.intro ⟨hlt'⟩ ?_)
            refine call_con (ρ := [(7, .z), (8, .z)]) hput1 ⟨by rfl, by rfl, by rfl, by cbv; exact ⟨fun _ => rfl, trivial⟩⟩ ?_
            rintro v H R js2 ⟨rfl, rfl, c', rfl⟩
            cbv
            refine ⟨fun _ => rfl, ⟨⟨hlt'⟩, by rw [hvgd, hyy]⟩, ⟨⟨hlt'⟩, by rw [hvgd, hyy]⟩, ?_⟩
            rw [ek1]
            refine Cv.fold [34, 35, 36, 37, 38, 39, 40, 41, 42, 43, 44, 45, 46, 47, 48, 49, 50, 51, 52, 53, 54, 55, 56, 57, 58, 59, 60, 61] 9 [8] (by exact Nat.le_refl _) (by exact Nat.le_of_ble_eq_true rfl) (by rfl) (by cbv) ?_
            intro js
            refine ⟨(_, _, _, _, _), ?_, js, rfl⟩
            exact ⟨⟨j + 1, hk1, hjl, hl3.symm, hn3.symm, hm3.symm, hal2⟩, hmu ()⟩
end Go.Proofs.Ytbipjekiobmpgaa
