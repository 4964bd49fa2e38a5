import Derived.Test.YtodobmkflimfkaaEC
import Derived.Test.YtodobmkflimfkaaBB
namespace Go.Proofs.Ytodobmkflimfkaa
open Go Go.Sx Go.Proofs
/-- How many states a count takes. -/
def partsN (c : Int) : Int := if c < 0 then 1 else c
def isI16 (c : Int) : Prop := -32768 ≤ c ∧ c ≤ 32767
def sumP (l : List Int) : Int := (l.map partsN).sum
def Right (l : List Int) (log : Int) : Prop := 5 ≤ log ∧ log ≤ 12 ∧ 1 ≤ l.length ∧ l.length ≤ 256 ∧ l.getD (l.length - 1) 0 ≠ 0 ∧ (∀ c ∈ l, -1 ≤ c) ∧ sumP l = 2 ^ log.toNat
instance (l : List Int) (log : Int) : Decidable (Right l log) := by unfold Right; infer_instance
theorem sumP_snoc (l : List Int) (c : Int) : sumP (l ++ [c]) = sumP l + partsN c := by simp [sumP]
theorem partsN_le {c : Int} (h : isI16 c) : 0 ≤ partsN c ∧ partsN c ≤ 32767 := by unfold partsN isI16 at *; split <;> omega
theorem sumP_le {l : List Int} (h : ∀ c ∈ l, isI16 c) : 0 ≤ sumP l ∧ sumP l ≤ 32767 * l.length := by
  induction l with
  | nil => simp [sumP]
  | cons c l ih =>
    have h1 := partsN_le (h c (by simp))
    have h2 := ih (fun x hx => h x (by simp [hx]))
    simp only [sumP, List.map_cons, List.sum_cons, List.length_cons] at *
    omega
theorem parts_con (c : Int) (hc : isI16 c) : Con Try.prog 70 [.int .i16 c] [] (fun v H R => v = .int .i64 (partsN c) ∧ H = [] ∧ R = []) := by
  refine con_gen (con_walk hmix fn70 ?_)
  intro vb vc vw vtoN vofN vaddN vsubN vmaxI vminI vcutN vgd vst vln vrep vsub vonto vsplice vstrEq vbyteV vnotB veqB hw qb qc qw qtoN qofN qaddN qsubN qmaxI qminI qcutN qgd qst qln qrep qsub qonto qsplice qstrEq qbyteV qnotB qeqB
  generalize Try.prog = P at *
  have hp : partsN c = if c < 0 then 1 else c := rfl
  generalize partsN c = p at *
  cbv
  split
  · rename_i h
    rw [qc, lss_true] at h
    cbv
    rw [hp, if_pos h]
    exact ⟨rfl, trivial⟩
  · rename_i h
    rw [qc, lss_false] at h
    have e : vw .i64 c = c := by unfold isI16 at hc; simp only [qw]; exact wrap_i64 (by omega) (by omega)
    cbv
    rw [e, hp, if_neg h]
    exact ⟨rfl, trivial⟩
theorem refparts_con (c : Int) (hc : isI16 c) (h1 : -1 ≤ c) : Con Try.prog 73 [.int .i16 c] [] (fun v H R => v = .int .i64 (partsN c) ∧ H = [] ∧ R = []) := by
  refine con_gen (con_walk hmix fn73 ?_)
  intro vb vc vw vtoN vofN vaddN vsubN vmaxI vminI vcutN vgd vst vln vrep vsub vonto vsplice vstrEq vbyteV vnotB veqB hw qb qc qw qtoN qofN qaddN qsubN qmaxI qminI qcutN qgd qst qln qrep qsub qonto qsplice qstrEq qbyteV qnotB qeqB
  generalize Try.prog = P at *
  have hp : partsN c = if c < 0 then 1 else c := rfl
  generalize partsN c = p at *
  cbv
  split
  · rename_i h
    rw [qc, eql_true] at h
    cbv
    rw [hp, if_pos (by omega)]
    exact ⟨rfl, trivial⟩
  · rename_i h
    rw [qc, eql_false] at h
    have e : vw .i64 c = c := by unfold isI16 at hc; simp only [qw]; exact wrap_i64 (by omega) (by omega)
    cbv
    rw [e, hp, if_neg (by omega)]
    exact ⟨rfl, trivial⟩
theorem one_shl {x : Int} (h0 : 0 ≤ x) (h1 : x ≤ 12) : bV .shl .i64 1 x = 2 ^ x.toNat := by
  obtain ⟨n, rfl⟩ : ∃ n : Nat, x = n := ⟨x.toNat, by omega⟩
  have hn : n ≤ 12 := by omega
  have : ∀ n : Fin 13, bV .shl .i64 1 ((n.1 : Nat) : Int) = 2 ^ ((n.1 : Nat) : Int).toNat := by decide
  exact this ⟨n, by omega⟩
set_option maxHeartbeats 2000000 in
theorem right_con (l : List Int) (log : Int) (cap : Nat) (hl : ∀ c ∈ l, isI16 c) (hlog : -9223372036854775808 ≤ log ∧ log ≤ 9223372036854775807) :
    Con Try.prog 67 [.slice 0 .z 1 l.length cap, .int .i64 log] [.ro .i16 l] (fun v H R => v = .bool (decide (Right l log)) ∧ H = [.ro .i16 l] ∧ R = []) := by
  have hparts := fun c h => parts_con c h
  refine con_gen (con_walk hmix fn67 ?_)
  intro vb vc vw vtoN vofN vaddN vsubN vmaxI vminI vcutN vgd vst vln vrep vsub vonto vsplice vstrEq vbyteV vnotB veqB hw qb qc qw qtoN qofN qaddN qsubN qmaxI qminI qcutN qgd qst qln qrep qsub qonto qsplice qstrEq qbyteV qnotB qeqB
  have hm := hmix
  generalize Try.prog = P at *
  have hR : decide (Right l log) = true ↔ (5 ≤ log ∧ log ≤ 12 ∧ 1 ≤ l.length ∧ l.length ≤ 256 ∧ l.getD (l.length - 1) 0 ≠ 0 ∧ (∀ c ∈ l, -1 ≤ c) ∧ sumP l = 2 ^ log.toNat) := by
    rw [decide_eq_true_iff]; exact Iff.rfl
  generalize decide (Right l log) = rb at *
  have hRf : ∀ p : Prop, (rb = true → False) → rb = false := fun _ h => by cases rb with | false => rfl | true => exact (h rfl).elim
  have hl16 := hl
  have hsum : ∀ i, 0 ≤ sumP (l.take i) ∧ sumP (l.take i) ≤ 32767 * i := by
    intro i
    have h1 := sumP_le (l := l.take i) (fun c hc => hl c (List.mem_of_mem_take hc))
    have h2 : (l.take i).length ≤ i := by rw [List.length_take]; omega
    omega
  generalize hn : l.length = n at *
  cbv
  generalize h1 : vc .lss log 5 = z1
  cases z1
  rotate_left
  · rw [qc, lss_true] at h1
    cbv
    rw [hRf True (fun h => by have := (hR.1 h).1; omega)]
    exact ⟨rfl, trivial⟩
  rw [qc, lss_false] at h1
  cbv
  generalize h2 : vc .gtr log 12 = z2
  cases z2
  rotate_left
  · rw [qc, gtr_true] at h2
    cbv
    rw [hRf True (fun h => by have := (hR.1 h).2.1; omega)]
    exact ⟨rfl, trivial⟩
  rw [qc, gtr_false] at h2
  cbv
  generalize h3 : vc .eql (vofN n) 0 = z3
  cases z3
  rotate_left
  · rw [qc, qofN, eql_true] at h3
    cbv
    rw [hRf True (fun h => by have := (hR.1 h).2.2.1; simp only [nc] at *; omega)]
    exact ⟨rfl, trivial⟩
  rw [qc, qofN, eql_false] at h3
  cbv
  generalize h4 : vc .gtr (vofN n) 256 = z4
  cases z4
  rotate_left
  · rw [qc, qofN, gtr_true] at h4
    cbv
    rw [hRf True (fun h => by have := (hR.1 h).2.2.2.1; simp only [nc] at *; omega)]
    exact ⟨rfl, trivial⟩
  rw [qc, qofN, gtr_false] at h4
  have hn1 : vb .sub .i64 (vofN n) 1 = ((n - 1 : Nat) : Int) := by simp only [nc] at *; simp only [qofN]; rw [qb, sub_i64 (by omega) (by omega)]; omega
  have hin1 : 0 ≤ vb .sub .i64 (vofN n) 1 ∧ vb .sub .i64 (vofN n) 1 < n := by rw [hn1]; simp only [nc] at *; omega
  have hto1 : vtoN (vb .sub .i64 (vofN n) 1) = n - 1 := by rw [hn1]; simp only [qtoN]; omega
  have hlt1 : n - 1 < vln l := by simp only [qln]; simp only [nc] at *; omega
  have hlt1' : vaddN 0 (n - 1) < vln l := by simp only [qaddN, Nat.zero_add]; exact hlt1
  have hld : vgd l (n - 1) = l.getD (n - 1) 0 := by simp only [qgd]
  cbv
  rw [hto1]
  refine ⟨⟨hin1⟩, ⟨hlt1'⟩, ⟨hlt1⟩, ?_⟩
  generalize h5 : vc .eql (vgd l (n - 1)) 0 = z5
  cases z5
  rotate_left
  · rw [qc, eql_true, hld] at h5
    cbv
    rw [hRf True (fun h => (hR.1 h).2.2.2.2.1 h5)]
    exact ⟨rfl, trivial⟩
  rw [qc, eql_false, hld] at h5
  cbv
  refine loop_fam (α := Int × Int) [7, 36, 37, 38, 39, 40, 41, 42, 43, 44, 45] []
    (fun (k, m) => [(35, .int .i64 k), (5, .int .i64 m)]) (fun (k, m) => [])
    (fun (k, m) => ∃ i : Nat, k = i ∧ i ≤ n ∧ m = sumP (l.take i) ∧ ∀ c ∈ l.take i, -1 ≤ c) (fun (k, _) => n - k.toNat) hw hm ?_ ?_
  · refine Cv.genAt [35, 5] [] (Cv.fold [7, 36, 37, 38, 39, 40, 41, 42, 43, 44, 45] 1 [] (by exact Nat.le_refl _) (by exact Nat.le_of_ble_eq_true rfl) (by rfl) (by cbv) ?_)
    intro js
    refine ⟨(_, _), ?_, js, rfl⟩
    exact ⟨0, rfl, by omega, by simp [sumP], by simp⟩
  · rintro ⟨k, m⟩ js ⟨i, hk, hi, hs, hall⟩
    have hsi := hsum i
    cbv
    split
    · rename_i hlt
      have hlt : i < n := by rw [qc, lss_true] at hlt; simp only [qofN] at hlt; simp only [nc] at *; omega
      have hti : vtoN k = i := by simp only [qtoN]; simp only [nc] at *; omega
      have hin : 0 ≤ k ∧ k < (n : Int) := by simp only [nc] at *; omega
      have hlt2 : i < vln l := by simp only [qln]; omega
      have hlt3 : vaddN 0 i < vln l := by simp only [qaddN, Nat.zero_add]; exact hlt2
      have hil : i < l.length := by omega
      have hgd : vgd l i = l.getD i 0 := by simp only [qgd]
      have hmem : l.getD i 0 ∈ l := by rw [List.getD_eq_getElem?_getD, List.getElem?_eq_getElem hil]; exact List.getElem_mem hil
      have hc16 := hl16 _ hmem
      have hpl := partsN_le hc16
      have hsn : sumP (l.take (i + 1)) = m + partsN (l.getD i 0) := by rw [take_snoc hil, sumP_snoc, ← hs]
      have hpc := hparts _ hc16
      have hk1 : vb .add .i64 k 1 = ((i + 1 : Nat) : Int) := by simp only [nc] at *; rw [qb, add_i64 (by omega) (by omega)]; omega
      have hmu : n - (vb .add .i64 k 1).toNat < n - k.toNat := by rw [hk1, hk]; simp only [nc] at *; omega
      rw [← hgd] at hpc hsn
      have hadd : vb .add .i64 m (partsN (vgd l i)) = m + partsN (vgd l i) := by simp only [nc] at *; rw [hgd]; rw [qb, add_i64 (by omega) (by omega)]
      generalize partsN (vgd l i) = pc at hpc hsn hadd
      cbv
      rw [hti]
      cbv
      refine ⟨⟨hin⟩, ⟨hlt3⟩, ⟨hlt2⟩, ?_⟩
      generalize hcd : vgd l i = cd at *
      split
      · rename_i hlo
        rw [qc, lss_true] at hlo
        cbv
        rw [hRf True (fun h => by have := (hR.1 h).2.2.2.2.2.1 _ hmem; rw [← hgd] at this; omega)]
        exact ⟨rfl, trivial⟩
      · rename_i hlo
        rw [qc, lss_false] at hlo
        cbv
        refine call_con (ρ := []) hpc ⟨by rfl, by rfl, by rfl, by cbv⟩ ?_
        rintro v H R js ⟨rfl, rfl, rfl⟩
        cbv
        rw [hadd]
        refine Cv.fold [7, 36, 37, 38, 39, 40, 41, 42, 43, 44, 45] 1 [] (by exact Nat.le_refl _) (by exact Nat.le_of_ble_eq_true rfl) (by rfl) (by cbv) ?_
        intro js
        refine ⟨(_, _), ?_, js, rfl⟩
        refine ⟨⟨i + 1, hk1, hlt, hsn.symm, fun c hc => ?_⟩, hmu⟩
        rw [take_snoc hil] at hc
        rcases List.mem_append.1 hc with hc | hc
        · exact hall c hc
        · rw [List.mem_singleton.1 hc, ← hgd]; omega
    · rename_i hge
      have hin : i = n := by rw [qc, lss_false] at hge; simp only [qofN] at hge; simp only [nc] at *; omega
      have hl0 : l.take i = l := List.take_of_length_le (by omega)
      rw [hl0] at hs hall
      have hlg : vw .u64 log = log := by simp only [qw]; exact wrap_u64 (by omega) (by omega)
      have hnn : 0 ≤ vw .u64 log := by rw [hlg]; omega
      have hsh : vb .shl .i64 1 (vw .u64 log) = 2 ^ log.toNat := by
        rw [hlg, qb, one_shl (by omega) (by omega)]
      have hfin : vc .eql m (vb .shl .i64 1 (vw .u64 log)) = rb := by
        rw [hsh]
        cases hrb : rb
        · rw [qc, eql_false]
          intro he
          have := hR.2 ⟨by omega, by omega, by simp only [nc] at *; omega, by simp only [nc] at *; omega, h5, hall, by rw [← hs]; exact he⟩
          rw [hrb] at this; cases this
        · rw [qc, eql_true]
          have := (hR.1 hrb).2.2.2.2.2.2
          rw [← hs] at this; exact this
      cbv
      rw [hfin]
      exact ⟨⟨hnn⟩, rfl, trivial⟩
end Go.Proofs.Ytodobmkflimfkaa
namespace Go.Proofs.Ytodobmkflimfkaa
open Go Go.Sx Go.Proofs
/-- How many bits a number has. -/
def blen (x : Int) : Int := if x ≤ 0 then 0 else (Nat.log2 x.toNat : Int) + 1
theorem blen_of {x : Int} {k : Nat} (h0 : 2 ^ k ≤ x) (h1 : x < 2 ^ (k + 1)) : blen x = k + 1 := by
  have hp : (0 : Int) < 2 ^ k := Int.pow_pos (by omega)
  unfold blen
  rw [if_neg (by omega)]
  obtain ⟨n, rfl⟩ : ∃ n : Nat, x = n := ⟨x.toNat, by omega⟩
  have a : 2 ^ k ≤ n := by exact_mod_cast h0
  have b : n < 2 ^ (k + 1) := by exact_mod_cast h1
  have hn : n ≠ 0 := by have : 0 < 2 ^ k := Nat.pow_pos (by omega); omega
  have c1 : n.log2 < k + 1 := (Nat.log2_lt hn).2 b
  have c2 : k ≤ n.log2 := (Nat.le_log2 hn).2 a
  simp only [Int.toNat_natCast]
  omega
theorem blen_spec {x : Int} (h : 0 < x) : ∃ k : Nat, blen x = k + 1 ∧ 2 ^ k ≤ x ∧ x < 2 ^ (k + 1) := by
  obtain ⟨n, rfl⟩ : ∃ n : Nat, x = n := ⟨x.toNat, by omega⟩
  have hn : n ≠ 0 := by omega
  refine ⟨n.log2, ?_, ?_, ?_⟩
  · unfold blen; rw [if_neg (by omega)]; simp
  · exact_mod_cast (Nat.le_log2 hn).1 (Nat.le_refl _)
  · exact_mod_cast (Nat.log2_lt hn).1 (Nat.lt_succ_self _)
theorem blen_half {x : Int} (h : 0 < x) : blen x = blen (x / 2) + 1 := by
  obtain ⟨k, h1, h2, h3⟩ := blen_spec h
  cases k with
  | zero =>
    have : x = 1 := by omega
    subst this; rfl
  | succ k =>
    have e : blen (x / 2) = k + 1 := blen_of (by rw [Int.pow_succ] at h2; omega) (by rw [Int.pow_succ] at h3; omega)
    rw [h1, e]; push_cast; omega
theorem blen_nonpos {x : Int} (h : x ≤ 0) : blen x = 0 := by unfold blen; rw [if_pos h]
theorem blen_range {x : Int} {n : Nat} (h0 : 0 ≤ x) (h : x < 2 ^ n) : 0 ≤ blen x ∧ blen x ≤ n := by
  rcases Int.lt_or_le 0 x with hx | hx
  · obtain ⟨k, h1, h2, h3⟩ := blen_spec hx
    have : k < n := by
      apply Classical.byContradiction
      intro hk
      have : (2 : Int) ^ n ≤ 2 ^ k := by exact_mod_cast Nat.pow_le_pow_right (by omega : 0 < 2) (by omega : n ≤ k)
      omega
    omega
  · rw [blen_nonpos hx]; omega
theorem blen_16 {x : Int} (h0 : 0 ≤ x) (h : x < 65536) : 0 ≤ blen x ∧ blen x ≤ 16 := blen_range (n := 16) h0 h
theorem blen_8 {x : Int} (h0 : 0 ≤ x) (h : x < 256) : 0 ≤ blen x ∧ blen x ≤ 8 := blen_range (n := 8) h0 h
set_option maxRecDepth 100000 in
theorem lenTab_blen (n : Fin 256) : IntKind.i64.wrap (((UInt8.ofNat (lenTab.getD n.val 0).toNat).toNat : Nat) : Int) = blen (n.val : Int) := by
  revert n
  decide +kernel
theorem blen_256 {x : Int} (h : 256 ≤ x) : blen x = 8 + blen (x / 256) := by
  have e : x / 256 = x / 2 / 2 / 2 / 2 / 2 / 2 / 2 / 2 := by omega
  rw [e, blen_half (x := x) (by omega), blen_half (x := x / 2) (by omega), blen_half (x := x / 2 / 2) (by omega), blen_half (x := x / 2 / 2 / 2) (by omega), blen_half (x := x / 2 / 2 / 2 / 2) (by omega),
    blen_half (x := x / 2 / 2 / 2 / 2 / 2) (by omega), blen_half (x := x / 2 / 2 / 2 / 2 / 2 / 2) (by omega), blen_half (x := x / 2 / 2 / 2 / 2 / 2 / 2 / 2) (by omega)]
  omega
set_option maxRecDepth 100000 in
theorem len64_con (x : Int) (hx : 0 ≤ x ∧ x < 65536) : Con Try.prog 115 [.int .u64 x] [] (fun v H R => v = .int .i64 (blen x) ∧ H = [] ∧ R = []) := by
  refine con_gen (con_walk hmix fn115 ?_)
  intro vb vc vw vtoN vofN vaddN vsubN vmaxI vminI vcutN vgd vst vln vrep vsub vonto vsplice vstrEq vbyteV vnotB veqB hw qb qc qw qtoN qofN qaddN qsubN qmaxI qminI qcutN qgd qst qln qrep qsub qonto qsplice qstrEq qbyteV qnotB qeqB
  have hm := hmix
  generalize Try.prog = P at *
  have hl : lenTab.length = 256 := by rfl
  have key : ∀ y : Int, 0 ≤ y → y < 256 → vw .i64 (vbyteV (vgd lenTab (vtoN y))) = blen y := by
    intro y h0 h1
    obtain ⟨n, rfl⟩ : ∃ n : Nat, y = n := ⟨y.toNat, by omega⟩
    rw [qw, qbyteV, qgd, qtoN]
    exact lenTab_blen ⟨n, by omega⟩
  have hb256 := @blen_256 x
  have hbr := @blen_8 (x / 256) (by omega) (by omega)
  have hbx := @blen_16 x (by omega) (by omega)
  have e1 : x115 = (.seq (.ops [⟨(some 2), .mv (.k (.lit .i64 0)), none, []⟩])
    (.seq (.seq (.ops [⟨(some 3), .mv (.t 0), none, []⟩,
      ⟨(some 4), .cmp .geq (.t 3) (.k (.lit .u64 4294967296)), none, []⟩])
    (.cond (.t 4) (.seq (.ops [⟨(some 5), .mv (.t 0), none, []⟩,
      ⟨(some 6), .bin .shr .u64 (.t 5) (.k (.lit .u64 32)), none, []⟩,
      ⟨(some 0), .mv (.t 6), none, []⟩])
    (.ops [⟨(some 2), .mv (.k (.lit .i64 32)), none, []⟩])) (.skip)))
    (.seq (.seq (.ops [⟨(some 7), .mv (.t 0), none, []⟩,
      ⟨(some 8), .cmp .geq (.t 7) (.k (.lit .u64 65536)), none, []⟩])
    (.cond (.t 8) (.seq (.ops [⟨(some 9), .mv (.t 0), none, []⟩,
      ⟨(some 10), .bin .shr .u64 (.t 9) (.k (.lit .u64 16)), none, []⟩,
      ⟨(some 0), .mv (.t 10), none, []⟩])
    (.ops [⟨(some 11), .mv (.t 2), none, []⟩,
      ⟨(some 12), .bin .add .i64 (.t 11) (.k (.lit .i64 16)), none, []⟩,
      ⟨(some 2), .mv (.t 12), none, []⟩])) (.skip)))
    (.seq (.seq (.ops [⟨(some 13), .mv (.t 0), none, []⟩,
      ⟨(some 14), .cmp .geq (.t 13) (.k (.lit .u64 256)), none, []⟩])
    (.cond (.t 14) (.seq (.ops [⟨(some 15), .mv (.t 0), none, []⟩,
      ⟨(some 16), .bin .shr .u64 (.t 15) (.k (.lit .u64 8)), none, []⟩,
      ⟨(some 0), .mv (.t 16), none, []⟩])
    (.ops [⟨(some 17), .mv (.t 2), none, []⟩,
      ⟨(some 18), .bin .add .i64 (.t 17) (.k (.lit .i64 8)), none, []⟩,
      ⟨(some 2), .mv (.t 18), none, []⟩])) (.skip)))
    (.seq (.ops [⟨(some 19), .mv (.t 2), none, []⟩,
      ⟨(some 20), .mv (.t 0), none, []⟩,
      ⟨(some 21), .conv .u8 (.t 20), none, []⟩,
      ⟨(some 22), .idxS (.k (.str lenTab)) (.t 21), none, []⟩,
      ⟨(some 23), .conv .i64 (.t 22), none, []⟩,
      ⟨(some 24), .bin .add .i64 (.t 19) (.t 23), none, []⟩,
      ⟨(some 2), .mv (.t 24), none, []⟩])
    (.ret)))))) := rfl
  rw [e1]
  have hll : vln lenTab = 256 := by rw [qln]; exact hl
  generalize lenTab = T at *
  have d1 : vc .geq x 4294967296 = false := by rw [qc, geq_false]; omega
  have d2 : vc .geq x 65536 = false := by rw [qc, geq_false]; omega
  generalize hbl : blen x = bl at *
  generalize hbl2 : blen (x / 256) = bl2 at *
  cbv
  rw [d1]
  cbv
  rw [d2]
  cbv
  generalize d3 : vc .geq x 256 = z
  cases z
  · rw [qc, geq_false] at d3
    have w1 : vw .u8 x = x := by rw [qw]; exact wrap_u8 (by omega) (by omega)
    have hk := key x (by omega) (by omega)
    cbv
    rw [w1, hk, hbl]
    refine ⟨⟨?_⟩, ?_, trivial⟩
    · rw [hll]; omega
    · congr 1
      rw [qb, add_i64 (by omega) (by omega)]; omega
  · rw [qc, geq_true] at d3
    have s1 : vb .shr .u64 x 8 = x / 256 := by rw [qb]; show x.fdiv (2 ^ 8) = _; rw [Int.fdiv_eq_ediv_of_nonneg _ (by omega)]; rfl
    have w1 : vw .u8 (x / 256) = x / 256 := by rw [qw]; exact wrap_u8 (by omega) (by omega)
    have hk := key (x / 256) (by omega) (by omega)
    have := hb256 (by omega)
    cbv
    rw [s1, w1, hk, hbl2]
    refine ⟨⟨?_⟩, ?_, trivial⟩
    · rw [hll]; omega
    · congr 1
      rw [qb, add_i64 (by omega) (by omega)]; omega
theorem len_con (x : Int) (hx : 0 ≤ x ∧ x < 65536) : Con Try.prog 69 [.int .u64 x] [] (fun v H R => v = .int .i64 (blen x) ∧ H = [] ∧ R = []) := by
  have hc := len64_con x hx
  refine con_gen (con_walk hmix fn69 ?_)
  intro vb vc vw vtoN vofN vaddN vsubN vmaxI vminI vcutN vgd vst vln vrep vsub vonto vsplice vstrEq vbyteV vnotB veqB hw qb qc qw qtoN qofN qaddN qsubN qmaxI qminI qcutN qgd qst qln qrep qsub qonto qsplice qstrEq qbyteV qnotB qeqB
  have hm := hmix
  generalize Try.prog = P at *
  generalize blen x = bl at *
  cbv
  refine call_con (ρ := []) hc ⟨by rfl, by rfl, by rfl, by cbv⟩ ?_
  rintro v H R js ⟨rfl, rfl, rfl⟩
  cbv
theorem width_con (x : Int) (hx : 0 ≤ x ∧ x < 65536) : Con Try.prog 76 [.int .i64 x] [] (fun v H R => v = .int .i64 (blen x) ∧ H = [] ∧ R = []) := by
  refine con_gen (con_walk hmix fn76 ?_)
  intro vb vc vw vtoN vofN vaddN vsubN vmaxI vminI vcutN vgd vst vln vrep vsub vonto vsplice vstrEq vbyteV vnotB veqB hw qb qc qw qtoN qofN qaddN qsubN qmaxI qminI qcutN qgd qst qln qrep qsub qonto qsplice qstrEq qbyteV qnotB qeqB
  have hm := hmix
  generalize Try.prog = P at *
  have hb0 := @blen_nonpos
  have hbh := @blen_half
  have hbr := @blen_16
  generalize hbl : blen = f at *
  have hfx := hbr (x := x) (by omega) (by omega)
  cbv
  refine loop_fam (α := Int × Int) [4, 5, 6, 7, 8, 9] [] (fun (k, m) => [(0, .int .i64 k), (3, .int .i64 m)]) (fun _ => []) (fun (k, m) => 0 ≤ k ∧ k < 65536 ∧ 0 ≤ m ∧ m + f k = f x) (fun (k, _) => k.toNat) hw hm ?_ ?_
  · refine Cv.genAt [3] [] (Cv.fold [4, 5, 6, 7, 8, 9] 0 [] (by exact Nat.le_refl _) (by exact Nat.le_of_ble_eq_true rfl) (by rfl) (by cbv) ?_)
    intro js
    refine ⟨(_, _), ?_, js, rfl⟩
    refine ⟨by omega, by omega, by omega, by omega⟩
  · rintro ⟨k, m⟩ js ⟨h0, h1, h2, h3⟩
    have hfk := hbr (x := k) (by omega) (by omega)
    cbv
    split
    · rename_i h
      rw [qc, gtr_true] at h
      have e1 : vb .quo .i64 k 2 = k / 2 := by rw [qb, quo_i64 (by omega) (by omega) (by omega)]
      have hh := hbh h
      have hfk2 := hbr (x := k / 2) (by omega) (by omega)
      have e2 : vb .add .i64 m 1 = m + 1 := by rw [qb, add_i64 (by omega) (by omega)]
      cbv
      rw [e1, e2]
      refine Cv.fold [4, 5, 6, 7, 8, 9] 0 [] (by exact Nat.le_refl _) (by exact Nat.le_of_ble_eq_true rfl) (by rfl) (by cbv) ?_
      intro js
      refine ⟨(_, _), ?_, js, rfl⟩
      exact ⟨⟨by omega, by omega, by omega, by omega⟩, by show (k / 2).toNat < k.toNat; omega⟩
    · rename_i h
      rw [qc, gtr_false] at h
      have := hb0 (x := k) (by omega)
      have e : m = f x := by omega
      cbv
      rw [e]
      exact ⟨rfl, trivial⟩
end Go.Proofs.Ytodobmkflimfkaa
namespace Go.Proofs.Ytodobmkflimfkaa
open Go Go.Sx Go.Proofs
/-- A writer's state: the bits that were put, its bytes, how many bits. -/
def WS (bs l : List Int) (n : Nat) (m : Int) : Prop := (∀ b ∈ bs, isBit b) ∧ l = pack bs ∧ n = l.length ∧ m = bs.length
theorem WS.nil : WS [] [] 0 0 := ⟨by simp, (show pack [] = [] by decide).symm, rfl, rfl⟩
theorem bput_ws (bs l : List Int) (c n : Nat) (x k m : Int) (hx : 0 ≤ x ∧ x < 2 ^ 64) (hk : 0 ≤ k ∧ k ≤ 56) (h : WS bs l n m) (hl : bs.length ≤ 2 ^ 40) :
    Con Try.prog 68 [.ptr 0 .z 2 0, .int .u64 x, .int .i64 k] [.one 92 [.slice 1 .z 1 n c, .int .i64 m], .buf 5 .u8 l c]
      (fun v H R => R = [1] ∧ ∃ l' n' m' c', WS (bs ++ bitsN x k.toNat) l' n' m' ∧ v = .int .i64 0 ∧ H = [.one 92 [.slice 1 .z 1 n' c', .int .i64 m'], .buf 5 .u8 l' c']) := by
  obtain ⟨h1, rfl, rfl, rfl⟩ := h
  refine (bputA_con bs c x k hx h1 hl).mono ?_
  rintro v H R ⟨rfl, rfl, c', rfl⟩
  have e : putBits bs x k = bs ++ bitsN x k.toNat := by unfold putBits; rw [if_pos hk]
  have e2 : putErr k = 0 := by unfold putErr; rw [if_pos hk]
  have h2 := putBits_bit (x := x) (n := k) h1
  rw [e] at h2
  rw [e, e2]
  exact ⟨rfl, _, _, _, c', ⟨h2, rfl, rfl, rfl⟩, rfl, rfl⟩
theorem bbytes_ws (bs l : List Int) (c n : Nat) (m : Int) (h : WS bs l n m) (hl : bs.length ≤ 2 ^ 40) :
    Con Try.prog 53 [.ptr 0 .z 2 0] [.one 92 [.slice 1 .z 1 n c, .int .i64 m], .buf 5 .u8 l c]
      (fun v H R => R = [2] ∧ ∃ c', v = .slice 2 .z 1 n c' ∧ H = [.one 92 [.slice 1 .z 1 n c, .int .i64 m], .buf 5 .u8 l c, .buf 5 .u8 l c']) := by
  obtain ⟨h1, rfl, rfl, rfl⟩ := h
  exact bbytes_con bs c hl
/-- The bits of a value from 0 to most. -/
def putV (v most : Int) : List Int :=
  if v < 2 ^ (blen most).toNat - 1 - most then bitsN v (blen most - 1).toNat
  else if v < 2 ^ (blen most - 1).toNat then bitsN v (blen most).toNat
  else bitsN (v + (2 ^ (blen most).toNat - 1 - most)) (blen most).toNat
/-- The bits that tell counts; within a row of zeros: how many were met since the last two bits. -/
def wgo : Option Nat → List Int → Int → List Int
  | _, [], _ => []
  | none, c :: l, left => if left ≤ 0 then [] else putV (c + 1) (left + 1) ++ wgo (if c = 0 then some 0 else none) l (left - partsN c)
  | some k, c :: l, left => if c = 0 then (if k = 2 then bitsN 3 2 ++ wgo (some 0) l left else wgo (some (k + 1)) l left)
    else bitsN k 2 ++ (if left ≤ 0 then [] else putV (c + 1) (left + 1) ++ wgo none l (left - partsN c))
theorem putV_length {v most : Int} (h0 : 0 ≤ most) (h1 : most < 65536) : (putV v most).length ≤ 16 := by
  have := blen_16 h0 h1
  unfold putV
  split
  · rw [bitsN_length]; omega
  · split
    · rw [bitsN_length]; omega
    · rw [bitsN_length]; omega
theorem partsN_nonneg {c : Int} (h : -1 ≤ c) : 0 ≤ partsN c := by unfold partsN; split <;> omega
theorem wgo_length : ∀ (l : List Int) (o : Option Nat) (left : Int), (∀ c ∈ l, -1 ≤ c) → left ≤ 4096 → (wgo o l left).length ≤ 18 * l.length
  | [], o, left, _, _ => by cases o <;> simp [wgo]
  | c :: l, o, left, h, hl => by
    have hc := partsN_nonneg (h c (by simp))
    have ih := fun o left (hl : left ≤ 4096) => wgo_length l o left (fun c hc => h c (by simp [hc])) hl
    cases o with
    | none =>
      simp only [wgo]
      split
      · simp
      · have := putV_length (v := c + 1) (most := left + 1) (by omega) (by omega)
        have := ih (if c = 0 then some 0 else none) (left - partsN c) (by omega)
        simp only [List.length_append, List.length_cons]; omega
    | some k =>
      simp only [wgo]
      split
      · split
        · have := ih (some 0) left hl
          simp only [List.length_append, List.length_cons, bitsN_length]; omega
        · have := ih (some (k + 1)) left hl
          simp only [List.length_cons]; omega
      · split
        · simp only [List.length_append, List.length_cons, bitsN_length, List.length_nil]; omega
        · have := putV_length (v := c + 1) (most := left + 1) (by omega) (by omega)
          have := ih none (left - partsN c) (by omega)
          simp only [List.length_append, List.length_cons, bitsN_length]; omega
/-- All bits that tell counts. -/
def wbits (l : List Int) (log : Int) : List Int := bitsN (log - 5) 4 ++ wgo none l (2 ^ log.toNat)
theorem pow_log {log : Int} (h : 5 ≤ log ∧ log ≤ 12) : (32 : Int) ≤ 2 ^ log.toNat ∧ (2 : Int) ^ log.toNat ≤ 4096 := by
  obtain ⟨n, rfl⟩ : ∃ n : Nat, log = n := ⟨log.toNat, by omega⟩
  have : n = 5 ∨ n = 6 ∨ n = 7 ∨ n = 8 ∨ n = 9 ∨ n = 10 ∨ n = 11 ∨ n = 12 := by omega
  rcases this with rfl | rfl | rfl | rfl | rfl | rfl | rfl | rfl <;> decide
theorem wbits_length {l : List Int} {log : Int} (h : Right l log) : (wbits l log).length ≤ 5000 := by
  have h1 := wgo_length l none (2 ^ log.toNat) h.2.2.2.2.2.1 (pow_log ⟨h.1, h.2.1⟩).2
  have := h.2.2.2.1
  unfold wbits
  rw [List.length_append, bitsN_length]; omega
theorem sumP_take_le {l : List Int} (h : ∀ c ∈ l, -1 ≤ c) (i : Nat) : 0 ≤ sumP (l.take i) ∧ sumP (l.take i) ≤ sumP l := by
  induction l generalizing i with
  | nil => simp [sumP]
  | cons c l ih =>
    have hc := partsN_nonneg (h c (by simp))
    have h2 := ih (fun x hx => h x (by simp [hx]))
    cases i with
    | zero =>
      have := h2 l.length
      simp only [sumP, List.take_zero, List.map_nil, List.sum_nil, List.map_cons, List.sum_cons, List.take_length] at *
      omega
    | succ i =>
      have := h2 i
      simp only [sumP, List.take_succ_cons, List.map_cons, List.sum_cons] at *
      omega
theorem drop_cons {l : List Int} {i : Nat} (h : i < l.length) : l.drop i = l.getD i 0 :: l.drop (i + 1) := by
  rw [List.drop_eq_getElem_cons h, List.getD_eq_getElem?_getD, List.getElem?_eq_getElem h]; rfl
theorem wgo_done {l : List Int} {left : Int} (h : left ≤ 0) : wgo none l left = [] := by
  cases l with
  | nil => rfl
  | cons c l => simp only [wgo]; rw [if_pos h]
theorem one_shl62 {x : Int} (h0 : 0 ≤ x) (h1 : x ≤ 62) : bV .shl .i64 1 x = 2 ^ x.toNat := by
  obtain ⟨n, rfl⟩ : ∃ n : Nat, x = n := ⟨x.toNat, by omega⟩
  have hn : n ≤ 62 := by omega
  show IntKind.i64.wrap (1 * 2 ^ (min ((n : Int).toNat) IntKind.i64.bits)) = 2 ^ ((n : Int).toNat)
  have e : min ((n : Int).toNat) IntKind.i64.bits = n := by simp [IntKind.bits]; omega
  have hp : (2 : Int) ^ n ≤ 2 ^ 62 := by exact_mod_cast Nat.pow_le_pow_right (by omega : 0 < 2) hn
  have hp0 : (0 : Int) < 2 ^ n := Int.pow_pos (by omega)
  rw [e, Int.one_mul, Int.toNat_natCast]
  exact wrap_i64 (by omega) (by omega)
end Go.Proofs.Ytodobmkflimfkaa
namespace Go.Proofs.Ytodobmkflimfkaa
open Go Go.Sx Go.Proofs
set_option maxRecDepth 10000 in
set_option maxHeartbeats 40000000 in
theorem write_ok (l : List Int) (log : Int) (cap : Nat) (hl : ∀ c ∈ l, isI16 c) (hlog : -9223372036854775808 ≤ log ∧ log ≤ 9223372036854775807) (hR : Right l log) :
    Con Try.prog 21 [.slice 0 .z 1 l.length cap, .int .i64 log] [.ro .i16 l] (fun v H R => R = [2] ∧ ∃ l' n' m' c c', WS (wbits l log) l' n' m' ∧ v = .tup [.slice 3 .z 1 n' c', .int .i64 0] ∧
      H = [.ro .i16 l, .one 92 [.slice 2 .z 1 n' c, .int .i64 m'], .buf 5 .u8 l' c, .buf 5 .u8 l' c']) := by
  have hright := right_con l log cap hl hlog
  rw [show decide (Right l log) = true by simp [hR]] at hright
  have f68 := fn68
  have hput := @bput_ws
  have hbytes := @bbytes_ws
  have hparts := parts_con
  have hlen := len_con
  refine con_gen (con_cut 4 (by simp) (con_red [2] (con_walk hmix fn21 ?_)))
  intro vb vc vw vtoN vofN vaddN vsubN vmaxI vminI vcutN vgd vst vln vrep vsub vonto vsplice vstrEq vbyteV vnotB veqB hw qb qc qw qtoN qofN qaddN qsubN qmaxI qminI qcutN qgd qst qln qrep qsub qonto qsplice qstrEq qbyteV qnotB qeqB
  have hm := hmix
  generalize Try.prog = P at *
  obtain ⟨g1, g2, g3, g4, g5, g6, g7⟩ := hR
  have hpl := pow_log ⟨g1, g2⟩
  have htot := wbits_length ⟨g1, g2, g3, g4, g5, g6, g7⟩
  have hW0 : wbits l log = bitsN (log - 5) 4 ++ wgo none l (2 ^ log.toNat) := rfl
  generalize wbits l log = W at *
  generalize hn : l.length = n at *
  have htake := fun i => sumP_take_le g6 i
  have hadd0 : ∀ i, vaddN 0 i = i := fun i => by simp only [qaddN, Nat.zero_add]
  have hto : ∀ i : Nat, vtoN (i : Int) = i := fun i => by simp only [qtoN, Int.toNat_natCast]
  have hvln : vln l = n := by simp only [qln, hn]
  have hvgd : ∀ i, vgd l i = l.getD i 0 := fun i => by simp only [qgd]
  have hmem : ∀ i, i < n → l.getD i 0 ∈ l := fun i hi => by rw [List.getD_eq_getElem?_getD, List.getElem?_eq_getElem (by omega)]; exact List.getElem_mem _
  cbv
  refine call_con (ρ := [(0, .z)]) hright ⟨by rfl, by rfl, by rfl, by cbv; exact ⟨view_refl _, trivial⟩⟩ ?_
  rintro v H R js ⟨rfl, rfl, rfl⟩
  have hnb : vnotB true = false := by simp only [qnotB]; rfl
  cbv
  rw [hnb]
  have e1 : vw .u64 (vb .sub .i64 log 5) = log - 5 := by rw [qw, qb, sub_i64 (by omega) (by omega)]; exact wrap_u64 (by omega) (by omega)
  have e2 : vw .u64 log = log := by rw [qw]; exact wrap_u64 (by omega) (by omega)
  have e3 : vb .shl .i64 1 log = 2 ^ log.toNat := by rw [qb, one_shl (by omega) (by omega)]
  have hput0 := hput [] [] 0 0 (log - 5) 4 0 (by omega) (by omega) WS.nil (by simp)
  generalize hlg5 : log - 5 = lg5 at *
  generalize hp : (2 : Int) ^ log.toNat = pw at *
  cbv
  rw [e1]
  refine CallX.cv f68.go (Cv.nilB 1 0 5 .u8 (by rfl) (by cbv) (Cv.here ?_)) (by rfl)
  refine call_con (ρ := [(1, .z), (2, .z)]) hput0 ⟨by rfl, by rfl, by rfl, by cbv⟩ ?_
  rintro v H R js2 ⟨rfl, l1, n1, m1, c1, hws1, rfl, rfl⟩
  clear hput0 hright
  cbv
  rw [e2]
  rw [e3]
  refine ⟨⟨by omega⟩, ?_⟩
  have hgx : ∀ i, i < n → -1 ≤ l.getD i 0 := fun i hi => g6 _ (hmem i hi)
  have h16 : ∀ i, i < n → isI16 (l.getD i 0) := fun i hi => hl _ (hmem i hi)
  have hdrop : ∀ i, i < n → l.drop i = l.getD i 0 :: l.drop (i + 1) := fun i hi => drop_cons (by omega)
  have hsumn : sumP (l.take n) = pw := by rw [List.take_of_length_le (by omega)]; exact g7
  have hsums : ∀ i, i < n → sumP (l.take (i + 1)) = sumP (l.take i) + partsN (l.getD i 0) := fun i hi => by rw [take_snoc (by omega), sumP_snoc]
  have hwg := wgo.eq_def
  have hlast : ∀ i, i < n → l.getD i 0 = 0 → i + 1 < n := fun i hi h0 => by
    apply Classical.byContradiction
    intro hc
    have : i = n - 1 := by omega
    rw [this] at h0; exact g5 h0
  refine loop_fam (α := Int × Int × List Int × Nat × Int × Nat) ([9, 10, 11, 12] ++ [27, 28, 29, 30, 31, 32, 33, 34, 35, 36, 37, 38, 39, 40, 41, 42, 43, 44, 45, 46, 47, 48, 49, 50, 51, 52, 53, 54, 55, 56, 57, 58, 59, 60, 61, 62, 63, 64, 65, 66, 67, 68, 69, 70, 71, 72, 73, 74, 75, 76, 77, 78, 79, 80, 81, 82, 83, 84, 85, 86, 87, 88, 89, 90, 91, 92, 93, 94, 95, 96, 97, 98, 99, 100, 101, 102, 103, 104, 105, 106, 107, 108, 109, 110]) [2]
    (fun (left, k, b, n1, m1, c1) => [(7, .int .i64 left), (8, .int .i64 k)])
    (fun (left, k, b, n1, m1, c1) => [(1, .one 92 [.slice 2 .z 1 n1 c1, .int .i64 m1]), (2, .buf 5 .u8 b c1)])
    (fun (left, k, b, n1, m1, c1) => ∃ (i : Nat) (bs : List Int), k = i ∧ i ≤ n ∧ left = pw - sumP (l.take i) ∧ WS bs b n1 m1 ∧ bs ++ wgo none (l.drop i) left = W) (fun (left, k, b, n1, m1, c1) => n - k.toNat) hw hm ?_ ?_
  · refine Cv.genAt [8] [] (Cv.fold ([9, 10, 11, 12] ++ [27, 28, 29, 30, 31, 32, 33, 34, 35, 36, 37, 38, 39, 40, 41, 42, 43, 44, 45, 46, 47, 48, 49, 50, 51, 52, 53, 54, 55, 56, 57, 58, 59, 60, 61, 62, 63, 64, 65, 66, 67, 68, 69, 70, 71, 72, 73, 74, 75, 76, 77, 78, 79, 80, 81, 82, 83, 84, 85, 86, 87, 88, 89, 90, 91, 92, 93, 94, 95, 96, 97, 98, 99, 100, 101, 102, 103, 104, 105, 106, 107, 108, 109, 110]) 3 [2] (by exact Nat.le_refl _) (by exact Nat.le_of_ble_eq_true rfl) (by rfl) (by cbv) ?_)
    intro js
    refine ⟨(_, _, _, _, _, _), ?_, js, rfl⟩
    exact ⟨0, _, rfl, by omega, by simp [sumP], hws1, by rw [hW0]; rfl⟩
  · rintro ⟨left, k, b, n2, m2, c2⟩ js ⟨i, bs, hk, hi, hleft, hws, hbs⟩
    clear hws1 e1 e2 e3
    cbv
    split
    rotate_left
    · rename_i h
      rw [qc, gtr_false] at h
      have hbs2 : bs = W := by rw [← hbs, wgo_done (by omega), List.append_nil]
      rw [hbs2] at hws
      have hb := hbytes W b c2 n2 m2 hws (by omega)
      cbv
      refine call_con (ρ := [(1, .z), (2, .z)]) hb ⟨by rfl, by rfl, by rfl, by cbv⟩ ?_
      rintro v H R js2 ⟨rfl, c', rfl, rfl⟩
      cbv
      exact ⟨b, n2, m2, c2, c', hws, rfl, rfl⟩
    · rename_i h
      rw [qc, gtr_true] at h
      have hin : i < n := by
        apply Classical.byContradiction
        intro hc
        have : i = n := by omega
        subst this
        omega
      simp only [nc] at *
      have ht0 := htake i
      have ea : vb .add .i64 left 1 = left + 1 := by rw [qb, add_i64 (by omega) (by omega)]
      have hle : left ≤ pw := by omega
      generalize hmo : left + 1 = mo at *
      have eb : vw .u64 mo = mo := by rw [qw]; exact wrap_u64 (by omega) (by omega)
      have hl1 := hlen mo (by omega)
      obtain ⟨mk, hmk, hmk1, hmk2⟩ := blen_spec (x := mo) (by omega)
      have hmk12 : 1 ≤ mk ∧ mk ≤ 12 := by
        constructor
        · apply Classical.byContradiction
          intro hc
          have : mk = 0 := by omega
          subst this
          omega
        · apply Classical.byContradiction
          intro hc
          have : (2 : Int) ^ 13 ≤ 2 ^ mk := by exact_mod_cast Nat.pow_le_pow_right (by omega : 0 < 2) (by omega : 13 ≤ mk)
          omega
      have hpv : putV (l.getD i 0 + 1) mo = (if l.getD i 0 + 1 < 2 ^ (blen mo).toNat - 1 - mo then bitsN (l.getD i 0 + 1) (blen mo - 1).toNat
        else if l.getD i 0 + 1 < 2 ^ (blen mo - 1).toNat then bitsN (l.getD i 0 + 1) (blen mo).toNat
        else bitsN (l.getD i 0 + 1 + (2 ^ (blen mo).toNat - 1 - mo)) (blen mo).toNat) := rfl
      generalize blen mo = mb at *
      have ec : vw .u64 mb = mb := by rw [qw]; exact wrap_u64 (by omega) (by omega)
      have ed : vb .shl .i64 1 mb = 2 ^ mb.toNat := by rw [qb, one_shl62 (by omega) (by omega)]
      have ee : vb .sub .i64 mb 1 = mb - 1 := by rw [qb, sub_i64 (by omega) (by omega)]
      have ee2 : vw .u64 (mb - 1) = mb - 1 := by rw [qw]; exact wrap_u64 (by omega) (by omega)
      have ef : vb .shl .i64 1 (mb - 1) = 2 ^ (mb - 1).toNat := by rw [qb, one_shl62 (by omega) (by omega)]
      have hpm : (2 : Int) ^ mb.toNat = 2 ^ (mk + 1) := by rw [hmk]; rfl
      have hpm1 : (2 : Int) ^ (mb - 1).toNat = 2 ^ mk := by rw [hmk]; congr 1; omega
      have hpw2 : (2 : Int) ^ (mk + 1) = 2 * 2 ^ mk := by rw [Int.pow_succ]; omega
      rw [hpm1] at ef hpv
      rw [hpm] at ed hpv
      rw [hpw2] at ed hpv hmk2
      have hqq : (2 : Int) ^ mk ≤ 2 ^ 12 := by exact_mod_cast Nat.pow_le_pow_right (by omega : 0 < 2) hmk12.2
      generalize hq : (2 : Int) ^ mk = q at *
      have eg : vb .sub .i64 (2 * q) 1 = 2 * q - 1 := by rw [qb, sub_i64 (by omega) (by omega)]
      have eh : vb .sub .i64 (2 * q - 1) mo = 2 * q - 1 - mo := by rw [qb, sub_i64 (by omega) (by omega)]
      generalize htt : 2 * q - 1 - mo = tt at *
      generalize hq21 : 2 * q - 1 = q21 at *
      generalize hq2 : 2 * q = q2 at *
      generalize hmb1 : mb - 1 = mb1 at *
      have hti : vtoN k = i := by rw [hk]; exact hto i
      have hinR : 0 ≤ k ∧ k < (n : Int) := by omega
      cbv
      rw [ea, eb]
      refine call_con (ρ := []) hl1 ⟨by rfl, by rfl, by rfl, by cbv⟩ ?_
      rintro v H R js2 ⟨rfl, rfl, rfl⟩
      cbv
      rw [ec, ed, eg, ea, eh, hti, hadd0]
      simp only [nc] at *
      have hbl : bs.length ≤ 5000 := by have := congrArg List.length hbs; rw [List.length_append] at this; omega
      have hwg1 : wgo none (l.drop i) left = putV (l.getD i 0 + 1) mo ++ wgo (if l.getD i 0 = 0 then some 0 else none) (l.drop (i + 1)) (left - partsN (l.getD i 0)) := by
        rw [hdrop i hin, wgo, if_neg (by omega), hmo]
      rw [hwg1, ← List.append_assoc] at hbs
      have hs1 := hsums i hin
      have h16i := h16 i hin
      have hgxi := hgx i hin
      have hlasti := hlast i hin
      have hpn := partsN_le h16i
      have hpc := hparts _ h16i
      have ht1 := htake (i + 1)
      have hp00 : l.getD i 0 = 0 → partsN (l.getD i 0) = 0 := fun h => by rw [h]; rfl
      rw [hvgd i]
      generalize hci : l.getD i 0 = ci at *
      have ei : vw .i64 ci = ci := by unfold isI16 at h16i; rw [qw]; exact wrap_i64 (by omega) (by omega)
      have ej : vb .add .i64 ci 1 = ci + 1 := by unfold isI16 at h16i; rw [qb, add_i64 (by omega) (by omega)]
      rw [ei, ej]
      have hv : 0 ≤ ci + 1 ∧ ci + 1 ≤ 32768 := by unfold isI16 at h16i; omega
      generalize hvv : ci + 1 = v at *
      have ek : vb .add .i64 v tt = v + tt := by rw [qb, add_i64 (by omega) (by omega)]
      have ek2 : vw .u64 (v + tt) = v + tt := by rw [qw]; exact wrap_u64 (by omega) (by omega)
      have ek3 : vw .u64 v = v := by rw [qw]; exact wrap_u64 (by omega) (by omega)
      have hput1 := hput bs b c2 n2 v mb1 m2 (by omega) (by omega) hws (by omega)
      have hput2 := hput bs b c2 n2 v mb m2 (by omega) (by omega) hws (by omega)
      have hput3 := hput bs b c2 n2 (v + tt) mb m2 (by omega) (by omega) hws (by omega)
      generalize hvt : v + tt = vt at *
      generalize partsN ci = pc at *
      have el : vb .sub .i64 left pc = left - pc := by rw [qb, sub_i64 (by omega) (by omega)]
      have em : vb .add .i64 k 1 = k + 1 := by rw [qb, add_i64 (by omega) (by omega)]
      have en : vb .sub .i64 (k + 1) 1 = k := by rw [qb, sub_i64 (by omega) (by omega)]; omega
      generalize hk1 : k + 1 = k1 at *
      generalize hl2 : left - pc = left2 at *
      refine ⟨⟨by omega⟩, ⟨hinR⟩, ⟨by omega⟩, ⟨by omega⟩, ?_⟩
      generalize putV v mo = pv at *
      generalize hz : vc .lss v tt = z
      cases z
      rw [qc, lss_false] at hz
      rw [if_neg hz] at hpv
      cbv
      rw [ee, ee2, ef]
      refine ⟨⟨by simp only [nc] at *; omega⟩, ?_⟩
      generalize hz2 : vc .lss v q = z2
      cases z2
      rw [qc, lss_false] at hz2
      rw [if_neg hz2] at hpv
      cbv
      rw [ek, ek2]
      refine call_con (ρ := [(1, .z), (2, .z)]) hput3 ⟨by rfl, by rfl, by rfl, by cbv⟩ ?_
      rotate_left
      rw [qc, lss_true] at hz2
      rw [if_pos hz2] at hpv
      cbv
      rw [ek3]
      refine call_con (ρ := [(1, .z), (2, .z)]) hput2 ⟨by rfl, by rfl, by rfl, by cbv⟩ ?_
      rotate_left
      rw [qc, lss_true] at hz
      rw [if_pos hz] at hpv
      cbv
      rw [ee, ek3]
      refine call_con (ρ := [(1, .z), (2, .z)]) hput1 ⟨by rfl, by rfl, by rfl, by cbv⟩ ?_
      all_goals
        rintro v H R js2 ⟨rfl, b3, n3, m3, c3, hws3, rfl, rfl⟩
        rw [← hpv] at hws3
        clear hput1 hput2 hput3
        cbv
        rw [hti, hadd0, hvgd, hci]
        refine ⟨⟨hinR⟩, ⟨by omega⟩, ⟨by omega⟩, ?_⟩
        refine call_con (ρ := []) hpc ⟨by rfl, by rfl, by rfl, by cbv⟩ ?_
        rintro v H R js3 ⟨rfl, rfl, rfl⟩
        cbv
        rw [el, em, en, hti, hadd0, hvgd, hci]
        refine ⟨⟨hinR⟩, ⟨by omega⟩, ⟨by omega⟩, ?_⟩
        generalize hz3 : vc .neq ci 0 = z3
        cases z3
        rotate_left
        · rw [qc, neq_true] at hz3
          rw [if_neg hz3] at hbs
          cbv
          refine Cv.fold ([9, 10, 11, 12] ++ [27, 28, 29, 30, 31, 32, 33, 34, 35, 36, 37, 38, 39, 40, 41, 42, 43, 44, 45, 46, 47, 48, 49, 50, 51, 52, 53, 54, 55, 56, 57, 58, 59, 60, 61, 62, 63, 64, 65, 66, 67, 68, 69, 70, 71, 72, 73, 74, 75, 76, 77, 78, 79, 80, 81, 82, 83, 84, 85, 86, 87, 88, 89, 90, 91, 92, 93, 94, 95, 96, 97, 98, 99, 100, 101, 102, 103, 104, 105, 106, 107, 108, 109, 110]) 3 [2] (by exact Nat.le_refl _) (by exact Nat.le_of_ble_eq_true rfl) (by rfl) (by cbv) ?_
          intro js
          refine ⟨(_, _, _, _, _, _), ?_, js, rfl⟩
          simp only [nc] at *
          exact ⟨⟨i + 1, _, by omega, by omega, by omega, hws3, hbs⟩, by show n - k1.toNat < n - k.toNat; omega⟩
        rw [qc, neq_false] at hz3
        have hz3 : ci = 0 := Classical.not_not.1 hz3
        rw [if_pos hz3] at hbs
        have hpc0 := hp00 hz3
        have hil := hlasti hz3
        have hleft2 : left2 = pw - sumP (l.take (i + 1)) := by omega
        have hpart0 : partsN 0 = 0 := by decide
        have hsum0 : ∀ j, j < n → l.getD j 0 = 0 → sumP (l.take (j + 1)) = sumP (l.take j) := fun j hj h0 => by have := hsums j hj; rw [h0, hpart0] at this; omega
        clear ej ei ek ek2 ek3 ec ed ee ee2 ef eg eh ea eb hl1 hpc hz hlen hparts hpv hs1
        cbv
        refine loop_fam (α := Int × Int × List Int × Nat × Int × Nat) [90, 91, 92, 93, 94, 95, 96, 97, 98, 99, 100, 101, 102, 103, 104, 105, 106, 107, 108] [2]
          (fun (nn, k, b, n1, m1, c1) => [(12, .int .i64 nn), (8, .int .i64 k)])
          (fun (nn, k, b, n1, m1, c1) => [(1, .one 92 [.slice 2 .z 1 n1 c1, .int .i64 m1]), (2, .buf 5 .u8 b c1)])
          (fun (nn, k, b, n1, m1, c1) => ∃ (j : Nat) (bs : List Int), k = j ∧ i + 1 ≤ j ∧ j < n ∧ sumP (l.take j) = sumP (l.take (i + 1)) ∧ WS bs b n1 m1 ∧ ((nn = 3 ∧ bs ++ wgo (some 0) (l.drop j) left2 = W) ∨ (nn ≠ 3 ∧ bs ++ wgo none (l.drop j) left2 = W)))
          (fun (nn, k, b, n1, m1, c1) => 2 * (n - k.toNat) + (if nn = 3 then 1 else 0)) hw hm ?_ ?_
        · refine Cv.genAt [12] [] (Cv.fold [90, 91, 92, 93, 94, 95, 96, 97, 98, 99, 100, 101, 102, 103, 104, 105, 106, 107, 108] 3 [2] (by exact Nat.le_refl _) (by exact Nat.le_of_ble_eq_true rfl) (by rfl) (by cbv) ?_)
          intro js
          refine ⟨(_, _, _, _, _, _), ?_, js, rfl⟩
          simp only [nc] at *
          exact ⟨i + 1, _, by omega, by omega, by omega, rfl, hws3, .inl ⟨by trivial, hbs⟩⟩
        · rintro ⟨nn, k4, b4, n4, m4, c4⟩ js ⟨j, bs4, hk4, hij, hjn, hsj, hws4, hbs4⟩
          clear hws3 hbs hws
          have hbl4 : bs4.length ≤ 5000 := by
            rcases hbs4 with ⟨_, h⟩ | ⟨_, h⟩ <;> (have := congrArg List.length h; rw [List.length_append] at this; omega)
          cbv
          split
          rotate_left
          · rename_i hz4
            rw [qc, eql_false] at hz4
            have hbs5 := hbs4.resolve_left (fun h => hz4 h.1)
            cbv
            refine Cv.fold ([9, 10, 11, 12] ++ [27, 28, 29, 30, 31, 32, 33, 34, 35, 36, 37, 38, 39, 40, 41, 42, 43, 44, 45, 46, 47, 48, 49, 50, 51, 52, 53, 54, 55, 56, 57, 58, 59, 60, 61, 62, 63, 64, 65, 66, 67, 68, 69, 70, 71, 72, 73, 74, 75, 76, 77, 78, 79, 80, 81, 82, 83, 84, 85, 86, 87, 88, 89, 90, 91, 92, 93, 94, 95, 96, 97, 98, 99, 100, 101, 102, 103, 104, 105, 106, 107, 108, 109, 110]) 3 [2] (by exact Nat.le_refl _) (by exact Nat.le_of_ble_eq_true rfl) (by rfl) (by cbv) ?_
            intro js
            refine ⟨(_, _, _, _, _, _), ?_, js, rfl⟩
            simp only [nc] at *
            exact ⟨⟨j, _, hk4, by omega, by omega, hws4, hbs5.2⟩, by show n - k4.toNat < n - k.toNat; omega⟩
          · rename_i hz4
            rw [qc, eql_true] at hz4
            have hbs5 := (hbs4.resolve_right (fun h => h.1 hz4)).2
            cbv
            refine loop_fam (α := Int × Int) [92, 93, 94, 95, 96, 97, 98, 99, 100, 101, 102, 103, 104] [2]
              (fun (nn, k) => [(12, .int .i64 nn), (8, .int .i64 k)]) (fun _ => [])
              (fun (nn, k) => ∃ (c : Nat), k = (j + c : Nat) ∧ nn = c ∧ c ≤ 3 ∧ j + c < n ∧ sumP (l.take (j + c)) = sumP (l.take (i + 1)) ∧ bs4 ++ (if c = 3 then bitsN 3 2 ++ wgo (some 0) (l.drop (j + c)) left2 else wgo (some c) (l.drop (j + c)) left2) = W)
              (fun (nn, k) => 3 - nn.toNat) hw hm ?_ ?_
            · refine Cv.genAt [12] [] (Cv.fold [92, 93, 94, 95, 96, 97, 98, 99, 100, 101, 102, 103, 104] 3 [2] (by exact Nat.le_refl _) (by exact Nat.le_of_ble_eq_true rfl) (by rfl) (by cbv) ?_)
              intro js
              refine ⟨(_, _), ?_, js, rfl⟩
              simp only [nc] at *
              exact ⟨0, by omega, rfl, by omega, by omega, by rw [Nat.add_zero]; exact hsj, by rw [Nat.add_zero, if_neg (by omega)]; exact hbs5⟩
            · rintro ⟨n5, k5⟩ js ⟨c5, hk5, hn5, hc3, hjc, hsc, hbs6⟩
              have hto5 : vtoN k5 = j + c5 := by rw [hk5]; exact hto _
              have hin5 : 0 ≤ k5 ∧ k5 < (n : Int) := by simp only [nc] at *; omega
              have eo : vb .add .i64 k5 1 = ((j + (c5 + 1) : Nat) : Int) := by simp only [nc] at *; rw [qb, add_i64 (by omega) (by omega)]; omega
              have ep : vb .add .i64 n5 1 = ((c5 + 1 : Nat) : Int) := by simp only [nc] at *; rw [qb, add_i64 (by omega) (by omega)]; omega
              have eq2 : vw .u64 n5 = n5 := by simp only [nc] at *; rw [qw]; exact wrap_u64 (by omega) (by omega)
              have hputn := hput bs4 b4 c4 n4 n5 2 m4 (by simp only [nc] at *; omega) (by omega) hws4 (by omega)
              have hstep : c5 < 3 → l.getD (j + c5) 0 = 0 → bs4 ++ (if c5 + 1 = 3 then bitsN 3 2 ++ wgo (some 0) (l.drop (j + (c5 + 1))) left2 else wgo (some (c5 + 1)) (l.drop (j + (c5 + 1))) left2) = W ∧ j + (c5 + 1) < n ∧ sumP (l.take (j + (c5 + 1))) = sumP (l.take (i + 1)) := by
                intro h3 h0
                refine ⟨?_, hlast _ hjc h0, by rw [← Nat.add_assoc, hsum0 _ hjc h0, hsc]⟩
                rw [if_neg (by omega), hdrop _ hjc, h0, wgo, if_pos rfl] at hbs6
                by_cases h2 : c5 = 2
                · rw [if_pos (by omega)]
                  rw [if_pos h2] at hbs6
                  exact hbs6
                · rw [if_neg (by omega)]
                  rw [if_neg h2] at hbs6
                  exact hbs6
              have hend : c5 = 3 ∨ l.getD (j + c5) 0 ≠ 0 → (n5 = 3 ∧ (bs4 ++ bitsN n5 2) ++ wgo (some 0) (l.drop (j + c5)) left2 = W) ∨ (n5 ≠ 3 ∧ (bs4 ++ bitsN n5 2) ++ wgo none (l.drop (j + c5)) left2 = W) := by
                intro h
                by_cases h3 : c5 = 3
                · subst h3
                  rw [if_pos rfl, ← List.append_assoc] at hbs6
                  rw [hn5]
                  exact .inl ⟨rfl, hbs6⟩
                · have hne := h.resolve_left h3
                  refine .inr ⟨by simp only [nc] at *; omega, ?_⟩
                  rw [if_neg h3, hdrop _ hjc, wgo, if_neg hne] at hbs6
                  rw [List.append_assoc, hdrop _ hjc, wgo, if_neg hne, hn5]
                  exact hbs6
              cbv
              generalize hz5 : vc .lss n5 3 = z5
              cases z5
              · rw [qc, lss_false] at hz5
                have hc53 : c5 = 3 := by simp only [nc] at *; omega
                have hend := hend (.inl hc53)
                cbv
                rw [eq2]
                refine call_con (ρ := [(1, .z), (2, .z)]) hputn ⟨by rfl, by rfl, by rfl, by cbv⟩ ?_
                rintro v H R js6 ⟨rfl, b6, n6, m6, c6, hws6, rfl, rfl⟩
                cbv
                refine Cv.fold [90, 91, 92, 93, 94, 95, 96, 97, 98, 99, 100, 101, 102, 103, 104, 105, 106, 107, 108] 3 [2] (by exact Nat.le_refl _) (by exact Nat.le_of_ble_eq_true rfl) (by rfl) (by cbv) ?_
                intro js
                refine ⟨(_, _, _, _, _, _), ?_, js, rfl⟩
                refine ⟨⟨j + c5, _, hk5, by omega, hjc, hsc, hws6, hend⟩, ?_⟩
                show 2 * (n - k5.toNat) + (if n5 = 3 then 1 else 0) < 2 * (n - k4.toNat) + (if nn = 3 then 1 else 0)
                rw [if_pos hz4]
                simp only [nc] at *
                split <;> omega
              · rw [qc, lss_true] at hz5
                have hc53 : c5 < 3 := by simp only [nc] at *; omega
                cbv
                rw [hto5, hadd0, hvgd]
                refine ⟨⟨hin5⟩, ⟨by omega⟩, ⟨by omega⟩, ?_⟩
                generalize hz6 : vc .eql (l.getD (j + c5) 0) 0 = z6
                cases z6
                · rw [qc, eql_false] at hz6
                  have hend := hend (.inr hz6)
                  cbv
                  rw [eq2]
                  refine call_con (ρ := [(1, .z), (2, .z)]) hputn ⟨by rfl, by rfl, by rfl, by cbv⟩ ?_
                  rintro v H R js6 ⟨rfl, b6, n6, m6, c6, hws6, rfl, rfl⟩
                  cbv
                  refine Cv.fold [90, 91, 92, 93, 94, 95, 96, 97, 98, 99, 100, 101, 102, 103, 104, 105, 106, 107, 108] 3 [2] (by exact Nat.le_refl _) (by exact Nat.le_of_ble_eq_true rfl) (by rfl) (by cbv) ?_
                  intro js
                  refine ⟨(_, _, _, _, _, _), ?_, js, rfl⟩
                  refine ⟨⟨j + c5, _, hk5, by omega, hjc, hsc, hws6, hend⟩, ?_⟩
                  show 2 * (n - k5.toNat) + (if n5 = 3 then 1 else 0) < 2 * (n - k4.toNat) + (if nn = 3 then 1 else 0)
                  rw [if_pos hz4]
                  simp only [nc] at *
                  rw [if_neg (by omega)]
                  omega
                · rw [qc, eql_true] at hz6
                  obtain ⟨hs7, hj7, hs8⟩ := hstep hc53 hz6
                  cbv
                  rw [eo, ep]
                  refine Cv.fold [92, 93, 94, 95, 96, 97, 98, 99, 100, 101, 102, 103, 104] 3 [2] (by exact Nat.le_refl _) (by exact Nat.le_of_ble_eq_true rfl) (by rfl) (by cbv) ?_
                  intro js
                  refine ⟨(_, _), ?_, js, rfl⟩
                  refine ⟨⟨c5 + 1, rfl, rfl, hc53, hj7, hs8, hs7⟩, ?_⟩
                  show 3 - ((c5 + 1 : Nat) : Int).toNat < 3 - n5.toNat
                  simp only [nc] at *
                  omega
end Go.Proofs.Ytodobmkflimfkaa
