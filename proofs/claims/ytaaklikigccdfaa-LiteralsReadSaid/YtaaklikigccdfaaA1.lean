import Derived.Test.YtaaklikigccdfaaEC
import Derived.Test.YtaaklikigccdfaaCode
set_option linter.unusedVariables false
set_option linter.unusedSimpArgs false
/-
  Contracts of seat 1's functions, part 1: no reader, no writer.
-/
namespace Go.Proofs.Ytaaklikigccdfaa
open Go Go.Sx Go.Proofs
theorem hmix : Try.prog.follows .mixedOrders = true := by kernel_rfl
end Go.Proofs.Ytaaklikigccdfaa
/-
  Plain: bits in bytes.
-/
namespace Go.Proofs.Ytaaklikigccdfaa
open Go Go.Sx
/-- The numbers of these bits: eight a byte, the lowest first. -/
def bval (l : List Int) : Nat → Nat → Int
  | _, 0 => 0
  | i, n + 1 => bval l i n + l.getD (i + n) 0 * 2 ^ n
def pack (bs : List Int) : List Int := (List.range ((bs.length + 7) / 8)).map fun i => bval bs (8 * i) 8
def bitsN (x : Int) (n : Nat) : List Int := (List.range n).map fun k => x / 2 ^ k % 2
def isBit (b : Int) : Prop := b = 0 ∨ b = 1
theorem bval_bound (l : List Int) (h : ∀ b ∈ l, isBit b) (i : Nat) : ∀ n, 0 ≤ bval l i n ∧ bval l i n < 2 ^ n
  | 0 => by simp [bval]
  | n + 1 => by
    obtain ⟨h0, h1⟩ := bval_bound l h i n
    have hb : l.getD (i + n) 0 = 0 ∨ l.getD (i + n) 0 = 1 := by
      rw [List.getD_eq_getElem?_getD]
      cases hg : l[i + n]? with
      | none => left; rfl
      | some b => exact h b (List.mem_of_getElem? hg)
    have hp : (2 : Int) ^ (n + 1) = 2 ^ n + 2 ^ n := by rw [Int.pow_succ]; omega
    simp only [bval]
    rcases hb with hb | hb <;> rw [hb, hp] <;> constructor <;> omega
/-- The buffer, a byte more where it is full. -/
def room (bs : List Int) : List Int := if bs.length % 8 = 0 then pack bs ++ [0] else pack bs
end Go.Proofs.Ytaaklikigccdfaa
namespace Go.Proofs.Ytaaklikigccdfaa
open Go Go.Sx Go.Proofs
end Go.Proofs.Ytaaklikigccdfaa
namespace Go.Proofs.Ytaaklikigccdfaa
open Go Go.Sx Go.Proofs
/-- The bit of a number, 0 ahead of the first. -/
def bitAt (b : List Int) (k : Int) : Int := if 0 ≤ k then b.getD (k / 8).toNat 0 / 2 ^ (k % 8).toNat % 2 else 0
/-- n bits from p on, backwards, the first the highest. -/
def rd (b : List Int) (p : Int) : Nat → Int
  | 0 => 0
  | n + 1 => rd b p n * 2 + bitAt b (p - 1 - n)
def isByte (x : Int) : Prop := 0 ≤ x ∧ x < 256
theorem bitAt_bit (b : List Int) (k : Int) : 0 ≤ bitAt b k ∧ bitAt b k < 2 := by unfold bitAt; split <;> omega
theorem rd_bound (b : List Int) (p : Int) : ∀ n, 0 ≤ rd b p n ∧ rd b p n < 2 ^ n
  | 0 => by simp [rd]
  | n + 1 => by
    have h := rd_bound b p n
    have h2 := bitAt_bit b (p - 1 - n)
    have hp : (2 : Int) ^ (n + 1) = 2 ^ n * 2 := Int.pow_succ _ _
    simp only [rd]
    omega
theorem pow_le_56 {n : Nat} (h : n ≤ 56) : (2 : Int) ^ n ≤ 72057594037927936 := by
  have : (2 : Int) ^ n ≤ 2 ^ 56 := by exact_mod_cast Nat.pow_le_pow_right (by decide) h
  exact this
theorem or_comm_u {k : IntKind} (h : k.signed = false) {x y : Int} : bV .or k x y = bV .or k y x := by
  show k.wrap _ = k.wrap _
  rw [BitVec.or_comm]
/-- How many are read for n. -/
def clampN (n : Int) : Nat := (if (if 0 > n then 0 else n) > 56 then 56 else (if 0 > n then 0 else n)).toNat
theorem clampN_le (n : Int) : clampN n ≤ 56 := by unfold clampN; split <;> split <;> omega
def floorP (p : Int) : Int := if p < -1099511627776 then -1099511627776 else p
set_option maxHeartbeats 2000000 in
theorem bits_con (b : List Int) (cap : Nat) (p n : Int) (hb : ∀ x ∈ b, isByte x) (hp : -1099511627776 ≤ p ∧ p ≤ 8 * b.length) (hl : b.length ≤ 2 ^ 48) :
    Con Try.prog 41 [.ptr 0 .z 2 0, .int .i64 n] [.one 140 [.slice 1 .z 1 b.length cap, .int .i64 p], .ro .u8 b]
      (fun v H R => v = .int .u64 (rd b p (clampN n)) ∧ R = [] ∧ H = [.one 140 [.slice 1 .z 1 b.length cap, .int .i64 (floorP (p - clampN n))], .ro .u8 b]) := by
  refine con_gen (con_cut 2 (by simp) (con_red [] (con_walk hmix fn41 ?_)))
  intro vb vc vw vtoN vofN vaddN vsubN vmaxI vminI vcutN vgd vst vln vrep vsub vonto vsplice vstrEq vbyteV vnotB veqB hw qb qc qw qtoN qofN qaddN qsubN qmaxI qminI qcutN qgd qst qln qrep qsub qonto qsplice qstrEq qbyteV qnotB qeqB
  have hm := hmix
  generalize Try.prog = P at *
  generalize hlen : b.length = len at *
  generalize hF : floorP (p - clampN n) = F
  generalize hV : rd b p (clampN n) = V
  cbv
  have hN : vminI (vmaxI n 0) 56 = (clampN n : Nat) := by rw [qmaxI, qminI]; unfold clampN; simp only [nc]; split <;> split <;> omega
  have hN56 := clampN_le n
  generalize clampN n = N at *
  rw [hN]
  generalize hNN : ((N : Nat) : Int) = N0 at *
  refine loop_fam (α := Int × Int) [6, 7, 15, 16, 17, 18, 19, 20, 21, 22, 23, 24, 25, 26, 27, 28, 29, 30, 31, 32, 33, 34, 35, 36, 37, 38, 39, 40, 41, 42, 43, 44, 45] []
    (fun (x, k) => [(5, .int .u64 x), (14, .int .i64 k)]) (fun (x, k) => [])
    (fun (x, k) => ∃ i : Nat, k = i ∧ i ≤ N ∧ x = rd b p i) (fun (x, k) => N - k.toNat) hw hm ?_ ?_
  · refine Cv.genAt [5, 14] [] (Cv.fold [6, 7, 15, 16, 17, 18, 19, 20, 21, 22, 23, 24, 25, 26, 27, 28, 29, 30, 31, 32, 33, 34, 35, 36, 37, 38, 39, 40, 41, 42, 43, 44, 45] 2 [] (by exact Nat.le_refl _) (by exact Nat.le_refl _) (by rfl) (by cbv) ?_)
    intro js
    refine ⟨(_, _), ?_, js, rfl⟩
    exact ⟨0, rfl, by omega, rfl⟩
  · rintro ⟨x, k⟩ js ⟨i, hk, hi, hx⟩
    cbv
    have hx2 := rd_bound b p i
    split
    · rename_i hlt
      have hlt : i < N := by rw [qc, lss_true] at hlt; simp only [nc] at *; omega
      have hpk : vb .sub .i64 (vb .sub .i64 p 1) k = p - 1 - i := by
        simp only [nc] at *
        rw [qb, sub_i64 (x := p) (by omega) (by omega), sub_i64 (by omega) (by omega), hk]
      have hk1 : vb .add .i64 k 1 = ((i + 1 : Nat) : Int) := by simp only [nc] at *; rw [qb, add_i64 (by omega) (by omega)]; omega
      have hp56 := pow_le_56 (show i ≤ 56 by omega)
      have hshl : vb .shl .u64 x 1 = rd b p i * 2 := by
        rw [qb, hx, shl_u rfl hx2.1 (by decide) (by show _ * (2 : Int) ^ 1 < 2 ^ 64; omega)]; rfl
      cbv
      split
      · rename_i hge
        have hge : 0 ≤ p - 1 - (i : Int) := by rw [qc, hpk, geq_true] at hge; simp only [nc] at *; exact hge
        have hbit : bitAt b (p - 1 - i) = b.getD ((p - 1 - i) / 8).toNat 0 / 2 ^ ((p - 1 - i) % 8).toNat % 2 := by unfold bitAt; rw [if_pos hge]
        generalize hz : p - 1 - (i : Int) = z at *
        have hz8 : vb .quo .i64 z 8 = z / 8 := by simp only [nc] at *; rw [qb, quo_i64 (by omega) (by omega) (by omega)]
        have hr8 : vb .rem .i64 z 8 = z % 8 := by simp only [nc] at *; rw [qb, rem_i64 (by omega)]
        have hw8 : vw .u64 (z % 8) = z % 8 := by simp only [nc] at *; rw [qw]; exact wrap_u64 (by omega) (by omega)
        have hin : 0 ≤ vb .quo .i64 z 8 ∧ vb .quo .i64 z 8 < len := by rw [hz8]; simp only [nc] at *; omega
        have hlt2 : vtoN (vb .quo .i64 z 8) < vln b := by rw [hz8, qtoN, qln]; simp only [nc] at *; omega
        have hlt3 : vaddN 0 (vtoN (vb .quo .i64 z 8)) < vln b := by rw [qaddN]; simpa using hlt2
        have hnn : 0 ≤ vw .u64 (vb .rem .i64 z 8) := by rw [hr8, hw8]; omega
        have hval : vb .or .u64 (vb .shl .u64 x 1) (vb .and .u64 (vw .u64 (vb .shr .u8 (vgd b (vtoN (vb .quo .i64 z 8))) (vw .u64 (vb .rem .i64 z 8)))) 1) = rd b p (i + 1) := by
          rw [hshl, hr8, hw8, hz8, qb, shr_eq (by show z % 8 ≤ ((8 : Nat) : Int); omega), qgd, qtoN, qw]
          show bV .or .u64 (rd b p i * 2) (bV .and .u64 (IntKind.u64.wrap (b.getD (z / 8).toNat 0 / 2 ^ (z % 8).toNat)) 1) = _
          have hbyte : isByte (b.getD (z / 8).toNat 0) := by
            rw [List.getD_eq_getElem?_getD]
            cases hg : b[(z / 8).toNat]? with
            | none => exact ⟨by simp, by simp⟩
            | some y => exact hb y (List.mem_of_getElem? hg)
          generalize b.getD (z / 8).toNat 0 = y at *
          have h1 : 0 ≤ y / 2 ^ (z % 8).toNat := Int.ediv_nonneg hbyte.1 (Int.le_of_lt (Int.pow_pos (by decide)))
          have h2 : y / 2 ^ (z % 8).toNat ≤ y := Int.ediv_le_self _ hbyte.1
          have h3 := hbyte.2
          rw [wrap_u64 h1 (by omega), and_one rfl h1 (by show _ < (2 : Int) ^ 64; omega)]
          have e : rd b p (i + 1) = rd b p i * 2 + y / 2 ^ (z % 8).toNat % 2 := by rw [rd, hz, hbit]
          rw [e]
          have h4 : 0 ≤ y / 2 ^ (z % 8).toNat % 2 ∧ y / 2 ^ (z % 8).toNat % 2 < 2 := by omega
          generalize y / 2 ^ (z % 8).toNat % 2 = t at *
          have := or_add (k := .u64) rfl (x := t) (b := rd b p i) 1 h4.1 (by omega) hx2.1 (by show _ < (2 : Int) ^ 64; omega)
          rw [or_comm_u rfl]
          simpa [Int.add_comm] using this
        cbv
        rw [hpk]
        refine ⟨⟨hin⟩, ⟨hlt3⟩, ⟨hlt2⟩, ⟨hnn⟩, ?_⟩
        refine Cv.genAt [5, 14] [] (Cv.fold [6, 7, 15, 16, 17, 18, 19, 20, 21, 22, 23, 24, 25, 26, 27, 28, 29, 30, 31, 32, 33, 34, 35, 36, 37, 38, 39, 40, 41, 42, 43, 44, 45] 2 [] (by exact Nat.le_refl _) (by exact Nat.le_refl _) (by rfl) (by cbv) ?_)
        intro js
        refine ⟨(_, _), ?_, js, rfl⟩
        exact ⟨⟨i + 1, hk1, hlt, hval⟩, by show N - (vb .add .i64 k 1).toNat < N - k.toNat; rw [hk1, hk]; simp only [nc] at *; omega⟩
      · rename_i hge
        have hge : ¬ 0 ≤ p - 1 - (i : Int) := by rw [qc, hpk, geq_false] at hge; simp only [nc] at *; exact hge
        have hbit : bitAt b (p - 1 - i) = 0 := by unfold bitAt; rw [if_neg hge]
        have hval : vb .shl .u64 x 1 = rd b p (i + 1) := by rw [hshl, rd, hbit]; omega
        cbv
        refine Cv.genAt [5, 14] [] (Cv.fold [6, 7, 15, 16, 17, 18, 19, 20, 21, 22, 23, 24, 25, 26, 27, 28, 29, 30, 31, 32, 33, 34, 35, 36, 37, 38, 39, 40, 41, 42, 43, 44, 45] 2 [] (by exact Nat.le_refl _) (by exact Nat.le_refl _) (by rfl) (by cbv) ?_)
        intro js
        refine ⟨(_, _), ?_, js, rfl⟩
        exact ⟨⟨i + 1, hk1, hlt, hval⟩, by show N - (vb .add .i64 k 1).toNat < N - k.toNat; rw [hk1, hk]; simp only [nc] at *; omega⟩
    · rename_i hge
      have hin : i = N := by rw [qc, lss_false] at hge; simp only [nc] at *; omega
      subst hin
      have hs : vb .sub .i64 p N0 = p - N0 := by simp only [nc] at *; rw [qb, sub_i64 (by omega) (by omega)]
      cbv
      split
      · rename_i hf
        have hf : floorP (p - N0) = -1099511627776 := by rw [qc, hs, lss_true] at hf; unfold floorP; rw [if_pos hf]
        cbv
        refine ⟨?_, ?_⟩ <;> simp only [hx, hV, show F = -1099511627776 by rw [← hF, ← hf, ← hNN]]
      · rename_i hf
        have hf : floorP (p - N0) = p - N0 := by rw [qc, hs, lss_false] at hf; unfold floorP; rw [if_neg hf]
        cbv
        refine ⟨?_, ?_⟩ <;> simp only [hx, hV, hs, show F = p - N0 by rw [← hF, ← hf, ← hNN]]
end Go.Proofs.Ytaaklikigccdfaa
namespace Go.Proofs.Ytaaklikigccdfaa
open Go Go.Sx Go.Proofs
theorem view_refl (l : List Int) : View 0 l l := ⟨⟨by omega, fun i _ => by rw [Nat.zero_add]⟩⟩
theorem left_con (b : List Int) (len cap : Nat) (p : Int) : Con Try.prog 42 [.ptr 0 .z 2 0] [.one 140 [.slice 1 .z 1 len cap, .int .i64 p], .ro .u8 b]
      (fun v H R => v = .int .i64 p ∧ R = [] ∧ H = [.one 140 [.slice 1 .z 1 len cap, .int .i64 p], .ro .u8 b]) := by
  refine con_walk hmix fn42 ?_
  intro vb vc vw vtoN vofN vaddN vsubN vmaxI vminI vcutN vgd vst vln vrep vsub vonto vsplice vstrEq vbyteV vnotB veqB hw qb qc qw qtoN qofN qaddN qsubN qmaxI qminI qcutN qgd qst qln qrep qsub qonto qsplice qstrEq qbyteV qnotB qeqB
  generalize Try.prog = P at *
  cbv
def len8 (x : Int) : Int := if x < 1 then 0 else if x < 2 then 1 else if x < 4 then 2 else if x < 8 then 3 else if x < 16 then 4 else if x < 32 then 5 else if x < 64 then 6 else if x < 128 then 7 else 8
def lenTab : List Int := [0, 1, 2, 2, 3, 3, 3, 3, 4, 4, 4, 4, 4, 4, 4, 4, 5, 5, 5, 5, 5, 5, 5, 5, 5, 5, 5, 5, 5, 5, 5, 5, 6, 6, 6, 6, 6, 6, 6, 6, 6, 6, 6, 6, 6, 6, 6, 6, 6, 6, 6, 6, 6, 6, 6, 6, 6, 6, 6, 6, 6, 6, 6, 6, 7, 7, 7, 7, 7, 7, 7, 7, 7, 7, 7, 7, 7, 7, 7, 7, 7, 7, 7, 7, 7, 7, 7, 7, 7, 7, 7, 7, 7, 7, 7, 7, 7, 7, 7, 7, 7, 7, 7, 7, 7, 7, 7, 7, 7, 7, 7, 7, 7, 7, 7, 7, 7, 7, 7, 7, 7, 7, 7, 7, 7, 7, 7, 7, 8, 8, 8, 8, 8, 8, 8, 8, 8, 8, 8, 8, 8, 8, 8, 8, 8, 8, 8, 8, 8, 8, 8, 8, 8, 8, 8, 8, 8, 8, 8, 8, 8, 8, 8, 8, 8, 8, 8, 8, 8, 8, 8, 8, 8, 8, 8, 8, 8, 8, 8, 8, 8, 8, 8, 8, 8, 8, 8, 8, 8, 8, 8, 8, 8, 8, 8, 8, 8, 8, 8, 8, 8, 8, 8, 8, 8, 8, 8, 8, 8, 8, 8, 8, 8, 8, 8, 8, 8, 8, 8, 8, 8, 8, 8, 8, 8, 8, 8, 8, 8, 8, 8, 8, 8, 8, 8, 8, 8, 8, 8, 8, 8, 8, 8, 8, 8, 8, 8, 8, 8, 8, 8, 8, 8, 8, 8, 8]
set_option maxRecDepth 100000 in
theorem lenTab_eq (n : Fin 256) : IntKind.i64.wrap (((UInt8.ofNat (lenTab.getD n.val 0).toNat).toNat : Nat) : Int) = len8 (n.val : Int) := by
  revert n
  decide +kernel
set_option maxRecDepth 100000 in
theorem len8_con (x : Int) (hx : isByte x) : Con Try.prog 66 [.int .u8 x] [] (fun v H R => v = .int .i64 (len8 x) ∧ H = [] ∧ R = []) := by
  obtain ⟨n, rfl⟩ : ∃ n : Nat, x = n := ⟨x.toNat, by have := hx.1; omega⟩
  have hn : n < 256 := by have := hx.2; omega
  have hL := lenTab_eq ⟨n, hn⟩
  refine con_walk hmix fn66 ?_
  intro vb vc vw vtoN vofN vaddN vsubN vmaxI vminI vcutN vgd vst vln vrep vsub vonto vsplice vstrEq vbyteV vnotB veqB hw qb qc qw qtoN qofN qaddN qsubN qmaxI qminI qcutN qgd qst qln qrep qsub qonto qsplice qstrEq qbyteV qnotB qeqB
  generalize Try.prog = P at *
  generalize len8 (n : Int) = L at *
  generalize hnn : (n : Int) = x at *
  have hx35 : x66 = (.seq (.ops [⟨(some 2), .mv (.k (.lit .i64 0)), none, []⟩])
    (.seq (.ops [⟨(some 3), .mv (.t 0), none, []⟩,
      ⟨(some 4), .idxS (.k (.str lenTab)) (.t 3), none, []⟩,
      ⟨(some 5), .conv .i64 (.t 4), none, []⟩,
      ⟨(some 2), .mv (.t 5), none, []⟩])
    (.ret))) := rfl
  rw [hx35]
  have hl : lenTab.length = 256 := by rfl
  generalize lenTab = T at *
  cbv
  refine ⟨⟨?_⟩, ?_⟩
  · simp only [qln, hl]; simp only [nc] at *; omega
  · rw [qw, qbyteV, qgd, qtoN]
    subst hnn
    exact ⟨congrArg (SV.int .i64) hL, trivial⟩
theorem getLastD_eq (b : List Int) : b.getLastD 0 = b.getD (b.length - 1) 0 := by
  rw [List.getLastD_eq_getLast?, List.getLast?_eq_getElem?, List.getD_eq_getElem?_getD]
theorem new_bad (b : List Int) (cap : Nat) (hb : b.getLastD 0 = 0) (hl : b.length ≤ 2 ^ 48) : Con Try.prog 40 [.slice 0 .z 1 b.length cap] [.ro .u8 b] (fun v H R => v = .tup [.val (.pointer none), .lit .i64 11] ∧ H = [.ro .u8 b] ∧ R = []) := by
  refine con_cut 1 (by simp) (con_red [] (con_walk hmix fn40 ?_))
  intro vb vc vw vtoN vofN vaddN vsubN vmaxI vminI vcutN vgd vst vln vrep vsub vonto vsplice vstrEq vbyteV vnotB veqB hw qb qc qw qtoN qofN qaddN qsubN qmaxI qminI qcutN qgd qst qln qrep qsub qonto qsplice qstrEq qbyteV qnotB qeqB
  generalize Try.prog = P at *
  rw [getLastD_eq] at hb
  generalize hlen : b.length = len at *
  cbv
  generalize h0 : vc .eql (vofN len) 0 = z0
  cases z0
  rotate_left
  · cbv
  · have h0 : 1 ≤ len := by rw [qc, qofN, eql_false] at h0; simp only [nc] at *; omega
    have hsub : vb .sub .i64 (vofN len) 1 = len - 1 := by rw [qb, qofN]; simp only [nc] at *; rw [sub_i64 (by omega) (by omega)]
    have hin : 0 ≤ vb .sub .i64 (vofN len) 1 ∧ vb .sub .i64 (vofN len) 1 < len := by rw [hsub]; simp only [nc] at *; omega
    have hi : vtoN (vb .sub .i64 (vofN len) 1) = len - 1 := by rw [hsub, qtoN]; simp only [nc] at *; omega
    have hlt2 : vtoN (vb .sub .i64 (vofN len) 1) < vln b := by rw [hi, qln]; simp only [nc] at *; omega
    have hlt3 : vaddN 0 (vtoN (vb .sub .i64 (vofN len) 1)) < vln b := by rw [qaddN]; simpa using hlt2
    cbv
    refine ⟨⟨hin⟩, ⟨hlt3⟩, ⟨hlt2⟩, ?_⟩
    have hz : vc .eql (vgd b (vtoN (vb .sub .i64 (vofN len) 1))) 0 = true := by rw [hi, qgd, qc, eql_true]; exact hb
    rw [hz]
    cbv
theorem new_good (b : List Int) (cap : Nat) (hb : b.getLastD 0 ≠ 0) (hby : ∀ x ∈ b, isByte x) (hl : b.length ≤ 140737488355328) : Con Try.prog 40 [.slice 0 .z 1 b.length cap] [.ro .u8 b]
    (fun v H R => v = .tup [.ptr 2 .z 2 0, .lit .i64 0] ∧ R = [1] ∧ ∃ c', H = [.ro .u8 b, .buf 5 .u8 b c', .one 140 [.slice 1 .z 1 b.length c', .int .i64 (8 * (b.length - 1) + (len8 (b.getLastD 0) - 1))]]) := by
  have hbyte : isByte (b.getLastD 0) := by
    rw [getLastD_eq, List.getD_eq_getElem?_getD]
    cases hg : b[b.length - 1]? with
    | none => exact ⟨by simp, by simp⟩
    | some y => exact hby y (List.mem_of_getElem? hg)
  have hlen8 := len8_con (b.getLastD 0) hbyte
  have hL8 : 0 ≤ len8 (b.getLastD 0) ∧ len8 (b.getLastD 0) ≤ 8 := by unfold len8; (repeat' split) <;> omega
  refine con_cut 3 (by simp) (con_red [1] (con_walk hmix fn40 ?_))
  intro vb vc vw vtoN vofN vaddN vsubN vmaxI vminI vcutN vgd vst vln vrep vsub vonto vsplice vstrEq vbyteV vnotB veqB hw qb qc qw qtoN qofN qaddN qsubN qmaxI qminI qcutN qgd qst qln qrep qsub qonto qsplice qstrEq qbyteV qnotB qeqB
  generalize Try.prog = P at *
  generalize len8 (b.getLastD 0) = L at *
  generalize hF : (8 * ((b.length : Int) - 1) + (L - 1)) = F
  rw [getLastD_eq] at *
  have h0 : 1 ≤ b.length := by
    rcases b with _ | ⟨x, b⟩
    · exact absurd rfl hb
    · simp
  generalize hlen : b.length = len at *
  generalize hlast : b.getD (len - 1) 0 = last at *
  cbv
  have e0 : vc .eql (vofN len) 0 = false := by rw [qc, qofN, eql_false]; simp only [nc] at *; omega
  rw [e0]
  have hsub : vb .sub .i64 (vofN len) 1 = len - 1 := by rw [qb, qofN]; simp only [nc] at *; rw [sub_i64 (by omega) (by omega)]
  have hin : 0 ≤ vb .sub .i64 (vofN len) 1 ∧ vb .sub .i64 (vofN len) 1 < len := by rw [hsub]; simp only [nc] at *; omega
  have hi : vtoN (vb .sub .i64 (vofN len) 1) = len - 1 := by rw [hsub, qtoN]; simp only [nc] at *; omega
  have hlt2 : vtoN (vb .sub .i64 (vofN len) 1) < vln b := by rw [hi, qln]; simp only [nc] at *; omega
  have hlt3 : vaddN 0 (vtoN (vb .sub .i64 (vofN len) 1)) < vln b := by rw [qaddN]; simpa using hlt2
  have hval : vgd b (vtoN (vb .sub .i64 (vofN len) 1)) = last := by rw [hi, qgd]; exact hlast
  have hz : vc .eql (vgd b (vtoN (vb .sub .i64 (vofN len) 1))) 0 = false := by rw [hval, qc, eql_false]; exact hb
  cbv
  refine ⟨⟨hin⟩, ⟨hlt3⟩, ⟨hlt2⟩, ?_⟩
  rw [hz]
  cbv
  refine ⟨⟨hin⟩, ⟨hlt3⟩, ⟨hlt2⟩, ?_⟩
  rw [hval]
  refine call_con (ρ := []) hlen8 ⟨by rfl, by rfl, by rfl, by cbv⟩ ?_
  rintro v H R js ⟨rfl, rfl, rfl⟩
  cbv
  have ha : vaddN 0 len = len := by simp only [qaddN, Nat.zero_add]
  have hpay : vonto [] 0 (vsub b 0 len) = b := by simp only [qonto, qsub]; simp [← hlen]
  have hpos : vb .add .i64 (vb .mul .i64 8 (vb .sub .i64 (vofN len) 1)) (vb .sub .i64 L 1) = F := by
    rw [hsub, ← hF]; simp only [nc] at *
    rw [qb, mul_i64 (by omega) (by omega), sub_i64 (x := L) (by omega) (by omega), add_i64 (by omega) (by omega)]
  refine ⟨⟨?_⟩, ⟨?_⟩, ⟨?_⟩, ⟨?_⟩, ?_⟩
  · rw [ha, qln]; exact Nat.le_of_eq hlen.symm
  · exact Nat.zero_le _
  · exact Nat.zero_le _
  · rw [ha]; omega
  intro c1 js1 hle
  cbv
  rw [ha, hpay, hpos]
  exact ⟨c1, rfl⟩
end Go.Proofs.Ytaaklikigccdfaa
/-
  Plain: what is put and marked is read backwards.
-/
namespace Go.Proofs.Ytaaklikigccdfaa
open Go Go.Sx
end Go.Proofs.Ytaaklikigccdfaa
namespace Go.Proofs.Ytaaklikigccdfaa
open Go Go.Sx Go.Proofs
end Go.Proofs.Ytaaklikigccdfaa
/-
  Plain: bytes filled bit by bit.
-/
namespace Go.Proofs.Ytaaklikigccdfaa
open Go Go.Sx
theorem take_snoc {l : List Int} {i : Nat} (h : i < l.length) : l.take (i + 1) = l.take i ++ [l.getD i 0] := by
  rw [List.take_succ_eq_append_getElem h]
  simp [List.getD_eq_getElem?_getD, h]
end Go.Proofs.Ytaaklikigccdfaa
namespace Go.Proofs.Ytaaklikigccdfaa
open Go Go.Sx Go.Proofs
/-- The first k bits of bytes. -/
def bitsOf (b : List Int) (k : Nat) : List Int := (List.range k).map fun (i : Nat) => bitAt b (i : Int)
theorem bitsOf_length (b : List Int) (k : Nat) : (bitsOf b k).length = k := by simp [bitsOf]
theorem bitsOf_get (b : List Int) (k i : Nat) (h : i < k) : (bitsOf b k).getD i 0 = bitAt b i := by simp [bitsOf, List.getD_eq_getElem?_getD, h]
theorem bitsOf_succ (b : List Int) (k : Nat) : bitsOf b (k + 1) = bitsOf b k ++ [bitAt b k] := by simp [bitsOf, List.range_succ]
/-- Where the mark is. -/
def markAt (b : List Int) : Int := 8 * ((b.length : Int) - 1) + (len8 (b.getLastD 0) - 1)
theorem mark_byte {x : Int} (h0 : 0 < x) (h1 : x < 256) : 1 ≤ len8 x ∧ len8 x ≤ 8 ∧ x / 2 ^ (len8 x - 1).toNat % 2 = 1 ∧ ∀ j : Nat, len8 x ≤ j → x / 2 ^ j = 0 := by
  have hlt : x < 2 ^ (len8 x).toNat := by unfold len8; (repeat' split) <;> first | omega | (simp; omega)
  have h8 : 1 ≤ len8 x ∧ len8 x ≤ 8 := by unfold len8; (repeat' split) <;> omega
  refine ⟨h8.1, h8.2, ?_, fun j hj => ?_⟩
  · unfold len8
    (repeat' split) <;> simp <;> omega
  · have hp : (2 : Int) ^ (len8 x).toNat ≤ 2 ^ j := by exact_mod_cast Nat.pow_le_pow_right (by decide) (by omega)
    exact Int.ediv_eq_zero_of_lt (by omega) (by omega)
theorem markAt_spec (b : List Int) (hb : b.getLastD 0 ≠ 0) (hby : ∀ x ∈ b, isByte x) : ∃ P : Nat, markAt b = P ∧ P < 8 * b.length ∧ bitAt b P = 1 ∧ ∀ k : Nat, P < k → k < 8 * b.length → bitAt b k = 0 := by
  have hbyte : isByte (b.getLastD 0) := by
    rw [getLastD_eq, List.getD_eq_getElem?_getD]
    cases hg : b[b.length - 1]? with
    | none => exact ⟨by simp, by simp⟩
    | some y => exact hby y (List.mem_of_getElem? hg)
  have h0 : 1 ≤ b.length := by
    rcases b with _ | ⟨x, b⟩
    · exact absurd rfl hb
    · simp
  obtain ⟨h1, h2, h3, h4⟩ := mark_byte (x := b.getLastD 0) (by have := hbyte.1; omega) hbyte.2
  have hlast := getLastD_eq b
  unfold markAt
  generalize b.getLastD 0 = x at *
  refine ⟨8 * (b.length - 1) + (len8 x - 1).toNat, by omega, by omega, ?_, fun k hk1 hk2 => ?_⟩
  · unfold bitAt
    rw [if_pos (by omega)]
    have e1 : ((((8 * (b.length - 1) + (len8 x - 1).toNat : Nat)) : Int) / 8).toNat = b.length - 1 := by omega
    have e2 : ((((8 * (b.length - 1) + (len8 x - 1).toNat : Nat)) : Int) % 8).toNat = (len8 x - 1).toNat := by omega
    rw [e1, e2, ← hlast]
    exact h3
  · unfold bitAt
    rw [if_pos (by omega)]
    have e1 : ((k : Int) / 8).toNat = b.length - 1 := by omega
    rw [e1, ← hlast, h4 _ (by omega)]
    rfl
theorem byte_bit {b : List Int} (hby : ∀ x ∈ b, isByte x) (i : Nat) : isByte (b.getD i 0) := by
  rw [List.getD_eq_getElem?_getD]
  cases hg : b[i]? with
  | none => exact ⟨by simp, by simp⟩
  | some y => exact hby y (List.mem_of_getElem? hg)
end Go.Proofs.Ytaaklikigccdfaa
/-
  Plain: bits of bytes, the lowest first.
-/
namespace Go.Proofs.Ytaaklikigccdfaa
open Go Go.Sx
theorem bval_split (l : List Int) (i n : Nat) : ∀ m, bval l i (n + m) = bval l i n + bval l (i + n) m * 2 ^ n
  | 0 => by simp [bval]
  | m + 1 => by
    rw [show n + (m + 1) = (n + m) + 1 from rfl]
    simp only [bval]
    rw [bval_split l i n m, Int.pow_add, Int.add_mul, Nat.add_assoc]
    have : l.getD (i + (n + m)) 0 * (2 ^ n * 2 ^ m) = l.getD (i + (n + m)) 0 * 2 ^ m * 2 ^ n := by rw [Int.mul_comm (2 ^ n), Int.mul_assoc]
    omega
/-- All bits of bytes. -/
def bitL (b : List Int) : List Int := bitsOf b (8 * b.length)
theorem bitL_bit (b : List Int) : ∀ x ∈ bitL b, isBit x := by
  intro x hx
  obtain ⟨i, _, rfl⟩ := List.mem_map.1 hx
  have := bitAt_bit b (i : Int)
  unfold isBit
  omega
theorem bitL_get (b : List Int) (i : Nat) (h : i < 8 * b.length) : (bitL b).getD i 0 = bitAt b i := bitsOf_get b _ i h
theorem byte_bits {x : Int} (h : isByte x) : x / 2 ^ 0 % 2 * 2 ^ 0 + x / 2 ^ 1 % 2 * 2 ^ 1 + x / 2 ^ 2 % 2 * 2 ^ 2 + x / 2 ^ 3 % 2 * 2 ^ 3 + x / 2 ^ 4 % 2 * 2 ^ 4 + x / 2 ^ 5 % 2 * 2 ^ 5 + x / 2 ^ 6 % 2 * 2 ^ 6 + x / 2 ^ 7 % 2 * 2 ^ 7 = x := by
  obtain ⟨h0, h1⟩ := h
  simp only [Int.reducePow]
  omega
theorem bitL_byte (b : List Int) (hby : ∀ x ∈ b, isByte x) (i : Nat) (h : i < b.length) : bval (bitL b) (8 * i) 8 = b.getD i 0 := by
  have hg : ∀ j : Nat, j < 8 → (bitL b).getD (8 * i + j) 0 = b.getD i 0 / 2 ^ j % 2 := fun j hj => by
    rw [bitL_get b _ (by omega)]
    unfold bitAt
    rw [if_pos (by omega)]
    have e1 : (((8 * i + j : Nat) : Int) / 8).toNat = i := by omega
    have e2 : (((8 * i + j : Nat) : Int) % 8).toNat = j := by omega
    rw [e1, e2]
  have hb := byte_bits (byte_bit hby i)
  simp only [bval]
  rw [hg 0 (by omega), hg 1 (by omega), hg 2 (by omega), hg 3 (by omega), hg 4 (by omega), hg 5 (by omega), hg 6 (by omega), hg 7 (by omega)]
  rw [Int.zero_add]
  exact hb
theorem bval_mod (l : List Int) (h : ∀ b ∈ l, isBit b) (i n m : Nat) : bval l i (n + m) % 2 ^ n = bval l i n ∧ bval l i (n + m) / 2 ^ n = bval l (i + n) m := by
  have hb := bval_bound l h i n
  have hp : (0 : Int) < 2 ^ n := Int.pow_pos (by decide)
  rw [bval_split]
  constructor
  · rw [Int.add_mul_emod_self_right]
    exact Int.emod_eq_of_lt hb.1 hb.2
  · rw [Int.add_mul_ediv_right _ _ (by omega), Int.ediv_eq_zero_of_lt hb.1 hb.2]
    omega
end Go.Proofs.Ytaaklikigccdfaa
namespace Go.Proofs.Ytaaklikigccdfaa
open Go Go.Sx Go.Proofs
theorem next_ok (b : List Int) (at' cap : Nat) (h : at' < b.length) (hl : b.length ≤ 2 ^ 60) :
    Con Try.prog 91 [.ptr 0 .z 1 0, .ptr 1 .z 1 0] [.one 3 [.int .i64 at'], .one 22 [.slice 2 .z 1 b.length cap], .ro .u8 b]
      (fun v H R => v = .tup [.int .u8 (b.getD at' 0), .bool true] ∧ R = [] ∧ H = [.one 3 [.int .i64 ((at' + 1 : Nat) : Int)], .one 22 [.slice 2 .z 1 b.length cap], .ro .u8 b]) := by
  refine con_walk hmix fn91 ?_
  intro vb vc vw vtoN vofN vaddN vsubN vmaxI vminI vcutN vgd vst vln vrep vsub vonto vsplice vstrEq vbyteV vnotB veqB hw qb qc qw qtoN qofN qaddN qsubN qmaxI qminI qcutN qgd qst qln qrep qsub qonto qsplice qstrEq qbyteV qnotB qeqB
  generalize Try.prog = P at *
  generalize hlen : b.length = len at *
  generalize hv : b.getD at' 0 = v0
  generalize ha1 : ((at' + 1 : Nat) : Int) = a1
  generalize ha : ((at' : Nat) : Int) = a0
  cbv
  have e1 : vc .geq a0 (vofN len) = false := by simp only [qc, qofN]; rw [geq_false]; simp only [nc] at *; omega
  have e2 : vb .add .i64 a0 1 = a1 := by simp only [nc] at *; rw [qb, add_i64 (by omega) (by omega)]; omega
  have e3 : vb .sub .i64 a1 1 = a0 := by simp only [nc] at *; rw [qb, sub_i64 (by omega) (by omega)]; omega
  have hin : 0 ≤ a0 ∧ a0 < len := by simp only [nc] at *; omega
  have ht : vtoN a0 = at' := by simp only [qtoN]; simp only [nc] at *; omega
  have hlt : vtoN a0 < vln b := by rw [ht]; simp only [qln]; omega
  have hlt2 : vaddN 0 (vtoN a0) < vln b := by simp only [qaddN, Nat.zero_add]; exact hlt
  have hval : vgd b (vtoN a0) = v0 := by rw [ht]; simp only [qgd]; exact hv
  rw [e1]
  cbv
  rw [e2, e3, hval]
  exact ⟨⟨hin⟩, ⟨hlt2⟩, ⟨hlt⟩, rfl, rfl⟩
theorem next_end (b : List Int) (cap : Nat) (hl : b.length ≤ 2 ^ 60) :
    Con Try.prog 91 [.ptr 0 .z 1 0, .ptr 1 .z 1 0] [.one 3 [.int .i64 b.length], .one 22 [.slice 2 .z 1 b.length cap], .ro .u8 b]
      (fun v H R => v = .tup [.lit .u8 0, .bool false] ∧ R = [] ∧ H = [.one 3 [.int .i64 b.length], .one 22 [.slice 2 .z 1 b.length cap], .ro .u8 b]) := by
  refine con_walk hmix fn91 ?_
  intro vb vc vw vtoN vofN vaddN vsubN vmaxI vminI vcutN vgd vst vln vrep vsub vonto vsplice vstrEq vbyteV vnotB veqB hw qb qc qw qtoN qofN qaddN qsubN qmaxI qminI qcutN qgd qst qln qrep qsub qonto qsplice qstrEq qbyteV qnotB qeqB
  generalize Try.prog = P at *
  generalize hlen : b.length = len at *
  generalize ha : ((len : Nat) : Int) = a0
  cbv
  have e1 : vc .geq a0 (vofN len) = true := by simp only [qc, qofN]; rw [geq_true]; simp only [nc] at *; omega
  rw [e1]
  cbv
theorem bleft_con (b : List Int) (at' cap : Nat) (h : at' ≤ b.length) (hl : b.length ≤ 2 ^ 50) :
    Con Try.prog 92 [.ptr 1 .z 1 0, .ptr 0 .z 1 0] [.one 3 [.int .i64 at'], .one 22 [.slice 2 .z 1 b.length cap], .ro .u8 b]
      (fun v H R => v = .int .i64 (8 * ((b.length : Int) - at')) ∧ R = [] ∧ H = [.one 3 [.int .i64 at'], .one 22 [.slice 2 .z 1 b.length cap], .ro .u8 b]) := by
  refine con_walk hmix fn92 ?_
  intro vb vc vw vtoN vofN vaddN vsubN vmaxI vminI vcutN vgd vst vln vrep vsub vonto vsplice vstrEq vbyteV vnotB veqB hw qb qc qw qtoN qofN qaddN qsubN qmaxI qminI qcutN qgd qst qln qrep qsub qonto qsplice qstrEq qbyteV qnotB qeqB
  generalize Try.prog = P at *
  generalize hlen : b.length = len at *
  generalize hr : 8 * ((len : Int) - at') = r
  generalize ha : ((at' : Nat) : Int) = a0
  have e1 : vb .mul .i64 8 (vb .sub .i64 (vofN len) a0) = r := by simp only [qb, qofN]; rw [sub_i64 (by omega) (by omega), mul_i64 (by omega) (by omega)]; omega
  cbv
  rw [e1]
  trivial
set_option maxHeartbeats 4000000 in
/-- So many bits at hand, where there are as many. -/
theorem fill_ok (b : List Int) (pos at' cap n : Nat) (hby : ∀ x ∈ b, isByte x) (hl : b.length ≤ 2 ^ 50) (hp : pos ≤ 8 * at') (hp2 : 8 * at' ≤ pos + 63) (ha : at' ≤ b.length) (hn : n ≤ 56) (hen : pos + n ≤ 8 * b.length) :
    Con Try.prog 93 [.ptr 0 .z 4 0, .int .i64 n] [(.one 178 [.fn 91 [.ptr 1 .z 1 0, .ptr 2 .z 1 0], .int .u64 (bval (bitL b) pos (8 * at' - pos)), .int .i64 (((8 * at' - pos : Nat) : Int)), .fn 92 [.ptr 2 .z 1 0, .ptr 1 .z 1 0]]), .one 3 [.int .i64 at'], .one 22 [.slice 3 .z 1 b.length cap], .ro .u8 b]
      (fun v H R => v = .bool true ∧ R = [] ∧ ∃ a2 : Nat, pos + n ≤ 8 * a2 ∧ 8 * a2 ≤ pos + 63 ∧ a2 ≤ b.length ∧ H = [(.one 178 [.fn 91 [.ptr 1 .z 1 0, .ptr 2 .z 1 0], .int .u64 (bval (bitL b) pos (8 * a2 - pos)), .int .i64 (((8 * a2 - pos : Nat) : Int)), .fn 92 [.ptr 2 .z 1 0, .ptr 1 .z 1 0]]), .one 3 [.int .i64 a2], .one 22 [.slice 3 .z 1 b.length cap], .ro .u8 b]) := by
  have hnext := fun a h => next_ok b a cap h (by omega)
  refine con_cut 4 (by simp) (con_red [] (con_walk hmix fn93 ?_))
  intro vb vc vw vtoN vofN vaddN vsubN vmaxI vminI vcutN vgd vst vln vrep vsub vonto vsplice vstrEq vbyteV vnotB veqB hw qb qc qw qtoN qofN qaddN qsubN qmaxI qminI qcutN qgd qst qln qrep qsub qonto qsplice qstrEq qbyteV qnotB qeqB
  have hm := hmix
  generalize Try.prog = P at *
  generalize hacc : bval (bitL b) pos (8 * at' - pos) = acc
  generalize hhave : ((8 * at' - pos : Nat) : Int) = have0
  generalize ha0 : ((at' : Nat) : Int) = a0
  generalize hn0 : ((n : Nat) : Int) = n0
  generalize hlen : b.length = len at *
  cbv
  refine loop_fam (α := Int × Int × Int) [5, 6, 7, 8, 9, 10, 11, 12, 13, 14, 15, 16, 17, 18, 19, 20, 21, 22, 23, 24, 25, 26, 27, 28, 29, 30, 31, 32, 33, 34, 35, 36, 37, 38, 39, 40, 41, 42, 43, 44] []
    (fun (x, k, a) => []) (fun (x, k, a) => [(0, (.one 178 [.fn 91 [.ptr 1 .z 1 0, .ptr 2 .z 1 0], .int .u64 (x), .int .i64 (k), .fn 92 [.ptr 2 .z 1 0, .ptr 1 .z 1 0]])), (1, .one 3 [.int .i64 a])])
    (fun (x, k, a) => ∃ i : Nat, pos ≤ 8 * i ∧ 8 * i ≤ pos + 63 ∧ i ≤ len ∧ x = bval (bitL b) pos (8 * i - pos) ∧ k = ((8 * i - pos : Nat) : Int) ∧ a = i) (fun (x, k, a) => len - a.toNat) hw hm ?_ ?_
  · refine Cv.fold [5, 6, 7, 8, 9, 10, 11, 12, 13, 14, 15, 16, 17, 18, 19, 20, 21, 22, 23, 24, 25, 26, 27, 28, 29, 30, 31, 32, 33, 34, 35, 36, 37, 38, 39, 40, 41, 42, 43, 44] 4 [] (by exact Nat.le_refl _) (by exact Nat.le_of_ble_eq_true rfl) (by rfl) (by cbv) ?_
    intro js
    refine ⟨(_, _, _), ?_, js, rfl⟩
    exact ⟨at', hp, hp2, ha, hacc.symm, hhave.symm, ha0.symm⟩
  · rintro ⟨x, k, a⟩ js ⟨i, hi1, hi2, hi3, hx, hk, hai⟩
    cbv
    split
    · rename_i hlt
      have hlt : 8 * i < pos + n := by rw [qc, lss_true] at hlt; simp only [nc] at *; omega
      have hil : i < len := by omega
      have hnext' := hnext i hil
      have hbyte := byte_bit hby i
      have hbb := bitL_byte b hby i (by omega)
      simp only [nc] at hnext' hai
      rw [← hai] at hnext'
      generalize hy : b.getD i 0 = y at *
      generalize ha1 : ((i + 1 : Nat) : Int) = a1 at *
      have hw1 : vw .u64 y = y := by simp only [qw]; exact wrap_u64 hbyte.1 (by have := hbyte.2; omega)
      have hw2 : vw .u64 k = k := by simp only [nc] at *; simp only [qw]; exact wrap_u64 (by omega) (by omega)
      have hk0 : 0 ≤ vw .u64 k := by rw [hw2]; simp only [nc] at *; omega
      have hk1 : vb .add .i64 k 8 = ((8 * (i + 1) - pos : Nat) : Int) := by simp only [nc] at *; rw [qb, add_i64 (by omega) (by omega)]; omega
      have hval : vb .or .u64 x (vb .shl .u64 (vw .u64 y) (vw .u64 k)) = bval (bitL b) pos (8 * (i + 1) - pos) := by
        have hbd := bval_bound (bitL b) (bitL_bit b) pos (8 * i - pos)
        have hp56 := pow_le_56 (show 8 * i - pos ≤ 56 by omega)
        have hpp : (0 : Int) < 2 ^ (8 * i - pos) := Int.pow_pos (by decide)
        have hkn : k.toNat = 8 * i - pos := by simp only [nc] at *; omega
        have hyb : y * 2 ^ (8 * i - pos) ≤ 255 * 2 ^ (8 * i - pos) := Int.mul_le_mul_of_nonneg_right (by have := hbyte.2; omega) (Int.le_of_lt hpp)
        have e : 8 * (i + 1) - pos = (8 * i - pos) + 8 := by omega
        rw [hw1, hw2, qb, shl_u rfl hbyte.1 (by show k ≤ ((64 : Nat) : Int); simp only [nc] at *; omega) (by rw [hkn]; show _ < (2 : Int) ^ 64; omega), hkn, hx, e, bval_split]
        have e2 : pos + (8 * i - pos) = 8 * i := by omega
        rw [e2, hbb, or_add rfl _ hbd.1 hbd.2 hbyte.1 (by show _ < (2 : Int) ^ 64; omega)]
      cbv
      refine call_con (ρ := [(1, .z), (2, .z), (3, .z)]) hnext' ⟨by rfl, by rfl, by rfl, by cbv; exact ⟨view_refl _, trivial⟩⟩ ?_
      rintro v H R js ⟨rfl, rfl, rfl⟩
      have e4 : vnotB true = false := by simp only [qnotB]; rfl
      cbv
      rw [e4]
      cbv
      refine ⟨⟨hk0⟩, ?_⟩
      refine Cv.fold [5, 6, 7, 8, 9, 10, 11, 12, 13, 14, 15, 16, 17, 18, 19, 20, 21, 22, 23, 24, 25, 26, 27, 28, 29, 30, 31, 32, 33, 34, 35, 36, 37, 38, 39, 40, 41, 42, 43, 44] 4 [] (by exact Nat.le_refl _) (by exact Nat.le_of_ble_eq_true rfl) (by rfl) (by cbv) ?_
      intro js
      refine ⟨(_, _, _), ?_, js, rfl⟩
      exact ⟨⟨i + 1, by omega, by omega, by omega, hval, hk1, ha1.symm⟩, by show len - a1.toNat < len - a.toNat; simp only [nc] at *; omega⟩
    · rename_i hge
      have hge : pos + n ≤ 8 * i := by rw [qc, lss_false] at hge; simp only [nc] at *; omega
      cbv
      refine ⟨i, hge, hi2, hi3, ?_⟩
      rw [hx, hk, hai]
      rfl
set_option maxHeartbeats 4000000 in
/-- Not as many bits: all that are left are at hand. -/
theorem fill_end (b : List Int) (pos at' cap n : Nat) (hby : ∀ x ∈ b, isByte x) (hl : b.length ≤ 2 ^ 50) (hp : pos ≤ 8 * at') (hp2 : 8 * at' ≤ pos + 63) (ha : at' ≤ b.length) (hn : n ≤ 56) (hen : 8 * b.length < pos + n) :
    Con Try.prog 93 [.ptr 0 .z 4 0, .int .i64 n] [(.one 178 [.fn 91 [.ptr 1 .z 1 0, .ptr 2 .z 1 0], .int .u64 (bval (bitL b) pos (8 * at' - pos)), .int .i64 (((8 * at' - pos : Nat) : Int)), .fn 92 [.ptr 2 .z 1 0, .ptr 1 .z 1 0]]), .one 3 [.int .i64 at'], .one 22 [.slice 3 .z 1 b.length cap], .ro .u8 b]
      (fun v H R => v = .bool false ∧ R = [] ∧ H = [(.one 178 [.fn 91 [.ptr 1 .z 1 0, .ptr 2 .z 1 0], .int .u64 (bval (bitL b) pos (8 * b.length - pos)), .int .i64 (((8 * b.length - pos : Nat) : Int)), .fn 92 [.ptr 2 .z 1 0, .ptr 1 .z 1 0]]), .one 3 [.int .i64 b.length], .one 22 [.slice 3 .z 1 b.length cap], .ro .u8 b]) := by
  have hnext := fun a h => next_ok b a cap h (by omega)
  have hend := next_end b cap (by omega)
  refine con_cut 4 (by simp) (con_red [] (con_walk hmix fn93 ?_))
  intro vb vc vw vtoN vofN vaddN vsubN vmaxI vminI vcutN vgd vst vln vrep vsub vonto vsplice vstrEq vbyteV vnotB veqB hw qb qc qw qtoN qofN qaddN qsubN qmaxI qminI qcutN qgd qst qln qrep qsub qonto qsplice qstrEq qbyteV qnotB qeqB
  have hm := hmix
  generalize Try.prog = P at *
  generalize hacc : bval (bitL b) pos (8 * at' - pos) = acc
  generalize hhave : ((8 * at' - pos : Nat) : Int) = have0
  generalize hacc2 : bval (bitL b) pos (8 * b.length - pos) = acc2
  generalize hhave2 : ((8 * b.length - pos : Nat) : Int) = have2
  generalize ha0 : ((at' : Nat) : Int) = a0
  generalize hn0 : ((n : Nat) : Int) = n0
  generalize hlI : ((b.length : Nat) : Int) = lI at *
  generalize hlen : b.length = len at *
  cbv
  refine loop_fam (α := Int × Int × Int) [5, 6, 7, 8, 9, 10, 11, 12, 13, 14, 15, 16, 17, 18, 19, 20, 21, 22, 23, 24, 25, 26, 27, 28, 29, 30, 31, 32, 33, 34, 35, 36, 37, 38, 39, 40, 41, 42, 43, 44] []
    (fun (x, k, a) => []) (fun (x, k, a) => [(0, (.one 178 [.fn 91 [.ptr 1 .z 1 0, .ptr 2 .z 1 0], .int .u64 (x), .int .i64 (k), .fn 92 [.ptr 2 .z 1 0, .ptr 1 .z 1 0]])), (1, .one 3 [.int .i64 a])])
    (fun (x, k, a) => ∃ i : Nat, pos ≤ 8 * i ∧ 8 * i ≤ pos + 63 ∧ i ≤ len ∧ x = bval (bitL b) pos (8 * i - pos) ∧ k = ((8 * i - pos : Nat) : Int) ∧ a = i) (fun (x, k, a) => len - a.toNat) hw hm ?_ ?_
  · refine Cv.fold [5, 6, 7, 8, 9, 10, 11, 12, 13, 14, 15, 16, 17, 18, 19, 20, 21, 22, 23, 24, 25, 26, 27, 28, 29, 30, 31, 32, 33, 34, 35, 36, 37, 38, 39, 40, 41, 42, 43, 44] 4 [] (by exact Nat.le_refl _) (by exact Nat.le_of_ble_eq_true rfl) (by rfl) (by cbv) ?_
    intro js
    refine ⟨(_, _, _), ?_, js, rfl⟩
    exact ⟨at', hp, hp2, ha, hacc.symm, hhave.symm, ha0.symm⟩
  · rintro ⟨x, k, a⟩ js ⟨i, hi1, hi2, hi3, hx, hk, hai⟩
    have hc : vc .lss k n0 = true := by rw [qc, lss_true]; simp only [nc] at *; omega
    cbv
    rw [hc]
    by_cases hil : i < len
    · have hnext' := hnext i hil
      have hbyte := byte_bit hby i
      have hbb := bitL_byte b hby i (by omega)
      simp only [nc] at hnext' hai
      rw [← hai] at hnext'
      generalize hy : b.getD i 0 = y at *
      generalize ha1 : ((i + 1 : Nat) : Int) = a1 at *
      have hw1 : vw .u64 y = y := by simp only [qw]; exact wrap_u64 hbyte.1 (by have := hbyte.2; omega)
      have hw2 : vw .u64 k = k := by simp only [nc] at *; simp only [qw]; exact wrap_u64 (by omega) (by omega)
      have hk0 : 0 ≤ vw .u64 k := by rw [hw2]; simp only [nc] at *; omega
      have hk1 : vb .add .i64 k 8 = ((8 * (i + 1) - pos : Nat) : Int) := by simp only [nc] at *; rw [qb, add_i64 (by omega) (by omega)]; omega
      have hval : vb .or .u64 x (vb .shl .u64 (vw .u64 y) (vw .u64 k)) = bval (bitL b) pos (8 * (i + 1) - pos) := by
        have hbd := bval_bound (bitL b) (bitL_bit b) pos (8 * i - pos)
        have hp56 := pow_le_56 (show 8 * i - pos ≤ 56 by omega)
        have hpp : (0 : Int) < 2 ^ (8 * i - pos) := Int.pow_pos (by decide)
        have hkn : k.toNat = 8 * i - pos := by simp only [nc] at *; omega
        have hyb : y * 2 ^ (8 * i - pos) ≤ 255 * 2 ^ (8 * i - pos) := Int.mul_le_mul_of_nonneg_right (by have := hbyte.2; omega) (Int.le_of_lt hpp)
        have e : 8 * (i + 1) - pos = (8 * i - pos) + 8 := by omega
        rw [hw1, hw2, qb, shl_u rfl hbyte.1 (by show k ≤ ((64 : Nat) : Int); simp only [nc] at *; omega) (by rw [hkn]; show _ < (2 : Int) ^ 64; omega), hkn, hx, e, bval_split]
        have e2 : pos + (8 * i - pos) = 8 * i := by omega
        rw [e2, hbb, or_add rfl _ hbd.1 hbd.2 hbyte.1 (by show _ < (2 : Int) ^ 64; omega)]
      cbv
      refine call_con (ρ := [(1, .z), (2, .z), (3, .z)]) hnext' ⟨by rfl, by rfl, by rfl, by cbv; exact ⟨view_refl _, trivial⟩⟩ ?_
      rintro v H R js ⟨rfl, rfl, rfl⟩
      have e4 : vnotB true = false := by simp only [qnotB]; rfl
      cbv
      rw [e4]
      cbv
      refine ⟨⟨hk0⟩, ?_⟩
      refine Cv.fold [5, 6, 7, 8, 9, 10, 11, 12, 13, 14, 15, 16, 17, 18, 19, 20, 21, 22, 23, 24, 25, 26, 27, 28, 29, 30, 31, 32, 33, 34, 35, 36, 37, 38, 39, 40, 41, 42, 43, 44] 4 [] (by exact Nat.le_refl _) (by exact Nat.le_of_ble_eq_true rfl) (by rfl) (by cbv) ?_
      intro js
      refine ⟨(_, _, _), ?_, js, rfl⟩
      exact ⟨⟨i + 1, by omega, by omega, by omega, hval, hk1, ha1.symm⟩, by show len - a1.toNat < len - a.toNat; simp only [nc] at *; omega⟩
    · have hil : i = len := by omega
      have e4 : vnotB false = true := by simp only [qnotB]; rfl
      have hai2 : a = lI := by rw [hai, hil]; exact hlI
      have hx2 : x = acc2 := by rw [hx, hil, hacc2]
      have hk2 : k = have2 := by rw [hk, hil]; exact hhave2
      rw [hai2, hx2, hk2]
      cbv
      refine call_con (ρ := [(1, .z), (2, .z), (3, .z)]) hend ⟨by rfl, by rfl, by rfl, by cbv; exact ⟨view_refl _, trivial⟩⟩ ?_
      rintro v H R js ⟨rfl, rfl, rfl⟩
      cbv
      rw [e4]
      cbv
end Go.Proofs.Ytaaklikigccdfaa
namespace Go.Proofs.Ytaaklikigccdfaa
open Go Go.Sx Go.Proofs
theorem rb_bad (b : List Int) (pos at' cap : Nat) (n : Int) (hn : ¬ (0 ≤ n ∧ n ≤ 56)) :
    Con Try.prog 68 [.ptr 0 .z 4 0, .int .i64 n] [(.one 178 [.fn 91 [.ptr 1 .z 1 0, .ptr 2 .z 1 0], .int .u64 (bval (bitL b) pos (8 * at' - pos)), .int .i64 (((8 * at' - pos : Nat) : Int)), .fn 92 [.ptr 2 .z 1 0, .ptr 1 .z 1 0]]), .one 3 [.int .i64 at'], .one 22 [.slice 3 .z 1 b.length cap], .ro .u8 b]
      (fun v H R => v = .tup [.lit .u64 0, .lit .i64 2] ∧ R = [] ∧ H = [(.one 178 [.fn 91 [.ptr 1 .z 1 0, .ptr 2 .z 1 0], .int .u64 (bval (bitL b) pos (8 * at' - pos)), .int .i64 (((8 * at' - pos : Nat) : Int)), .fn 92 [.ptr 2 .z 1 0, .ptr 1 .z 1 0]]), .one 3 [.int .i64 at'], .one 22 [.slice 3 .z 1 b.length cap], .ro .u8 b]) := by
  refine con_walk hmix fn68 ?_
  intro vb vc vw vtoN vofN vaddN vsubN vmaxI vminI vcutN vgd vst vln vrep vsub vonto vsplice vstrEq vbyteV vnotB veqB hw qb qc qw qtoN qofN qaddN qsubN qmaxI qminI qcutN qgd qst qln qrep qsub qonto qsplice qstrEq qbyteV qnotB qeqB
  generalize Try.prog = P at *
  generalize hacc : bval (bitL b) pos (8 * at' - pos) = acc at *
  generalize hhave : ((8 * at' - pos : Nat) : Int) = have0 at *
  generalize ha0 : ((at' : Nat) : Int) = a0 at *
  generalize b.length = len at *
  cbv
  generalize h1 : vc .lss n 0 = z1
  cases z1
  · cbv
    have h2 : vc .gtr n 56 = true := by rw [qc, lss_false] at h1; rw [qc, gtr_true]; omega
    rw [h2]
    cbv
  · cbv
theorem rb_short (b : List Int) (pos at' cap n : Nat) (hby : ∀ x ∈ b, isByte x) (hl : b.length ≤ 2 ^ 50) (hp : pos ≤ 8 * at') (hp2 : 8 * at' ≤ pos + 63) (ha : at' ≤ b.length) (hn : n ≤ 56) (hen : 8 * b.length < pos + n) :
    Con Try.prog 68 [.ptr 0 .z 4 0, .int .i64 n] [(.one 178 [.fn 91 [.ptr 1 .z 1 0, .ptr 2 .z 1 0], .int .u64 (bval (bitL b) pos (8 * at' - pos)), .int .i64 (((8 * at' - pos : Nat) : Int)), .fn 92 [.ptr 2 .z 1 0, .ptr 1 .z 1 0]]), .one 3 [.int .i64 at'], .one 22 [.slice 3 .z 1 b.length cap], .ro .u8 b]
      (fun v H R => v = .tup [.lit .u64 0, .lit .i64 10] ∧ R = [] ∧ H = [(.one 178 [.fn 91 [.ptr 1 .z 1 0, .ptr 2 .z 1 0], .int .u64 (bval (bitL b) (pos) (8 * b.length - (pos))), .int .i64 (((8 * b.length - (pos) : Nat) : Int)), .fn 92 [.ptr 2 .z 1 0, .ptr 1 .z 1 0]]), .one 3 [.int .i64 b.length], .one 22 [.slice 3 .z 1 b.length cap], .ro .u8 b]) := by
  have hfill := fill_end b pos at' cap n hby hl hp hp2 ha hn hen
  refine con_walk hmix fn68 ?_
  intro vb vc vw vtoN vofN vaddN vsubN vmaxI vminI vcutN vgd vst vln vrep vsub vonto vsplice vstrEq vbyteV vnotB veqB hw qb qc qw qtoN qofN qaddN qsubN qmaxI qminI qcutN qgd qst qln qrep qsub qonto qsplice qstrEq qbyteV qnotB qeqB
  generalize Try.prog = P at *
  generalize hacc2 : bval (bitL b) pos (8 * b.length - pos) = acc2 at *
  generalize hhave2 : ((8 * b.length - pos : Nat) : Int) = have2 at *
  generalize hlI : ((b.length : Nat) : Int) = lI at *
  generalize hacc : bval (bitL b) pos (8 * at' - pos) = acc at *
  generalize hhave : ((8 * at' - pos : Nat) : Int) = have0 at *
  generalize ha0 : ((at' : Nat) : Int) = a0 at *
  generalize hn0 : ((n : Nat) : Int) = n0 at *
  generalize b.length = len at *
  cbv
  have e1 : vc .lss n0 0 = false := by rw [qc, lss_false]; simp only [nc] at *; omega
  have e2 : vc .gtr n0 56 = false := by rw [qc, gtr_false]; simp only [nc] at *; omega
  have e4 : vnotB false = true := by simp only [qnotB]; rfl
  rw [e1]
  cbv
  rw [e2]
  cbv
  refine call_con (ρ := [(0, .z), (1, .z), (2, .z), (3, .z)]) hfill ⟨by rfl, by rfl, by rfl, by cbv; exact ⟨view_refl _, trivial⟩⟩ ?_
  rintro v H R js ⟨rfl, rfl, rfl⟩
  cbv
  rw [e4]
  cbv
theorem rb_ok (b : List Int) (pos at' cap n : Nat) (hby : ∀ x ∈ b, isByte x) (hl : b.length ≤ 2 ^ 50) (hp : pos ≤ 8 * at') (hp2 : 8 * at' ≤ pos + 63) (ha : at' ≤ b.length) (hn : n ≤ 56) (hen : pos + n ≤ 8 * b.length) :
    Con Try.prog 68 [.ptr 0 .z 4 0, .int .i64 n] [(.one 178 [.fn 91 [.ptr 1 .z 1 0, .ptr 2 .z 1 0], .int .u64 (bval (bitL b) pos (8 * at' - pos)), .int .i64 (((8 * at' - pos : Nat) : Int)), .fn 92 [.ptr 2 .z 1 0, .ptr 1 .z 1 0]]), .one 3 [.int .i64 at'], .one 22 [.slice 3 .z 1 b.length cap], .ro .u8 b]
      (fun v H R => v = .tup [.int .u64 (bval (bitL b) pos n), .lit .i64 0] ∧ R = [] ∧ ∃ a2 : Nat, pos + n ≤ 8 * a2 ∧ 8 * a2 ≤ pos + n + 63 ∧ a2 ≤ b.length ∧ H = [(.one 178 [.fn 91 [.ptr 1 .z 1 0, .ptr 2 .z 1 0], .int .u64 (bval (bitL b) (pos + n) (8 * a2 - (pos + n))), .int .i64 (((8 * a2 - (pos + n) : Nat) : Int)), .fn 92 [.ptr 2 .z 1 0, .ptr 1 .z 1 0]]), .one 3 [.int .i64 a2], .one 22 [.slice 3 .z 1 b.length cap], .ro .u8 b]) := by
  have hfill := fill_ok b pos at' cap n hby hl hp hp2 ha hn hen
  refine con_walk hmix fn68 ?_
  intro vb vc vw vtoN vofN vaddN vsubN vmaxI vminI vcutN vgd vst vln vrep vsub vonto vsplice vstrEq vbyteV vnotB veqB hw qb qc qw qtoN qofN qaddN qsubN qmaxI qminI qcutN qgd qst qln qrep qsub qonto qsplice qstrEq qbyteV qnotB qeqB
  generalize Try.prog = P at *
  generalize hacc : bval (bitL b) pos (8 * at' - pos) = acc at *
  generalize hhave : ((8 * at' - pos : Nat) : Int) = have0 at *
  generalize ha0 : ((at' : Nat) : Int) = a0 at *
  generalize hn0 : ((n : Nat) : Int) = n0 at *
  generalize hX : bval (bitL b) pos n = X
  generalize b.length = len at *
  cbv
  have e1 : vc .lss n0 0 = false := by rw [qc, lss_false]; simp only [nc] at *; omega
  have e2 : vc .gtr n0 56 = false := by rw [qc, gtr_false]; simp only [nc] at *; omega
  have e4 : vnotB true = false := by simp only [qnotB]; rfl
  have hwn : vw .u64 n0 = n0 := by simp only [nc] at *; simp only [qw]; exact wrap_u64 (by omega) (by omega)
  have hnn : 0 ≤ vw .u64 n0 := by rw [hwn]; simp only [nc] at *; omega
  rw [e1]
  cbv
  rw [e2]
  cbv
  simp only [nc] at hfill
  refine call_con (ρ := [(0, .z), (1, .z), (2, .z), (3, .z)]) hfill ⟨by rfl, by rfl, by rfl, by cbv; exact ⟨view_refl _, trivial⟩⟩ ?_
  rintro v H R js ⟨rfl, rfl, a2, h1, h2, h3, rfl⟩
  generalize hacc2 : bval (bitL b) pos (8 * a2 - pos) = acc2
  generalize hhave2 : ((8 * a2 - pos : Nat) : Int) = have2
  generalize hai2 : ((a2 : Nat) : Int) = ai2
  have hbm := bval_mod (bitL b) (bitL_bit b) pos n (8 * a2 - pos - n)
  have hbd := bval_bound (bitL b) (bitL_bit b) pos (8 * a2 - pos)
  rw [show n + (8 * a2 - pos - n) = 8 * a2 - pos by omega] at hbm
  rw [hacc2, hX] at hbm
  rw [hacc2] at hbd
  have hlt64 : acc2 < 2 ^ 64 := by
    have : (2 : Int) ^ (8 * a2 - pos) ≤ 2 ^ 64 := by exact_mod_cast Nat.pow_le_pow_right (by decide) (by omega)
    omega
  have hpn := pow_le_56 hn
  have hp0 : (0 : Int) < 2 ^ n := Int.pow_pos (by decide)
  have hn00 : n0.toNat = n := by simp only [nc] at *; omega
  have hx : vb .and .u64 acc2 (vb .sub .u64 (vb .shl .u64 1 (vw .u64 n0)) 1) = X := by
    have e1 : vb .shl .u64 1 n0 = 2 ^ n := by
      rw [qb, shl_u rfl (by decide) (by show n0 ≤ ((64 : Nat) : Int); simp only [nc] at *; omega) (by rw [hn00]; show _ < (2 : Int) ^ 64; omega), hn00]; omega
    have e2 : vb .sub .u64 (2 ^ n) 1 = 2 ^ n - 1 := by rw [qb]; exact wrap_u64 (by omega) (by omega)
    rw [hwn, e1, e2, qb, and_mask (k := .u64) rfl n (by show n ≤ 64; omega) hbd.1 hlt64]
    exact hbm.1
  have hsh : vb .shr .u64 acc2 (vw .u64 n0) = bval (bitL b) (pos + n) (8 * a2 - pos - n) := by
    rw [hwn, qb, shr_eq (by show n0 ≤ ((64 : Nat) : Int); simp only [nc] at *; omega), hn00]
    exact hbm.2
  have hhs : vb .sub .i64 have2 n0 = ((8 * a2 - (pos + n) : Nat) : Int) := by
    simp only [nc] at *; rw [qb, sub_i64 (by omega) (by omega)]; omega
  cbv
  rw [e4]
  cbv
  refine ⟨⟨hnn⟩, ⟨hnn⟩, ?_⟩
  rw [hx, hsh, hhs]
  refine ⟨rfl, a2, h1, by omega, h3, ?_⟩
  rw [show 8 * a2 - pos - n = 8 * a2 - (pos + n) by omega, ← hai2]
  rfl
/-- What Bits answers. -/
def rbX (b : List Int) (pos : Nat) (n : Int) : Int := if 0 ≤ n ∧ n ≤ 56 ∧ pos + n ≤ 8 * b.length then bval (bitL b) pos n.toNat else 0
def rbE (b : List Int) (pos : Nat) (n : Int) : Int := if 0 ≤ n ∧ n ≤ 56 then (if pos + n ≤ 8 * b.length then 0 else 10) else 2
def rbP (b : List Int) (pos : Nat) (n : Int) : Nat := if 0 ≤ n ∧ n ≤ 56 ∧ pos + n ≤ 8 * b.length then pos + n.toNat else pos
theorem rbits_con (b : List Int) (pos at' cap : Nat) (n : Int) (hby : ∀ x ∈ b, isByte x) (hl : b.length ≤ 2 ^ 50) (hp : pos ≤ 8 * at') (hp2 : 8 * at' ≤ pos + 63) (ha : at' ≤ b.length) :
    Con Try.prog 68 [.ptr 0 .z 4 0, .int .i64 n] [(.one 178 [.fn 91 [.ptr 1 .z 1 0, .ptr 2 .z 1 0], .int .u64 (bval (bitL b) pos (8 * at' - pos)), .int .i64 (((8 * at' - pos : Nat) : Int)), .fn 92 [.ptr 2 .z 1 0, .ptr 1 .z 1 0]]), .one 3 [.int .i64 at'], .one 22 [.slice 3 .z 1 b.length cap], .ro .u8 b]
      (fun v H R => v = .tup [.int .u64 (rbX b pos n), .int .i64 (rbE b pos n)] ∧ R = [] ∧ ∃ a2 : Nat, rbP b pos n ≤ 8 * a2 ∧ 8 * a2 ≤ rbP b pos n + 63 ∧ a2 ≤ b.length ∧ H = [(.one 178 [.fn 91 [.ptr 1 .z 1 0, .ptr 2 .z 1 0], .int .u64 (bval (bitL b) (rbP b pos n) (8 * a2 - (rbP b pos n))), .int .i64 (((8 * a2 - (rbP b pos n) : Nat) : Int)), .fn 92 [.ptr 2 .z 1 0, .ptr 1 .z 1 0]]), .one 3 [.int .i64 a2], .one 22 [.slice 3 .z 1 b.length cap], .ro .u8 b]) := by
  by_cases hn : 0 ≤ n ∧ n ≤ 56
  · obtain ⟨m, rfl⟩ : ∃ m : Nat, n = m := ⟨n.toNat, by omega⟩
    by_cases hen : pos + m ≤ 8 * b.length
    · have e1 : rbX b pos m = bval (bitL b) pos m := by unfold rbX; rw [if_pos ⟨hn.1, hn.2, by omega⟩]; rfl
      have e2 : rbE b pos m = 0 := by unfold rbE; rw [if_pos hn, if_pos (by omega)]
      have e3 : rbP b pos m = pos + m := by unfold rbP; rw [if_pos ⟨hn.1, hn.2, by omega⟩]; rfl
      rw [e1, e2, e3]
      refine con_gen ((rb_ok b pos at' cap m hby hl hp hp2 ha (by omega) hen).mono ?_)
      rintro v H R ⟨rfl, rfl, a2, h1, h2, h3, rfl⟩
      exact ⟨rfl, rfl, a2, h1, h2, h3, rfl⟩
    · have e1 : rbX b pos m = 0 := by unfold rbX; rw [if_neg (by omega)]
      have e2 : rbE b pos m = 10 := by unfold rbE; rw [if_pos hn, if_neg (by omega)]
      have e3 : rbP b pos m = pos := by unfold rbP; rw [if_neg (by omega)]
      rw [e1, e2, e3]
      refine con_gen ((rb_short b pos at' cap m hby hl hp hp2 ha (by omega) (by omega)).mono ?_)
      rintro v H R ⟨rfl, rfl, rfl⟩
      exact ⟨rfl, rfl, b.length, by omega, by omega, Nat.le_refl _, rfl⟩
  · have e1 : rbX b pos n = 0 := by unfold rbX; rw [if_neg (by omega)]
    have e2 : rbE b pos n = 2 := by unfold rbE; rw [if_neg hn]
    have e3 : rbP b pos n = pos := by unfold rbP; rw [if_neg (by omega)]
    rw [e1, e2, e3]
    refine con_gen ((rb_bad b pos at' cap n hn).mono ?_)
    rintro v H R ⟨rfl, rfl, rfl⟩
    exact ⟨rfl, rfl, at', hp, hp2, ha, rfl⟩
end Go.Proofs.Ytaaklikigccdfaa
namespace Go.Proofs.Ytaaklikigccdfaa
open Go Go.Sx Go.Proofs
theorem rleft_con (b : List Int) (pos at' cap : Nat) (hl : b.length ≤ 2 ^ 50) (hp : pos ≤ 8 * at') (ha : at' ≤ b.length) :
    Con Try.prog 70 [.ptr 0 .z 4 0] [(.one 178 [.fn 91 [.ptr 1 .z 1 0, .ptr 2 .z 1 0], .int .u64 (bval (bitL b) pos (8 * at' - pos)), .int .i64 (((8 * at' - pos : Nat) : Int)), .fn 92 [.ptr 2 .z 1 0, .ptr 1 .z 1 0]]), .one 3 [.int .i64 at'], .one 22 [.slice 3 .z 1 b.length cap], .ro .u8 b]
      (fun v H R => v = .int .i64 (8 * b.length - pos) ∧ R = [] ∧ H = [(.one 178 [.fn 91 [.ptr 1 .z 1 0, .ptr 2 .z 1 0], .int .u64 (bval (bitL b) pos (8 * at' - pos)), .int .i64 (((8 * at' - pos : Nat) : Int)), .fn 92 [.ptr 2 .z 1 0, .ptr 1 .z 1 0]]), .one 3 [.int .i64 at'], .one 22 [.slice 3 .z 1 b.length cap], .ro .u8 b]) := by
  have hleft := bleft_con b at' cap ha hl
  refine con_walk hmix fn70 ?_
  intro vb vc vw vtoN vofN vaddN vsubN vmaxI vminI vcutN vgd vst vln vrep vsub vonto vsplice vstrEq vbyteV vnotB veqB hw qb qc qw qtoN qofN qaddN qsubN qmaxI qminI qcutN qgd qst qln qrep qsub qonto qsplice qstrEq qbyteV qnotB qeqB
  generalize Try.prog = P at *
  generalize hr : 8 * ((b.length : Int) - at') = r at *
  generalize hacc : bval (bitL b) pos (8 * at' - pos) = acc at *
  generalize hhave : ((8 * at' - pos : Nat) : Int) = have0 at *
  generalize ha0 : ((at' : Nat) : Int) = a0 at *
  generalize hL : (8 * (b.length : Int) - pos) = L
  generalize hlen : b.length = len at *
  have e1 : vb .add .i64 have0 r = L := by rw [qb, add_i64 (by omega) (by omega)]; omega
  cbv
  refine call_con (ρ := [(1, .z), (2, .z), (3, .z)]) hleft ⟨by rfl, by rfl, by rfl, by cbv; exact ⟨view_refl _, trivial⟩⟩ ?_
  rintro v H R js ⟨rfl, rfl, rfl⟩
  cbv
  rw [e1]
  exact ⟨rfl, trivial⟩
theorem rnew_con (b : List Int) (cap : Nat) (hl : b.length ≤ 140737488355328) : Con Try.prog 67 [.slice 0 .z 1 b.length cap] [.ro .u8 b]
    (fun v H R => v = .ptr 4 .z 4 0 ∧ R = [1] ∧ ∃ c, H = [.ro .u8 b, .buf 5 .u8 b c, .one 22 [.slice 1 .z 1 b.length c], .one 3 [.int .i64 0], .one 178 [.fn 91 [.ptr 3 .z 1 0, .ptr 2 .z 1 0], .int .u64 0, .int .i64 0, .fn 92 [.ptr 2 .z 1 0, .ptr 3 .z 1 0]]]) := by
  refine con_gen (con_walk hmix fn67 ?_)
  intro vb vc vw vtoN vofN vaddN vsubN vmaxI vminI vcutN vgd vst vln vrep vsub vonto vsplice vstrEq vbyteV vnotB veqB hw qb qc qw qtoN qofN qaddN qsubN qmaxI qminI qcutN qgd qst qln qrep qsub qonto qsplice qstrEq qbyteV qnotB qeqB
  generalize Try.prog = P at *
  generalize hlen : b.length = len at *
  have ha : vaddN 0 len = len := by simp only [qaddN, Nat.zero_add]
  have hpay : vonto [] 0 (vsub b 0 len) = b := by simp only [qonto, qsub]; simp [← hlen]
  cbv
  refine ⟨⟨by rw [ha]; simp only [qln]; omega⟩, ⟨Nat.zero_le _⟩, ⟨Nat.zero_le _⟩, ⟨by rw [ha]; omega⟩, ?_⟩
  intro c1 js1 hle
  cbv
  rw [ha, hpay]
  exact ⟨c1, rfl⟩
end Go.Proofs.Ytaaklikigccdfaa
namespace Go.Proofs.Ytaaklikigccdfaa
open Go Go.Sx Go.Proofs
end Go.Proofs.Ytaaklikigccdfaa
namespace Go.Proofs.Ytaaklikigccdfaa
open Go Go.Sx Go.Proofs
end Go.Proofs.Ytaaklikigccdfaa
namespace Go.Proofs.Ytaaklikigccdfaa
open Go Go.Sx Go.Proofs
/-- A reader at a bit. -/
def RS (b : List Int) (pos : Nat) (acc hv ai : Int) : Prop := ∃ at' : Nat, pos ≤ 8 * at' ∧ 8 * at' ≤ pos + 63 ∧ at' ≤ b.length ∧ acc = bval (bitL b) pos (8 * at' - pos) ∧ hv = ((8 * at' - pos : Nat) : Int) ∧ ai = at'
theorem RS.start (b : List Int) : RS b 0 0 0 0 := ⟨0, by omega, by omega, by omega, rfl, rfl, rfl⟩
theorem rbits_rs (b : List Int) (pos cap : Nat) (n acc hv ai : Int) (hby : ∀ x ∈ b, isByte x) (hl : b.length ≤ 2 ^ 50) (h : RS b pos acc hv ai) :
    Con Try.prog 68 [.ptr 0 .z 4 0, .int .i64 n] [(.one 178 [.fn 91 [.ptr 1 .z 1 0, .ptr 2 .z 1 0], .int .u64 (acc), .int .i64 (hv), .fn 92 [.ptr 2 .z 1 0, .ptr 1 .z 1 0]]), .one 3 [.int .i64 ai], .one 22 [.slice 3 .z 1 b.length cap], .ro .u8 b]
      (fun v H R => v = .tup [.int .u64 (rbX b pos n), .int .i64 (rbE b pos n)] ∧ R = [] ∧ ∃ acc2 hv2 ai2, RS b (rbP b pos n) acc2 hv2 ai2 ∧ H = [(.one 178 [.fn 91 [.ptr 1 .z 1 0, .ptr 2 .z 1 0], .int .u64 (acc2), .int .i64 (hv2), .fn 92 [.ptr 2 .z 1 0, .ptr 1 .z 1 0]]), .one 3 [.int .i64 ai2], .one 22 [.slice 3 .z 1 b.length cap], .ro .u8 b]) := by
  obtain ⟨at', h1, h2, h3, rfl, rfl, rfl⟩ := h
  refine (rbits_con b pos at' cap n hby hl h1 h2 h3).mono ?_
  rintro v H R ⟨e1, e2, a2, e3, e4, e5, e6⟩
  exact ⟨e1, e2, _, _, _, ⟨a2, e3, e4, e5, rfl, rfl, rfl⟩, e6⟩
theorem rleft_rs (b : List Int) (pos cap : Nat) (acc hv ai : Int) (hl : b.length ≤ 2 ^ 50) (h : RS b pos acc hv ai) :
    Con Try.prog 70 [.ptr 0 .z 4 0] [(.one 178 [.fn 91 [.ptr 1 .z 1 0, .ptr 2 .z 1 0], .int .u64 (acc), .int .i64 (hv), .fn 92 [.ptr 2 .z 1 0, .ptr 1 .z 1 0]]), .one 3 [.int .i64 ai], .one 22 [.slice 3 .z 1 b.length cap], .ro .u8 b]
      (fun v H R => v = .int .i64 (8 * b.length - pos) ∧ R = [] ∧ H = [(.one 178 [.fn 91 [.ptr 1 .z 1 0, .ptr 2 .z 1 0], .int .u64 (acc), .int .i64 (hv), .fn 92 [.ptr 2 .z 1 0, .ptr 1 .z 1 0]]), .one 3 [.int .i64 ai], .one 22 [.slice 3 .z 1 b.length cap], .ro .u8 b]) := by
  obtain ⟨at', h1, h2, h3, rfl, rfl, rfl⟩ := h
  exact rleft_con b pos at' cap hl h1 h3
end Go.Proofs.Ytaaklikigccdfaa
namespace Go.Proofs.Ytaaklikigccdfaa
open Go Go.Sx Go.Proofs
/-- How many states a count takes. -/
def partsN (c : Int) : Int := if c < 0 then 1 else c
def isI16 (c : Int) : Prop := -32768 ≤ c ∧ c ≤ 32767
def sumP (l : List Int) : Int := (l.map partsN).sum
def Right (l : List Int) (log : Int) : Prop := 5 ≤ log ∧ log ≤ 12 ∧ 1 ≤ l.length ∧ l.length ≤ 256 ∧ l.getD (l.length - 1) 0 ≠ 0 ∧ (∀ c ∈ l, -1 ≤ c) ∧ sumP l = 2 ^ log.toNat
instance (l : List Int) (log : Int) : Decidable (Right l log) := by unfold Right; infer_instance
theorem sumP_snoc (l : List Int) (c : Int) : sumP (l ++ [c]) = sumP l + partsN c := by simp [sumP]
theorem partsN_le {c : Int} (h : isI16 c) : 0 ≤ partsN c ∧ partsN c ≤ 32767 := by unfold partsN isI16 at *; split <;> omega
theorem sumP_le {l : List Int} (h : ∀ c ∈ l, isI16 c) : 0 ≤ sumP l ∧ sumP l ≤ 32767 * l.length := by
  induction l with
  | nil => simp [sumP]
  | cons c l ih =>
    have h1 := partsN_le (h c (by simp))
    have h2 := ih (fun x hx => h x (by simp [hx]))
    simp only [sumP, List.map_cons, List.sum_cons, List.length_cons] at *
    omega
theorem parts_con (c : Int) (hc : isI16 c) : Con Try.prog 69 [.int .i16 c] [] (fun v H R => v = .int .i64 (partsN c) ∧ H = [] ∧ R = []) := by
  refine con_gen (con_walk hmix fn69 ?_)
  intro vb vc vw vtoN vofN vaddN vsubN vmaxI vminI vcutN vgd vst vln vrep vsub vonto vsplice vstrEq vbyteV vnotB veqB hw qb qc qw qtoN qofN qaddN qsubN qmaxI qminI qcutN qgd qst qln qrep qsub qonto qsplice qstrEq qbyteV qnotB qeqB
  generalize Try.prog = P at *
  have hp : partsN c = if c < 0 then 1 else c := rfl
  generalize partsN c = p at *
  cbv
  split
  · rename_i h
    rw [qc, lss_true] at h
    cbv
    rw [hp, if_pos h]
    exact ⟨rfl, trivial⟩
  · rename_i h
    rw [qc, lss_false] at h
    have e : vw .i64 c = c := by unfold isI16 at hc; simp only [qw]; exact wrap_i64 (by omega) (by omega)
    cbv
    rw [e, hp, if_neg h]
    exact ⟨rfl, trivial⟩
theorem refparts_con (c : Int) (hc : isI16 c) (h1 : -1 ≤ c) : Con Try.prog 77 [.int .i16 c] [] (fun v H R => v = .int .i64 (partsN c) ∧ H = [] ∧ R = []) := by
  refine con_gen (con_walk hmix fn77 ?_)
  intro vb vc vw vtoN vofN vaddN vsubN vmaxI vminI vcutN vgd vst vln vrep vsub vonto vsplice vstrEq vbyteV vnotB veqB hw qb qc qw qtoN qofN qaddN qsubN qmaxI qminI qcutN qgd qst qln qrep qsub qonto qsplice qstrEq qbyteV qnotB qeqB
  generalize Try.prog = P at *
  have hp : partsN c = if c < 0 then 1 else c := rfl
  generalize partsN c = p at *
  cbv
  split
  · rename_i h
    rw [qc, eql_true] at h
    cbv
    rw [hp, if_pos (by omega)]
    exact ⟨rfl, trivial⟩
  · rename_i h
    rw [qc, eql_false] at h
    have e : vw .i64 c = c := by unfold isI16 at hc; simp only [qw]; exact wrap_i64 (by omega) (by omega)
    cbv
    rw [e, hp, if_neg (by omega)]
    exact ⟨rfl, trivial⟩
theorem one_shl {x : Int} (h0 : 0 ≤ x) (h1 : x ≤ 12) : bV .shl .i64 1 x = 2 ^ x.toNat := by
  obtain ⟨n, rfl⟩ : ∃ n : Nat, x = n := ⟨x.toNat, by omega⟩
  have hn : n ≤ 12 := by omega
  have : ∀ n : Fin 13, bV .shl .i64 1 ((n.1 : Nat) : Int) = 2 ^ ((n.1 : Nat) : Int).toNat := by decide
  exact this ⟨n, by omega⟩
set_option maxHeartbeats 2000000 in
theorem right_con (l : List Int) (log : Int) (cap : Nat) (hl : ∀ c ∈ l, isI16 c) (hlog : -9223372036854775808 ≤ log ∧ log ≤ 9223372036854775807) :
    Con Try.prog 71 [.slice 0 .z 1 l.length cap, .int .i64 log] [.ro .i16 l] (fun v H R => v = .bool (decide (Right l log)) ∧ H = [.ro .i16 l] ∧ R = []) := by
  have hparts := fun c h => parts_con c h
  refine con_gen (con_walk hmix fn71 ?_)
  intro vb vc vw vtoN vofN vaddN vsubN vmaxI vminI vcutN vgd vst vln vrep vsub vonto vsplice vstrEq vbyteV vnotB veqB hw qb qc qw qtoN qofN qaddN qsubN qmaxI qminI qcutN qgd qst qln qrep qsub qonto qsplice qstrEq qbyteV qnotB qeqB
  have hm := hmix
  generalize Try.prog = P at *
  have hR : decide (Right l log) = true ↔ (5 ≤ log ∧ log ≤ 12 ∧ 1 ≤ l.length ∧ l.length ≤ 256 ∧ l.getD (l.length - 1) 0 ≠ 0 ∧ (∀ c ∈ l, -1 ≤ c) ∧ sumP l = 2 ^ log.toNat) := by
    rw [decide_eq_true_iff]; exact Iff.rfl
  generalize decide (Right l log) = rb at *
  have hRf : ∀ p : Prop, (rb = true → False) → rb = false := fun _ h => by cases rb with | false => rfl | true => exact (h rfl).elim
  have hl16 := hl
  have hsum : ∀ i, 0 ≤ sumP (l.take i) ∧ sumP (l.take i) ≤ 32767 * i := by
    intro i
    have h1 := sumP_le (l := l.take i) (fun c hc => hl c (List.mem_of_mem_take hc))
    have h2 : (l.take i).length ≤ i := by rw [List.length_take]; omega
    omega
  generalize hn : l.length = n at *
  cbv
  generalize h1 : vc .lss log 5 = z1
  cases z1
  rotate_left
  · rw [qc, lss_true] at h1
    cbv
    rw [hRf True (fun h => by have := (hR.1 h).1; omega)]
    exact ⟨rfl, trivial⟩
  rw [qc, lss_false] at h1
  cbv
  generalize h2 : vc .gtr log 12 = z2
  cases z2
  rotate_left
  · rw [qc, gtr_true] at h2
    cbv
    rw [hRf True (fun h => by have := (hR.1 h).2.1; omega)]
    exact ⟨rfl, trivial⟩
  rw [qc, gtr_false] at h2
  cbv
  generalize h3 : vc .eql (vofN n) 0 = z3
  cases z3
  rotate_left
  · rw [qc, qofN, eql_true] at h3
    cbv
    rw [hRf True (fun h => by have := (hR.1 h).2.2.1; simp only [nc] at *; omega)]
    exact ⟨rfl, trivial⟩
  rw [qc, qofN, eql_false] at h3
  cbv
  generalize h4 : vc .gtr (vofN n) 256 = z4
  cases z4
  rotate_left
  · rw [qc, qofN, gtr_true] at h4
    cbv
    rw [hRf True (fun h => by have := (hR.1 h).2.2.2.1; simp only [nc] at *; omega)]
    exact ⟨rfl, trivial⟩
  rw [qc, qofN, gtr_false] at h4
  have hn1 : vb .sub .i64 (vofN n) 1 = ((n - 1 : Nat) : Int) := by simp only [nc] at *; simp only [qofN]; rw [qb, sub_i64 (by omega) (by omega)]; omega
  have hin1 : 0 ≤ vb .sub .i64 (vofN n) 1 ∧ vb .sub .i64 (vofN n) 1 < n := by rw [hn1]; simp only [nc] at *; omega
  have hto1 : vtoN (vb .sub .i64 (vofN n) 1) = n - 1 := by rw [hn1]; simp only [qtoN]; omega
  have hlt1 : n - 1 < vln l := by simp only [qln]; simp only [nc] at *; omega
  have hlt1' : vaddN 0 (n - 1) < vln l := by simp only [qaddN, Nat.zero_add]; exact hlt1
  have hld : vgd l (n - 1) = l.getD (n - 1) 0 := by simp only [qgd]
  cbv
  rw [hto1]
  refine ⟨⟨hin1⟩, ⟨hlt1'⟩, ⟨hlt1⟩, ?_⟩
  generalize h5 : vc .eql (vgd l (n - 1)) 0 = z5
  cases z5
  rotate_left
  · rw [qc, eql_true, hld] at h5
    cbv
    rw [hRf True (fun h => (hR.1 h).2.2.2.2.1 h5)]
    exact ⟨rfl, trivial⟩
  rw [qc, eql_false, hld] at h5
  cbv
  refine loop_fam (α := Int × Int) [7, 36, 37, 38, 39, 40, 41, 42, 43, 44, 45] []
    (fun (k, m) => [(35, .int .i64 k), (5, .int .i64 m)]) (fun (k, m) => [])
    (fun (k, m) => ∃ i : Nat, k = i ∧ i ≤ n ∧ m = sumP (l.take i) ∧ ∀ c ∈ l.take i, -1 ≤ c) (fun (k, _) => n - k.toNat) hw hm ?_ ?_
  · refine Cv.genAt [35, 5] [] (Cv.fold [7, 36, 37, 38, 39, 40, 41, 42, 43, 44, 45] 1 [] (by exact Nat.le_refl _) (by exact Nat.le_of_ble_eq_true rfl) (by rfl) (by cbv) ?_)
    intro js
    refine ⟨(_, _), ?_, js, rfl⟩
    exact ⟨0, rfl, by omega, by simp [sumP], by simp⟩
  · rintro ⟨k, m⟩ js ⟨i, hk, hi, hs, hall⟩
    have hsi := hsum i
    cbv
    split
    · rename_i hlt
      have hlt : i < n := by rw [qc, lss_true] at hlt; simp only [qofN] at hlt; simp only [nc] at *; omega
      have hti : vtoN k = i := by simp only [qtoN]; simp only [nc] at *; omega
      have hin : 0 ≤ k ∧ k < (n : Int) := by simp only [nc] at *; omega
      have hlt2 : i < vln l := by simp only [qln]; omega
      have hlt3 : vaddN 0 i < vln l := by simp only [qaddN, Nat.zero_add]; exact hlt2
      have hil : i < l.length := by omega
      have hgd : vgd l i = l.getD i 0 := by simp only [qgd]
      have hmem : l.getD i 0 ∈ l := by rw [List.getD_eq_getElem?_getD, List.getElem?_eq_getElem hil]; exact List.getElem_mem hil
      have hc16 := hl16 _ hmem
      have hpl := partsN_le hc16
      have hsn : sumP (l.take (i + 1)) = m + partsN (l.getD i 0) := by rw [take_snoc hil, sumP_snoc, ← hs]
      have hpc := hparts _ hc16
      have hk1 : vb .add .i64 k 1 = ((i + 1 : Nat) : Int) := by simp only [nc] at *; rw [qb, add_i64 (by omega) (by omega)]; omega
      have hmu : n - (vb .add .i64 k 1).toNat < n - k.toNat := by rw [hk1, hk]; simp only [nc] at *; omega
      rw [← hgd] at hpc hsn
      have hadd : vb .add .i64 m (partsN (vgd l i)) = m + partsN (vgd l i) := by simp only [nc] at *; rw [hgd]; rw [qb, add_i64 (by omega) (by omega)]
      generalize partsN (vgd l i) = pc at hpc hsn hadd
      cbv
      rw [hti]
      cbv
      refine ⟨⟨hin⟩, ⟨hlt3⟩, ⟨hlt2⟩, ?_⟩
      generalize hcd : vgd l i = cd at *
      split
      · rename_i hlo
        rw [qc, lss_true] at hlo
        cbv
        rw [hRf True (fun h => by have := (hR.1 h).2.2.2.2.2.1 _ hmem; rw [← hgd] at this; omega)]
        exact ⟨rfl, trivial⟩
      · rename_i hlo
        rw [qc, lss_false] at hlo
        cbv
        refine call_con (ρ := []) hpc ⟨by rfl, by rfl, by rfl, by cbv⟩ ?_
        rintro v H R js ⟨rfl, rfl, rfl⟩
        cbv
        rw [hadd]
        refine Cv.fold [7, 36, 37, 38, 39, 40, 41, 42, 43, 44, 45] 1 [] (by exact Nat.le_refl _) (by exact Nat.le_of_ble_eq_true rfl) (by rfl) (by cbv) ?_
        intro js
        refine ⟨(_, _), ?_, js, rfl⟩
        refine ⟨⟨i + 1, hk1, hlt, hsn.symm, fun c hc => ?_⟩, hmu⟩
        rw [take_snoc hil] at hc
        rcases List.mem_append.1 hc with hc | hc
        · exact hall c hc
        · rw [List.mem_singleton.1 hc, ← hgd]; omega
    · rename_i hge
      have hin : i = n := by rw [qc, lss_false] at hge; simp only [qofN] at hge; simp only [nc] at *; omega
      have hl0 : l.take i = l := List.take_of_length_le (by omega)
      rw [hl0] at hs hall
      have hlg : vw .u64 log = log := by simp only [qw]; exact wrap_u64 (by omega) (by omega)
      have hnn : 0 ≤ vw .u64 log := by rw [hlg]; omega
      have hsh : vb .shl .i64 1 (vw .u64 log) = 2 ^ log.toNat := by
        rw [hlg, qb, one_shl (by omega) (by omega)]
      have hfin : vc .eql m (vb .shl .i64 1 (vw .u64 log)) = rb := by
        rw [hsh]
        cases hrb : rb
        · rw [qc, eql_false]
          intro he
          have := hR.2 ⟨by omega, by omega, by simp only [nc] at *; omega, by simp only [nc] at *; omega, h5, hall, by rw [← hs]; exact he⟩
          rw [hrb] at this; cases this
        · rw [qc, eql_true]
          have := (hR.1 hrb).2.2.2.2.2.2
          rw [← hs] at this; exact this
      cbv
      rw [hfin]
      exact ⟨⟨hnn⟩, rfl, trivial⟩
end Go.Proofs.Ytaaklikigccdfaa
namespace Go.Proofs.Ytaaklikigccdfaa
open Go Go.Sx Go.Proofs
/-- How many bits a number has. -/
def blen (x : Int) : Int := if x ≤ 0 then 0 else (Nat.log2 x.toNat : Int) + 1
theorem blen_of {x : Int} {k : Nat} (h0 : 2 ^ k ≤ x) (h1 : x < 2 ^ (k + 1)) : blen x = k + 1 := by
  have hp : (0 : Int) < 2 ^ k := Int.pow_pos (by omega)
  unfold blen
  rw [if_neg (by omega)]
  obtain ⟨n, rfl⟩ : ∃ n : Nat, x = n := ⟨x.toNat, by omega⟩
  have a : 2 ^ k ≤ n := by exact_mod_cast h0
  have b : n < 2 ^ (k + 1) := by exact_mod_cast h1
  have hn : n ≠ 0 := by have : 0 < 2 ^ k := Nat.pow_pos (by omega); omega
  have c1 : n.log2 < k + 1 := (Nat.log2_lt hn).2 b
  have c2 : k ≤ n.log2 := (Nat.le_log2 hn).2 a
  simp only [Int.toNat_natCast]
  omega
theorem blen_spec {x : Int} (h : 0 < x) : ∃ k : Nat, blen x = k + 1 ∧ 2 ^ k ≤ x ∧ x < 2 ^ (k + 1) := by
  obtain ⟨n, rfl⟩ : ∃ n : Nat, x = n := ⟨x.toNat, by omega⟩
  have hn : n ≠ 0 := by omega
  refine ⟨n.log2, ?_, ?_, ?_⟩
  · unfold blen; rw [if_neg (by omega)]; simp
  · exact_mod_cast (Nat.le_log2 hn).1 (Nat.le_refl _)
  · exact_mod_cast (Nat.log2_lt hn).1 (Nat.lt_succ_self _)
theorem blen_half {x : Int} (h : 0 < x) : blen x = blen (x / 2) + 1 := by
  obtain ⟨k, h1, h2, h3⟩ := blen_spec h
  cases k with
  | zero =>
    have : x = 1 := by omega
    subst this; rfl
  | succ k =>
    have e : blen (x / 2) = k + 1 := blen_of (by rw [Int.pow_succ] at h2; omega) (by rw [Int.pow_succ] at h3; omega)
    rw [h1, e]; push_cast; omega
theorem blen_nonpos {x : Int} (h : x ≤ 0) : blen x = 0 := by unfold blen; rw [if_pos h]
theorem blen_range {x : Int} {n : Nat} (h0 : 0 ≤ x) (h : x < 2 ^ n) : 0 ≤ blen x ∧ blen x ≤ n := by
  rcases Int.lt_or_le 0 x with hx | hx
  · obtain ⟨k, h1, h2, h3⟩ := blen_spec hx
    have : k < n := by
      apply Classical.byContradiction
      intro hk
      have : (2 : Int) ^ n ≤ 2 ^ k := by exact_mod_cast Nat.pow_le_pow_right (by omega : 0 < 2) (by omega : n ≤ k)
      omega
    omega
  · rw [blen_nonpos hx]; omega
theorem blen_16 {x : Int} (h0 : 0 ≤ x) (h : x < 65536) : 0 ≤ blen x ∧ blen x ≤ 16 := blen_range (n := 16) h0 h
theorem blen_8 {x : Int} (h0 : 0 ≤ x) (h : x < 256) : 0 ≤ blen x ∧ blen x ≤ 8 := blen_range (n := 8) h0 h
set_option maxRecDepth 100000 in
theorem lenTab_blen (n : Fin 256) : IntKind.i64.wrap (((UInt8.ofNat (lenTab.getD n.val 0).toNat).toNat : Nat) : Int) = blen (n.val : Int) := by
  revert n
  decide +kernel
theorem blen_256 {x : Int} (h : 256 ≤ x) : blen x = 8 + blen (x / 256) := by
  have e : x / 256 = x / 2 / 2 / 2 / 2 / 2 / 2 / 2 / 2 := by omega
  rw [e, blen_half (x := x) (by omega), blen_half (x := x / 2) (by omega), blen_half (x := x / 2 / 2) (by omega), blen_half (x := x / 2 / 2 / 2) (by omega), blen_half (x := x / 2 / 2 / 2 / 2) (by omega),
    blen_half (x := x / 2 / 2 / 2 / 2 / 2) (by omega), blen_half (x := x / 2 / 2 / 2 / 2 / 2 / 2) (by omega), blen_half (x := x / 2 / 2 / 2 / 2 / 2 / 2 / 2) (by omega)]
  omega
set_option maxRecDepth 100000 in
theorem len64_con (x : Int) (hx : 0 ≤ x ∧ x < 65536) : Con Try.prog 74 [.int .u64 x] [] (fun v H R => v = .int .i64 (blen x) ∧ H = [] ∧ R = []) := by
  refine con_gen (con_walk hmix fn74 ?_)
  intro vb vc vw vtoN vofN vaddN vsubN vmaxI vminI vcutN vgd vst vln vrep vsub vonto vsplice vstrEq vbyteV vnotB veqB hw qb qc qw qtoN qofN qaddN qsubN qmaxI qminI qcutN qgd qst qln qrep qsub qonto qsplice qstrEq qbyteV qnotB qeqB
  have hm := hmix
  generalize Try.prog = P at *
  have hl : lenTab.length = 256 := by rfl
  have key : ∀ y : Int, 0 ≤ y → y < 256 → vw .i64 (vbyteV (vgd lenTab (vtoN y))) = blen y := by
    intro y h0 h1
    obtain ⟨n, rfl⟩ : ∃ n : Nat, y = n := ⟨y.toNat, by omega⟩
    rw [qw, qbyteV, qgd, qtoN]
    exact lenTab_blen ⟨n, by omega⟩
  have hb256 := @blen_256 x
  have hbr := @blen_8 (x / 256) (by omega) (by omega)
  have hbx := @blen_16 x (by omega) (by omega)
  have e1 : x74 = (.seq (.ops [⟨(some 2), .mv (.k (.lit .i64 0)), none, []⟩])
    (.seq (.seq (.ops [⟨(some 3), .mv (.t 0), none, []⟩,
      ⟨(some 4), .cmp .geq (.t 3) (.k (.lit .u64 4294967296)), none, []⟩])
    (.cond (.t 4) (.seq (.ops [⟨(some 5), .mv (.t 0), none, []⟩,
      ⟨(some 6), .bin .shr .u64 (.t 5) (.k (.lit .u64 32)), none, []⟩,
      ⟨(some 0), .mv (.t 6), none, []⟩])
    (.ops [⟨(some 2), .mv (.k (.lit .i64 32)), none, []⟩])) (.skip)))
    (.seq (.seq (.ops [⟨(some 7), .mv (.t 0), none, []⟩,
      ⟨(some 8), .cmp .geq (.t 7) (.k (.lit .u64 65536)), none, []⟩])
    (.cond (.t 8) (.seq (.ops [⟨(some 9), .mv (.t 0), none, []⟩,
      ⟨(some 10), .bin .shr .u64 (.t 9) (.k (.lit .u64 16)), none, []⟩,
      ⟨(some 0), .mv (.t 10), none, []⟩])
    (.ops [⟨(some 11), .mv (.t 2), none, []⟩,
      ⟨(some 12), .bin .add .i64 (.t 11) (.k (.lit .i64 16)), none, []⟩,
      ⟨(some 2), .mv (.t 12), none, []⟩])) (.skip)))
    (.seq (.seq (.ops [⟨(some 13), .mv (.t 0), none, []⟩,
      ⟨(some 14), .cmp .geq (.t 13) (.k (.lit .u64 256)), none, []⟩])
    (.cond (.t 14) (.seq (.ops [⟨(some 15), .mv (.t 0), none, []⟩,
      ⟨(some 16), .bin .shr .u64 (.t 15) (.k (.lit .u64 8)), none, []⟩,
      ⟨(some 0), .mv (.t 16), none, []⟩])
    (.ops [⟨(some 17), .mv (.t 2), none, []⟩,
      ⟨(some 18), .bin .add .i64 (.t 17) (.k (.lit .i64 8)), none, []⟩,
      ⟨(some 2), .mv (.t 18), none, []⟩])) (.skip)))
    (.seq (.ops [⟨(some 19), .mv (.t 2), none, []⟩,
      ⟨(some 20), .mv (.t 0), none, []⟩,
      ⟨(some 21), .conv .u8 (.t 20), none, []⟩,
      ⟨(some 22), .idxS (.k (.str lenTab)) (.t 21), none, []⟩,
      ⟨(some 23), .conv .i64 (.t 22), none, []⟩,
      ⟨(some 24), .bin .add .i64 (.t 19) (.t 23), none, []⟩,
      ⟨(some 2), .mv (.t 24), none, []⟩])
    (.ret)))))) := rfl
  rw [e1]
  have hll : vln lenTab = 256 := by rw [qln]; exact hl
  generalize lenTab = T at *
  have d1 : vc .geq x 4294967296 = false := by rw [qc, geq_false]; omega
  have d2 : vc .geq x 65536 = false := by rw [qc, geq_false]; omega
  generalize hbl : blen x = bl at *
  generalize hbl2 : blen (x / 256) = bl2 at *
  cbv
  rw [d1]
  cbv
  rw [d2]
  cbv
  generalize d3 : vc .geq x 256 = z
  cases z
  · rw [qc, geq_false] at d3
    have w1 : vw .u8 x = x := by rw [qw]; exact wrap_u8 (by omega) (by omega)
    have hk := key x (by omega) (by omega)
    cbv
    rw [w1, hk, hbl]
    refine ⟨⟨?_⟩, ?_, trivial⟩
    · rw [hll]; omega
    · congr 1
      rw [qb, add_i64 (by omega) (by omega)]; omega
  · rw [qc, geq_true] at d3
    have s1 : vb .shr .u64 x 8 = x / 256 := by rw [qb]; show x.fdiv (2 ^ 8) = _; rw [Int.fdiv_eq_ediv_of_nonneg _ (by omega)]; rfl
    have w1 : vw .u8 (x / 256) = x / 256 := by rw [qw]; exact wrap_u8 (by omega) (by omega)
    have hk := key (x / 256) (by omega) (by omega)
    have := hb256 (by omega)
    cbv
    rw [s1, w1, hk, hbl2]
    refine ⟨⟨?_⟩, ?_, trivial⟩
    · rw [hll]; omega
    · congr 1
      rw [qb, add_i64 (by omega) (by omega)]; omega
theorem len_con (x : Int) (hx : 0 ≤ x ∧ x < 65536) : Con Try.prog 45 [.int .u64 x] [] (fun v H R => v = .int .i64 (blen x) ∧ H = [] ∧ R = []) := by
  have hc := len64_con x hx
  refine con_gen (con_walk hmix fn45 ?_)
  intro vb vc vw vtoN vofN vaddN vsubN vmaxI vminI vcutN vgd vst vln vrep vsub vonto vsplice vstrEq vbyteV vnotB veqB hw qb qc qw qtoN qofN qaddN qsubN qmaxI qminI qcutN qgd qst qln qrep qsub qonto qsplice qstrEq qbyteV qnotB qeqB
  have hm := hmix
  generalize Try.prog = P at *
  generalize blen x = bl at *
  cbv
  refine call_con (ρ := []) hc ⟨by rfl, by rfl, by rfl, by cbv⟩ ?_
  rintro v H R js ⟨rfl, rfl, rfl⟩
  cbv
theorem width_con (x : Int) (hx : 0 ≤ x ∧ x < 65536) : Con Try.prog 79 [.int .i64 x] [] (fun v H R => v = .int .i64 (blen x) ∧ H = [] ∧ R = []) := by
  refine con_gen (con_walk hmix fn79 ?_)
  intro vb vc vw vtoN vofN vaddN vsubN vmaxI vminI vcutN vgd vst vln vrep vsub vonto vsplice vstrEq vbyteV vnotB veqB hw qb qc qw qtoN qofN qaddN qsubN qmaxI qminI qcutN qgd qst qln qrep qsub qonto qsplice qstrEq qbyteV qnotB qeqB
  have hm := hmix
  generalize Try.prog = P at *
  have hb0 := @blen_nonpos
  have hbh := @blen_half
  have hbr := @blen_16
  generalize hbl : blen = f at *
  have hfx := hbr (x := x) (by omega) (by omega)
  cbv
  refine loop_fam (α := Int × Int) [4, 5, 6, 7, 8, 9] [] (fun (k, m) => [(0, .int .i64 k), (3, .int .i64 m)]) (fun _ => []) (fun (k, m) => 0 ≤ k ∧ k < 65536 ∧ 0 ≤ m ∧ m + f k = f x) (fun (k, _) => k.toNat) hw hm ?_ ?_
  · refine Cv.genAt [3] [] (Cv.fold [4, 5, 6, 7, 8, 9] 0 [] (by exact Nat.le_refl _) (by exact Nat.le_of_ble_eq_true rfl) (by rfl) (by cbv) ?_)
    intro js
    refine ⟨(_, _), ?_, js, rfl⟩
    refine ⟨by omega, by omega, by omega, by omega⟩
  · rintro ⟨k, m⟩ js ⟨h0, h1, h2, h3⟩
    have hfk := hbr (x := k) (by omega) (by omega)
    cbv
    split
    · rename_i h
      rw [qc, gtr_true] at h
      have e1 : vb .quo .i64 k 2 = k / 2 := by rw [qb, quo_i64 (by omega) (by omega) (by omega)]
      have hh := hbh h
      have hfk2 := hbr (x := k / 2) (by omega) (by omega)
      have e2 : vb .add .i64 m 1 = m + 1 := by rw [qb, add_i64 (by omega) (by omega)]
      cbv
      rw [e1, e2]
      refine Cv.fold [4, 5, 6, 7, 8, 9] 0 [] (by exact Nat.le_refl _) (by exact Nat.le_of_ble_eq_true rfl) (by rfl) (by cbv) ?_
      intro js
      refine ⟨(_, _), ?_, js, rfl⟩
      exact ⟨⟨by omega, by omega, by omega, by omega⟩, by show (k / 2).toNat < k.toNat; omega⟩
    · rename_i h
      rw [qc, gtr_false] at h
      have := hb0 (x := k) (by omega)
      have e : m = f x := by omega
      cbv
      rw [e]
      exact ⟨rfl, trivial⟩
end Go.Proofs.Ytaaklikigccdfaa
namespace Go.Proofs.Ytaaklikigccdfaa
open Go Go.Sx Go.Proofs
/-- A writer's state: the bits that were put, its bytes, how many bits. -/
def WS (bs l : List Int) (n : Nat) (m : Int) : Prop := (∀ b ∈ bs, isBit b) ∧ l = pack bs ∧ n = l.length ∧ m = bs.length
theorem WS.nil : WS [] [] 0 0 := ⟨by simp, (show pack [] = [] by decide).symm, rfl, rfl⟩
theorem partsN_nonneg {c : Int} (h : -1 ≤ c) : 0 ≤ partsN c := by unfold partsN; split <;> omega
theorem pow_log {log : Int} (h : 5 ≤ log ∧ log ≤ 12) : (32 : Int) ≤ 2 ^ log.toNat ∧ (2 : Int) ^ log.toNat ≤ 4096 := by
  obtain ⟨n, rfl⟩ : ∃ n : Nat, log = n := ⟨log.toNat, by omega⟩
  have : n = 5 ∨ n = 6 ∨ n = 7 ∨ n = 8 ∨ n = 9 ∨ n = 10 ∨ n = 11 ∨ n = 12 := by omega
  rcases this with rfl | rfl | rfl | rfl | rfl | rfl | rfl | rfl <;> decide
theorem sumP_take_le {l : List Int} (h : ∀ c ∈ l, -1 ≤ c) (i : Nat) : 0 ≤ sumP (l.take i) ∧ sumP (l.take i) ≤ sumP l := by
  induction l generalizing i with
  | nil => simp [sumP]
  | cons c l ih =>
    have hc := partsN_nonneg (h c (by simp))
    have h2 := ih (fun x hx => h x (by simp [hx]))
    cases i with
    | zero =>
      have := h2 l.length
      simp only [sumP, List.take_zero, List.map_nil, List.sum_nil, List.map_cons, List.sum_cons, List.take_length] at *
      omega
    | succ i =>
      have := h2 i
      simp only [sumP, List.take_succ_cons, List.map_cons, List.sum_cons] at *
      omega
theorem one_shl62 {x : Int} (h0 : 0 ≤ x) (h1 : x ≤ 62) : bV .shl .i64 1 x = 2 ^ x.toNat := by
  obtain ⟨n, rfl⟩ : ∃ n : Nat, x = n := ⟨x.toNat, by omega⟩
  have hn : n ≤ 62 := by omega
  show IntKind.i64.wrap (1 * 2 ^ (min ((n : Int).toNat) IntKind.i64.bits)) = 2 ^ ((n : Int).toNat)
  have e : min ((n : Int).toNat) IntKind.i64.bits = n := by simp [IntKind.bits]; omega
  have hp : (2 : Int) ^ n ≤ 2 ^ 62 := by exact_mod_cast Nat.pow_le_pow_right (by omega : 0 < 2) hn
  have hp0 : (0 : Int) < 2 ^ n := Int.pow_pos (by omega)
  rw [e, Int.one_mul, Int.toNat_natCast]
  exact wrap_i64 (by omega) (by omega)
end Go.Proofs.Ytaaklikigccdfaa
namespace Go.Proofs.Ytaaklikigccdfaa
open Go Go.Sx Go.Proofs
end Go.Proofs.Ytaaklikigccdfaa
namespace Go.Proofs.Ytaaklikigccdfaa
open Go Go.Sx Go.Proofs
/-! ### A table, plainly -/
def stepT (size a : Int) : Int := (a + size / 2 + size / 8 + 3) % size
def skipT (size high : Int) : Nat → Int → Int
  | 0, a => a
  | n + 1, a => if a < high then a else skipT size high n (stepT size a)
/-- The place behind a place. -/
def nextT (size high a : Int) : Int := skipT size high 5000 (stepT size a)
def posT (size high : Int) : Nat → Int
  | 0 => 0
  | n + 1 => nextT size high (posT size high n)
def iterT (size : Int) : Nat → Int → Int
  | 0, a => a
  | n + 1, a => iterT size n (stepT size a)
theorem iterT_eq {size : Int} (h : 0 < size) : ∀ (n : Nat) (a : Int), 0 ≤ a → a < size → iterT size n a = (a + n * (size / 2 + size / 8 + 3)) % size
  | 0, a, h0, h1 => by simp only [iterT]; rw [show a + ((0 : Nat) : Int) * (size / 2 + size / 8 + 3) = a by simp]; exact (Int.emod_eq_of_lt h0 h1).symm
  | n + 1, a, h0, h1 => by
    have hs : 0 ≤ stepT size a ∧ stepT size a < size := ⟨Int.emod_nonneg _ (by omega), Int.emod_lt_of_pos _ h⟩
    rw [iterT, iterT_eq h n _ hs.1 hs.2]
    unfold stepT
    rw [Int.emod_add_emod]
    congr 1
    push_cast
    rw [Int.add_mul]
    omega
/-- From each place one comes to 0. -/
theorem hit0 {size : Int} (hs : size = 32 ∨ size = 64 ∨ size = 128 ∨ size = 256 ∨ size = 512 ∨ size = 1024 ∨ size = 2048 ∨ size = 4096) {a : Int} (h0 : 0 ≤ a) (h1 : a < size) : ∃ m : Nat, m ≤ 4096 ∧ iterT size m a = 0 := by
  have key : ∀ inv : Int, (inv * (size / 2 + size / 8 + 3)) % size = 1 → 0 < size → size ≤ 4096 → ∃ m : Nat, m ≤ 4096 ∧ iterT size m a = 0 := by
    intro inv hinv hp hle
    refine ⟨(((size - a) * inv) % size).toNat, ?_, ?_⟩
    · have := Int.emod_lt_of_pos ((size - a) * inv) hp
      omega
    · rw [iterT_eq hp _ _ h0 h1, Int.toNat_of_nonneg (Int.emod_nonneg _ (by omega))]
      have e : ((size - a) * inv % size * (size / 2 + size / 8 + 3)) % size = (size - a) % size := by
        rw [Int.mul_emod, Int.emod_emod_of_dvd _ (Int.dvd_refl _), ← Int.mul_emod, Int.mul_assoc, Int.mul_emod, hinv, Int.mul_one, Int.emod_emod_of_dvd _ (Int.dvd_refl _)]
      rw [Int.add_emod, e, Int.add_emod_emod, Int.emod_add_emod]
      rw [show a + (size - a) = size by omega, Int.emod_self]
  rcases hs with rfl | rfl | rfl | rfl | rfl | rfl | rfl | rfl
  · exact key 7 (by decide) (by decide) (by decide)
  · exact key 3 (by decide) (by decide) (by decide)
  · exact key 91 (by decide) (by decide) (by decide)
  · exact key 11 (by decide) (by decide) (by decide)
  · exact key 363 (by decide) (by decide) (by decide)
  · exact key 43 (by decide) (by decide) (by decide)
  · exact key 1451 (by decide) (by decide) (by decide)
  · exact key 171 (by decide) (by decide) (by decide)
theorem step_bound {size : Int} (h : 0 < size) (a : Int) : 0 ≤ stepT size a ∧ stepT size a < size := ⟨Int.emod_nonneg _ (by omega), Int.emod_lt_of_pos _ h⟩
theorem skipT_bound {size high : Int} (h : 0 < size) : ∀ (n : Nat) (a : Int), 0 ≤ a → a < size → 0 ≤ skipT size high n a ∧ skipT size high n a < size
  | 0, a, h0, h1 => ⟨h0, h1⟩
  | n + 1, a, h0, h1 => by
    simp only [skipT]
    split
    · exact ⟨h0, h1⟩
    · exact skipT_bound h n _ (step_bound h a).1 (step_bound h a).2
theorem skipT_lt {size high : Int} (h : 0 < high) : ∀ (n m : Nat) (a : Int), iterT size m a = 0 → m ≤ n → skipT size high n a < high
  | 0, m, a, hm, hmn => by
    have : m = 0 := by omega
    subst this
    simp only [iterT] at hm
    simp only [skipT]; omega
  | n + 1, m, a, hm, hmn => by
    simp only [skipT]
    split
    · assumption
    · rename_i ha
      cases m with
      | zero => simp only [iterT] at hm; omega
      | succ m => exact skipT_lt h n m _ hm (by omega)
theorem skipT_step {size high a : Int} {n m : Nat} (h : 0 < high) (ha : ¬ a < high) (hm : iterT size m a = 0) (hmn : m ≤ n) : ∃ n' m', n = n' + 1 ∧ m = m' + 1 ∧ skipT size high n a = skipT size high n' (stepT size a) ∧ iterT size m' (stepT size a) = 0 := by
  cases m with
  | zero => simp only [iterT] at hm; omega
  | succ m =>
    cases n with
    | zero => omega
    | succ n => exact ⟨n, m, rfl, rfl, by simp only [skipT]; rw [if_neg ha], hm⟩
theorem skipT_here {size high a : Int} {n : Nat} (ha : a < high) : skipT size high n a = a := by
  cases n with
  | zero => rfl
  | succ n => simp only [skipT]; rw [if_pos ha]
theorem size_of {log : Int} (h : 5 ≤ log ∧ log ≤ 12) : ∃ size : Int, 2 ^ log.toNat = size ∧ (size = 32 ∨ size = 64 ∨ size = 128 ∨ size = 256 ∨ size = 512 ∨ size = 1024 ∨ size = 2048 ∨ size = 4096) := by
  obtain ⟨n, rfl⟩ : ∃ n : Nat, log = n := ⟨log.toNat, by omega⟩
  have : n = 5 ∨ n = 6 ∨ n = 7 ∨ n = 8 ∨ n = 9 ∨ n = 10 ∨ n = 11 ∨ n = 12 := by omega
  refine ⟨_, rfl, ?_⟩
  rcases this with rfl | rfl | rfl | rfl | rfl | rfl | rfl | rfl <;> decide
/-- How many of the first i counts are -1. -/
def negN (l : List Int) : Nat → Int
  | 0 => 0
  | i + 1 => negN l i + (if l.getD i 0 < 0 then 1 else 0)
def negS (l : List Int) (size : Int) : Nat → Nat → Int
  | 0 => fun _ => 0
  | i + 1 => if l.getD i 0 < 0 then updI (negS l size i) (size - negN l (i + 1)).toNat i else negS l size i
def rowT (l : List Int) : Nat → List Int
  | 0 => []
  | i + 1 => rowT l i ++ List.replicate (l.getD i 0).toNat (i : Int)
def placeT (size high : Int) (row : List Int) (sy : Nat → Int) : Nat → Nat → Int
  | 0 => sy
  | i + 1 => updI (placeT size high row sy i) (posT size high i).toNat (row.getD i 0)
/-- The symbols of a table. -/
def symT (l : List Int) (size : Int) : Nat → Int :=
  placeT size (size - negN l l.length) (rowT l l.length) (negS l size l.length) (size - negN l l.length).toNat
def cntT (sy : Nat → Int) (s : Int) : Nat → Int
  | 0 => 0
  | k + 1 => cntT sy s k + (if sy k = s then 1 else 0)
def xT (l : List Int) (sy : Nat → Int) (k : Nat) : Int := partsN (l.getD (sy k).toNat 0) + cntT sy (sy k) k
def bT (log x : Int) : Int := IntKind.u8.wrap (log + 1 - blen x)
def baseT (log size x : Int) : Int := IntKind.u16.wrap (bV .sub .i64 (bV .shl .i64 x (IntKind.u64.wrap (log + 1 - blen x))) size)
/-- The second and third cells of the first i rows of a table. -/
def tabB (l : List Int) (log size : Int) (i m : Nat) : Int := if m < i then bT log (xT l (symT l size) m) else 0
def tabC (l : List Int) (log size : Int) (i m : Nat) : Int := if m < i then baseT log size (xT l (symT l size) m) else 0
theorem tabB_step (l : List Int) (log size : Int) (i : Nat) : updI (tabB l log size i) i (bT log (xT l (symT l size) i)) = tabB l log size (i + 1) := by
  funext m
  rw [updI_eq]
  unfold tabB
  by_cases h : m = i
  · subst h; rw [if_pos rfl, if_pos (by omega)]
  · rw [if_neg h]
    by_cases h2 : m < i
    · rw [if_pos h2, if_pos (by omega)]
    · rw [if_neg h2, if_neg (by omega)]
theorem tabC_step (l : List Int) (log size : Int) (i : Nat) : updI (tabC l log size i) i (baseT log size (xT l (symT l size) i)) = tabC l log size (i + 1) := by
  funext m
  rw [updI_eq]
  unfold tabC
  by_cases h : m = i
  · subst h; rw [if_pos rfl, if_pos (by omega)]
  · rw [if_neg h]
    by_cases h2 : m < i
    · rw [if_pos h2, if_pos (by omega)]
    · rw [if_neg h2, if_neg (by omega)]
theorem negN_range (l : List Int) : ∀ i, 0 ≤ negN l i ∧ negN l i ≤ i
  | 0 => by simp [negN]
  | i + 1 => by
    have := negN_range l i
    simp only [negN]; split <;> (push_cast; omega)
theorem rowT_length (l : List Int) (h : ∀ c ∈ l, -1 ≤ c) : ∀ i, i ≤ l.length → ((rowT l i).length : Int) = sumP (l.take i) - negN l i
  | 0, _ => by simp [rowT, negN, sumP]
  | i + 1, hi => by
    have ih := rowT_length l h i (by omega)
    have hc : -1 ≤ l.getD i 0 := h _ (by rw [List.getD_eq_getElem?_getD, List.getElem?_eq_getElem (by omega)]; exact List.getElem_mem _)
    rw [take_snoc (by omega), sumP_snoc, rowT, negN, List.length_append, List.length_replicate]
    unfold partsN
    split <;> (push_cast; omega)
theorem rowT_mem (l : List Int) : ∀ i, ∀ s ∈ rowT l i, 0 ≤ s ∧ s < i
  | 0, s, h => by simp [rowT] at h
  | i + 1, s, h => by
    simp only [rowT, List.mem_append] at h
    rcases h with h | h
    · have := rowT_mem l i s h; omega
    · have := List.eq_of_mem_replicate h; omega
theorem cntT_range (sy : Nat → Int) (s : Int) : ∀ k, 0 ≤ cntT sy s k ∧ cntT sy s k ≤ k
  | 0 => by simp [cntT]
  | k + 1 => by
    have := cntT_range sy s k
    simp only [cntT]; split <;> (push_cast; omega)
theorem negS_range (l : List Int) (size : Int) : ∀ i m, 0 ≤ negS l size i m ∧ negS l size i m < max i 1
  | 0, m => by simp [negS]
  | i + 1, m => by
    have := negS_range l size i m
    simp only [negS]
    split
    · rw [updI_eq]; split <;> omega
    · omega
theorem getD_mem_or {l : List Int} (i : Nat) : l.getD i 0 ∈ l ∨ l.getD i 0 = 0 := by
  rw [List.getD_eq_getElem?_getD]
  cases h : l[i]? with
  | none => exact .inr rfl
  | some v => exact .inl (List.mem_of_getElem? h)
theorem placeT_range {size high n : Int} {row : List Int} {sy : Nat → Int} (hn : 0 < n) (h1 : ∀ m, 0 ≤ sy m ∧ sy m < n) (h2 : ∀ s ∈ row, 0 ≤ s ∧ s < n) : ∀ i m, 0 ≤ placeT size high row sy i m ∧ placeT size high row sy i m < n
  | 0, m => h1 m
  | i + 1, m => by
    have := placeT_range (size := size) (high := high) hn h1 h2 i m
    simp only [placeT]
    rw [updI_eq]
    split
    · rcases getD_mem_or (l := row) i with h | h
      · exact h2 _ h
      · rw [h]; omega
    · exact this
theorem symT_range {l : List Int} (size : Int) (h : 0 < l.length) (m : Nat) : 0 ≤ symT l size m ∧ symT l size m < l.length := by
  refine placeT_range (by omega) (fun m => ?_) (fun s hs => ?_) _ m
  · have := negS_range l size l.length m; omega
  · exact rowT_mem l _ s hs
theorem partsN_le_sum {l : List Int} (h : ∀ c ∈ l, -1 ≤ c) (i : Nat) : 0 ≤ partsN (l.getD i 0) ∧ partsN (l.getD i 0) ≤ sumP l := by
  by_cases hi : i < l.length
  · have h1 := sumP_take_le h i
    have h2 := sumP_take_le h (i + 1)
    rw [take_snoc hi, sumP_snoc] at h2
    have := partsN_nonneg (h (l.getD i 0) (by rw [List.getD_eq_getElem?_getD, List.getElem?_eq_getElem (by omega)]; exact List.getElem_mem _))
    omega
  · have h1 := sumP_take_le h 0
    rw [List.getD_eq_getElem?_getD, List.getElem?_eq_none (by omega)]
    have : partsN ((none : Option Int).getD 0) = 0 := by decide
    omega
theorem posT_range {size high : Int} (hs : size = 32 ∨ size = 64 ∨ size = 128 ∨ size = 256 ∨ size = 512 ∨ size = 1024 ∨ size = 2048 ∨ size = 4096) (hh : 0 < high) : ∀ i, 0 ≤ posT size high i ∧ posT size high i < high ∧ posT size high i < size
  | 0 => by simp only [posT]; omega
  | i + 1 => by
    have ih := posT_range hs hh i
    have hsb := step_bound (size := size) (by omega) (posT size high i)
    obtain ⟨m, hm, hm0⟩ := hit0 hs hsb.1 hsb.2
    simp only [posT, nextT]
    have := skipT_lt hh 5000 m _ hm0 (by omega)
    have := skipT_bound (size := size) (high := high) (by omega) 5000 _ hsb.1 hsb.2
    omega
end Go.Proofs.Ytaaklikigccdfaa
namespace Go.Proofs.Ytaaklikigccdfaa
open Go Go.Sx Go.Proofs
set_option maxRecDepth 10000 in
set_option maxHeartbeats 40000000 in
theorem table_ok (l : List Int) (log : Int) (cap : Nat) (hl : ∀ c ∈ l, isI16 c) (hlog : -9223372036854775808 ≤ log ∧ log ≤ 9223372036854775807) (hR : Right l log) :
    Con Try.prog 44 [.slice 0 .z 1 l.length cap, .int .i64 log] [.ro .i16 l] (fun v H R => R = [] ∧ v = .tup [.slice 1 .z 3 (2 ^ log.toNat : Int).toNat (2 ^ log.toNat : Int).toNat, .int .i64 0] ∧
      H = [.ro .i16 l, .arr 86 3 (2 ^ log.toNat : Int).toNat (fun m => [.int .u8 (symT l (2 ^ log.toNat) m), .int .u8 (tabB l log (2 ^ log.toNat) (2 ^ log.toNat : Int).toNat m), .int .u16 (tabC l log (2 ^ log.toNat) (2 ^ log.toNat : Int).toNat m)])]) := by
  have hright := right_con l log cap hl hlog
  rw [show decide (Right l log) = true by simp [hR]] at hright
  have hparts := parts_con
  have hlen := len_con
  have f75 := fn72
  have f116 := fn94
  have f70 := fn69
  refine con_gen (con_cut 2 (by simp) (con_drop (con_walk hmix fn44 ?_)))
  intro vb vc vw vtoN vofN vaddN vsubN vmaxI vminI vcutN vgd vst vln vrep vsub vonto vsplice vstrEq vbyteV vnotB veqB hw qb qc qw qtoN qofN qaddN qsubN qmaxI qminI qcutN qgd qst qln qrep qsub qonto qsplice qstrEq qbyteV qnotB qeqB
  have hm := hmix
  generalize Try.prog = P at *
  obtain ⟨g1, g2, g3, g4, g5, g6, g7⟩ := hR
  have hpl := pow_log ⟨g1, g2⟩
  obtain ⟨size, hsz, hszs⟩ := size_of ⟨g1, g2⟩
  rw [hsz] at hpl g7
  rw [hsz]
  obtain ⟨N, hN⟩ : ∃ N : Nat, size = N := ⟨size.toNat, by omega⟩
  have hNt : size.toNat = N := by omega
  rw [hNt]
  generalize hn : l.length = n at *
  have hto : ∀ i : Nat, vtoN (i : Int) = i := fun i => by simp only [qtoN, Int.toNat_natCast]
  have htoN : vtoN size = N := by rw [qtoN]; exact hNt
  have hadd0 : ∀ i, vaddN 0 i = i := fun i => by simp only [qaddN, Nat.zero_add]
  have hvln : vln l = n := by simp only [qln, hn]
  have hvgd : ∀ i, vgd l i = l.getD i 0 := fun i => by simp only [qgd]
  have hmem : ∀ i, i < n → l.getD i 0 ∈ l := fun i hi => by rw [List.getD_eq_getElem?_getD, List.getElem?_eq_getElem (by omega)]; exact List.getElem_mem _
  have hsyd : symT l size = placeT size (size - negN l n) (rowT l n) (negS l size n) (size - negN l n).toNat := by rw [← hn]; rfl
  have hsyr := symT_range (l := l) size (by omega)
  generalize hsyT : symT l size = syT at *
  have hB0 : tabB l log size 0 = fun _ => 0 := rfl
  have hC0 : tabC l log size 0 = fun _ => 0 := rfl
  have hBs := tabB_step l log size
  have hCs := tabC_step l log size
  rw [hsyT] at hBs hCs
  generalize tabB l log size = tB at *
  generalize tabC l log size = tC at *
  cbv
  refine call_con (ρ := [(0, .z)]) hright ⟨by rfl, by rfl, by rfl, by cbv; exact ⟨view_refl _, trivial⟩⟩ ?_
  rintro v H R js ⟨rfl, rfl, rfl⟩
  have hnb : vnotB true = false := by simp only [qnotB]; rfl
  have e2 : vw .u64 log = log := by rw [qw]; exact wrap_u64 (by omega) (by omega)
  have e3 : vb .shl .i64 1 log = size := by rw [qb, one_shl (by omega) (by omega), hsz]
  cbv
  rw [hnb]
  cbv
  rw [e2, e3, htoN]
  refine ⟨⟨by omega⟩, ⟨by omega⟩, ⟨by omega⟩, ⟨by omega⟩, ⟨by omega⟩, fun _ => rfl, fun _ => rfl, fun _ => rfl, ?_⟩
  have hx16 : ∀ i, i < n → isI16 (l.getD i 0) := fun i hi => hl _ (hmem i hi)
  have hgx : ∀ i, i < n → -1 ≤ l.getD i 0 := fun i hi => g6 _ (hmem i hi)
  have hneg := negN_range l
  have hrl := rowT_length l g6
  have hsn : sumP (l.take n) = size := by rw [List.take_of_length_le (by omega)]; exact g7
  have htk := sumP_take_le g6
  have hv256 : vrep 256 0 = List.replicate 256 0 := by simp only [qrep]
  refine WX.cv (Cv.nilB 3 0 5 .u8 (by rfl) (by cbv; exact ⟨fun _ => rfl, trivial⟩) (Cv.arrEq 1 (fun m => [.int .u8 (negS l size 0 m), .int .u8 0, .int .u16 0]) (by rfl) (by intro i; rfl) (Cv.here ?_)))
  generalize hs0 : negS l size 0 = sy0
  cbv
  rw [hv256]
  generalize hxs0 : List.replicate 256 (0 : Int) = xs0
  refine loop_fam (α := Int × Int × (Nat → Int) × List Int × List Int × Nat × Nat) ([11, 12] ++ [31, 32, 33, 34, 35, 36, 37, 38, 39, 40, 41, 42, 43, 44, 45, 46, 47, 48, 49, 50, 51, 52, 53, 54, 55, 56, 57, 58]) [5]
    (fun (k, high, sy, xs, row, rl, c) => [(30, .int .i64 k), (8, .int .i64 high)])
    (fun (k, high, sy, xs, row, rl, c) => [(1, .arr 86 3 N (fun m => [.int .u8 (sy m), .int .u8 0, .int .u16 0])), (3, .one 22 [.slice 5 .z 1 rl c]), (4, .ints 147 .i64 xs), (5, .buf 5 .u8 row c)])
    (fun (k, high, sy, xs, row, rl, c) => ∃ i : Nat, k = i ∧ i ≤ n ∧ high = size - negN l i ∧ sy = negS l size i ∧ row = rowT l i ∧ rl = row.length ∧ xs.length = 256 ∧ ∀ s, xs.getD s 0 = if s < i then partsN (l.getD s 0) else 0)
    (fun (k, high, sy, xs, row, rl, c) => n - k.toNat) hw hm ?_ ?_
  · refine Cv.genAt [30] [] (Cv.fold ([11, 12] ++ [31, 32, 33, 34, 35, 36, 37, 38, 39, 40, 41, 42, 43, 44, 45, 46, 47, 48, 49, 50, 51, 52, 53, 54, 55, 56, 57, 58]) 6 [5] (by exact Nat.le_refl _) (by exact Nat.le_of_ble_eq_true rfl) (by rfl) (by cbv) ?_)
    intro js
    refine ⟨(_, _, _, _, _, _, _), ?_, js, rfl⟩
    refine ⟨0, rfl, by omega, by simp [negN], hs0.symm, rfl, rfl, by rw [← hxs0]; simp, fun s => ?_⟩
    rw [← hxs0, if_neg (by omega), List.getD_eq_getElem?_getD, List.getElem?_replicate]
    split <;> rfl
  · rintro ⟨k, high, sy, xs, row, rl, c⟩ js ⟨i, hk, hi, hhigh, hsy, hrow, hrl1, hxl, hxg⟩
    cbv
    split
    rotate_left
    · rename_i hlt
      have hin : i = n := by rw [qc, lss_false] at hlt; simp only [qofN] at hlt; simp only [nc] at *; omega
      subst hin
      cbv
      refine ⟨fun _ => rfl, ?_⟩
      refine inl_walk hw hm f75 (by rfl) ?_
      cbv
      refine ⟨fun _ => rfl, fun _ => rfl, ?_⟩
      intro js1
      cbv
      refine range_rule (by rfl) (by rfl) (by cbv; exact ⟨fun _ => rfl, trivial⟩) (by cbv; exact ⟨fun _ => rfl, trivial⟩) (by rfl) ?_
      refine inl_walk hw hm f116 (by rfl) ?_
      have hnegi := hneg i
      have hh0 : 0 ≤ high := by have := hrl i (by omega); rw [hsn] at this; simp only [nc] at *; omega
      obtain ⟨Hn, hHn⟩ : ∃ Hn : Nat, high = Hn := ⟨high.toNat, by omega⟩
      have hrowl : row.length = Hn := by have := hrl i (by omega); rw [hsn, ← hrow] at this; simp only [nc] at *; omega
      have hsyd2 : syT = placeT size high row sy Hn := by rw [hsyd, ← hhigh, hrow, hsy, hHn]; simp
      have hpos := fun h => posT_range (size := size) (high := high) hszs h
      have hp0 : posT size high 0 = 0 := rfl
      have hps : ∀ q, posT size high (q + 1) = skipT size high 5000 (stepT size (posT size high q)) := fun q => rfl
      have hpl0 : placeT size high row sy 0 = sy := rfl
      have hpls : ∀ q, placeT size high row sy (q + 1) = updI (placeT size high row sy q) (posT size high q).toNat (row.getD q 0) := fun q => rfl
      have hstd : ∀ a, stepT size a = (a + size / 2 + size / 8 + 3) % size := fun a => rfl
      have hsb := fun a => step_bound (size := size) (by omega) a
      have hhit := fun a h0 h1 => hit0 (size := size) hszs (a := a) h0 h1
      have hsk1 := @skipT_step size high
      have hsk2 := @skipT_here size high
      generalize placeT size high row sy = PL at *
      generalize posT size high = PO at *
      generalize stepT size = ST at *
      generalize skipT size high = SK at *
      have hNle : N ≤ 4096 := by simp only [nc] at *; omega
      clear hparts hright hrl htk hneg
      cbv
      refine loop_fam (α := Int × Int × Int × (Nat → Int)) [7, 8, 9, 10, 11, 12, 13, 14, 15, 16, 17, 18, 19, 20, 21, 22, 23, 24, 25, 26, 27, 28, 29, 30, 31, 32, 33, 34, 35, 36, 37] [5]
        (fun (cnt, a, ix, sy2) => [(6, .int .i64 cnt), (4, .int .i64 a)])
        (fun (cnt, a, ix, sy2) => [(1, .arr 86 3 N (fun m => [.int .u8 (sy2 m), .int .u8 0, .int .u16 0])), (6, .one 3 [.int .i64 ix])])
        (fun (cnt, a, ix, sy2) => ∃ q : Nat, cnt = q ∧ q ≤ Hn ∧ ix = q ∧ a = PO q ∧ sy2 = PL q)
        (fun (cnt, a, ix, sy2) => Hn - cnt.toNat) hw hm ?_ ?_
      · refine Cv.genAt [6, 4] [6] (Cv.fold [7, 8, 9, 10, 11, 12, 13, 14, 15, 16, 17, 18, 19, 20, 21, 22, 23, 24, 25, 26, 27, 28, 29, 30, 31, 32, 33, 34, 35, 36, 37] 11 [5] (by exact Nat.le_refl _) (by exact Nat.le_of_ble_eq_true rfl) (by rfl) (by cbv) ?_)
        intro js
        refine ⟨(_, _, _, _), ?_, js, rfl⟩
        exact ⟨0, rfl, by omega, rfl, hp0.symm, hpl0.symm⟩
      · rintro ⟨cnt, a, ix, sy2⟩ js ⟨q, hcnt, hqH, hix, ha, hsy2⟩
        cbv
        split
        rotate_left
        · rename_i hlt2
          have hqe : q = Hn := by rw [qc, lss_false] at hlt2; simp only [nc] at *; omega
          have hsyE : sy2 = syT := by rw [hsy2, hqe, hsyd2]
          subst hsyE
          cbv
          intro js2
          cbv
          have hNI : vofN N = size := by simp only [qofN]; exact hN.symm
          have hpsum := fun s => partsN_le_sum g6 s
          rw [g7] at hpsum
          have hcr := cntT_range sy2
          have hcs : ∀ s q, cntT sy2 s (q + 1) = cntT sy2 s q + (if sy2 q = s then 1 else 0) := fun _ _ => rfl
          have hc0 : ∀ s, cntT sy2 s 0 = 0 := fun _ => rfl
          have hxd : ∀ q, xT l sy2 q = partsN (l.getD (sy2 q).toNat 0) + cntT sy2 (sy2 q) q := fun _ => rfl
          generalize xT l sy2 = XT at *
          have hbd : ∀ x, bT log x = IntKind.u8.wrap (log + 1 - blen x) := fun _ => rfl
          have hcd : ∀ x, baseT log size x = IntKind.u16.wrap (bV .sub .i64 (bV .shl .i64 x (IntKind.u64.wrap (log + 1 - blen x))) size) := fun _ => rfl
          generalize bT log = bTf at *
          generalize baseT log size = bAf at *
          rw [hNI]
          clear hps hpls hpos hhit hsk1 hsk2 hsb hstd
          refine WX.cv (Cv.arrEq 1 (fun m => [.int .u8 (sy2 m), .int .u8 (tB 0 m), .int .u16 (tC 0 m)]) (by rfl) (by intro i; rw [hB0, hC0]) (Cv.here ?_))
          cbv
          refine loop_fam (α := Int × (Nat → Int) × (Nat → Int) × List Int) ([15, 16, 17] ++ [76, 77, 78, 79, 80, 81, 82, 83, 84, 85, 86, 87, 88, 89, 90, 91, 92, 93, 94, 95, 96, 97, 98, 99, 100, 101, 102, 103, 104, 105, 106, 107, 108, 109, 110, 111, 112, 113, 114, 115, 116, 117, 118, 119, 120]) [5]
            (fun (k, b, s, xs) => [(75, .int .i64 k)])
            (fun (k, b, s, xs) => [(1, .arr 86 3 N (fun m => [.int .u8 (sy2 m), .int .u8 (b m), .int .u16 (s m)])), (4, .ints 147 .i64 xs)])
            (fun (k, b, s, xs) => ∃ q : Nat, k = q ∧ q ≤ N ∧ b = tB q ∧ s = tC q ∧ xs.length = 256 ∧ ∀ s, xs.getD s 0 = partsN (l.getD s 0) + cntT sy2 s q)
            (fun (k, b, s, xs) => N - k.toNat) hw hm ?_ ?_
          · refine Cv.genAt [75] [] (Cv.fold ([15, 16, 17] ++ [76, 77, 78, 79, 80, 81, 82, 83, 84, 85, 86, 87, 88, 89, 90, 91, 92, 93, 94, 95, 96, 97, 98, 99, 100, 101, 102, 103, 104, 105, 106, 107, 108, 109, 110, 111, 112, 113, 114, 115, 116, 117, 118, 119, 120]) 11 [5] (by exact Nat.le_refl _) (by exact Nat.le_of_ble_eq_true rfl) (by rfl) (by cbv) ?_)
            intro js
            refine ⟨(_, _, _, _), ?_, js, rfl⟩
            refine ⟨0, rfl, by omega, rfl, rfl, hxl, fun s => ?_⟩
            rw [hxg, hc0]
            by_cases h : s < i
            · rw [if_pos h]; omega
            · rw [if_neg h, List.getD_eq_getElem?_getD, List.getElem?_eq_none (by omega)]
              have : partsN ((none : Option Int).getD 0) = 0 := by decide
              omega
          · rintro ⟨k3, b3, s3, xs3⟩ js ⟨q3, hk3, hq3, hb3, hs3, hxl3, hxg3⟩
            cbv
            split
            rotate_left
            · rename_i hlt3
              have hqe3 : q3 = N := by rw [qc, lss_false] at hlt3; simp only [nc] at *; omega
              subst hqe3
              subst hb3 hs3
              cbv
            · rename_i hlt3
              have hqe3 : q3 < N := by rw [qc, lss_true] at hlt3; simp only [nc] at *; omega
              have ht3 : vtoN k3 = q3 := by rw [hk3]; exact hto q3
              have hin3 : 0 ≤ k3 ∧ k3 < (N : Int) := by simp only [nc] at *; omega
              obtain ⟨hsr0, hsr1⟩ := hsyr q3
              have htsy : vtoN (sy2 q3) = (sy2 q3).toNat := by simp only [qtoN]
              have hin4 : 0 ≤ sy2 q3 ∧ sy2 q3 < ((256 : Nat) : Int) := by simp only [nc] at *; omega
              have hln3 : vln xs3 = 256 := by rw [qln]; exact hxl3
              have hgx3 : vgd xs3 (sy2 q3).toNat = XT q3 := by rw [qgd, hxd]; show xs3.getD _ 0 = _; have hcast : ((sy2 q3).toNat : Int) = sy2 q3 := Int.toNat_of_nonneg hsr0; rw [hxg3]; simp only [nc]; rw [hcast]
              have hxr0 := hpsum (sy2 q3).toNat
              have hxr1 := hcr (sy2 q3) q3
              have hxq := hxd q3
              generalize hxv : XT q3 = xv at *
              have hxv0 : 0 ≤ xv ∧ xv ≤ 8192 := by simp only [nc] at *; omega
              have exw : vw .u64 xv = xv := by rw [qw]; exact wrap_u64 (by omega) (by omega)
              have hlx := hlen xv (by omega)
              have hbl := blen_16 (x := xv) (by omega) (by omega)
              have hbv := hbd xv
              have hcv := hcd xv
              generalize blen xv = bl at *
              have enn : vb .sub .i64 (vb .add .i64 log 1) bl = log + 1 - bl := by
                have e : vb .add .i64 log 1 = log + 1 := by rw [qb, add_i64 (by omega) (by omega)]
                rw [e, qb, sub_i64 (by omega) (by omega)]
              generalize hnnv : log + 1 - bl = nn at *
              have hnn0 : 0 ≤ vw .u64 nn := by
                rw [qw]; simp only [IntKind.wrap, IntKind.bits, IntKind.signed]
                simp
                omega
              have eB : vw .u8 nn = bTf xv := by rw [hbv, qw]
              have eC : vw .u16 (vb .sub .i64 (vb .shl .i64 xv (vw .u64 nn)) size) = bAf xv := by rw [hcv, qw, qb]
              have hBq := hBs q3
              have hCq := hCs q3
              rw [hxv, ← hb3] at hBq
              rw [hxv, ← hs3] at hCq
              have ex1 : vb .add .i64 xv 1 = xv + 1 := by rw [qb, add_i64 (by omega) (by omega)]
              obtain ⟨k4, hk4⟩ : ∃ k4 : Int, k4 = ((q3 + 1 : Nat) : Int) := ⟨_, rfl⟩
              have ek4 : vb .add .i64 k3 1 = k4 := by simp only [nc] at *; rw [qb, add_i64 (by omega) (by omega)]; omega
              obtain ⟨xs4, hxs4⟩ : ∃ xs4, xs4 = xs3.set (sy2 q3).toNat (xv + 1) := ⟨_, rfl⟩
              have evs : vst xs3 (sy2 q3).toNat (xv + 1) = xs4 := by rw [qst, hxs4]
              have hxl4 : xs4.length = 256 := by rw [hxs4, List.length_set]; exact hxl3
              have hxg4 : ∀ s, xs4.getD s 0 = partsN (l.getD s 0) + cntT sy2 s (q3 + 1) := by
                intro s
                rw [hcs, hxs4, List.getD_eq_getElem?_getD, List.getElem?_set, hxl3]
                by_cases h : (sy2 q3).toNat = s
                · have hsy : sy2 q3 = s := by simp only [nc] at *; omega
                  rw [if_pos h, if_pos (by simp only [nc] at *; omega), if_pos hsy, ← hsy]
                  show xv + 1 = _
                  rw [hxq, hsy]
                  simp only [Int.toNat_natCast]
                  omega
                · rw [if_neg h, if_neg (by simp only [nc] at *; omega), ← List.getD_eq_getElem?_getD, hxg3]
                  simp only [nc]
                  omega
              generalize hsq : sy2 q3 = sq at *
              generalize hsqn : sq.toNat = sqn at *
              generalize hb4 : tB (q3 + 1) = b4 at *
              generalize hs4 : tC (q3 + 1) = s4 at *
              generalize bTf xv = bx at *
              generalize bAf xv = ax at *
              generalize xv + 1 = xv1 at *
              cbv
              rw [ht3, hsq, htsy, hgx3, exw]
              refine ⟨⟨hin3⟩, ⟨hqe3⟩, ⟨hin4⟩, ⟨by simp only [nc] at *; omega⟩, ?_⟩
              refine call_con (ρ := []) hlx ⟨by rfl, by rfl, by rfl, by cbv; exact ⟨fun _ => rfl, trivial⟩⟩ ?_
              rintro v H R js5 ⟨rfl, rfl, rfl⟩
              cbv
              rw [hsq, htsy, hgx3, enn, eB, eC, ex1, evs, updF_3_1, updF_3_2, hBq, hCq, ek4]
              refine ⟨fun _ => rfl, ⟨hqe3⟩, ⟨hin4⟩, ⟨by simp only [nc] at *; omega⟩, ⟨hnn0⟩, ⟨hqe3⟩, ⟨⟨by simp only [nc] at *; omega⟩, trivial⟩, ⟨hqe3⟩, ⟨hqe3⟩, ⟨hin4⟩, ⟨by simp only [nc] at *; omega⟩, ⟨hin4⟩, ⟨by simp only [nc] at *; omega⟩, ?_⟩
              refine Cv.fold ([15, 16, 17] ++ [76, 77, 78, 79, 80, 81, 82, 83, 84, 85, 86, 87, 88, 89, 90, 91, 92, 93, 94, 95, 96, 97, 98, 99, 100, 101, 102, 103, 104, 105, 106, 107, 108, 109, 110, 111, 112, 113, 114, 115, 116, 117, 118, 119, 120]) 11 [5] (by exact Nat.le_refl _) (by exact Nat.le_of_ble_eq_true rfl) (by rfl) (by cbv) ?_
              intro js
              refine ⟨(_, _, _, _), ?_, js, rfl⟩
              refine ⟨⟨q3 + 1, hk4, by omega, hb4.symm, hs4.symm, hxl4, hxg4⟩, ?_⟩
              show N - k4.toNat < N - k3.toNat
              simp only [nc] at *
              omega
        · rename_i hlt2
          have hqe : q < Hn := by rw [qc, lss_true] at hlt2; simp only [nc] at *; omega
          have hpq := hpos (by simp only [nc] at *; omega) q
          have hpq1 := hpos (by simp only [nc] at *; omega) (q + 1)
          obtain ⟨hst0, hst1⟩ := hsb (PO q)
          obtain ⟨mm, hmm, hmm0⟩ := hhit _ hst0 hst1
          have hgrow : vgd row q = row.getD q 0 := by simp only [qgd]
          have hlr : vln row = Hn := by simp only [qln, hrowl]
          have htq : vtoN ix = q := by rw [hix]; exact hto q
          have hta : vtoN a = (PO q).toNat := by rw [ha, qtoN]
          have hin1 : 0 ≤ ix ∧ ix < (rl : Int) := by simp only [nc] at *; omega
          have hin2 : 0 ≤ a ∧ a < (N : Int) := by simp only [nc] at *; omega
          have hinN : (PO q).toNat < N := by simp only [nc] at *; omega
          obtain ⟨q1, hq1⟩ : ∃ q1 : Int, q1 = ((q + 1 : Nat) : Int) := ⟨_, rfl⟩
          have ei : vb .add .i64 ix 1 = q1 := by simp only [nc] at *; rw [qb, add_i64 (by omega) (by omega)]; omega
          have ec : vb .add .i64 cnt 1 = q1 := by simp only [nc] at *; rw [qb, add_i64 (by omega) (by omega)]; omega
          have eS : ∀ x, 0 ≤ x → x < size → vb .rem .i64 (vb .add .i64 (vb .add .i64 (vb .add .i64 x (vb .quo .i64 size 2)) (vb .quo .i64 size 8)) 3) size = ST x := by
            intro x h0 h1
            have e1 : vb .quo .i64 size 2 = size / 2 := by rw [qb, quo_i64 (by omega) (by omega) (by omega)]
            have e2 : vb .quo .i64 size 8 = size / 8 := by rw [qb, quo_i64 (by omega) (by omega) (by omega)]
            have e3 : vb .add .i64 x (size / 2) = x + size / 2 := by rw [qb, add_i64 (by omega) (by omega)]
            have e4 : vb .add .i64 (x + size / 2) (size / 8) = x + size / 2 + size / 8 := by rw [qb, add_i64 (by omega) (by omega)]
            have e5 : vb .add .i64 (x + size / 2 + size / 8) 3 = x + size / 2 + size / 8 + 3 := by rw [qb, add_i64 (by omega) (by omega)]
            rw [e1, e2, hstd, e3, e4, e5, qb, rem_i64 (by omega)]
          have eSa := eS a (by omega) (by omega)
          cbv
          refine yield_walk hw hm (by rfl) ?_
          cbv
          rw [htq, hadd0, hta]
          refine ⟨⟨hin1⟩, ⟨by omega⟩, ⟨by omega⟩, ⟨hin2⟩, ⟨hinN⟩, ?_⟩
          intro js2
          rw [hgrow, updF_3_0, ei]
          have hPLq : updI sy2 (PO q).toNat (row.getD q 0) = PL (q + 1) := by rw [hpls, hsy2]
          rw [hPLq]
          generalize hsy3 : PL (q + 1) = sy3 at *
          have hnb2 : vnotB true = false := hnb
          cbv
          rw [hnb2]
          cbv
          rw [eSa]
          generalize hSTa : ST a = sta at *
          refine ⟨⟨by omega⟩, ?_⟩
          refine loop_fam (α := Nat × Int) [22, 23, 24, 25, 26, 27, 28, 29, 30, 31, 32, 33, 34, 35, 36] [5] (fun (nn, a) => [(4, .int .i64 a)]) (fun _ => [])
            (fun (nn, a) => ∃ m, SK nn a = PO (q + 1) ∧ iterT size m a = 0 ∧ m ≤ nn ∧ 0 ≤ a ∧ a < size) (fun (nn, a) => nn) hw hm ?_ ?_
          · refine Cv.fold [22, 23, 24, 25, 26, 27, 28, 29, 30, 31, 32, 33, 34, 35, 36] 11 [5] (by exact Nat.le_refl _) (by exact Nat.le_of_ble_eq_true rfl) (by rfl) (by cbv) ?_
            intro js
            refine ⟨(5000, _), ?_, js, rfl⟩
            rw [← ha, hSTa] at hst0 hst1 hmm0
            exact ⟨mm, by rw [hps, ← ha, hSTa], hmm0, by omega, hst0, hst1⟩
          · rintro ⟨nn, a2⟩ js ⟨m2, hSK, hit, hm2, ha0, ha1⟩
            have eS2 := eS a2 ha0 ha1
            cbv
            split
            rotate_left
            · rename_i hge
              rw [qc, geq_false] at hge
              have hh1 : SK nn a2 = a2 := hsk2 (by omega)
              cbv
              rw [ec]
              refine Cv.fold [7, 8, 9, 10, 11, 12, 13, 14, 15, 16, 17, 18, 19, 20, 21, 22, 23, 24, 25, 26, 27, 28, 29, 30, 31, 32, 33, 34, 35, 36, 37] 11 [5] (by exact Nat.le_refl _) (by exact Nat.le_of_ble_eq_true rfl) (by rfl) (by cbv) ?_
              intro js
              refine ⟨(_, _, _, _), ?_, js, rfl⟩
              refine ⟨⟨q + 1, hq1, by omega, hq1, by rw [← hSK, hh1], hsy3.symm⟩, ?_⟩
              show Hn - q1.toNat < Hn - cnt.toNat
              simp only [nc] at *
              omega
            · rename_i hge
              rw [qc, geq_true] at hge
              obtain ⟨n3, m3, hn3, hm3, hsk, hit3⟩ := hsk1 (a := a2) (n := nn) (m := m2) (by simp only [nc] at *; omega) (by omega) hit hm2
              obtain ⟨hsb2, hsb3⟩ := hsb a2
              cbv
              generalize hhz : vc .eql high 0 = hz
              have hhz2 : hz = false := by
                cases hz with
                | false => rfl
                | true => rw [qc, eql_true] at hhz; simp only [nc] at *; omega
              rw [hhz2]
              cbv
              rw [eS2]
              refine ⟨⟨by omega⟩, ?_⟩
              refine Cv.fold [22, 23, 24, 25, 26, 27, 28, 29, 30, 31, 32, 33, 34, 35, 36] 11 [5] (by exact Nat.le_refl _) (by exact Nat.le_of_ble_eq_true rfl) (by rfl) (by cbv) ?_
              intro js
              refine ⟨(n3, _), ?_, js, rfl⟩
              refine ⟨⟨m3, by rw [← hsk]; exact hSK, hit3, by omega, hsb2, hsb3⟩, ?_⟩
              show n3 < nn
              omega
    · rename_i hlt
      have hlt : i < n := by rw [qc, lss_true] at hlt; simp only [qofN] at hlt; simp only [nc] at *; omega
      have hti : vtoN k = i := by rw [hk]; exact hto i
      have hinR : 0 ≤ k ∧ k < (n : Int) := by simp only [nc] at *; omega
      have hin256 : 0 ≤ k ∧ k < ((256 : Nat) : Int) := by simp only [nc] at *; omega
      have hln : vln xs = 256 := by rw [qln]; exact hxl
      have h16 := hx16 i hlt
      have hpc := hparts _ h16
      have hgi := hgx i hlt
      have hlti : i < 256 := by omega
      have ew : vw .u8 k = k := by rw [qw]; simp only [nc] at *; exact wrap_u8 (by omega) (by omega)
      have ek : vb .add .i64 k 1 = ((i + 1 : Nat) : Int) := by simp only [nc] at *; rw [qb, add_i64 (by omega) (by omega)]; omega
      have hmu : n - ((i + 1 : Nat) : Int).toNat < n - k.toNat := by rw [hk]; simp only [nc] at *; omega
      have hn1 := hneg (i + 1)
      have hn0 := hneg i
      have hnd : negN l (i + 1) = negN l i + (if l.getD i 0 < 0 then 1 else 0) := rfl
      have hsd : negS l size (i + 1) = (if l.getD i 0 < 0 then updI (negS l size i) (size - negN l (i + 1)).toNat i else negS l size i) := rfl
      have hrd : rowT l (i + 1) = rowT l i ++ List.replicate (l.getD i 0).toNat (i : Int) := rfl
      have hxg2 : ∀ v, (∀ s, (xs.set i v).getD s 0 = if s = i then v else xs.getD s 0) := by
        intro v s
        rw [List.getD_eq_getElem?_getD, List.getElem?_set, hxl, List.getD_eq_getElem?_getD]
        by_cases h : i = s
        · subst h; simp [hlti]
        · rw [if_neg h, if_neg (fun e => h e.symm)]
      have hxgn : ∀ s, (xs.set i (partsN (l.getD i 0))).getD s 0 = if s < i + 1 then partsN (l.getD s 0) else 0 := by
        intro s
        rw [hxg2, hxg]
        by_cases h : s = i
        · subst h; rw [if_pos rfl, if_pos (by omega)]
        · rw [if_neg h]
          by_cases h2 : s < i
          · rw [if_pos h2, if_pos (by omega)]
          · rw [if_neg h2, if_neg (by omega)]
      have hvst : ∀ v, vst xs i v = xs.set i v := fun v => by rw [qst]
      have hrowl := hrl i (by omega)
      have hrowl1 := hrl (i + 1) (by omega)
      have htki := htk (i + 1)
      have htk0 := htk i
      clear hrl htk hright hlen
      cbv
      rw [hti, hadd0, hvgd]
      generalize hci : l.getD i 0 = ci at *
      generalize hpp : partsN ci = pc at *
      refine ⟨⟨hinR⟩, ⟨by omega⟩, ⟨by omega⟩, ?_⟩
      refine call_con (ρ := []) hpc ⟨by rfl, by rfl, by rfl, by cbv; exact ⟨fun _ => rfl, trivial⟩⟩ ?_
      rintro v H R js2 ⟨rfl, rfl, rfl⟩
      cbv
      rw [hti, hvst]
      have hx2l : (xs.set i pc).length = 256 := by rw [List.length_set]; exact hxl
      generalize hxs2 : xs.set i pc = xs2 at *
      generalize hz : vc .lss ci 0 = z
      cases z
      rotate_left
      · rw [qc, lss_true] at hz
        rw [if_pos hz] at hnd hsd
        have eh : vb .sub .i64 high 1 = size - negN l (i + 1) := by rw [qb, sub_i64 (by omega) (by omega)]; omega
        have ht0 : vtoN (size - negN l (i + 1)) = (size - negN l (i + 1)).toNat := by simp only [qtoN]
        generalize hh2 : size - negN l (i + 1) = high2 at *
        generalize hk2 : ((i + 1 : Nat) : Int) = k2 at *
        generalize hh2n : high2.toNat = h2n at *
        cbv
        rw [eh, ht0, ew, updF_3_0, ek]
        generalize hsy2 : updI sy h2n k = sy2 at *
        refine ⟨fun _ => rfl, ⟨hin256⟩, ⟨by omega⟩, ⟨by simp only [nc] at *; omega⟩, ⟨by simp only [nc] at *; omega⟩, ?_⟩
        refine Cv.fold ([11, 12] ++ [31, 32, 33, 34, 35, 36, 37, 38, 39, 40, 41, 42, 43, 44, 45, 46, 47, 48, 49, 50, 51, 52, 53, 54, 55, 56, 57, 58]) 6 [5] (by exact Nat.le_refl _) (by exact Nat.le_of_ble_eq_true rfl) (by rfl) (by cbv) ?_
        intro js
        refine ⟨(_, _, _, _, _, _, _), ?_, js, rfl⟩
        refine ⟨⟨i + 1, by first | exact hk2.symm | rfl, hlt, hh2.symm, ?_, ?_, hrl1, hx2l, hxgn⟩, hmu⟩
        · rw [hsd, ← hsy2, hsy, hk]; try rfl
        · rw [hrd, hrow]
          have : ci.toNat = 0 := by omega
          rw [this]; simp
      · rw [qc, lss_false] at hz
        rw [if_neg hz] at hnd hsd
        obtain ⟨q, hq⟩ : ∃ q : Nat, ci = q := ⟨ci.toNat, by omega⟩
        have hci15 : ci ≤ 32767 := h16.2
        have hnr : row.length ≤ 4096 := by rw [hrow]; simp only [nc] at *; omega
        cbv
        refine ⟨fun _ => rfl, ⟨hin256⟩, ⟨by omega⟩, ?_⟩
        refine loop_fam (α := Int × List Int × Nat × Nat) [51, 52, 53, 54, 55, 56, 57] [5]
          (fun (j, row, rl, c) => [(50, .int .i16 j)])
          (fun (j, row, rl, c) => [(3, .one 22 [.slice 5 .z 1 rl c]), (5, .buf 5 .u8 row c)])
          (fun (j, row, rl, c) => ∃ p : Nat, j = p ∧ p ≤ q ∧ row = rowT l i ++ List.replicate p (i : Int) ∧ rl = row.length)
          (fun (j, row, rl, c) => q - j.toNat) hw hm ?_ ?_
        · refine Cv.genAt [50] [] (Cv.fold [51, 52, 53, 54, 55, 56, 57] 6 [5] (by exact Nat.le_refl _) (by exact Nat.le_of_ble_eq_true rfl) (by rfl) (by cbv) ?_)
          intro js
          refine ⟨(_, _, _, _), ?_, js, rfl⟩
          exact ⟨0, rfl, by omega, by simp [hrow], hrl1⟩
        · rintro ⟨j, row2, rl2, c2⟩ js ⟨p, hj, hpq, hrow2, hrl2⟩
          have hl2 : row2.length ≤ 40000 := by
            rw [hrow2, List.length_append, List.length_replicate, ← hrow]; simp only [nc] at *; omega
          have hjw : vb .add .i16 j 1 = ((p + 1 : Nat) : Int) ∨ p = q := by
            by_cases h : p = q
            · exact .inr h
            · refine .inl ?_
              rw [qb]
              show IntKind.i16.wrap (j + 1) = _
              simp only [nc] at *
              simp [IntKind.wrap, IntKind.bits, IntKind.signed]
              omega
          cbv
          split
          rotate_left
          · rename_i hlt2
            have hpe : p = q := by rw [qc, lss_false] at hlt2; simp only [nc] at *; omega
            cbv
            rw [ek]
            generalize hk2 : ((i + 1 : Nat) : Int) = k2 at *
            refine Cv.fold ([11, 12] ++ [31, 32, 33, 34, 35, 36, 37, 38, 39, 40, 41, 42, 43, 44, 45, 46, 47, 48, 49, 50, 51, 52, 53, 54, 55, 56, 57, 58]) 6 [5] (by exact Nat.le_refl _) (by exact Nat.le_of_ble_eq_true rfl) (by rfl) (by cbv) ?_
            intro js
            refine ⟨(_, _, _, _, _, _, _), ?_, js, rfl⟩
            refine ⟨⟨i + 1, by first | exact hk2.symm | rfl, hlt, ?_, ?_, ?_, hrl2, hx2l, hxgn⟩, hmu⟩
            · rw [hhigh, hnd]; omega
            · rw [hsd, hsy]
            · rw [hrd, hrow2, hpe, hq]; rfl
          · rename_i hlt2
            have hpe : p < q := by rw [qc, lss_true] at hlt2; simp only [nc] at *; omega
            have hjw := hjw.resolve_right (by omega)
            have hsub : vsub [k] 0 1 = [k] := by simp only [qsub]; rfl
            have honto : vonto row2 rl2 [k] = row2 ++ [k] := by rw [qonto, hrl2]; simp
            have hlr : vln row2 = rl2 := by simp only [qln, hrl2]
            have hl1 : vln [k] = 1 := by simp only [qln]; rfl
            have ha1 : vaddN rl2 1 = rl2 + 1 := by simp only [qaddN]
            have ha01 : vaddN 0 1 = 1 := by simp only [qaddN]
            have hl3 : row2.length + 1 ≤ 140737488355328 := by omega
            rw [← hrl2] at hl3
            cbv
            rw [ew]
            refine ⟨fun _ => rfl, ⟨by rw [ha01, hl1]; exact Nat.le_refl _⟩, ⟨by rw [hlr]; exact Nat.le_refl _⟩, ⟨Nat.le_refl _⟩, ⟨by rw [ha1]; omega⟩, fun _ => rfl, ?_⟩
            intro c3 js3 hle3
            cbv
            rw [hsub, honto, hjw, ha1]
            generalize hrow3 : row2 ++ [k] = row3 at *
            refine Cv.fold [51, 52, 53, 54, 55, 56, 57] 6 [5] (by exact Nat.le_refl _) (by exact Nat.le_of_ble_eq_true rfl) (by rfl) (by cbv) ?_
            intro js
            refine ⟨(_, _, _, _), ?_, js, rfl⟩
            refine ⟨⟨p + 1, rfl, hpe, ?_, ?_⟩, ?_⟩
            · rw [← hrow3, hrow2, List.replicate_succ', List.append_assoc, hk]; try rfl
            · rw [← hrow3, List.length_append, hrl2]; try rfl
            · show q - ((p + 1 : Nat) : Int).toNat < q - j.toNat
              simp only [nc] at *
              omega
end Go.Proofs.Ytaaklikigccdfaa
