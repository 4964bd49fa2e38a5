import Derived.Test.YtbipjekiobmpgaaEC
import Derived.Test.YtbipjekiobmpgaaCode
/-
  Contracts of seat 1's functions, part 1: no reader, no writer.
-/
namespace Go.Proofs.Ytbipjekiobmpgaa
open Go Go.Sx Go.Proofs
theorem hmix : Try.prog.follows .mixedOrders = true := by kernel_rfl
theorem bits_nil (n : Int) : Con Try.prog 24 [.val (.pointer none), .int .i64 n] [] (fun v H R => v = .lit .u64 0 ∧ H = [] ∧ R = []) := by
  refine con_of_walk hmix fn24 (run_std fun O hO => ?_)
  generalize Try.prog = P
  cbv
theorem left_nil : Con Try.prog 25 [.val (.pointer none)] [] (fun v H R => v = .lit .i64 0 ∧ H = [] ∧ R = []) := by
  refine con_of_walk hmix fn25 (run_std fun O hO => ?_)
  generalize Try.prog = P
  cbv
theorem put_nil (x n : Int) : Con Try.prog 17 [.val (.pointer none), .int .u64 x, .int .i64 n] [] (fun v H R => v = .lit .i64 1 ∧ H = [] ∧ R = []) := by
  refine con_cut 0 (by simp) (con_of_walk hmix fn17 (run_std fun O hO => ?_))
  generalize Try.prog = P
  cbv
theorem close_nil : Con Try.prog 18 [.val (.pointer none)] [] (fun v H R => v = .val (.slice none 0 0) ∧ H = [] ∧ R = []) := by
  refine con_cut 0 (by simp) (con_of_walk hmix fn18 (run_std fun O hO => ?_))
  generalize Try.prog = P
  cbv
end Go.Proofs.Ytbipjekiobmpgaa
/-
  Plain: bits in bytes.
-/
namespace Go.Proofs.Ytbipjekiobmpgaa
open Go Go.Sx
/-- The numbers of these bits: eight a byte, the lowest first. -/
def bval (l : List Int) : Nat → Nat → Int
  | _, 0 => 0
  | i, n + 1 => bval l i n + l.getD (i + n) 0 * 2 ^ n
def pack (bs : List Int) : List Int := (List.range ((bs.length + 7) / 8)).map fun i => bval bs (8 * i) 8
def bitsN (x : Int) (n : Nat) : List Int := (List.range n).map fun k => x / 2 ^ k % 2
def isBit (b : Int) : Prop := b = 0 ∨ b = 1
theorem pack_length (bs : List Int) : (pack bs).length = (bs.length + 7) / 8 := by simp [pack]
theorem bval_bound (l : List Int) (h : ∀ b ∈ l, isBit b) (i : Nat) : ∀ n, 0 ≤ bval l i n ∧ bval l i n < 2 ^ n
  | 0 => by simp [bval]
  | n + 1 => by
    obtain ⟨h0, h1⟩ := bval_bound l h i n
    have hb : l.getD (i + n) 0 = 0 ∨ l.getD (i + n) 0 = 1 := by
      rw [List.getD_eq_getElem?_getD]
      cases hg : l[i + n]? with
      | none => left; rfl
      | some b => exact h b (List.mem_of_getElem? hg)
    have hp : (2 : Int) ^ (n + 1) = 2 ^ n + 2 ^ n := by rw [Int.pow_succ]; omega
    simp only [bval]
    rcases hb with hb | hb <;> rw [hb, hp] <;> constructor <;> omega
theorem bval_snoc (bs : List Int) (b : Int) (i : Nat) : ∀ n, bval (bs ++ [b]) i n = bval bs i n + (if i ≤ bs.length ∧ bs.length < i + n then b * 2 ^ (bs.length - i) else 0)
  | 0 => by
    simp only [bval]
    rw [if_neg (by omega)]
    rfl
  | n + 1 => by
    simp only [bval]
    rw [bval_snoc bs b i n]
    rcases Nat.lt_trichotomy (i + n) bs.length with h | h | h
    · have e : (bs ++ [b]).getD (i + n) 0 = bs.getD (i + n) 0 := by
        simp [List.getD_eq_getElem?_getD, List.getElem?_append_left h]
      rw [e, if_neg (by omega), if_neg (by omega)]
      omega
    · have e : (bs ++ [b]).getD (i + n) 0 = b := by
        rw [h]; simp [List.getD_eq_getElem?_getD]
      have e0 : bs.getD (i + n) 0 = 0 := by
        rw [h]; simp [List.getD_eq_getElem?_getD]
      rw [e, e0, if_neg (by omega), if_pos (by omega)]
      have : bs.length - i = n := by omega
      rw [this]
      omega
    · have e : (bs ++ [b]).getD (i + n) 0 = 0 := by
        simp [List.getD_eq_getElem?_getD, List.getElem?_eq_none (show (bs ++ [b]).length ≤ i + n by simp; omega)]
      have e0 : bs.getD (i + n) 0 = 0 := by
        simp [List.getD_eq_getElem?_getD, List.getElem?_eq_none (show bs.length ≤ i + n by omega)]
      rw [e, e0]
      by_cases hc : i ≤ bs.length ∧ bs.length < i + n
      · rw [if_pos hc, if_pos (by omega)]; omega
      · rw [if_neg hc, if_neg (by omega)]; omega
theorem bval_none (bs : List Int) (i : Nat) (h : bs.length ≤ i) : ∀ n, bval bs i n = 0
  | 0 => rfl
  | n + 1 => by
    simp only [bval]
    rw [bval_none bs i h n]
    simp [List.getD_eq_getElem?_getD, List.getElem?_eq_none (show bs.length ≤ i + n by omega)]
/-- One bit more. -/
theorem pack_snoc (bs : List Int) (b : Int) : pack (bs ++ [b]) =
    (if bs.length % 8 = 0 then pack bs ++ [0] else pack bs).set (bs.length / 8) ((if bs.length % 8 = 0 then pack bs ++ [0] else pack bs).getD (bs.length / 8) 0 + b * 2 ^ (bs.length % 8)) := by
  have hl : (if bs.length % 8 = 0 then pack bs ++ [0] else pack bs).length = (bs.length + 1 + 7) / 8 := by
    split <;> simp [pack_length] <;> omega
  have hg : ∀ i, i < (bs.length + 1 + 7) / 8 → (if bs.length % 8 = 0 then pack bs ++ [0] else pack bs)[i]? = some (bval bs (8 * i) 8) := by
    intro i hi
    split
    · rename_i h8
      by_cases hlt : i < (bs.length + 7) / 8
      · rw [List.getElem?_append_left (by rw [pack_length]; exact hlt)]
        simp [pack, hlt]
      · have : i = (pack bs).length := by rw [pack_length]; omega
        rw [this]
        simp
        rw [bval_none bs _ (by rw [pack_length]; omega)]
    · rename_i h8
      have hlt : i < (bs.length + 7) / 8 := by omega
      simp [pack, hlt]
  refine List.ext_getElem? fun i => ?_
  by_cases hi : i < (bs.length + 1 + 7) / 8
  · rw [List.getElem?_set]
    have hL : (pack (bs ++ [b]))[i]? = some (bval (bs ++ [b]) (8 * i) 8) := by
      have : i < ((bs ++ [b]).length + 7) / 8 := by simpa using hi
      simp only [pack, List.getElem?_map, List.getElem?_range this, Option.map_some]
    rw [hL, bval_snoc]
    by_cases he : bs.length / 8 = i
    · subst he
      rw [if_pos (show 8 * (bs.length / 8) ≤ bs.length ∧ bs.length < 8 * (bs.length / 8) + 8 by omega), if_pos rfl, if_pos (by rw [hl]; exact hi), List.getD_eq_getElem?_getD, hg _ hi]
      have : bs.length - 8 * (bs.length / 8) = bs.length % 8 := by omega
      simp [this]
    · rw [if_neg he, hg i hi, if_neg (by omega)]
      simp
  · rw [List.getElem?_eq_none (by rw [pack_length]; simp; omega), List.getElem?_eq_none (by rw [List.length_set, hl]; omega)]
theorem bitsN_succ (x : Int) (n : Nat) : bitsN x (n + 1) = bitsN x n ++ [x / 2 ^ n % 2] := by
  simp [bitsN, List.range_succ]
theorem bitsN_length (x : Int) (n : Nat) : (bitsN x n).length = n := by simp [bitsN]
theorem bitsN_zero (x : Int) : bitsN x 0 = [] := rfl
theorem isBit_mod (x : Int) : isBit (x % 2) := by unfold isBit; omega
theorem bitsN_bit (x : Int) (n : Nat) : ∀ b ∈ bitsN x n, isBit b := by
  intro b hb
  obtain ⟨k, _, rfl⟩ := List.mem_map.1 hb
  exact isBit_mod _
theorem bval_stop (bs : List Int) (i k : Nat) (h : bs.length ≤ i + k) : ∀ n, k ≤ n → bval bs i n = bval bs i k
  | 0, hn => by rw [Nat.le_zero.1 hn]
  | n + 1, hn => by
    by_cases he : k = n + 1
    · rw [he]
    · simp only [bval]
      rw [bval_stop bs i k h n (by omega)]
      simp [List.getD_eq_getElem?_getD, List.getElem?_eq_none (show bs.length ≤ i + n by omega)]
/-- The buffer, a byte more where it is full. -/
def room (bs : List Int) : List Int := if bs.length % 8 = 0 then pack bs ++ [0] else pack bs
theorem room_length (bs : List Int) : (room bs).length = bs.length / 8 + 1 := by
  unfold room
  split <;> simp [pack_length] <;> omega
theorem room_last (bs : List Int) : (room bs).getD (bs.length / 8) 0 = bval bs (8 * (bs.length / 8)) 8 := by
  unfold room
  rw [List.getD_eq_getElem?_getD]
  split
  · rename_i h8
    have : bs.length / 8 = (pack bs).length := by rw [pack_length]; omega
    rw [this]
    simp
    rw [bval_none bs _ (by rw [pack_length]; omega)]
  · rename_i h8
    have hlt : bs.length / 8 < (bs.length + 7) / 8 := by omega
    simp [pack, hlt]
theorem room_bound (bs : List Int) (hb : ∀ b ∈ bs, isBit b) : 0 ≤ (room bs).getD (bs.length / 8) 0 ∧ (room bs).getD (bs.length / 8) 0 < 2 ^ (bs.length % 8) := by
  rw [room_last, bval_stop bs _ (bs.length % 8) (by omega) 8 (by omega)]
  exact bval_bound bs hb _ _
theorem pow_le_128 {i : Nat} (h : i < 8) : (2 : Int) ^ i ≤ 128 := by
  have : i = 0 ∨ i = 1 ∨ i = 2 ∨ i = 3 ∨ i = 4 ∨ i = 5 ∨ i = 6 ∨ i = 7 := by omega
  rcases this with rfl | rfl | rfl | rfl | rfl | rfl | rfl | rfl <;> decide
theorem pack_step (bs : List Int) (b m : Int) (hb : ∀ b ∈ bs, isBit b) (hbit : isBit b) (hm : m = bs.length) :
    (room bs).set (m / 8).toNat (bV .or .u8 ((room bs).getD (m / 8).toNat 0) (bV .shl .u8 b (m % 8))) = pack (bs ++ [b]) := by
  have e1 : (m / 8).toNat = bs.length / 8 := by omega
  have e2 : (m % 8).toNat = bs.length % 8 := by omega
  obtain ⟨h0, h1⟩ := room_bound bs hb
  have hp := pow_le_128 (show bs.length % 8 < 8 by omega)
  have hp0 : (0 : Int) < 2 ^ (bs.length % 8) := Int.pow_pos (by decide)
  have hb2 : 0 ≤ b ∧ b * 2 ^ (bs.length % 8) ≤ 2 ^ (bs.length % 8) ∧ 0 ≤ b * 2 ^ (bs.length % 8) := by
    rcases hbit with rfl | rfl <;> omega
  rw [e1, shl_u rfl hb2.1 (by show m % 8 ≤ ((8 : Nat) : Int); omega) (by rw [e2]; show _ < (2 : Int) ^ 8; omega), e2, or_add rfl _ h0 h1 hb2.1 (by show _ < (2 : Int) ^ 8; omega), pack_snoc]
  rfl
theorem pack_snoc_length (bs : List Int) (b : Int) : (pack (bs ++ [b])).length = (room bs).length := by
  rw [pack_length, room_length]; simp; omega
end Go.Proofs.Ytbipjekiobmpgaa
namespace Go.Proofs.Ytbipjekiobmpgaa
open Go Go.Sx Go.Proofs
set_option maxHeartbeats 2000000 in
theorem put_con (bs : List Int) (c : Nat) (x : Int) (n : Nat) (hn : n ≤ 56) (hx : 0 ≤ x ∧ x < 2 ^ 64) (hb : ∀ b ∈ bs, isBit b) (hl : bs.length ≤ 2 ^ 40) :
    Con Try.prog 17 [.ptr 0 .z 2 0, .int .u64 x, .int .i64 n] [.one 51 [.slice 1 .z 1 (pack bs).length c, .int .i64 bs.length], .buf 5 .u8 (pack bs) c]
      (fun v H R => v = .lit .i64 0 ∧ R = [1] ∧ ∃ c', H = [.one 51 [.slice 1 .z 1 (pack (bs ++ bitsN x n)).length c', .int .i64 (bs ++ bitsN x n).length], .buf 5 .u8 (pack (bs ++ bitsN x n)) c']) := by
  refine con_cut 2 (by simp) (con_red [1] (con_walk hmix fn17 ?_))
  intro vb vc vw vtoN vofN vaddN vsubN vmaxI vminI vcutN vgd vst vln vrep vsub vonto vsplice vstrEq vbyteV vnotB veqB hw qb qc qw qtoN qofN qaddN qsubN qmaxI qminI qcutN qgd qst qln qrep qsub qonto qsplice qstrEq qbyteV qnotB qeqB
  have hm := hmix
  have f36 := fn34
  have f42 := fn49
  generalize Try.prog = P at *
  generalize hl0 : pack bs = l0
  generalize hm0 : (bs.length : Int) = m0
  generalize hn0 : (n : Int) = n0
  generalize hlen0 : l0.length = len0
  cbv
  have e1 : vc .lss n0 0 = false := by subst_vars; try simp only [nc] at *; simp [cV]
  have e2 : vc .gtr n0 56 = false := by subst_vars; try simp only [nc] at *; simp [cV]; omega
  rw [e1]
  cbv
  rw [e2]
  cbv
  refine inl_walk hw hm f36 (by rfl) ?_
  cbv
  intro js
  refine range_rule (by rfl) (by rfl) (by cbv) (by cbv) (by rfl) ?_
  refine inl_walk hw hm f42 (by rfl) ?_
  cbv
  refine loop_fam (α := Int × Int × List Int × Nat × Nat) [4, 7, 8, 9, 10, 11, 12, 13, 14, 15, 16, 17, 18, 19] [1]
    (fun (k, mk, l, len, c) => [(6, .int .i64 k)]) (fun (k, mk, l, len, c) => [(0, .one 51 [.slice 1 .z 1 len c, .int .i64 mk]), (1, .buf 5 .u8 l c)])
    (fun (k, mk, l, len, c) => ∃ i : Nat, k = i ∧ i ≤ n ∧ mk = (bs ++ bitsN x i).length ∧ l = pack (bs ++ bitsN x i) ∧ len = l.length) (fun (k, _) => n - k.toNat) hw hm ?_ ?_
  · refine Cv.genAt [6] [] (Cv.fold [4, 7, 8, 9, 10, 11, 12, 13, 14, 15, 16, 17, 18, 19] 7 [1] (by exact Nat.le_refl _) (by exact Nat.le_refl _) (by rfl) (by cbv) ?_)
    intro js
    refine ⟨(_, _, _, _, _), ?_, js, rfl⟩
    refine ⟨0, rfl, by omega, ?_, ?_, ?_⟩
    · subst_vars; try simp only [nc] at *; simp [bitsN_zero]
    · subst_vars; try simp only [nc] at *; simp [bitsN_zero]
    · exact hlen0.symm
  · rintro ⟨k, mk, l, len, c⟩ js ⟨i, hk, hi, hmk, hl', hlen⟩
    have hbs : ∀ b ∈ bs ++ bitsN x i, isBit b := fun b h => (List.mem_append.1 h).elim (hb b) (bitsN_bit x i b)
    have hlb : (bs ++ bitsN x i).length ≤ 2 ^ 40 + 56 := by simp [bitsN_length]; omega
    generalize hBS : bs ++ bitsN x i = BS at *
    have hll : l.length = (BS.length + 7) / 8 := by rw [hl', pack_length]
    cbv
    split
    · rename_i hlt
      have hlt : i < n := by subst_vars; try simp only [nc] at *; simpa [cV] using hlt
      have hcv : vw .u64 k = k := by subst_vars; try simp only [nc] at *; exact wrap_u64 (by omega) (by omega)
      have hbit : vw .u8 (vb .and .u64 (vb .shr .u64 x (vw .u64 k)) 1) = x / 2 ^ i % 2 := by
        subst_vars
        try simp only [nc] at *
        rw [hcv, shr_eq (by show (i : Int) ≤ ((64 : Nat) : Int); omega)]
        have h1 : 0 ≤ x / 2 ^ i := Int.ediv_nonneg hx.1 (Int.le_of_lt (Int.pow_pos (by decide)))
        have h2 : x / 2 ^ i ≤ x := Int.ediv_le_self _ hx.1
        rw [Int.toNat_natCast, and_one rfl h1 (by show _ < (2 : Int) ^ 64; omega)]
        exact wrap_u8 (by omega) (by omega)
      generalize hbb : x / 2 ^ i % 2 = bit at *
      have hbi : isBit bit := by rw [← hbb]; exact isBit_mod _
      have hnext : bs ++ bitsN x (i + 1) = BS ++ [bit] := by rw [bitsN_succ, ← List.append_assoc, hBS, hbb]
      have hrem : vb .rem .i64 mk 8 = mk % 8 := by subst_vars; try simp only [nc] at *; exact rem_i64 (by omega)
      have hquo : vtoN (vb .quo .i64 mk 8) = BS.length / 8 := by
        subst_vars
        try simp only [nc] at *
        rw [quo_i64 (by omega) (by omega) (by omega)]
        show Int.toNat _ = _
        omega
      have hmodw : vw .u64 (mk % 8) = mk % 8 := by rw [qw]; simp only [nc] at *; exact wrap_u64 (by omega) (by omega)
      have hpack : (room BS).set (BS.length / 8) (bV .or .u8 ((room BS).getD (BS.length / 8) 0) (bV .shl .u8 bit (mk % 8))) = pack (BS ++ [bit]) := by
        have := pack_step BS bit mk hbs hbi hmk
        have e : (mk / 8).toNat = BS.length / 8 := by simp only [nc] at *; omega
        rw [e] at this
        exact this
      have hd8 : BS.length / 8 < (room BS).length := by rw [room_length]; omega
      cbv
      refine ⟨⟨?_⟩, yield_walk hw hm (by rfl) ?_⟩
      · rw [hcv]; subst_vars; simp only [nc] at *; omega
      cbv
      split
      · rename_i hr8
        have h8 : BS.length % 8 = 0 := by rw [hrem, qc, eql_true] at hr8; simp only [nc] at *; omega
        have hroom : room BS = l ++ [0] := by rw [room, if_pos h8, hl']
        have hsub : vsub [0] 0 1 = [0] := by subst_vars; rfl
        have honto : vonto l len [0] = room BS := by rw [hroom]; subst_vars; simp
        have hin : 0 ≤ vb .quo .i64 mk 8 ∧ vb .quo .i64 mk 8 < (vaddN len 1 : Nat) := by
          have hq : vb .quo .i64 mk 8 = mk / 8 := by subst_vars; simp only [nc] at *; rw [quo_i64 (by omega) (by omega) (by omega)]
          rw [hq]; subst_vars; simp only [nc] at *; omega
        have hlt2 : vtoN (vb .quo .i64 mk 8) < vln (vonto l len (vsub [0] 0 1)) := by rw [hquo, hsub, honto]; subst_vars; simp only [nc] at *; omega
        have hlt3 : vaddN 0 (vtoN (vb .quo .i64 mk 8)) < vln (vonto l len (vsub [0] 0 1)) := by rw [qaddN]; simpa using hlt2
        have hnn : 0 ≤ vw .u64 (vb .rem .i64 mk 8) := by rw [hrem]; subst_vars; simp only [nc] at *; rw [wrap_u64 (by omega) (by omega)]; omega
        cbv
        refine ⟨⟨?_⟩, ⟨?_⟩, ⟨?_⟩, ⟨?_⟩, ?_⟩
        · subst_vars; decide
        · subst_vars; exact Nat.le_refl _
        · exact Nat.le_refl _
        · subst_vars; simp only [nc] at *; omega
        intro c1 js1 hle
        cbv
        refine ⟨⟨hin⟩, ⟨hlt3⟩, ⟨hlt2⟩, ⟨hnn⟩, ⟨hin⟩, ⟨hlt3⟩, ⟨hlt2⟩, ?_⟩
        intro js1
        cbv
        have e3 : vnotB true = false := by subst_vars; rfl
        rw [e3]
        cbv
        refine Cv.genAt [6] [] (Cv.fold [4, 7, 8, 9, 10, 11, 12, 13, 14, 15, 16, 17, 18, 19] 7 [1] (by exact Nat.le_refl _) (by exact Nat.le_succ _) (by rfl) (by cbv) ?_)
        intro js
        refine ⟨(_, _, _, _, _), ?_, js, rfl⟩
        refine ⟨⟨i + 1, ?_, by omega, ?_, ?_, ?_⟩, ?_⟩
        · rw [qb, add_i64 (by simp only [nc] at *; omega) (by simp only [nc] at *; omega)]; simp only [nc] at *; omega
        · rw [qb, add_i64 (by simp only [nc] at *; omega) (by simp only [nc] at *; omega), hnext]; simp only [nc, List.length_append] at *; simp; omega
        · rw [hsub, honto, hbit, hquo, hrem, hmodw, hnext, ← hpack]; subst_vars; rfl
        · rw [hsub, honto, qst]; simp only [List.length_set]; rw [hroom]; subst_vars; simp
        · show n - (vb .add .i64 k 1).toNat < n - k.toNat
          rw [qb, add_i64 (by simp only [nc] at *; omega) (by simp only [nc] at *; omega)]; simp only [nc] at *; omega
      · rename_i hr8
        have h8 : BS.length % 8 ≠ 0 := by rw [hrem, qc, eql_false] at hr8; simp only [nc] at *; omega
        have hroom : room BS = l := by rw [room, if_neg h8, hl']
        have hin : 0 ≤ vb .quo .i64 mk 8 ∧ vb .quo .i64 mk 8 < len := by
          have hq : vb .quo .i64 mk 8 = mk / 8 := by subst_vars; simp only [nc] at *; rw [quo_i64 (by omega) (by omega) (by omega)]
          rw [hq]; rw [hroom] at hd8; subst_vars; simp only [nc] at *; omega
        have hlt2 : vtoN (vb .quo .i64 mk 8) < vln l := by rw [hquo]; rw [hroom] at hd8; subst_vars; simp only [nc] at *; omega
        have hlt3 : vaddN 0 (vtoN (vb .quo .i64 mk 8)) < vln l := by rw [qaddN]; simpa using hlt2
        have hnn : 0 ≤ vw .u64 (vb .rem .i64 mk 8) := by rw [hrem]; subst_vars; simp only [nc] at *; rw [wrap_u64 (by omega) (by omega)]; omega
        cbv
        refine ⟨⟨hin⟩, ⟨hlt3⟩, ⟨hlt2⟩, ⟨hnn⟩, ⟨hin⟩, ⟨hlt3⟩, ⟨hlt2⟩, ?_⟩
        intro js1
        cbv
        have e3 : vnotB true = false := by subst_vars; rfl
        rw [e3]
        cbv
        refine Cv.genAt [6] [] (Cv.fold [4, 7, 8, 9, 10, 11, 12, 13, 14, 15, 16, 17, 18, 19] 7 [1] (by exact Nat.le_refl _) (by exact Nat.le_refl _) (by rfl) (by cbv) ?_)
        intro js
        refine ⟨(_, _, _, _, _), ?_, js, rfl⟩
        refine ⟨⟨i + 1, ?_, by omega, ?_, ?_, ?_⟩, ?_⟩
        · rw [qb, add_i64 (by simp only [nc] at *; omega) (by simp only [nc] at *; omega)]; simp only [nc] at *; omega
        · rw [qb, add_i64 (by simp only [nc] at *; omega) (by simp only [nc] at *; omega), hnext]; simp only [nc, List.length_append] at *; simp; omega
        · rw [hbit, hquo, hrem, hmodw, hnext, ← hpack, hroom]; subst_vars; rfl
        · rw [qst]; simp only [List.length_set]; exact hlen
        · show n - (vb .add .i64 k 1).toNat < n - k.toNat
          rw [qb, add_i64 (by simp only [nc] at *; omega) (by simp only [nc] at *; omega)]; simp only [nc] at *; omega
    · rename_i hge
      have hin : i = n := by rw [qc, lss_false] at hge; simp only [nc] at *; omega
      subst hin
      cbv
      intro js1
      cbv
      refine ⟨c, ?_⟩
      subst_vars
      rfl
end Go.Proofs.Ytbipjekiobmpgaa
namespace Go.Proofs.Ytbipjekiobmpgaa
open Go Go.Sx Go.Proofs
/-- The bit of a number, 0 ahead of the first. -/
def bitAt (b : List Int) (k : Int) : Int := if 0 ≤ k then b.getD (k / 8).toNat 0 / 2 ^ (k % 8).toNat % 2 else 0
/-- n bits from p on, backwards, the first the highest. -/
def rd (b : List Int) (p : Int) : Nat → Int
  | 0 => 0
  | n + 1 => rd b p n * 2 + bitAt b (p - 1 - n)
def isByte (x : Int) : Prop := 0 ≤ x ∧ x < 256
theorem bitAt_bit (b : List Int) (k : Int) : 0 ≤ bitAt b k ∧ bitAt b k < 2 := by unfold bitAt; split <;> omega
theorem rd_bound (b : List Int) (p : Int) : ∀ n, 0 ≤ rd b p n ∧ rd b p n < 2 ^ n
  | 0 => by simp [rd]
  | n + 1 => by
    have h := rd_bound b p n
    have h2 := bitAt_bit b (p - 1 - n)
    have hp : (2 : Int) ^ (n + 1) = 2 ^ n * 2 := Int.pow_succ _ _
    simp only [rd]
    omega
theorem pow_le_56 {n : Nat} (h : n ≤ 56) : (2 : Int) ^ n ≤ 72057594037927936 := by
  have : (2 : Int) ^ n ≤ 2 ^ 56 := by exact_mod_cast Nat.pow_le_pow_right (by decide) h
  exact this
theorem or_comm_u {k : IntKind} (h : k.signed = false) {x y : Int} : bV .or k x y = bV .or k y x := by
  show k.wrap _ = k.wrap _
  rw [BitVec.or_comm]
/-- How many are read for n. -/
def clampN (n : Int) : Nat := (if (if 0 > n then 0 else n) > 56 then 56 else (if 0 > n then 0 else n)).toNat
theorem clampN_le (n : Int) : clampN n ≤ 56 := by unfold clampN; split <;> split <;> omega
def floorP (p : Int) : Int := if p < -1099511627776 then -1099511627776 else p
set_option maxHeartbeats 2000000 in
theorem bits_con (b : List Int) (cap : Nat) (p n : Int) (hb : ∀ x ∈ b, isByte x) (hp : -1099511627776 ≤ p ∧ p ≤ 8 * b.length) (hl : b.length ≤ 2 ^ 48) :
    Con Try.prog 24 [.ptr 0 .z 2 0, .int .i64 n] [.one 108 [.slice 1 .z 1 b.length cap, .int .i64 p], .ro .u8 b]
      (fun v H R => v = .int .u64 (rd b p (clampN n)) ∧ R = [] ∧ H = [.one 108 [.slice 1 .z 1 b.length cap, .int .i64 (floorP (p - clampN n))], .ro .u8 b]) := by
  refine con_gen (con_cut 2 (by simp) (con_red [] (con_walk hmix fn24 ?_)))
  intro vb vc vw vtoN vofN vaddN vsubN vmaxI vminI vcutN vgd vst vln vrep vsub vonto vsplice vstrEq vbyteV vnotB veqB hw qb qc qw qtoN qofN qaddN qsubN qmaxI qminI qcutN qgd qst qln qrep qsub qonto qsplice qstrEq qbyteV qnotB qeqB
  have hm := hmix
  generalize Try.prog = P at *
  generalize hlen : b.length = len at *
  generalize hF : floorP (p - clampN n) = F
  generalize hV : rd b p (clampN n) = V
  cbv
  have hN : vminI (vmaxI n 0) 56 = (clampN n : Nat) := by rw [qmaxI, qminI]; unfold clampN; simp only [nc]; split <;> split <;> omega
  have hN56 := clampN_le n
  generalize clampN n = N at *
  rw [hN]
  generalize hNN : ((N : Nat) : Int) = N0 at *
  refine loop_fam (α := Int × Int) [6, 7, 15, 16, 17, 18, 19, 20, 21, 22, 23, 24, 25, 26, 27, 28, 29, 30, 31, 32, 33, 34, 35, 36, 37, 38, 39, 40, 41, 42, 43, 44, 45] []
    (fun (x, k) => [(5, .int .u64 x), (14, .int .i64 k)]) (fun (x, k) => [])
    (fun (x, k) => ∃ i : Nat, k = i ∧ i ≤ N ∧ x = rd b p i) (fun (x, k) => N - k.toNat) hw hm ?_ ?_
  · refine Cv.genAt [5, 14] [] (Cv.fold [6, 7, 15, 16, 17, 18, 19, 20, 21, 22, 23, 24, 25, 26, 27, 28, 29, 30, 31, 32, 33, 34, 35, 36, 37, 38, 39, 40, 41, 42, 43, 44, 45] 2 [] (by exact Nat.le_refl _) (by exact Nat.le_refl _) (by rfl) (by cbv) ?_)
    intro js
    refine ⟨(_, _), ?_, js, rfl⟩
    exact ⟨0, rfl, by omega, rfl⟩
  · rintro ⟨x, k⟩ js ⟨i, hk, hi, hx⟩
    cbv
    have hx2 := rd_bound b p i
    split
    · rename_i hlt
      have hlt : i < N := by rw [qc, lss_true] at hlt; simp only [nc] at *; omega
      have hpk : vb .sub .i64 (vb .sub .i64 p 1) k = p - 1 - i := by
        simp only [nc] at *
        rw [qb, sub_i64 (x := p) (by omega) (by omega), sub_i64 (by omega) (by omega), hk]
      have hk1 : vb .add .i64 k 1 = ((i + 1 : Nat) : Int) := by simp only [nc] at *; rw [qb, add_i64 (by omega) (by omega)]; omega
      have hp56 := pow_le_56 (show i ≤ 56 by omega)
      have hshl : vb .shl .u64 x 1 = rd b p i * 2 := by
        rw [qb, hx, shl_u rfl hx2.1 (by decide) (by show _ * (2 : Int) ^ 1 < 2 ^ 64; omega)]; rfl
      cbv
      split
      · rename_i hge
        have hge : 0 ≤ p - 1 - (i : Int) := by rw [qc, hpk, geq_true] at hge; simp only [nc] at *; exact hge
        have hbit : bitAt b (p - 1 - i) = b.getD ((p - 1 - i) / 8).toNat 0 / 2 ^ ((p - 1 - i) % 8).toNat % 2 := by unfold bitAt; rw [if_pos hge]
        generalize hz : p - 1 - (i : Int) = z at *
        have hz8 : vb .quo .i64 z 8 = z / 8 := by simp only [nc] at *; rw [qb, quo_i64 (by omega) (by omega) (by omega)]
        have hr8 : vb .rem .i64 z 8 = z % 8 := by simp only [nc] at *; rw [qb, rem_i64 (by omega)]
        have hw8 : vw .u64 (z % 8) = z % 8 := by simp only [nc] at *; rw [qw]; exact wrap_u64 (by omega) (by omega)
        have hin : 0 ≤ vb .quo .i64 z 8 ∧ vb .quo .i64 z 8 < len := by rw [hz8]; simp only [nc] at *; omega
        have hlt2 : vtoN (vb .quo .i64 z 8) < vln b := by rw [hz8, qtoN, qln]; simp only [nc] at *; omega
        have hlt3 : vaddN 0 (vtoN (vb .quo .i64 z 8)) < vln b := by rw [qaddN]; simpa using hlt2
        have hnn : 0 ≤ vw .u64 (vb .rem .i64 z 8) := by rw [hr8, hw8]; omega
        have hval : vb .or .u64 (vb .shl .u64 x 1) (vb .and .u64 (vw .u64 (vb .shr .u8 (vgd b (vtoN (vb .quo .i64 z 8))) (vw .u64 (vb .rem .i64 z 8)))) 1) = rd b p (i + 1) := by
          rw [hshl, hr8, hw8, hz8, qb, shr_eq (by show z % 8 ≤ ((8 : Nat) : Int); omega), qgd, qtoN, qw]
          show bV .or .u64 (rd b p i * 2) (bV .and .u64 (IntKind.u64.wrap (b.getD (z / 8).toNat 0 / 2 ^ (z % 8).toNat)) 1) = _
          have hbyte : isByte (b.getD (z / 8).toNat 0) := by
            rw [List.getD_eq_getElem?_getD]
            cases hg : b[(z / 8).toNat]? with
            | none => exact ⟨by simp, by simp⟩
            | some y => exact hb y (List.mem_of_getElem? hg)
          generalize b.getD (z / 8).toNat 0 = y at *
          have h1 : 0 ≤ y / 2 ^ (z % 8).toNat := Int.ediv_nonneg hbyte.1 (Int.le_of_lt (Int.pow_pos (by decide)))
          have h2 : y / 2 ^ (z % 8).toNat ≤ y := Int.ediv_le_self _ hbyte.1
          have h3 := hbyte.2
          rw [wrap_u64 h1 (by omega), and_one rfl h1 (by show _ < (2 : Int) ^ 64; omega)]
          have e : rd b p (i + 1) = rd b p i * 2 + y / 2 ^ (z % 8).toNat % 2 := by rw [rd, hz, hbit]
          rw [e]
          have h4 : 0 ≤ y / 2 ^ (z % 8).toNat % 2 ∧ y / 2 ^ (z % 8).toNat % 2 < 2 := by omega
          generalize y / 2 ^ (z % 8).toNat % 2 = t at *
          have := or_add (k := .u64) rfl (x := t) (b := rd b p i) 1 h4.1 (by omega) hx2.1 (by show _ < (2 : Int) ^ 64; omega)
          rw [or_comm_u rfl]
          simpa [Int.add_comm] using this
        cbv
        rw [hpk]
        refine ⟨⟨hin⟩, ⟨hlt3⟩, ⟨hlt2⟩, ⟨hnn⟩, ?_⟩
        refine Cv.genAt [5, 14] [] (Cv.fold [6, 7, 15, 16, 17, 18, 19, 20, 21, 22, 23, 24, 25, 26, 27, 28, 29, 30, 31, 32, 33, 34, 35, 36, 37, 38, 39, 40, 41, 42, 43, 44, 45] 2 [] (by exact Nat.le_refl _) (by exact Nat.le_refl _) (by rfl) (by cbv) ?_)
        intro js
        refine ⟨(_, _), ?_, js, rfl⟩
        exact ⟨⟨i + 1, hk1, hlt, hval⟩, by show N - (vb .add .i64 k 1).toNat < N - k.toNat; rw [hk1, hk]; simp only [nc] at *; omega⟩
      · rename_i hge
        have hge : ¬ 0 ≤ p - 1 - (i : Int) := by rw [qc, hpk, geq_false] at hge; simp only [nc] at *; exact hge
        have hbit : bitAt b (p - 1 - i) = 0 := by unfold bitAt; rw [if_neg hge]
        have hval : vb .shl .u64 x 1 = rd b p (i + 1) := by rw [hshl, rd, hbit]; omega
        cbv
        refine Cv.genAt [5, 14] [] (Cv.fold [6, 7, 15, 16, 17, 18, 19, 20, 21, 22, 23, 24, 25, 26, 27, 28, 29, 30, 31, 32, 33, 34, 35, 36, 37, 38, 39, 40, 41, 42, 43, 44, 45] 2 [] (by exact Nat.le_refl _) (by exact Nat.le_refl _) (by rfl) (by cbv) ?_)
        intro js
        refine ⟨(_, _), ?_, js, rfl⟩
        exact ⟨⟨i + 1, hk1, hlt, hval⟩, by show N - (vb .add .i64 k 1).toNat < N - k.toNat; rw [hk1, hk]; simp only [nc] at *; omega⟩
    · rename_i hge
      have hin : i = N := by rw [qc, lss_false] at hge; simp only [nc] at *; omega
      subst hin
      have hs : vb .sub .i64 p N0 = p - N0 := by simp only [nc] at *; rw [qb, sub_i64 (by omega) (by omega)]
      cbv
      split
      · rename_i hf
        have hf : floorP (p - N0) = -1099511627776 := by rw [qc, hs, lss_true] at hf; unfold floorP; rw [if_pos hf]
        cbv
        refine ⟨?_, ?_⟩ <;> simp only [hx, hV, show F = -1099511627776 by rw [← hF, ← hf, ← hNN]]
      · rename_i hf
        have hf : floorP (p - N0) = p - N0 := by rw [qc, hs, lss_false] at hf; unfold floorP; rw [if_neg hf]
        cbv
        refine ⟨?_, ?_⟩ <;> simp only [hx, hV, hs, show F = p - N0 by rw [← hF, ← hf, ← hNN]]
end Go.Proofs.Ytbipjekiobmpgaa
namespace Go.Proofs.Ytbipjekiobmpgaa
open Go Go.Sx Go.Proofs
theorem view_refl (l : List Int) : View 0 l l := ⟨⟨by omega, fun i _ => by rw [Nat.zero_add]⟩⟩
theorem left_con (b : List Int) (len cap : Nat) (p : Int) : Con Try.prog 25 [.ptr 0 .z 2 0] [.one 108 [.slice 1 .z 1 len cap, .int .i64 p], .ro .u8 b]
      (fun v H R => v = .int .i64 p ∧ R = [] ∧ H = [.one 108 [.slice 1 .z 1 len cap, .int .i64 p], .ro .u8 b]) := by
  refine con_walk hmix fn25 ?_
  intro vb vc vw vtoN vofN vaddN vsubN vmaxI vminI vcutN vgd vst vln vrep vsub vonto vsplice vstrEq vbyteV vnotB veqB hw qb qc qw qtoN qofN qaddN qsubN qmaxI qminI qcutN qgd qst qln qrep qsub qonto qsplice qstrEq qbyteV qnotB qeqB
  generalize Try.prog = P at *
  cbv
/-- Behind the writer: its bits and the mark. -/
theorem close_con (bs : List Int) (c : Nat) (hb : ∀ b ∈ bs, isBit b) (hl : bs.length ≤ 2 ^ 40) :
    Con Try.prog 18 [.ptr 0 .z 2 0] [.one 51 [.slice 1 .z 1 (pack bs).length c, .int .i64 bs.length], .buf 5 .u8 (pack bs) c]
      (fun v H R => R = [1] ∧ ∃ c', v = .slice 1 .z 1 (pack (bs ++ [1])).length c' ∧ H = [.one 51 [.val (.slice none 0 0), .int .i64 0], .buf 5 .u8 (pack (bs ++ [1])) c']) := by
  have hput := put_con bs c 1 1 (by decide) (by decide) hb hl
  have e1 : bitsN 1 1 = [1] := by decide
  rw [e1] at hput
  refine con_gen (con_cut 2 (by simp) (con_red [1] (con_walk hmix fn18 ?_)))
  intro vb vc vw vtoN vofN vaddN vsubN vmaxI vminI vcutN vgd vst vln vrep vsub vonto vsplice vstrEq vbyteV vnotB veqB hw qb qc qw qtoN qofN qaddN qsubN qmaxI qminI qcutN qgd qst qln qrep qsub qonto qsplice qstrEq qbyteV qnotB qeqB
  generalize Try.prog = P at *
  generalize pack bs = l0 at *
  generalize pack (bs ++ [1]) = l1 at *
  generalize l0.length = n0 at *
  generalize (bs.length : Int) = m0 at *
  generalize ((bs ++ [1]).length : Int) = m1 at *
  generalize hn1 : l1.length = n1 at *
  cbv
  refine call_con (ρ := [(0, .z), (1, .z)]) hput ⟨by rfl, by rfl, by rfl, by cbv⟩ ?_
  rintro v H R js ⟨rfl, rfl, c', rfl⟩
  cbv
  exact ⟨c', rfl, rfl⟩
def len8 (x : Int) : Int := if x < 1 then 0 else if x < 2 then 1 else if x < 4 then 2 else if x < 8 then 3 else if x < 16 then 4 else if x < 32 then 5 else if x < 64 then 6 else if x < 128 then 7 else 8
def lenTab : List Int := [0, 1, 2, 2, 3, 3, 3, 3, 4, 4, 4, 4, 4, 4, 4, 4, 5, 5, 5, 5, 5, 5, 5, 5, 5, 5, 5, 5, 5, 5, 5, 5, 6, 6, 6, 6, 6, 6, 6, 6, 6, 6, 6, 6, 6, 6, 6, 6, 6, 6, 6, 6, 6, 6, 6, 6, 6, 6, 6, 6, 6, 6, 6, 6, 7, 7, 7, 7, 7, 7, 7, 7, 7, 7, 7, 7, 7, 7, 7, 7, 7, 7, 7, 7, 7, 7, 7, 7, 7, 7, 7, 7, 7, 7, 7, 7, 7, 7, 7, 7, 7, 7, 7, 7, 7, 7, 7, 7, 7, 7, 7, 7, 7, 7, 7, 7, 7, 7, 7, 7, 7, 7, 7, 7, 7, 7, 7, 7, 8, 8, 8, 8, 8, 8, 8, 8, 8, 8, 8, 8, 8, 8, 8, 8, 8, 8, 8, 8, 8, 8, 8, 8, 8, 8, 8, 8, 8, 8, 8, 8, 8, 8, 8, 8, 8, 8, 8, 8, 8, 8, 8, 8, 8, 8, 8, 8, 8, 8, 8, 8, 8, 8, 8, 8, 8, 8, 8, 8, 8, 8, 8, 8, 8, 8, 8, 8, 8, 8, 8, 8, 8, 8, 8, 8, 8, 8, 8, 8, 8, 8, 8, 8, 8, 8, 8, 8, 8, 8, 8, 8, 8, 8, 8, 8, 8, 8, 8, 8, 8, 8, 8, 8, 8, 8, 8, 8, 8, 8, 8, 8, 8, 8, 8, 8, 8, 8, 8, 8, 8, 8, 8, 8, 8, 8, 8, 8]
set_option maxRecDepth 100000 in
theorem lenTab_eq (n : Fin 256) : IntKind.i64.wrap (((UInt8.ofNat (lenTab.getD n.val 0).toNat).toNat : Nat) : Int) = len8 (n.val : Int) := by
  revert n
  decide +kernel
set_option maxRecDepth 100000 in
theorem len8_con (x : Int) (hx : isByte x) : Con Try.prog 35 [.int .u8 x] [] (fun v H R => v = .int .i64 (len8 x) ∧ H = [] ∧ R = []) := by
  obtain ⟨n, rfl⟩ : ∃ n : Nat, x = n := ⟨x.toNat, by have := hx.1; omega⟩
  have hn : n < 256 := by have := hx.2; omega
  have hL := lenTab_eq ⟨n, hn⟩
  refine con_walk hmix fn35 ?_
  intro vb vc vw vtoN vofN vaddN vsubN vmaxI vminI vcutN vgd vst vln vrep vsub vonto vsplice vstrEq vbyteV vnotB veqB hw qb qc qw qtoN qofN qaddN qsubN qmaxI qminI qcutN qgd qst qln qrep qsub qonto qsplice qstrEq qbyteV qnotB qeqB
  generalize Try.prog = P at *
  generalize len8 (n : Int) = L at *
  generalize hnn : (n : Int) = x at *
  have hx35 : x35 = (.seq (.ops [⟨(some 2), .mv (.k (.lit .i64 0)), none, []⟩])
    (.seq (.ops [⟨(some 3), .mv (.t 0), none, []⟩,
      ⟨(some 4), .idxS (.k (.str lenTab)) (.t 3), none, []⟩,
      ⟨(some 5), .conv .i64 (.t 4), none, []⟩,
      ⟨(some 2), .mv (.t 5), none, []⟩])
    (.ret))) := rfl
  rw [hx35]
  have hl : lenTab.length = 256 := by rfl
  generalize lenTab = T at *
  cbv
  refine ⟨⟨?_⟩, ?_⟩
  · simp only [qln, hl]; simp only [nc] at *; omega
  · rw [qw, qbyteV, qgd, qtoN]
    subst hnn
    exact ⟨congrArg (SV.int .i64) hL, trivial⟩
theorem getLastD_eq (b : List Int) : b.getLastD 0 = b.getD (b.length - 1) 0 := by
  rw [List.getLastD_eq_getLast?, List.getLast?_eq_getElem?, List.getD_eq_getElem?_getD]
theorem new_bad (b : List Int) (cap : Nat) (hb : b.getLastD 0 = 0) (hl : b.length ≤ 2 ^ 48) : Con Try.prog 23 [.slice 0 .z 1 b.length cap] [.ro .u8 b] (fun v H R => v = .tup [.val (.pointer none), .lit .i64 11] ∧ H = [.ro .u8 b] ∧ R = []) := by
  refine con_cut 1 (by simp) (con_red [] (con_walk hmix fn23 ?_))
  intro vb vc vw vtoN vofN vaddN vsubN vmaxI vminI vcutN vgd vst vln vrep vsub vonto vsplice vstrEq vbyteV vnotB veqB hw qb qc qw qtoN qofN qaddN qsubN qmaxI qminI qcutN qgd qst qln qrep qsub qonto qsplice qstrEq qbyteV qnotB qeqB
  generalize Try.prog = P at *
  rw [getLastD_eq] at hb
  generalize hlen : b.length = len at *
  cbv
  generalize h0 : vc .eql (vofN len) 0 = z0
  cases z0
  rotate_left
  · cbv
  · have h0 : 1 ≤ len := by rw [qc, qofN, eql_false] at h0; simp only [nc] at *; omega
    have hsub : vb .sub .i64 (vofN len) 1 = len - 1 := by rw [qb, qofN]; simp only [nc] at *; rw [sub_i64 (by omega) (by omega)]
    have hin : 0 ≤ vb .sub .i64 (vofN len) 1 ∧ vb .sub .i64 (vofN len) 1 < len := by rw [hsub]; simp only [nc] at *; omega
    have hi : vtoN (vb .sub .i64 (vofN len) 1) = len - 1 := by rw [hsub, qtoN]; simp only [nc] at *; omega
    have hlt2 : vtoN (vb .sub .i64 (vofN len) 1) < vln b := by rw [hi, qln]; simp only [nc] at *; omega
    have hlt3 : vaddN 0 (vtoN (vb .sub .i64 (vofN len) 1)) < vln b := by rw [qaddN]; simpa using hlt2
    cbv
    refine ⟨⟨hin⟩, ⟨hlt3⟩, ⟨hlt2⟩, ?_⟩
    have hz : vc .eql (vgd b (vtoN (vb .sub .i64 (vofN len) 1))) 0 = true := by rw [hi, qgd, qc, eql_true]; exact hb
    rw [hz]
    cbv
theorem new_good (b : List Int) (cap : Nat) (hb : b.getLastD 0 ≠ 0) (hby : ∀ x ∈ b, isByte x) (hl : b.length ≤ 140737488355328) : Con Try.prog 23 [.slice 0 .z 1 b.length cap] [.ro .u8 b]
    (fun v H R => v = .tup [.ptr 2 .z 2 0, .lit .i64 0] ∧ R = [1] ∧ ∃ c', H = [.ro .u8 b, .buf 5 .u8 b c', .one 108 [.slice 1 .z 1 b.length c', .int .i64 (8 * (b.length - 1) + (len8 (b.getLastD 0) - 1))]]) := by
  have hbyte : isByte (b.getLastD 0) := by
    rw [getLastD_eq, List.getD_eq_getElem?_getD]
    cases hg : b[b.length - 1]? with
    | none => exact ⟨by simp, by simp⟩
    | some y => exact hby y (List.mem_of_getElem? hg)
  have hlen8 := len8_con (b.getLastD 0) hbyte
  have hL8 : 0 ≤ len8 (b.getLastD 0) ∧ len8 (b.getLastD 0) ≤ 8 := by unfold len8; (repeat' split) <;> omega
  refine con_cut 3 (by simp) (con_red [1] (con_walk hmix fn23 ?_))
  intro vb vc vw vtoN vofN vaddN vsubN vmaxI vminI vcutN vgd vst vln vrep vsub vonto vsplice vstrEq vbyteV vnotB veqB hw qb qc qw qtoN qofN qaddN qsubN qmaxI qminI qcutN qgd qst qln qrep qsub qonto qsplice qstrEq qbyteV qnotB qeqB
  generalize Try.prog = P at *
  generalize len8 (b.getLastD 0) = L at *
  generalize hF : (8 * ((b.length : Int) - 1) + (L - 1)) = F
  rw [getLastD_eq] at *
  have h0 : 1 ≤ b.length := by
    rcases b with _ | ⟨x, b⟩
    · exact absurd rfl hb
    · simp
  generalize hlen : b.length = len at *
  generalize hlast : b.getD (len - 1) 0 = last at *
  cbv
  have e0 : vc .eql (vofN len) 0 = false := by rw [qc, qofN, eql_false]; simp only [nc] at *; omega
  rw [e0]
  have hsub : vb .sub .i64 (vofN len) 1 = len - 1 := by rw [qb, qofN]; simp only [nc] at *; rw [sub_i64 (by omega) (by omega)]
  have hin : 0 ≤ vb .sub .i64 (vofN len) 1 ∧ vb .sub .i64 (vofN len) 1 < len := by rw [hsub]; simp only [nc] at *; omega
  have hi : vtoN (vb .sub .i64 (vofN len) 1) = len - 1 := by rw [hsub, qtoN]; simp only [nc] at *; omega
  have hlt2 : vtoN (vb .sub .i64 (vofN len) 1) < vln b := by rw [hi, qln]; simp only [nc] at *; omega
  have hlt3 : vaddN 0 (vtoN (vb .sub .i64 (vofN len) 1)) < vln b := by rw [qaddN]; simpa using hlt2
  have hval : vgd b (vtoN (vb .sub .i64 (vofN len) 1)) = last := by rw [hi, qgd]; exact hlast
  have hz : vc .eql (vgd b (vtoN (vb .sub .i64 (vofN len) 1))) 0 = false := by rw [hval, qc, eql_false]; exact hb
  cbv
  refine ⟨⟨hin⟩, ⟨hlt3⟩, ⟨hlt2⟩, ?_⟩
  rw [hz]
  cbv
  refine ⟨⟨hin⟩, ⟨hlt3⟩, ⟨hlt2⟩, ?_⟩
  rw [hval]
  refine call_con (ρ := []) hlen8 ⟨by rfl, by rfl, by rfl, by cbv⟩ ?_
  rintro v H R js ⟨rfl, rfl, rfl⟩
  cbv
  have ha : vaddN 0 len = len := by simp only [qaddN, Nat.zero_add]
  have hpay : vonto [] 0 (vsub b 0 len) = b := by simp only [qonto, qsub]; simp [← hlen]
  have hpos : vb .add .i64 (vb .mul .i64 8 (vb .sub .i64 (vofN len) 1)) (vb .sub .i64 L 1) = F := by
    rw [hsub, ← hF]; simp only [nc] at *
    rw [qb, mul_i64 (by omega) (by omega), sub_i64 (x := L) (by omega) (by omega), add_i64 (by omega) (by omega)]
  refine ⟨⟨?_⟩, ⟨?_⟩, ⟨?_⟩, ⟨?_⟩, ?_⟩
  · rw [ha, qln]; exact Nat.le_of_eq hlen.symm
  · exact Nat.zero_le _
  · exact Nat.zero_le _
  · rw [ha]; omega
  intro c1 js1 hle
  cbv
  rw [ha, hpay, hpos]
  exact ⟨c1, rfl⟩
end Go.Proofs.Ytbipjekiobmpgaa
/-
  Plain: what is put and marked is read backwards.
-/
namespace Go.Proofs.Ytbipjekiobmpgaa
open Go Go.Sx
/-- The bits of a row of numbers. -/
def putBits (bs : List Int) (x n : Int) : List Int := if 0 ≤ n ∧ n ≤ 56 then bs ++ bitsN x n.toNat else bs
def allBits (xs ns : Nat → Int) : Nat → List Int
  | 0 => []
  | k + 1 => putBits (allBits xs ns k) (xs k) (ns k)
theorem putBits_bit {bs : List Int} {x n : Int} (h : ∀ b ∈ bs, isBit b) : ∀ b ∈ putBits bs x n, isBit b := by
  unfold putBits
  split
  · exact fun b hb => (List.mem_append.1 hb).elim (h b) (bitsN_bit x _ b)
  · exact h
theorem putBits_length (bs : List Int) (x n : Int) : bs.length ≤ (putBits bs x n).length ∧ (putBits bs x n).length ≤ bs.length + 56 := by
  unfold putBits
  split <;> simp [bitsN_length] <;> omega
theorem allBits_bit (xs ns : Nat → Int) : ∀ k, ∀ b ∈ allBits xs ns k, isBit b
  | 0 => by simp [allBits]
  | k + 1 => putBits_bit (allBits_bit xs ns k)
theorem allBits_length (xs ns : Nat → Int) : ∀ k, (allBits xs ns k).length ≤ 56 * k
  | 0 => by simp [allBits]
  | k + 1 => by
    have := putBits_length (allBits xs ns k) (xs k) (ns k)
    have := allBits_length xs ns k
    simp only [allBits]
    omega
/-- A number's bit. -/
theorem bval_bit (l : List Int) (h : ∀ b ∈ l, isBit b) (i : Nat) : ∀ n j, j < n → bval l i n / 2 ^ j % 2 = l.getD (i + j) 0
  | 0, j, hj => by omega
  | n + 1, j, hj => by
    have hg : l.getD (i + n) 0 = 0 ∨ l.getD (i + n) 0 = 1 := by
      rw [List.getD_eq_getElem?_getD]
      cases hg : l[i + n]? with
      | none => left; rfl
      | some b => exact h b (List.mem_of_getElem? hg)
    have hb := bval_bound l h i n
    simp only [bval]
    by_cases hjn : j = n
    · subst hjn
      have hp : (0 : Int) < 2 ^ j := Int.pow_pos (by decide)
      rw [Int.add_mul_ediv_right _ _ (by omega), Int.ediv_eq_zero_of_lt hb.1 hb.2]
      rcases hg with hg | hg <;> rw [hg] <;> decide
    · have hj' : j < n := by omega
      have e : (2 : Int) ^ n = 2 ^ (n - j - 1) * 2 * 2 ^ j := by
        rw [← Int.pow_succ, ← Int.pow_add]; congr 1; omega
      have hp : (0 : Int) < 2 ^ j := Int.pow_pos (by decide)
      rw [e, ← Int.mul_assoc, Int.add_mul_ediv_right _ _ (by omega), ← Int.mul_assoc]
      rw [Int.add_mul_emod_self_right]
      exact bval_bit l h i n j hj'
theorem pack_getD (bs : List Int) (i : Nat) : (pack bs).getD i 0 = bval bs (8 * i) 8 := by
  rw [List.getD_eq_getElem?_getD]
  by_cases hi : i < (bs.length + 7) / 8
  · simp [pack, hi]
  · rw [List.getElem?_eq_none (by rw [pack_length]; omega), bval_none bs _ (by omega)]
    rfl
theorem pack_byte (bs : List Int) (h : ∀ b ∈ bs, isBit b) : ∀ x ∈ pack bs, isByte x := by
  intro x hx
  obtain ⟨i, _, rfl⟩ := List.mem_map.1 hx
  exact bval_bound bs h _ 8
theorem bitAt_pack (bs : List Int) (h : ∀ b ∈ bs, isBit b) (k : Nat) : bitAt (pack bs) k = bs.getD k 0 := by
  unfold bitAt
  rw [if_pos (by omega), pack_getD]
  have e1 : ((k : Int) / 8).toNat = k / 8 := by omega
  have e2 : ((k : Int) % 8).toNat = k % 8 := by omega
  rw [e1, e2, bval_bit bs h _ 8 (k % 8) (by omega)]
  congr 1
  omega
theorem half_mod (y m : Int) : y / 2 % m * 2 + y % 2 = y % (2 * m) := by
  rw [Int.emod_def y (2 * m), Int.emod_def (y / 2) m, Int.mul_assoc, ← Int.ediv_ediv_of_nonneg (by decide)]
  generalize m * (y / 2 / m) = q
  omega
theorem rd_bits (bs pre : List Int) (x : Int) (n : Nat) (hx : 0 ≤ x) (h : ∀ b ∈ bs, isBit b) (hp : ∀ j, j < n → bs.getD (pre.length + j) 0 = x / 2 ^ j % 2) :
    ∀ i, i ≤ n → rd (pack bs) ((pre.length : Int) + n) i = x / 2 ^ (n - i) % 2 ^ i
  | 0, _ => by simp [rd, Int.emod_one]
  | i + 1, hi => by
    simp only [rd]
    rw [rd_bits bs pre x n hx h hp i (by omega)]
    have e1 : (pre.length : Int) + n - 1 - i = ((pre.length + (n - 1 - i) : Nat) : Int) := by omega
    rw [e1, bitAt_pack bs h, hp _ (by omega)]
    have e2 : n - i = (n - (i + 1)) + 1 := by omega
    have e3 : n - 1 - i = n - (i + 1) := by omega
    rw [e2, e3, Int.pow_succ, ← Int.ediv_ediv_of_nonneg (Int.le_of_lt (Int.pow_pos (by decide)))]
    generalize x / 2 ^ (n - (i + 1)) = y
    rw [Int.pow_succ, Int.mul_comm (2 ^ i) 2, half_mod]
theorem rd_put (pre rest : List Int) (x : Int) (n : Nat) (hx : 0 ≤ x) (h : ∀ b ∈ pre ++ bitsN x n ++ rest, isBit b) :
    rd (pack (pre ++ bitsN x n ++ rest)) ((pre ++ bitsN x n).length : Nat) n = x % 2 ^ n := by
  have := rd_bits (pre ++ bitsN x n ++ rest) pre x n hx h (fun j hj => by
    rw [List.getD_eq_getElem?_getD, List.getElem?_append_left (by simp [bitsN_length]; omega), List.getElem?_append_right (by omega)]
    simp [bitsN, hj]) n (Nat.le_refl n)
  rw [Nat.sub_self] at this
  simpa [bitsN_length] using this
/-- The mark. -/
theorem mark_last (bs : List Int) (h : ∀ b ∈ bs, isBit b) : (pack (bs ++ [1])).getLastD 0 = bval bs (8 * (bs.length / 8)) (bs.length % 8) + 2 ^ (bs.length % 8) ∧ (pack (bs ++ [1])).length = bs.length / 8 + 1 := by
  have hl : (pack (bs ++ [1])).length = bs.length / 8 + 1 := by rw [pack_length]; simp; omega
  refine ⟨?_, hl⟩
  rw [getLastD_eq, hl, pack_getD, Nat.add_sub_cancel, bval_snoc, if_pos (by omega), bval_stop bs _ (bs.length % 8) (by omega) 8 (by omega)]
  have : bs.length - 8 * (bs.length / 8) = bs.length % 8 := by omega
  rw [this]
  omega
theorem len8_top {x : Int} {j : Nat} (hj : j < 8) (h0 : 2 ^ j ≤ x) (h1 : x < 2 ^ j + 2 ^ j) : len8 x = j + 1 := by
  have : j = 0 ∨ j = 1 ∨ j = 2 ∨ j = 3 ∨ j = 4 ∨ j = 5 ∨ j = 6 ∨ j = 7 := by omega
  rcases this with rfl | rfl | rfl | rfl | rfl | rfl | rfl | rfl <;> simp only [Int.reducePow] at h0 h1 <;> unfold len8 <;> (repeat' split) <;> omega
theorem mark_at (bs : List Int) (h : ∀ b ∈ bs, isBit b) : (pack (bs ++ [1])).getLastD 0 ≠ 0 ∧ 8 * (((pack (bs ++ [1])).length : Int) - 1) + (len8 ((pack (bs ++ [1])).getLastD 0) - 1) = bs.length := by
  obtain ⟨h1, h2⟩ := mark_last bs h
  have hb := bval_bound bs h (8 * (bs.length / 8)) (bs.length % 8)
  have hp : (0 : Int) < 2 ^ (bs.length % 8) := Int.pow_pos (by decide)
  rw [h1, h2]
  refine ⟨by omega, ?_⟩
  rw [len8_top (j := bs.length % 8) (by omega) (by omega) (by omega)]
  omega
end Go.Proofs.Ytbipjekiobmpgaa
/-
  Plain: bytes filled bit by bit.
-/
namespace Go.Proofs.Ytbipjekiobmpgaa
open Go Go.Sx
/-- N bytes, filled with bits from the first on. -/
def packN (bs : List Int) (N : Nat) : List Int := (List.range N).map fun i => bval bs (8 * i) 8
theorem packN_length (bs : List Int) (N : Nat) : (packN bs N).length = N := by simp [packN]
theorem packN_nil (N : Nat) : packN [] N = List.replicate N 0 := by
  refine List.ext_getElem? fun i => ?_
  by_cases hi : i < N
  · simp [packN, hi, bval_none]
  · simp [packN, hi]
theorem packN_get (bs : List Int) (N i : Nat) (hi : i < N) : (packN bs N)[i]? = some (bval bs (8 * i) 8) := by simp [packN, hi]
theorem packN_step (bs : List Int) (b m : Int) (N : Nat) (hb : ∀ b ∈ bs, isBit b) (hbit : isBit b) (hm : m = bs.length) (hN : bs.length < 8 * N) :
    (packN bs N).set (m / 8).toNat (bV .or .u8 ((packN bs N).getD (m / 8).toNat 0) (bV .shl .u8 b (m % 8))) = packN (bs ++ [b]) N := by
  have e1 : (m / 8).toNat = bs.length / 8 := by omega
  have e2 : (m % 8).toNat = bs.length % 8 := by omega
  have hg : (packN bs N).getD (bs.length / 8) 0 = bval bs (8 * (bs.length / 8)) (bs.length % 8) := by
    rw [List.getD_eq_getElem?_getD, packN_get _ _ _ (by omega)]
    exact bval_stop bs _ _ (by omega) 8 (by omega)
  obtain ⟨h0, h1⟩ := bval_bound bs hb (8 * (bs.length / 8)) (bs.length % 8)
  have hp := pow_le_128 (show bs.length % 8 < 8 by omega)
  have hp0 : (0 : Int) < 2 ^ (bs.length % 8) := Int.pow_pos (by decide)
  have hb2 : 0 ≤ b ∧ b * 2 ^ (bs.length % 8) ≤ 2 ^ (bs.length % 8) ∧ 0 ≤ b * 2 ^ (bs.length % 8) := by
    rcases hbit with rfl | rfl <;> omega
  rw [e1, shl_u rfl hb2.1 (by show m % 8 ≤ ((8 : Nat) : Int); omega) (by rw [e2]; show _ < (2 : Int) ^ 8; omega), e2, hg, or_add rfl _ h0 h1 hb2.1 (by show _ < (2 : Int) ^ 8; omega)]
  refine List.ext_getElem? fun i => ?_
  by_cases hi : i < N
  · rw [packN_get _ _ _ hi, List.getElem?_set, packN_length, packN_get _ _ _ hi]
    rw [bval_snoc]
    by_cases he : bs.length / 8 = i
    · subst he
      rw [if_pos rfl, if_pos hi, if_pos (by omega), bval_stop bs _ (bs.length % 8) (by omega) 8 (by omega)]
      have : bs.length - 8 * (bs.length / 8) = bs.length % 8 := by omega
      rw [this]
    · rw [if_neg he, if_neg (by omega)]
      simp
  · rw [List.getElem?_eq_none (by rw [List.length_set, packN_length]; omega), List.getElem?_eq_none (by rw [packN_length]; omega)]
theorem take_snoc {l : List Int} {i : Nat} (h : i < l.length) : l.take (i + 1) = l.take i ++ [l.getD i 0] := by
  rw [List.take_succ_eq_append_getElem h]
  simp [List.getD_eq_getElem?_getD, h]
end Go.Proofs.Ytbipjekiobmpgaa
namespace Go.Proofs.Ytbipjekiobmpgaa
open Go Go.Sx Go.Proofs
/-- What Put answers. -/
def putErr (n : Int) : Int := if 0 ≤ n ∧ n ≤ 56 then 0 else 2
theorem putA_con (bs : List Int) (c : Nat) (x n : Int) (hx : 0 ≤ x ∧ x < 2 ^ 64) (hb : ∀ b ∈ bs, isBit b) (hl : bs.length ≤ 2 ^ 40) :
    Con Try.prog 17 [.ptr 0 .z 2 0, .int .u64 x, .int .i64 n] [.one 51 [.slice 1 .z 1 (pack bs).length c, .int .i64 bs.length], .buf 5 .u8 (pack bs) c]
      (fun v H R => v = .int .i64 (putErr n) ∧ R = [1] ∧ ∃ c', H = [.one 51 [.slice 1 .z 1 (pack (putBits bs x n)).length c', .int .i64 (putBits bs x n).length], .buf 5 .u8 (pack (putBits bs x n)) c']) := by
  by_cases hn : 0 ≤ n ∧ n ≤ 56
  · obtain ⟨m, rfl⟩ : ∃ m : Nat, n = m := ⟨n.toNat, by omega⟩
    refine con_gen ((put_con bs c x m (by omega) hx hb hl).mono ?_)
    rintro v H R ⟨rfl, rfl, c', rfl⟩
    have e : putBits bs x m = bs ++ bitsN x m := by unfold putBits; rw [if_pos hn]; rfl
    have e2 : putErr m = 0 := by unfold putErr; rw [if_pos hn]
    rw [e, e2]
    exact ⟨rfl, rfl, c', rfl⟩
  · have e : putBits bs x n = bs := by unfold putBits; rw [if_neg hn]
    have e2 : putErr n = 2 := by unfold putErr; rw [if_neg hn]
    rw [e, e2]
    refine con_gen (con_cut 2 (by simp) (con_red [1] (con_walk hmix fn17 ?_)))
    intro vb vc vw vtoN vofN vaddN vsubN vmaxI vminI vcutN vgd vst vln vrep vsub vonto vsplice vstrEq vbyteV vnotB veqB hw qb qc qw qtoN qofN qaddN qsubN qmaxI qminI qcutN qgd qst qln qrep qsub qonto qsplice qstrEq qbyteV qnotB qeqB
    generalize Try.prog = P at *
    generalize pack bs = l0 at *
    generalize l0.length = len0 at *
    generalize (bs.length : Int) = m0 at *
    cbv
    generalize h1 : vc .lss n 0 = z1
    cases z1
    · cbv
      have h2 : vc .gtr n 56 = true := by rw [qc, lss_false] at h1; rw [qc, gtr_true]; omega
      rw [h2]
      cbv
      exact ⟨c, rfl⟩
    · cbv
      exact ⟨c, rfl⟩
/-- A reader of what was put and marked. -/
theorem new_tail (bs : List Int) (cap : Nat) (hb : ∀ b ∈ bs, isBit b) (hl : bs.length ≤ 2 ^ 40) : Con Try.prog 23 [.slice 0 .z 1 (pack (bs ++ [1])).length cap] [.ro .u8 (pack (bs ++ [1]))]
    (fun v H R => v = .tup [.ptr 2 .z 2 0, .lit .i64 0] ∧ R = [1] ∧ ∃ c', H = [.ro .u8 (pack (bs ++ [1])), .buf 5 .u8 (pack (bs ++ [1])) c', .one 108 [.slice 1 .z 1 (pack (bs ++ [1])).length c', .int .i64 bs.length]]) := by
  have h := mark_at bs hb
  have hb1 : ∀ b ∈ bs ++ [1], isBit b := fun b hm => (List.mem_append.1 hm).elim (hb b) (fun e => .inr (by simpa using e))
  have := new_good (pack (bs ++ [1])) cap h.1 (pack_byte _ hb1) (by rw [pack_length]; simp; omega)
  rw [h.2] at this
  exact this
end Go.Proofs.Ytbipjekiobmpgaa
namespace Go.Proofs.Ytbipjekiobmpgaa
open Go Go.Sx Go.Proofs
/-- The first k bits of bytes. -/
def bitsOf (b : List Int) (k : Nat) : List Int := (List.range k).map fun (i : Nat) => bitAt b (i : Int)
theorem bitsOf_length (b : List Int) (k : Nat) : (bitsOf b k).length = k := by simp [bitsOf]
theorem bitsOf_get (b : List Int) (k i : Nat) (h : i < k) : (bitsOf b k).getD i 0 = bitAt b i := by simp [bitsOf, List.getD_eq_getElem?_getD, h]
theorem bitsOf_succ (b : List Int) (k : Nat) : bitsOf b (k + 1) = bitsOf b k ++ [bitAt b k] := by simp [bitsOf, List.range_succ]
/-- Where the mark is. -/
def markAt (b : List Int) : Int := 8 * ((b.length : Int) - 1) + (len8 (b.getLastD 0) - 1)
theorem mark_byte {x : Int} (h0 : 0 < x) (h1 : x < 256) : 1 ≤ len8 x ∧ len8 x ≤ 8 ∧ x / 2 ^ (len8 x - 1).toNat % 2 = 1 ∧ ∀ j : Nat, len8 x ≤ j → x / 2 ^ j = 0 := by
  have hlt : x < 2 ^ (len8 x).toNat := by unfold len8; (repeat' split) <;> first | omega | (simp; omega)
  have h8 : 1 ≤ len8 x ∧ len8 x ≤ 8 := by unfold len8; (repeat' split) <;> omega
  refine ⟨h8.1, h8.2, ?_, fun j hj => ?_⟩
  · unfold len8
    (repeat' split) <;> simp <;> omega
  · have hp : (2 : Int) ^ (len8 x).toNat ≤ 2 ^ j := by exact_mod_cast Nat.pow_le_pow_right (by decide) (by omega)
    exact Int.ediv_eq_zero_of_lt (by omega) (by omega)
theorem markAt_spec (b : List Int) (hb : b.getLastD 0 ≠ 0) (hby : ∀ x ∈ b, isByte x) : ∃ P : Nat, markAt b = P ∧ P < 8 * b.length ∧ bitAt b P = 1 ∧ ∀ k : Nat, P < k → k < 8 * b.length → bitAt b k = 0 := by
  have hbyte : isByte (b.getLastD 0) := by
    rw [getLastD_eq, List.getD_eq_getElem?_getD]
    cases hg : b[b.length - 1]? with
    | none => exact ⟨by simp, by simp⟩
    | some y => exact hby y (List.mem_of_getElem? hg)
  have h0 : 1 ≤ b.length := by
    rcases b with _ | ⟨x, b⟩
    · exact absurd rfl hb
    · simp
  obtain ⟨h1, h2, h3, h4⟩ := mark_byte (x := b.getLastD 0) (by have := hbyte.1; omega) hbyte.2
  have hlast := getLastD_eq b
  unfold markAt
  generalize b.getLastD 0 = x at *
  refine ⟨8 * (b.length - 1) + (len8 x - 1).toNat, by omega, by omega, ?_, fun k hk1 hk2 => ?_⟩
  · unfold bitAt
    rw [if_pos (by omega)]
    have e1 : ((((8 * (b.length - 1) + (len8 x - 1).toNat : Nat)) : Int) / 8).toNat = b.length - 1 := by omega
    have e2 : ((((8 * (b.length - 1) + (len8 x - 1).toNat : Nat)) : Int) % 8).toNat = (len8 x - 1).toNat := by omega
    rw [e1, e2, ← hlast]
    exact h3
  · unfold bitAt
    rw [if_pos (by omega)]
    have e1 : ((k : Int) / 8).toNat = b.length - 1 := by omega
    rw [e1, ← hlast, h4 _ (by omega)]
    rfl
theorem byte_bit {b : List Int} (hby : ∀ x ∈ b, isByte x) (i : Nat) : isByte (b.getD i 0) := by
  rw [List.getD_eq_getElem?_getD]
  cases hg : b[i]? with
  | none => exact ⟨by simp, by simp⟩
  | some y => exact hby y (List.mem_of_getElem? hg)
end Go.Proofs.Ytbipjekiobmpgaa
