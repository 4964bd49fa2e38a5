import Derived.Test.YtaaklikigccdfaaA2
import Derived.Test.YtaaklikigccdfaaA1
import Derived.Test.YtaaklikigccdfaaED
namespace Go.Proofs.Ytaaklikigccdfaa
open Go Go.Sx Go.Proofs
theorem wrap_i16 {x : Int} (h0 : -32768 ≤ x) (h1 : x < 32768) : IntKind.i16.wrap x = x := by
  simp [IntKind.wrap, IntKind.bits, IntKind.signed]; omega
theorem add_i16 {x y : Int} (h0 : -32768 ≤ x + y) (h1 : x + y < 32768) : bV .add .i16 x y = x + y := wrap_i16 h0 h1
theorem add_u64 {x y : Int} (h0 : 0 ≤ x + y) (h1 : x + y < 18446744073709551616) : bV .add .u64 x y = x + y := wrap_u64 h0 h1
theorem mul_u64 {x y : Int} (h0 : 0 ≤ x * y) (h1 : x * y < 18446744073709551616) : bV .mul .u64 x y = x * y := wrap_u64 h0 h1
theorem quo_u64 {x y : Int} (h0 : 0 ≤ x) (h1 : x < 18446744073709551616) (hy : 0 ≤ y) : bV .quo .u64 x y = x / y := by
  show IntKind.u64.wrap (x.tdiv y) = x / y
  rw [Int.tdiv_eq_ediv_of_nonneg h0]
  have := Int.ediv_nonneg h0 hy
  have := Int.ediv_le_self y h0
  exact wrap_u64 (by omega) (by omega)
/-! ### Reading counts, plainly -/
/-- n bits at a place, where they are there. -/
def rdN (b : List Int) (pos n : Nat) : Option Int := if pos + n ≤ 8 * b.length then some (bval (bitL b) pos n) else none
/-- A value, of which the first bits are read: the value, the place behind it. -/
def valR (b : List Int) (pos : Nat) (most v : Int) : Option (Int × Nat) :=
  if v ≥ 2 ^ (blen most).toNat - 1 - most then (match rdN b (pos + (blen most - 1).toNat) 1 with
      | none => none
      | some top => some (if top = 1 then v + (2 ^ (blen most - 1).toNat - (2 ^ (blen most).toNat - 1 - most)) else v, pos + (blen most).toNat))
    else some (v, pos + (blen most - 1).toNat)
theorem valR_low {b : List Int} {pos : Nat} {most v : Int} (h : ¬ v ≥ 2 ^ (blen most).toNat - 1 - most) : valR b pos most v = some (v, pos + (blen most - 1).toNat) := by unfold valR; rw [if_neg h]
theorem valR_none {b : List Int} {pos : Nat} {most v : Int} (h : v ≥ 2 ^ (blen most).toNat - 1 - most) (h2 : rdN b (pos + (blen most - 1).toNat) 1 = none) : valR b pos most v = none := by unfold valR; rw [if_pos h, h2]
theorem valR_some {b : List Int} {pos : Nat} {most v top : Int} (h : v ≥ 2 ^ (blen most).toNat - 1 - most) (h2 : rdN b (pos + (blen most - 1).toNat) 1 = some top) :
    valR b pos most v = some (if top = 1 then v + (2 ^ (blen most - 1).toNat - (2 ^ (blen most).toNat - 1 - most)) else v, pos + (blen most).toNat) := by unfold valR; rw [if_pos h, h2]
/-- What is left to hand out; what was read; the place. In a row of zeros or ahead of a count. The answer: an error, the counts, the place. -/
def readS (b : List Int) (ms : Int) : Nat → Bool → Int → List Int → Nat → Int × List Int × Nat
  | 0, _, _, cs, pos => (0, cs, pos)
  | f + 1, false, left, cs, pos =>
    if left ≤ 0 then (0, cs, pos)
    else if (cs.length : Int) > ms then (11, [], 0)
    else match rdN b pos (blen (left + 1) - 1).toNat with
      | none => (10, [], 0)
      | some v => match valR b pos (left + 1) v with
        | none => (10, [], 0)
        | some (v, pos) => if v - 1 ≠ 0 then readS b ms f false (left - partsN (v - 1)) (cs ++ [v - 1]) pos
          else if ((cs ++ [v - 1]).length : Int) > ms then (11, [], 0) else readS b ms f true (left - partsN (v - 1)) (cs ++ [v - 1]) pos
  | f + 1, true, left, cs, pos => match rdN b pos 2 with
    | none => (10, [], 0)
    | some n => if ((cs ++ List.replicate n.toNat 0).length : Int) > ms then (11, [], 0) else if n = 3 then readS b ms f true left (cs ++ List.replicate n.toNat 0) (pos + 2) else readS b ms f false left (cs ++ List.replicate n.toNat 0) (pos + 2)
/-- The answer of Read: counts, log, how many bytes, error. -/
def readR (b : List Int) (ml ms : Int) : List Int × Int × Int × Int :=
  if ml < 5 ∨ ml > 12 ∨ ms < 0 ∨ ms > 255 then ([], 0, 0, 2)
  else match rdN b 0 4 with
    | none => ([], 0, 0, 10)
    | some x => if x + 5 > ml then ([], 0, 0, 11) else
      if (readS b ms 600 false (2 ^ (x + 5).toNat) [] 4).1 ≠ 0 then ([], 0, 0, (readS b ms 600 false (2 ^ (x + 5).toNat) [] 4).1)
      else ((readS b ms 600 false (2 ^ (x + 5).toNat) [] 4).2.1, x + 5, ((readS b ms 600 false (2 ^ (x + 5).toNat) [] 4).2.2 + 7 : Int) / 8, 0)
theorem rd_rs (b : List Int) (pos cap bl : Nat) (n acc hv ai : Int) (hbl : bl = b.length) (hby : ∀ x ∈ b, isByte x) (hl : b.length ≤ 2 ^ 50) (h : RS b pos acc hv ai) (hn : 0 ≤ n ∧ n ≤ 56) :
    Con Try.prog 68 [.ptr 0 .z 4 0, .int .i64 n] [(.one 178 [.fn 91 [.ptr 1 .z 1 0, .ptr 2 .z 1 0], .int .u64 (acc), .int .i64 (hv), .fn 92 [.ptr 2 .z 1 0, .ptr 1 .z 1 0]]), .one 3 [.int .i64 ai], .one 22 [.slice 3 .z 1 bl cap], .ro .u8 b]
      (fun v H R => R = [] ∧ ∃ acc2 hv2 ai2 x e pos2, v = .tup [.int .u64 x, .int .i64 e] ∧ RS b pos2 acc2 hv2 ai2 ∧
        ((e = 0 ∧ rdN b pos n.toNat = some x ∧ pos2 = pos + n.toNat ∧ 0 ≤ x ∧ x < 2 ^ n.toNat) ∨ (e = 10 ∧ rdN b pos n.toNat = none)) ∧
        H = [(.one 178 [.fn 91 [.ptr 1 .z 1 0, .ptr 2 .z 1 0], .int .u64 (acc2), .int .i64 (hv2), .fn 92 [.ptr 2 .z 1 0, .ptr 1 .z 1 0]]), .one 3 [.int .i64 ai2], .one 22 [.slice 3 .z 1 bl cap], .ro .u8 b]) := by
  subst hbl
  refine (rbits_rs b pos cap n acc hv ai hby hl h).mono ?_
  rintro v H R ⟨rfl, rfl, acc2, hv2, ai2, hrs, rfl⟩
  refine ⟨rfl, acc2, hv2, ai2, _, _, _, rfl, hrs, ?_, rfl⟩
  unfold rbX rbE rbP rdN
  by_cases hp : pos + n.toNat ≤ 8 * b.length
  · have hp' : (pos : Int) + n ≤ 8 * b.length := by omega
    have hb := bval_bound (bitL b) (bitL_bit b) pos n.toNat
    have hc : 0 ≤ n ∧ n ≤ 56 ∧ (pos : Int) + n ≤ 8 * b.length := ⟨hn.1, hn.2, hp'⟩
    simp only [if_pos hc, if_pos hn, if_pos hp', if_pos hp]
    exact .inl ⟨trivial, trivial, trivial, hb⟩
  · have hp' : ¬ (pos : Int) + n ≤ 8 * b.length := by omega
    have hc : ¬ (0 ≤ n ∧ n ≤ 56 ∧ (pos : Int) + n ≤ 8 * b.length) := fun h => hp' h.2.2
    simp only [if_neg hc, if_pos hn, if_neg hp', if_neg hp]
    exact .inr ⟨trivial, trivial⟩
end Go.Proofs.Ytaaklikigccdfaa
namespace Go.Proofs.Ytaaklikigccdfaa
open Go Go.Sx Go.Proofs
set_option maxRecDepth 10000
set_option maxHeartbeats 40000000
theorem read_raw (b : List Int) (cap : Nat) (ml ms : Int) (hby : ∀ x ∈ b, isByte x) (hl : b.length ≤ 140737488355328) (hml : -9223372036854775808 ≤ ml ∧ ml ≤ 9223372036854775807) (hms : -9223372036854775808 ≤ ms ∧ ms ≤ 9223372036854775807)
    (cs0 : List Int) (log0 used0 e0 : Int) (hR : readR b ml ms = (cs0, log0, used0, e0)) :
    Con Try.prog 43 [.slice 0 .z 1 b.length cap, .int .i64 ml, .int .i64 ms] [.ro .u8 b] (fun v H R => dropN 1 R = [] ∧ 1 ≤ H.length ∧ genH (H.take 1) = [.ro .u8 b] ∧
      ((e0 ≠ 0 ∧ gen v = .tup [.val (.slice none 0 0), .int .i64 0, .int .i64 0, .int .i64 e0]) ∨
        (e0 = 0 ∧ 6 ≤ H.length ∧ ∃ c c0 acc hv ai, gen v = .tup [.slice 5 .z 1 cs0.length c, .int .i64 log0, .int .i64 used0, .int .i64 0] ∧
          genH (H.take 6) = [.ro .u8 b, .buf 5 .u8 b c0, .one 22 [.slice 1 .z 1 b.length c0], .one 3 [.int .i64 ai], .one 178 [.fn 91 [.ptr 3 .z 1 0, .ptr 2 .z 1 0], .int .u64 acc, .int .i64 hv, .fn 92 [.ptr 2 .z 1 0, .ptr 3 .z 1 0]], .buf 125 .i16 cs0 c]))) := by
  have hnew := rnew_con b cap hl
  have hrd := @rd_rs b
  have hleft := @rleft_rs b
  have hlen := len_con
  have hparts := parts_con
  have hst0 := RS.start b
  refine con_walk hmix fn43 ?_
  intro vb vc vw vtoN vofN vaddN vsubN vmaxI vminI vcutN vgd vst vln vrep vsub vonto vsplice vstrEq vbyteV vnotB veqB hw qb qc qw qtoN qofN qaddN qsubN qmaxI qminI qcutN qgd qst qln qrep qsub qonto qsplice qstrEq qbyteV qnotB qeqB
  have hm := hmix; generalize Try.prog = P at *
  have hR : (if ml < 5 ∨ ml > 12 ∨ ms < 0 ∨ ms > 255 then ([], 0, 0, 2)
      else match rdN b 0 4 with
        | none => ([], 0, 0, 10)
        | some x => if x + 5 > ml then ([], 0, 0, 11) else
          if (readS b ms 600 false (2 ^ (x + 5).toNat) [] 4).1 ≠ 0 then ([], 0, 0, (readS b ms 600 false (2 ^ (x + 5).toNat) [] 4).1)
          else ((readS b ms 600 false (2 ^ (x + 5).toNat) [] 4).2.1, x + 5, ((readS b ms 600 false (2 ^ (x + 5).toNat) [] 4).2.2 + 7 : Int) / 8, 0)) = (cs0, log0, used0, e0) := hR
  generalize hbl : b.length = bl at *
  cbv
  generalize h1 : vc .lss ml 5 = z1
  cases z1
  rotate_left
  · rw [qc, lss_true] at h1
    have he0 : e0 = 2 := by
      rw [if_pos (by omega)] at hR; simp only [Prod.mk.injEq] at hR; exact hR.2.2.2.symm
    cbv
    exact .inl ⟨by rw [he0]; decide, by rw [he0]⟩
  rw [qc, lss_false] at h1
  cbv
  generalize h2 : vc .gtr ml 12 = z2
  cases z2
  rotate_left
  · rw [qc, gtr_true] at h2
    have he0 : e0 = 2 := by
      rw [if_pos (by omega)] at hR; simp only [Prod.mk.injEq] at hR; exact hR.2.2.2.symm
    cbv
    exact .inl ⟨by rw [he0]; decide, by rw [he0]⟩
  rw [qc, gtr_false] at h2
  cbv
  generalize h3 : vc .lss ms 0 = z3
  cases z3
  rotate_left
  · rw [qc, lss_true] at h3
    have he0 : e0 = 2 := by
      rw [if_pos (by omega)] at hR; simp only [Prod.mk.injEq] at hR; exact hR.2.2.2.symm
    cbv
    exact .inl ⟨by rw [he0]; decide, by rw [he0]⟩
  rw [qc, lss_false] at h3
  cbv
  generalize h4 : vc .gtr ms 255 = z4
  cases z4
  rotate_left
  · rw [qc, gtr_true] at h4
    have he0 : e0 = 2 := by
      rw [if_pos (by omega)] at hR; simp only [Prod.mk.injEq] at hR; exact hR.2.2.2.symm
    cbv
    exact .inl ⟨by rw [he0]; decide, by rw [he0]⟩
  rw [qc, gtr_false] at h4
  rw [if_neg (by omega)] at hR
  cbv
  refine call_con (ρ := [(0, .z)]) hnew ⟨by rfl, by rfl, by rfl, by cbv; exact ⟨view_refl _, trivial⟩⟩ ?_
  rintro v H R js ⟨rfl, rfl, c0, rfl⟩
  have hrd4 := hrd 0 c0 bl 4 0 0 0 rfl hby (by omega) hst0 (by omega)
  cbv
  refine call_con (ρ := [(4, .z), (3, .z), (2, .z), (1, .z)]) hrd4 ⟨by rfl, by rfl, by rfl, by cbv; exact ⟨view_refl _, trivial⟩⟩ ?_
  rintro v H R js2 ⟨rfl, acc2, hv2, ai2, x, e, pos2, rfl, hrs, hcase, rfl⟩
  cbv
  have h00 : vc .neq 0 0 = false := by rw [qc]; rfl
  have h100 : vc .neq 10 0 = true := by rw [qc]; rfl
  rcases hcase with ⟨rfl, hrd1, rfl, hx0, hx1⟩ | ⟨rfl, hrd1⟩
  rotate_left
  · rw [h100]
    have he0 : e0 = 10 := by
      have hrd1 : rdN b 0 4 = none := hrd1
      rw [hrd1] at hR; simp only [Prod.mk.injEq] at hR; exact hR.2.2.2.symm
    cbv
    exact .inl ⟨by rw [he0]; decide, by rw [he0]⟩
  have hrd1 : rdN b 0 4 = some x := hrd1
  have hx1 : x < 16 := hx1
  rw [hrd1] at hR
  simp only at hR
  rw [h00]
  have ew1 : vw .i64 x = x := by rw [qw]; exact wrap_i64 (by omega) (by omega)
  have ea1 : vb .add .i64 x 5 = x + 5 := by rw [qb, add_i64 (by omega) (by omega)]
  obtain ⟨lg, hlg⟩ : ∃ lg : Int, lg = x + 5 := ⟨_, rfl⟩
  rw [← hlg] at ea1 hR
  cbv
  rw [ew1, ea1]
  generalize h5 : vc .gtr lg ml = z5
  cases z5
  rotate_left
  · rw [qc, gtr_true] at h5
    have he0 : e0 = 11 := by
      rw [if_pos (by omega)] at hR; simp only [Prod.mk.injEq] at hR; exact hR.2.2.2.symm
    cbv
    exact .inl ⟨by rw [he0]; decide, by rw [he0]⟩
  rw [qc, gtr_false] at h5
  rw [if_neg (by omega)] at hR
  have e2 : vw .u64 lg = lg := by rw [qw]; exact wrap_u64 (by omega) (by omega)
  have e3 : vb .shl .i64 1 lg = 2 ^ lg.toNat := by rw [qb, one_shl (by omega) (by omega)]
  have hpl := pow_log (log := lg) (by omega)
  generalize hpw : (2 : Int) ^ lg.toNat = pw at *
  have hfuel : ∃ RES, readS b ms 600 false pw [] 4 = RES := ⟨_, rfl⟩
  obtain ⟨RES, hRES⟩ := hfuel
  rw [hRES] at hR
  have hbad : ∀ E : Int, E ≠ 0 → RES = (E, [], 0) → e0 = E := by
    intro E hE h
    rw [h] at hR
    simp only at hR
    rw [if_pos hE] at hR
    simp only [Prod.mk.injEq] at hR
    exact hR.2.2.2.symm
  have hgood : ∀ cs pos, RES = (0, cs, pos) → cs0 = cs ∧ log0 = lg ∧ used0 = ((pos : Int) + 7) / 8 ∧ e0 = 0 := by
    intro cs pos h
    rw [h] at hR
    simp only at hR
    rw [if_neg (by decide)] at hR
    simp only [Prod.mk.injEq] at hR
    exact ⟨hR.1.symm, hR.2.1.symm, hR.2.2.1.symm, hR.2.2.2.symm⟩
  clear hR hrd4 hrd1 hst0
  have hrS := readS.eq_def
  cbv
  rw [e2, e3]
  refine ⟨⟨by omega⟩, ?_⟩
  refine WX.cv (Cv.nilT 6 125 .i16 (by rfl) (by cbv; try exact ⟨fun _ => rfl, trivial⟩) (Cv.here ?_))
  cbv
  refine loop_fam (α := Nat × Int × List Int × Nat × Nat × Nat × Int × Int × Int) ([13, 14, 15, 16, 17, 18, 19, 20] ++ [54, 55, 56, 57, 58, 59, 60, 61, 62, 63, 64, 65, 66, 67, 68, 69, 70, 71, 72, 73, 74, 75, 76, 77, 78, 79, 80, 81, 82, 83, 84, 85, 86, 87, 88, 89, 90, 91, 92, 93, 94, 95, 96, 97, 98, 99, 100, 101, 102, 103, 104, 105, 106, 107, 108, 109, 110, 111, 112, 113, 114, 115, 116, 117, 118, 119, 120, 121, 122, 123, 124, 125, 126, 127, 128, 129, 130, 131, 132, 133, 134, 135, 136]) [5]
    (fun (f, left, cs, rl, c, pos, acc, hv, ai) => [(12, .int .i64 left), (6, .slice 5 .z 1 rl c)])
    (fun (f, left, cs, rl, c, pos, acc, hv, ai) => [(3, .one 3 [.int .i64 ai]), (4, .one 178 [.fn 91 [.ptr 3 .z 1 0, .ptr 2 .z 1 0], .int .u64 acc, .int .i64 hv, .fn 92 [.ptr 2 .z 1 0, .ptr 3 .z 1 0]]), (5, .buf 125 .i16 cs c)])
    (fun (f, left, cs, rl, c, pos, acc, hv, ai) => readS b ms f false left cs pos = RES ∧ 600 ≤ f + 2 * cs.length ∧ cs.length ≤ 256 ∧ rl = cs.length ∧ RS b pos acc hv ai ∧ left ≤ 4096)
    (fun (f, left, cs, rl, c, pos, acc, hv, ai) => f) hw hm ?_ ?_
  · refine Cv.genAt [] [3, 4] (Cv.fold ([13, 14, 15, 16, 17, 18, 19, 20] ++ [54, 55, 56, 57, 58, 59, 60, 61, 62, 63, 64, 65, 66, 67, 68, 69, 70, 71, 72, 73, 74, 75, 76, 77, 78, 79, 80, 81, 82, 83, 84, 85, 86, 87, 88, 89, 90, 91, 92, 93, 94, 95, 96, 97, 98, 99, 100, 101, 102, 103, 104, 105, 106, 107, 108, 109, 110, 111, 112, 113, 114, 115, 116, 117, 118, 119, 120, 121, 122, 123, 124, 125, 126, 127, 128, 129, 130, 131, 132, 133, 134, 135, 136]) 6 [5] (by exact Nat.le_refl _) (by exact Nat.le_of_ble_eq_true rfl) (by rfl) (by cbv) ?_)
    intro js
    refine ⟨(600, _, _, _, _, 4, _, _, _), ?_, js, rfl⟩
    exact ⟨hRES, by omega, by simp, rfl, hrs, by omega⟩
  · rintro ⟨f, left, cs, rl, c, pos, acc, hv, ai⟩ js ⟨hS, hf, hcl, hrl, hrs3, hle⟩
    obtain ⟨g, rfl⟩ : ∃ g, f = g + 1 := ⟨f - 1, by omega⟩
    have hofn : vofN rl = (rl : Int) := by simp only [qofN]
    rw [readS] at hS
    cbv
    split
    rotate_left
    · rename_i hz
      rw [qc, gtr_false] at hz
      rw [if_pos (by omega)] at hS
      obtain ⟨rfl, rfl, hu, he0⟩ := hgood _ _ hS.symm
      have hlf := hleft pos c0 acc hv ai (by omega) hrs3
      have hposb : (pos : Int) ≤ 8 * bl := by
        obtain ⟨at', h1, h2, h3, _⟩ := hrs3
        simp only [nc] at *
        omega
      obtain ⟨lf, hlf1⟩ : ∃ lf : Int, lf = 8 * (bl : Int) - pos := ⟨_, rfl⟩
      simp only [nc] at hlf
      rw [← hlf1] at hlf
      have eq8 : vb .quo .i64 lf 8 = lf / 8 := by rw [qb, quo_i64 (by omega) (by omega) (by omega)]
      have hofb : vofN bl = (bl : Int) := by simp only [qofN]
      have eu : vb .sub .i64 (vofN bl) (lf / 8) = used0 := by rw [hofb, qb, sub_i64 (by omega) (by omega), hu]; simp only [nc] at *; omega
      cbv
      refine call_con (ρ := [(4, .z), (3, .z), (2, .z), (1, .z)]) hlf ⟨by rfl, by rfl, by rfl, by cbv; exact ⟨view_refl _, trivial⟩⟩ ?_
      rintro v H R js3 ⟨rfl, rfl, rfl⟩
      cbv
      rw [eq8, eu, hrl]
      exact .inr ⟨he0, c, c0, acc, hv, ai, rfl, rfl⟩
    · rename_i hz
      rw [qc, gtr_true] at hz
      rw [if_neg (by omega)] at hS
      cbv
      generalize hz2 : vc .gtr (vofN rl) ms = z2
      cases z2
      rotate_left
      · rw [qc, gtr_true, hofn] at hz2
        rw [if_pos (by simp only [nc] at *; omega)] at hS
        have he0 := hbad 11 (by decide) hS.symm
        cbv
        exact .inl ⟨by rw [he0]; decide, by rw [he0]⟩
      rw [qc, gtr_false, hofn] at hz2
      rw [if_neg (by simp only [nc] at *; omega)] at hS
      have ea : vb .add .i64 left 1 = left + 1 := by rw [qb, add_i64 (by omega) (by omega)]
      obtain ⟨mo, hmo⟩ : ∃ mo : Int, mo = left + 1 := ⟨_, rfl⟩
      rw [← hmo] at ea hS
      have eb : vw .u64 mo = mo := by rw [qw]; exact wrap_u64 (by omega) (by omega)
      have hl1 := hlen mo (by omega)
      have hmax := blen_max (x := mo) (by omega) (by omega)
      obtain ⟨mk, hmk, hmk1, hmk2⟩ := blen_spec (x := mo) (by omega)
      have hvA := fun v => @valR_low b pos mo v
      have hvB := fun v => @valR_none b pos mo v
      have hvC := fun v top => @valR_some b pos mo v top
      generalize valR b pos mo = VR at *
      generalize blen mo = mb at *
      have ec : vw .u64 mb = mb := by rw [qw]; exact wrap_u64 (by omega) (by omega)
      have ed : vb .shl .i64 1 mb = 2 ^ mb.toNat := by rw [qb, one_shl62 (by omega) (by omega)]
      have ee : vb .sub .i64 mb 1 = mb - 1 := by rw [qb, sub_i64 (by omega) (by omega)]
      have ee2 : vw .u64 (mb - 1) = mb - 1 := by rw [qw]; exact wrap_u64 (by omega) (by omega)
      have ef : vb .shl .u64 1 (mb - 1) = 2 ^ (mb - 1).toNat := by
        have e : (mb - 1).toNat = mk := by omega
        have e4 : mb - 1 = (mk : Int) := by omega
        rw [e, e4, qb]
        show IntKind.u64.wrap (1 * 2 ^ (min ((mk : Int).toNat) IntKind.u64.bits)) = 2 ^ mk
        have e2 : min ((mk : Int).toNat) IntKind.u64.bits = mk := by simp [IntKind.bits]; omega
        have hp : (2 : Int) ^ mk ≤ 2 ^ 12 := by exact_mod_cast Nat.pow_le_pow_right (by omega : 0 < 2) (by omega : mk ≤ 12)
        have hp0 : (0 : Int) < 2 ^ mk := Int.pow_pos (by omega)
        rw [e2, Int.one_mul]
        exact wrap_u64 (by omega) (by omega)
      have hpm : (2 : Int) ^ mb.toNat = 2 ^ (mk + 1) := by rw [hmk]; rfl
      have hmbt : (mb - 1).toNat = mk := by omega
      have hmbt2 : mb.toNat = mk + 1 := by omega
      have hpw2 : (2 : Int) ^ (mk + 1) = 2 * 2 ^ mk := by rw [Int.pow_succ]; omega
      rw [hpm, hpw2] at ed
      rw [hmbt] at ef hS
      simp only [hmbt, hmbt2, hpw2] at hvA hvB hvC
      rw [hpw2] at hmk2
      have hqq : (2 : Int) ^ mk ≤ 2 ^ 12 := by exact_mod_cast Nat.pow_le_pow_right (by omega : 0 < 2) (by omega : mk ≤ 12)
      have hrdm := hrd pos c0 bl (mb - 1) acc hv ai rfl hby (by omega) hrs3 (by omega)
      rw [hmbt] at hrdm
      generalize hq : (2 : Int) ^ mk = q at *
      have eg : vb .sub .i64 (2 * q) 1 = 2 * q - 1 := by rw [qb, sub_i64 (by omega) (by omega)]
      have eh : vb .sub .i64 (2 * q - 1) mo = 2 * q - 1 - mo := by rw [qb, sub_i64 (by omega) (by omega)]
      have ehw : vw .u64 (2 * q - 1 - mo) = 2 * q - 1 - mo := by rw [qw]; exact wrap_u64 (by omega) (by omega)
      have ei : vb .sub .u64 q (2 * q - 1 - mo) = q - (2 * q - 1 - mo) := by rw [qb]; show IntKind.u64.wrap _ = _; exact wrap_u64 (by omega) (by omega)
      obtain ⟨tt, htt⟩ : ∃ tt : Int, tt = 2 * q - 1 - mo := ⟨_, rfl⟩
      rw [← htt] at eh ehw ei
      simp only [hq, ← htt] at hvA hvB hvC
      generalize hq21 : 2 * q - 1 = q21 at *
      generalize hq2 : 2 * q = q2 at *
      generalize hmb1 : mb - 1 = mb1 at *
      cbv
      rw [ea, eb]
      refine call_con (ρ := []) hl1 ⟨by rfl, by rfl, by rfl, by cbv⟩ ?_
      rintro v H R js3 ⟨rfl, rfl, rfl⟩
      cbv
      rw [ec, ed, eg, ea, eh, ehw, ee]
      refine ⟨⟨by omega⟩, ?_⟩
      refine call_con (ρ := [(4, .z), (3, .z), (2, .z), (1, .z)]) hrdm ⟨by rfl, by rfl, by rfl, by cbv; exact ⟨view_refl _, trivial⟩⟩ ?_
      rintro v H R js4 ⟨rfl, acc3, hv3, ai3, v1, e1, pos3, rfl, hrs4, hcase, rfl⟩
      cbv
      rcases hcase with ⟨rfl, hrd1, rfl, hv0, hv1⟩ | ⟨rfl, hrd1⟩
      rotate_left
      · rw [hrd1] at hS
        have he0 := hbad 10 (by decide) hS.symm
        rw [h100]
        cbv
        exact .inl ⟨by rw [he0]; decide, by rw [he0]⟩
      rw [hrd1] at hS
      simp only at hS
      rw [h00]
      cbv
      have hrd1b := fun acc hv ai h => hrd (pos + mk) c0 bl 1 acc hv ai rfl hby (by omega) h (by omega)
      generalize hz7 : vc .geq v1 tt = z7
      have hfin : ∀ (vv : Int) (pp : Nat), VR v1 = some (vv, pp) → (if vv - 1 ≠ 0 then readS b ms g false (left - partsN (vv - 1)) (cs ++ [vv - 1]) pp
          else if ((cs ++ [vv - 1]).length : Int) > ms then (11, [], 0) else readS b ms g true (left - partsN (vv - 1)) (cs ++ [vv - 1]) pp) = RES := by
        intro vv pp h
        rw [h] at hS
        exact hS
      cases z7
      rw [qc, geq_false] at hz7
      have hval : ∃ (vv : Int) (pp : Nat), vv = v1 ∧ pp = pos + mk ∧ VR v1 = some (vv, pp) ∧ 0 ≤ vv ∧ vv ≤ 8192 := ⟨_, _, rfl, rfl, hvA _ (by omega), by omega, by omega⟩
      obtain ⟨vv, pp, rfl, hpp, hvr, hvv0, hvv1⟩ := hval
      rw [← hpp] at hrs4
      have hrsF := hrs4
      cbv
      rotate_left
      rw [qc, geq_true] at hz7
      cbv
      refine call_con (ρ := [(4, .z), (3, .z), (2, .z), (1, .z)]) (hrd1b _ _ _ hrs4) ⟨by rfl, by rfl, by rfl, by cbv; exact ⟨view_refl _, trivial⟩⟩ ?_
      rintro v H R js5 ⟨rfl, accF, hvF, aiF, top, e2, pp, rfl, hrsF, hcase2, rfl⟩
      cbv
      rcases hcase2 with ⟨rfl, hrd2, hpp, ht0, ht1⟩ | ⟨rfl, hrd2⟩
      rotate_left
      · rw [hvB _ (by omega) hrd2] at hS
        have he0 := hbad 10 (by decide) hS.symm
        rw [h100]
        cbv
        exact .inl ⟨by rw [he0]; decide, by rw [he0]⟩
      rotate_left
      have hvr := hvC _ _ (by omega) hrd2
      rw [h00]
      cbv
      generalize hz8 : vc .eql top 1 = z8
      cases z8
      rw [qc, eql_false] at hz8
      rw [if_neg hz8] at hvr
      have hval : ∃ (vv : Int), vv = v1 ∧ VR v1 = some (vv, pp) ∧ 0 ≤ vv ∧ vv ≤ 8192 := ⟨_, rfl, by rw [hvr, hpp]; rfl, by omega, by omega⟩
      clear hvr
      obtain ⟨vv, rfl, hvr, hvv0, hvv1⟩ := hval
      cbv
      rotate_left
      rw [qc, eql_true] at hz8
      rw [if_pos hz8] at hvr
      have ej : vb .add .u64 v1 (q - tt) = v1 + (q - tt) := by rw [qb, add_u64 (by omega) (by omega)]
      have hval : ∃ (vv : Int), vv = v1 + (q - tt) ∧ VR v1 = some (vv, pp) ∧ 0 ≤ vv ∧ vv ≤ 8192 := ⟨_, rfl, by rw [hvr, hpp]; rfl, by omega, by omega⟩
      clear hvr
      obtain ⟨vv, hvv, hvr, hvv0, hvv1⟩ := hval
      rw [← hvv] at ej
      cbv
      rw [ee, ee2, ef, ei, ej]
      refine ⟨⟨by omega⟩, ?_⟩
      all_goals
        have hS2 := hfin _ _ hvr
        clear hfin hS hvA hvB hvC
        have ek : vw .i16 vv = vv := by rw [qw]; exact wrap_i16 (by omega) (by omega)
        have el : vb .sub .i16 vv 1 = vv - 1 := by rw [qb]; show IntKind.i16.wrap _ = _; exact wrap_i16 (by omega) (by omega)
        obtain ⟨cc, hcc⟩ : ∃ cc : Int, cc = vv - 1 := ⟨_, rfl⟩
        rw [← hcc] at el hS2
        have hpc := hparts cc (by unfold isI16; omega)
        have hpn := partsN_le (c := cc) (by unfold isI16; omega)
        generalize partsN cc = pc at *
        have em : vb .sub .i64 left pc = left - pc := by rw [qb, sub_i64 (by omega) (by omega)]
        obtain ⟨left2, hl2⟩ : ∃ left2 : Int, left2 = left - pc := ⟨_, rfl⟩
        rw [← hl2] at em hS2
        have hvln : vln cs = rl := by simp only [qln, hrl]
        have hsub : vsub [cc] 0 1 = [cc] := by simp only [qsub]; rfl
        have honto : vonto cs rl [cc] = cs ++ [cc] := by rw [qonto, hrl]; simp
        have hln1 : vln [cc] = 1 := by simp only [qln]; rfl
        have ha1 : vaddN rl 1 = rl + 1 := by simp only [qaddN]
        have ha01 : vaddN 0 1 = 1 := by simp only [qaddN]
        have hrl40 : rl ≤ 256 := by omega
        obtain ⟨cs2, hcs2⟩ : ∃ cs2 : List Int, cs2 = cs ++ [cc] := ⟨_, rfl⟩
        have hcl2 : cs2.length = rl + 1 := by rw [hcs2, List.length_append, hrl]; rfl
        rw [← hcs2] at honto hS2
        obtain ⟨rl2, hrl2⟩ : ∃ rl2 : Nat, rl2 = rl + 1 := ⟨_, rfl⟩
        rw [← hrl2] at ha1 hcl2
        have hofn2 : vofN rl2 = (rl2 : Int) := by simp only [qofN]
        rw [ek, el]
        refine ⟨⟨by rw [ha01, hln1]; exact Nat.le_refl _⟩, ⟨by rw [hvln]; exact Nat.le_refl _⟩, ⟨Nat.le_refl _⟩, ⟨by rw [ha1]; omega⟩, ?_⟩
        intro c4 js6 hle4
        cbv
        refine call_con (ρ := []) hpc ⟨by rfl, by rfl, by rfl, by cbv⟩ ?_
        rintro v H R js7 ⟨rfl, rfl, rfl⟩
        cbv
        rw [em, hsub, honto, ha1]
        generalize hz9 : vc .neq cc 0 = z9
        cases z9
        rotate_left
        · rw [qc, neq_true] at hz9
          rw [if_pos hz9] at hS2
          cbv
          refine Cv.fold ([13, 14, 15, 16, 17, 18, 19, 20] ++ [54, 55, 56, 57, 58, 59, 60, 61, 62, 63, 64, 65, 66, 67, 68, 69, 70, 71, 72, 73, 74, 75, 76, 77, 78, 79, 80, 81, 82, 83, 84, 85, 86, 87, 88, 89, 90, 91, 92, 93, 94, 95, 96, 97, 98, 99, 100, 101, 102, 103, 104, 105, 106, 107, 108, 109, 110, 111, 112, 113, 114, 115, 116, 117, 118, 119, 120, 121, 122, 123, 124, 125, 126, 127, 128, 129, 130, 131, 132, 133, 134, 135, 136]) 6 [5] (by exact Nat.le_refl _) (by exact Nat.le_of_ble_eq_true rfl) (by rfl) (by cbv) ?_
          intro js
          refine ⟨(g, _, _, _, _, pp, _, _, _), ?_, js, rfl⟩
          refine ⟨⟨hS2, by omega, by simp only [nc] at *; omega, hcl2.symm, hrsF, by omega⟩, ?_⟩
          show g < g + 1
          omega
        rw [qc, neq_false] at hz9
        rw [if_neg hz9] at hS2
        cbv
        generalize hz10 : vc .gtr (vofN rl2) ms = z10
        cases z10
        rotate_left
        · rw [qc, gtr_true, hofn2] at hz10
          rw [if_pos (by simp only [nc] at *; omega)] at hS2
          have he0 := hbad 11 (by decide) hS2.symm
          cbv
          exact .inl ⟨by rw [he0]; decide, by rw [he0]⟩
        rw [qc, gtr_false, hofn2] at hz10
        rw [if_neg (by simp only [nc] at *; omega)] at hS2
        cbv
        refine loop_fam (α := Nat × Int × List Int × Nat × Nat × Nat × Int × Int × Int) ([16, 56, 106, 109, 116] ++ [120, 121, 122, 123, 124, 125, 126, 127, 128, 129, 130, 131, 132, 133, 134, 135, 136]) [5]
          (fun (f, nn, cs, rl, c, pos, acc, hv, ai) => [(20, .int .u64 nn), (6, .slice 5 .z 1 rl c)])
          (fun (f, nn, cs, rl, c, pos, acc, hv, ai) => [(3, .one 3 [.int .i64 ai]), (4, .one 178 [.fn 91 [.ptr 3 .z 1 0, .ptr 2 .z 1 0], .int .u64 acc, .int .i64 hv, .fn 92 [.ptr 2 .z 1 0, .ptr 3 .z 1 0]]), (5, .buf 125 .i16 cs c)])
          (fun (f, nn, cs, rl, c, pos, acc, hv, ai) => ((nn = 3 ∧ readS b ms f true left2 cs pos = RES ∧ 601 ≤ f + 2 * cs.length) ∨ (nn ≠ 3 ∧ readS b ms f false left2 cs pos = RES ∧ 600 ≤ f + 2 * cs.length)) ∧ cs.length ≤ 256 ∧ rl = cs.length ∧ RS b pos acc hv ai ∧ f ≤ g)
          (fun (f, nn, cs, rl, c, pos, acc, hv, ai) => f) hw hm ?_ ?_
        · refine Cv.genAt [20] [] (Cv.fold ([16, 56, 106, 109, 116] ++ [120, 121, 122, 123, 124, 125, 126, 127, 128, 129, 130, 131, 132, 133, 134, 135, 136]) 7 [5] (by exact Nat.le_refl _) (by exact Nat.le_of_ble_eq_true rfl) (by rfl) (by cbv) ?_)
          intro js
          refine ⟨(g, _, _, _, _, pp, _, _, _), ?_, js, rfl⟩
          exact ⟨.inl ⟨rfl, hS2, by omega⟩, by simp only [nc] at *; omega, hcl2.symm, hrsF, Nat.le_refl _⟩
        · rintro ⟨f5, nn, cs5, rl5, c5, pos5, acc5, hv5, ai5⟩ js ⟨hS5, hcl5, hrl5, hrs5, hf5⟩
          clear hS2
          cbv
          split
          rotate_left
          · rename_i hz11
            rw [qc, eql_false] at hz11
            obtain ⟨_, hS6, hf6⟩ := hS5.resolve_left (fun h => hz11 h.1)
            cbv
            refine Cv.fold ([13, 14, 15, 16, 17, 18, 19, 20] ++ [54, 55, 56, 57, 58, 59, 60, 61, 62, 63, 64, 65, 66, 67, 68, 69, 70, 71, 72, 73, 74, 75, 76, 77, 78, 79, 80, 81, 82, 83, 84, 85, 86, 87, 88, 89, 90, 91, 92, 93, 94, 95, 96, 97, 98, 99, 100, 101, 102, 103, 104, 105, 106, 107, 108, 109, 110, 111, 112, 113, 114, 115, 116, 117, 118, 119, 120, 121, 122, 123, 124, 125, 126, 127, 128, 129, 130, 131, 132, 133, 134, 135, 136]) 6 [5] (by exact Nat.le_refl _) (by exact Nat.le_of_ble_eq_true rfl) (by rfl) (by cbv) ?_
            intro js
            refine ⟨(f5, _, _, _, _, pos5, _, _, _), ?_, js, rfl⟩
            refine ⟨⟨hS6, hf6, hcl5, hrl5, hrs5, by omega⟩, ?_⟩
            show f5 < g + 1
            omega
          · rename_i hz11
            rw [qc, eql_true] at hz11
            obtain ⟨_, hS6, hf6⟩ := hS5.resolve_right (fun h => h.1 hz11)
            obtain ⟨g5, rfl⟩ : ∃ g5, f5 = g5 + 1 := ⟨f5 - 1, by omega⟩
            rw [readS] at hS6
            have hrd5 := hrd pos5 c0 bl 2 acc5 hv5 ai5 rfl hby (by omega) hrs5 (by omega)
            cbv
            refine call_con (ρ := [(4, .z), (3, .z), (2, .z), (1, .z)]) hrd5 ⟨by rfl, by rfl, by rfl, by cbv; exact ⟨view_refl _, trivial⟩⟩ ?_
            rintro v H R js8 ⟨rfl, acc6, hv6, ai6, n2, e2, pos6, rfl, hrs6, hcase6, rfl⟩
            cbv
            rcases hcase6 with ⟨rfl, hrd6, hpos6, hn0, hn1⟩ | ⟨rfl, hrd6⟩
            rotate_left
            · have hrd6 : rdN b pos5 2 = none := hrd6
              rw [hrd6] at hS6
              have he0 := hbad 10 (by decide) hS6.symm
              rw [h100]
              cbv
              exact .inl ⟨by rw [he0]; decide, by rw [he0]⟩
            have hrd6 : rdN b pos5 2 = some n2 := hrd6
            have hpos6 : pos6 = pos5 + 2 := hpos6
            have hn1 : n2 < 4 := hn1
            rw [hrd6] at hS6
            simp only at hS6
            rw [← hpos6] at hS6
            have htn : vtoN n2 = n2.toNat := by simp only [qtoN]
            have hrep : vrep n2.toNat 0 = List.replicate n2.toNat 0 := by simp only [qrep]
            have honto5 : vonto cs5 rl5 (List.replicate n2.toNat 0) = cs5 ++ List.replicate n2.toNat 0 := by rw [qonto, hrl5]; simp
            obtain ⟨cs7, hcs7⟩ : ∃ cs7 : List Int, cs7 = cs5 ++ List.replicate n2.toNat 0 := ⟨_, rfl⟩
            rw [← hcs7] at hS6 honto5
            have hvln5 : vln cs5 = rl5 := by simp only [qln, hrl5]
            have ha5 : vaddN rl5 n2.toNat = rl5 + n2.toNat := by simp only [qaddN]
            have hcl7 : cs7.length = rl5 + n2.toNat := by rw [hcs7, List.length_append, List.length_replicate, hrl5]
            have hrl5b : rl5 ≤ 256 := by omega
            have hnN4 : n2.toNat < 4 := by omega
            obtain ⟨rl7, hrl7⟩ : ∃ rl7 : Nat, rl7 = rl5 + n2.toNat := ⟨_, rfl⟩
            rw [← hrl7] at ha5 hcl7
            have hofn7 : vofN rl7 = (rl7 : Int) := by simp only [qofN]
            clear hcs7
            generalize hrepv : List.replicate n2.toNat (0 : Int) = rep at *
            generalize hnNv : n2.toNat = nN at *
            rw [h00]
            cbv
            rw [htn, hrep, ha5]
            refine ⟨⟨hn0⟩, ⟨by omega⟩, ⟨by rw [hvln5]; exact Nat.le_refl _⟩, ⟨Nat.le_refl _⟩, ⟨by omega⟩, ?_⟩
            intro c7 js9 hle7
            cbv
            rw [honto5, ha5]
            generalize hz12 : vc .gtr (vofN rl7) ms = z12
            cases z12
            rotate_left
            · rw [qc, gtr_true, hofn7] at hz12
              rw [if_pos (by simp only [nc] at *; omega)] at hS6
              have he0 := hbad 11 (by decide) hS6.symm
              cbv
              exact .inl ⟨by rw [he0]; decide, by rw [he0]⟩
            · rw [qc, gtr_false, hofn7] at hz12
              rw [if_neg (by simp only [nc] at *; omega)] at hS6
              cbv
              refine Cv.fold ([16, 56, 106, 109, 116] ++ [120, 121, 122, 123, 124, 125, 126, 127, 128, 129, 130, 131, 132, 133, 134, 135, 136]) 7 [5] (by exact Nat.le_refl _) (by exact Nat.le_of_ble_eq_true rfl) (by rfl) (by cbv) ?_
              intro js
              refine ⟨(g5, _, _, _, _, pos6, _, _, _), ?_, js, rfl⟩
              refine ⟨⟨?_, by simp only [nc] at *; omega, hcl7.symm, hrs6, by omega⟩, ?_⟩
              · by_cases h3 : n2 = 3
                · rw [if_pos h3] at hS6
                  exact .inl ⟨h3, hS6, by omega⟩
                · rw [if_neg h3] at hS6
                  exact .inr ⟨h3, hS6, by omega⟩
              · show g5 < g5 + 1
                omega
end Go.Proofs.Ytaaklikigccdfaa
namespace Go.Proofs.Ytaaklikigccdfaa
open Go Go.Sx Go.Proofs
theorem refbit_con (b : List Int) (cap i : Nat) (p : Int) (hby : ∀ x ∈ b, isByte x) (hl : b.length ≤ 2 ^ 50) (hi : i < 8 * b.length) :
    Con Try.prog 96 [.ptr 0 .z 2 0, .int .i64 i] [.one 156 [.slice 1 .z 1 b.length cap, .int .i64 p], .ro .u8 b]
      (fun v H R => v = .int .u64 ((bitL b).getD i 0) ∧ R = [] ∧ H = [.one 156 [.slice 1 .z 1 b.length cap, .int .i64 p], .ro .u8 b]) := by
  have hg := bitL_get b i hi
  have hbb := byte_bit hby (i / 8)
  refine con_walk hmix fn96 ?_
  intro vb vc vw vtoN vofN vaddN vsubN vmaxI vminI vcutN vgd vst vln vrep vsub vonto vsplice vstrEq vbyteV vnotB veqB hw qb qc qw qtoN qofN qaddN qsubN qmaxI qminI qcutN qgd qst qln qrep qsub qonto qsplice qstrEq qbyteV qnotB qeqB
  generalize Try.prog = P at *
  generalize (bitL b).getD i 0 = X at *
  generalize hi0 : ((i : Nat) : Int) = i0 at *
  generalize hlen : b.length = len at *
  have hq : vb .quo .i64 i0 8 = i0 / 8 := by rw [qb, quo_i64 (by omega) (by omega) (by omega)]
  have hr : vb .rem .i64 i0 8 = i0 % 8 := by rw [qb, rem_i64 (by omega)]
  have hwr : vw .u64 (i0 % 8) = i0 % 8 := by simp only [qw]; exact wrap_u64 (by omega) (by omega)
  have hin : 0 ≤ vb .quo .i64 i0 8 ∧ vb .quo .i64 i0 8 < len := by rw [hq]; omega
  have hqn : vtoN (vb .quo .i64 i0 8) = i / 8 := by rw [hq]; simp only [qtoN]; omega
  have hlt : vtoN (vb .quo .i64 i0 8) < vln b := by rw [hqn]; simp only [qln]; omega
  have hlt2 : vaddN 0 (vtoN (vb .quo .i64 i0 8)) < vln b := by simp only [qaddN, Nat.zero_add]; exact hlt
  have hnn : 0 ≤ vw .u64 (vb .rem .i64 i0 8) := by rw [hr, hwr]; omega
  have hval : vb .and .u64 (vw .u64 (vb .shr .u8 (vgd b (vtoN (vb .quo .i64 i0 8))) (vw .u64 (vb .rem .i64 i0 8)))) 1 = X := by
    rw [hr, hwr, hqn, qb, shr_eq (by show i0 % 8 ≤ ((8 : Nat) : Int); omega)]
    simp only [qgd, qw]
    have e : X = b.getD (i / 8) 0 / 2 ^ (i0 % 8).toNat % 2 := by
      rw [hg]; unfold bitAt; rw [if_pos (by omega)]
      have : (i0 / 8).toNat = i / 8 := by omega
      rw [this]
    rw [e]
    generalize b.getD (i / 8) 0 = y at *
    have h1 : 0 ≤ y / 2 ^ (i0 % 8).toNat := Int.ediv_nonneg hbb.1 (Int.le_of_lt (Int.pow_pos (by decide)))
    have h2 : y / 2 ^ (i0 % 8).toNat ≤ y := Int.ediv_le_self _ hbb.1
    have h3 := hbb.2
    rw [wrap_u64 h1 (by omega), and_one rfl h1 (by show _ < (2 : Int) ^ 64; omega)]
  cbv
  refine ⟨⟨hin⟩, ⟨hlt2⟩, ⟨hlt⟩, ⟨hnn⟩, ?_⟩
  rw [hval]
  exact ⟨rfl, trivial⟩
theorem refleft_con (b : List Int) (cap pos : Nat) (hl : b.length ≤ 2 ^ 50) (hp : pos ≤ 8 * b.length) :
    Con Try.prog 95 [.ptr 0 .z 2 0] [.one 156 [.slice 1 .z 1 b.length cap, .int .i64 pos], .ro .u8 b]
      (fun v H R => v = .int .i64 (8 * b.length - pos) ∧ R = [] ∧ H = [.one 156 [.slice 1 .z 1 b.length cap, .int .i64 pos], .ro .u8 b]) := by
  refine con_walk hmix fn95 ?_
  intro vb vc vw vtoN vofN vaddN vsubN vmaxI vminI vcutN vgd vst vln vrep vsub vonto vsplice vstrEq vbyteV vnotB veqB hw qb qc qw qtoN qofN qaddN qsubN qmaxI qminI qcutN qgd qst qln qrep qsub qonto qsplice qstrEq qbyteV qnotB qeqB
  generalize Try.prog = P at *
  generalize hL : (8 * (b.length : Int) - pos) = L
  generalize hlen : b.length = len at *
  generalize hp0 : ((pos : Nat) : Int) = p0 at *
  have e1 : vb .sub .i64 (vb .mul .i64 8 (vofN len)) p0 = L := by simp only [qb, qofN]; rw [mul_i64 (by omega) (by omega), sub_i64 (by omega) (by omega)]; omega
  cbv
  rw [e1]
  exact ⟨rfl, trivial⟩
set_option maxHeartbeats 2000000 in
theorem refbits_ok (b : List Int) (cap pos n : Nat) (hby : ∀ x ∈ b, isByte x) (hl : b.length ≤ 2 ^ 50) (hn : n ≤ 56) (hen : pos + n ≤ 8 * b.length) :
    Con Try.prog 75 [.ptr 0 .z 2 0, .int .i64 n] [.one 156 [.slice 1 .z 1 b.length cap, .int .i64 pos], .ro .u8 b]
      (fun v H R => v = .tup [.int .u64 (bval (bitL b) pos n), .lit .i64 0] ∧ R = [] ∧ H = [.one 156 [.slice 1 .z 1 b.length cap, .int .i64 ((pos + n : Nat))], .ro .u8 b]) := by
  have hbit := fun i hi => refbit_con b cap i pos hby hl hi
  have hleft := refleft_con b cap pos hl (by omega)
  refine con_cut 2 (by simp) (con_red [] (con_walk hmix fn75 ?_))
  intro vb vc vw vtoN vofN vaddN vsubN vmaxI vminI vcutN vgd vst vln vrep vsub vonto vsplice vstrEq vbyteV vnotB veqB hw qb qc qw qtoN qofN qaddN qsubN qmaxI qminI qcutN qgd qst qln qrep qsub qonto qsplice qstrEq qbyteV qnotB qeqB
  have hm := hmix
  generalize Try.prog = P at *
  generalize hX : bval (bitL b) pos n = X
  generalize hL : (8 * (b.length : Int) - pos) = L at *
  generalize hp1 : ((pos + n : Nat) : Int) = p1 at *
  generalize hp0 : ((pos : Nat) : Int) = p0 at *
  generalize hn0 : ((n : Nat) : Int) = n0 at *
  have hbd : ∀ i, 0 ≤ bval (bitL b) pos i ∧ bval (bitL b) pos i < 2 ^ i := bval_bound (bitL b) (bitL_bit b) pos
  have hbl : ∀ i, 0 ≤ (bitL b).getD i 0 ∧ (bitL b).getD i 0 < 2 := fun i => by
    rw [List.getD_eq_getElem?_getD]
    cases hg : (bitL b)[i]? with
    | none => exact ⟨by simp, by simp⟩
    | some y => have := bitL_bit b y (List.mem_of_getElem? hg); unfold isBit at this; simp; omega
  generalize hlen : b.length = len at *
  cbv
  have e1 : vc .lss n0 0 = false := by rw [qc, lss_false]; simp only [nc] at *; omega
  have e2 : vc .gtr n0 56 = false := by rw [qc, gtr_false]; simp only [nc] at *; omega
  have e3 : vc .lss L n0 = false := by rw [qc, lss_false]; simp only [nc] at *; omega
  rw [e1]
  cbv
  rw [e2]
  cbv
  refine call_con (ρ := [(0, .z), (1, .z)]) hleft ⟨by rfl, by rfl, by rfl, by cbv; exact ⟨view_refl _, trivial⟩⟩ ?_
  rintro v H R js ⟨rfl, rfl, rfl⟩
  cbv
  rw [e3]
  cbv
  refine loop_fam (α := Int × Int) [18, 19, 20, 21, 22, 23, 24, 25, 26, 27, 28, 29, 30, 31, 32, 33, 34, 35] []
    (fun (x, k) => [(6, .int .u64 x), (7, .int .i64 k)]) (fun (x, k) => [])
    (fun (x, k) => ∃ i : Nat, k = i ∧ i ≤ n ∧ x = bval (bitL b) pos i) (fun (x, k) => n - k.toNat) hw hm ?_ ?_
  · refine Cv.genAt [6, 7] [] (Cv.fold [18, 19, 20, 21, 22, 23, 24, 25, 26, 27, 28, 29, 30, 31, 32, 33, 34, 35] 2 [] (by exact Nat.le_refl _) (by exact Nat.le_of_ble_eq_true rfl) (by rfl) (by cbv) ?_)
    intro js
    refine ⟨(_, _), ?_, js, rfl⟩
    exact ⟨0, rfl, by omega, rfl⟩
  · rintro ⟨x, k⟩ js ⟨i, hk, hi, hx⟩
    cbv
    split
    · rename_i hlt
      have hlt : i < n := by rw [qc, lss_true] at hlt; simp only [nc] at *; omega
      have hbit' := hbit (pos + i) (by omega)
      have hadd : vb .add .i64 p0 k = ((pos + i : Nat) : Int) := by simp only [nc] at *; rw [qb, add_i64 (by omega) (by omega)]; omega
      have hbd' := hbd i
      have hbl' := hbl (pos + i)
      have hsucc : bval (bitL b) pos (i + 1) = bval (bitL b) pos i + (bitL b).getD (pos + i) 0 * 2 ^ i := rfl
      simp only [nc] at hbit' hadd
      rw [← hadd] at hbit'
      generalize hy : (bitL b).getD (pos + i) 0 = y at *
      generalize hz : vb .add .i64 p0 k = z at *
      have hwk : vw .u64 k = k := by simp only [nc] at *; simp only [qw]; exact wrap_u64 (by omega) (by omega)
      have hnn : 0 ≤ vw .u64 k := by rw [hwk]; simp only [nc] at *; omega
      have hk1 : vb .add .i64 k 1 = ((i + 1 : Nat) : Int) := by simp only [nc] at *; rw [qb, add_i64 (by omega) (by omega)]; omega
      have hval : vb .or .u64 x (vb .shl .u64 y (vw .u64 k)) = bval (bitL b) pos (i + 1) := by
        have hp56 := pow_le_56 (show i ≤ 56 by omega)
        have hpp : (0 : Int) < 2 ^ i := Int.pow_pos (by decide)
        have hyb : 0 ≤ y * 2 ^ i ∧ y * 2 ^ i ≤ 2 ^ i := by
          have : y = 0 ∨ y = 1 := by omega
          rcases this with rfl | rfl <;> omega
        have hkn : k.toNat = i := by simp only [nc] at *; omega
        rw [hsucc, hwk, qb, shl_u rfl hbl'.1 (by show k ≤ ((64 : Nat) : Int); simp only [nc] at *; omega) (by rw [hkn]; show _ < (2 : Int) ^ 64; omega), hkn, hx, or_add rfl _ hbd'.1 hbd'.2 hbl'.1 (by show _ < (2 : Int) ^ 64; omega)]
      cbv
      rw [hz]
      refine call_con (ρ := [(0, .z), (1, .z)]) hbit' ⟨by rfl, by rfl, by rfl, by cbv; exact ⟨view_refl _, trivial⟩⟩ ?_
      rintro v H R js ⟨rfl, rfl, rfl⟩
      cbv
      refine ⟨⟨hnn⟩, ?_⟩
      refine Cv.fold [18, 19, 20, 21, 22, 23, 24, 25, 26, 27, 28, 29, 30, 31, 32, 33, 34, 35] 2 [] (by exact Nat.le_refl _) (by exact Nat.le_of_ble_eq_true rfl) (by rfl) (by cbv) ?_
      intro js
      refine ⟨(_, _), ?_, js, rfl⟩
      exact ⟨⟨i + 1, hk1, hlt, hval⟩, by show n - (vb .add .i64 k 1).toNat < n - k.toNat; rw [hk1, hk]; simp only [nc] at *; omega⟩
    · rename_i hge
      have hin : i = n := by rw [qc, lss_false] at hge; simp only [nc] at *; omega
      have hxX : x = X := by rw [hx, hin, hX]
      have hpp : vb .add .i64 p0 n0 = p1 := by simp only [nc] at *; rw [qb, add_i64 (by omega) (by omega)]; omega
      cbv
      rw [hxX, hpp]
      exact ⟨rfl, rfl⟩
theorem refbits_bad (b : List Int) (cap pos : Nat) (n : Int) (hl : b.length ≤ 2 ^ 50) (hp : pos ≤ 8 * b.length) (hn : ¬ (0 ≤ n ∧ n ≤ 56 ∧ pos + n ≤ 8 * b.length)) :
    Con Try.prog 75 [.ptr 0 .z 2 0, .int .i64 n] [.one 156 [.slice 1 .z 1 b.length cap, .int .i64 pos], .ro .u8 b]
      (fun v H R => v = .tup [.int .u64 0, .int .i64 (rbE b pos n)] ∧ R = [] ∧ H = [.one 156 [.slice 1 .z 1 b.length cap, .int .i64 pos], .ro .u8 b]) := by
  have hleft := refleft_con b cap pos hl hp
  have hE : rbE b pos n = if 0 ≤ n ∧ n ≤ 56 then 10 else 2 := by unfold rbE; split <;> (first | rfl | (rw [if_neg (by omega)]))
  rw [hE]
  refine con_gen (con_walk hmix fn75 ?_)
  intro vb vc vw vtoN vofN vaddN vsubN vmaxI vminI vcutN vgd vst vln vrep vsub vonto vsplice vstrEq vbyteV vnotB veqB hw qb qc qw qtoN qofN qaddN qsubN qmaxI qminI qcutN qgd qst qln qrep qsub qonto qsplice qstrEq qbyteV qnotB qeqB
  generalize Try.prog = P at *
  generalize hL : (8 * (b.length : Int) - pos) = L at *
  generalize hp0 : ((pos : Nat) : Int) = p0 at *
  generalize hlen : b.length = len at *
  by_cases h1 : n < 0
  · have e1 : vc .lss n 0 = true := by rw [qc, lss_true]; exact h1
    rw [if_neg (by omega)]
    cbv
    rw [e1]
    cbv
  · have e1 : vc .lss n 0 = false := by rw [qc, lss_false]; exact h1
    by_cases h2 : 56 < n
    · have e2 : vc .gtr n 56 = true := by rw [qc, gtr_true]; exact h2
      rw [if_neg (by omega)]
      cbv
      rw [e1]
      cbv
      rw [e2]
      cbv
    · have e2 : vc .gtr n 56 = false := by rw [qc, gtr_false]; exact h2
      have e3 : vc .lss L n = true := by rw [qc, lss_true]; omega
      rw [if_pos (by omega)]
      cbv
      rw [e1]
      cbv
      rw [e2]
      cbv
      refine call_con (ρ := [(0, .z), (1, .z)]) hleft ⟨by rfl, by rfl, by rfl, by cbv; exact ⟨view_refl _, trivial⟩⟩ ?_
      rintro v H R js ⟨rfl, rfl, rfl⟩
      cbv
      rw [e3]
      cbv
theorem refbitsB_con (b : List Int) (cap pos : Nat) (n : Int) (hby : ∀ x ∈ b, isByte x) (hl : b.length ≤ 2 ^ 50) (hp : pos ≤ 8 * b.length) :
    Con Try.prog 75 [.ptr 0 .z 2 0, .int .i64 n] [.one 156 [.slice 1 .z 1 b.length cap, .int .i64 pos], .ro .u8 b]
      (fun v H R => v = .tup [.int .u64 (rbX b pos n), .int .i64 (rbE b pos n)] ∧ R = [] ∧ H = [.one 156 [.slice 1 .z 1 b.length cap, .int .i64 (rbP b pos n)], .ro .u8 b]) := by
  by_cases hn : 0 ≤ n ∧ n ≤ 56 ∧ pos + n ≤ 8 * b.length
  · obtain ⟨m, rfl⟩ : ∃ m : Nat, n = m := ⟨n.toNat, by omega⟩
    have e1 : rbX b pos m = bval (bitL b) pos m := by unfold rbX; rw [if_pos hn]; rfl
    have e2 : rbE b pos m = 0 := by unfold rbE; rw [if_pos ⟨hn.1, hn.2.1⟩, if_pos hn.2.2]
    have e3 : rbP b pos m = pos + m := by unfold rbP; rw [if_pos hn]; rfl
    rw [e1, e2, e3]
    refine con_gen ((refbits_ok b cap pos m hby hl (by omega) (by omega)).mono ?_)
    rintro v H R ⟨rfl, rfl, rfl⟩
    exact ⟨rfl, rfl, rfl⟩
  · have e1 : rbX b pos n = 0 := by unfold rbX; rw [if_neg hn]
    have e3 : rbP b pos n = pos := by unfold rbP; rw [if_neg hn]
    rw [e1, e3]
    refine con_gen ((refbits_bad b cap pos n hl hp hn).mono ?_)
    rintro v H R ⟨rfl, rfl, rfl⟩
    exact ⟨rfl, rfl, rfl⟩
end Go.Proofs.Ytaaklikigccdfaa
namespace Go.Proofs.Ytaaklikigccdfaa
open Go Go.Sx Go.Proofs
theorem pow_up {a : Nat} : ∀ {b : Nat}, a ≤ b → (2 : Int) ^ a ≤ 2 ^ b
  | 0, h => by obtain rfl : a = 0 := by omega
               exact Int.le_refl _
  | b + 1, h => by
    by_cases e : a = b + 1
    · subst e; exact Int.le_refl _
    · have := pow_up (a := a) (b := b) (by omega)
      have hp : (0 : Int) < 2 ^ b := Int.pow_pos (by omega)
      rw [Int.pow_succ]
      omega
end Go.Proofs.Ytaaklikigccdfaa
namespace Go.Proofs.Ytaaklikigccdfaa
open Go Go.Sx Go.Proofs
/-! Weights that make a code; weights.size. -/
def isU8 (c : Int) : Prop := 0 ≤ c ∧ c ≤ 255
theorem getD_u8 {l : List Int} (h : ∀ c ∈ l, isU8 c) (i : Nat) : 0 ≤ l.getD i 0 ∧ l.getD i 0 ≤ 255 := by
  rw [List.getD_eq_getElem?_getD]
  cases hg : l[i]? with
  | none => simp
  | some y => exact h y (List.mem_of_getElem? hg)
/-- What a weight counts. -/
def pw (w : Int) : Int := if w ≤ 0 then 0 else 2 ^ (w - 1).toNat
def sm (l : List Int) : Nat → Int
  | 0 => 0
  | n + 1 => sm l n + pw (l.getD n 0)
def on (l : List Int) : Nat → Int
  | 0 => 0
  | n + 1 => on l n + (if l.getD n 0 = 1 then 1 else 0)
def Wt (l : List Int) (M : Nat) : Prop := 2 ≤ l.length ∧ l.length ≤ 256 ∧ l.getD (l.length - 1) 0 ≠ 0 ∧ (∀ i, i < l.length → l.getD i 0 ≤ 11) ∧ 2 ≤ on l l.length ∧ sm l l.length = 2 ^ M ∧ M ≤ 11
def Msz (l : List Int) (m : Int) : Prop := (∃ M : Nat, Wt l M ∧ m = M) ∨ ((∀ M, ¬ Wt l M) ∧ m = 0)
theorem Msz.ex (l : List Int) : ∃ m, Msz l m := by
  by_cases h : ∃ M, Wt l M
  · obtain ⟨M, h⟩ := h; exact ⟨M, .inl ⟨M, h, rfl⟩⟩
  · exact ⟨0, .inr ⟨fun M hM => h ⟨M, hM⟩, rfl⟩⟩
theorem pw_range {w : Int} (h : w ≤ 11) : 0 ≤ pw w ∧ pw w ≤ 1024 := by
  unfold pw
  split
  · omega
  · have h1 : (2 : Int) ^ (w - 1).toNat ≤ 2 ^ 10 := pow_up (by omega)
    have h2 : (0 : Int) < 2 ^ (w - 1).toNat := Int.pow_pos (by omega)
    omega
theorem sm_range {l : List Int} : ∀ {i : Nat}, (∀ j, j < i → l.getD j 0 ≤ 11) → 0 ≤ sm l i ∧ sm l i ≤ 1024 * i
  | 0, _ => by simp [sm]
  | i + 1, h => by
    have h1 := sm_range (l := l) (i := i) (fun j hj => h j (by omega))
    have h2 := pw_range (h i (by omega))
    simp only [sm]
    push_cast
    omega
theorem on_range (l : List Int) : ∀ i, 0 ≤ on l i ∧ on l i ≤ i
  | 0 => by simp [on]
  | i + 1 => by
    have h1 := on_range l i
    simp only [on]
    push_cast
    split <;> omega
/-- So many ones weigh as much. -/
theorem on_sm {l : List Int} : ∀ {i : Nat}, (∀ j, j < i → l.getD j 0 ≤ 11) → on l i ≤ sm l i
  | 0, _ => by simp [on, sm]
  | i + 1, h => by
    have h1 := on_sm (l := l) (i := i) (fun j hj => h j (by omega))
    have h2 := pw_range (h i (by omega))
    simp only [on, sm]
    split
    · rename_i e
      rw [e, show pw 1 = 1 by decide]
      omega
    · omega
theorem nat_pow_and : ∀ n : Nat, 0 < n → (n &&& (n - 1) = 0 ↔ ∃ k, n = 2 ^ k) := by
  intro n
  induction n using Nat.strongRecOn with
  | _ n ih =>
    intro hn
    have hdiv : (n &&& (n - 1)) = 0 ↔ ((n &&& (n - 1)) / 2 = 0 ∧ (n &&& (n - 1)) % 2 = 0) := by omega
    rw [hdiv, Nat.and_div_two, show (n &&& (n - 1)) % 2 = (n % 2) &&& ((n - 1) % 2) by rw [← Nat.and_mod_two_pow (n := 1)]]
    rcases (by omega : n % 2 = 0 ∨ n % 2 = 1) with h | h
    · have h1 : (n - 1) / 2 = n / 2 - 1 := by omega
      rw [h1, h, Nat.zero_and, ih (n / 2) (by omega) (by omega)]
      constructor
      · rintro ⟨⟨k, hk⟩, _⟩
        exact ⟨k + 1, by rw [Nat.pow_succ]; omega⟩
      · rintro ⟨k, hk⟩
        cases k with
        | zero => omega
        | succ k => exact ⟨⟨k, by rw [Nat.pow_succ] at hk; omega⟩, rfl⟩
    · have h1 : (n - 1) / 2 = n / 2 := by omega
      rw [h1, Nat.and_self]
      constructor
      · rintro ⟨h2, _⟩
        exact ⟨0, by omega⟩
      · rintro ⟨k, hk⟩
        cases k with
        | zero => subst hk; exact ⟨rfl, rfl⟩
        | succ k => rw [Nat.pow_succ] at hk; omega
theorem and_pow {s : Int} (h0 : 1 ≤ s) (h1 : s < 2 ^ 64) : bV .and .u64 s (s - 1) = 0 ↔ ∃ k : Nat, s = 2 ^ k := by
  have hb : (2 : Int) ^ (IntKind.u64).bits = 18446744073709551616 := by decide
  rw [and_u rfl (by omega) (by rw [hb]; omega) (by omega) (by rw [hb]; omega)]
  have e : (s - 1).toNat = s.toNat - 1 := by omega
  rw [e]
  have key := nat_pow_and s.toNat (by omega)
  constructor
  · intro h
    obtain ⟨k, hk⟩ := key.1 (by exact_mod_cast h)
    refine ⟨k, ?_⟩
    have : ((s.toNat : Nat) : Int) = ((2 ^ k : Nat) : Int) := by rw [hk]
    rw [Int.toNat_of_nonneg (by omega)] at this
    rw [this]; push_cast; rfl
  · rintro ⟨k, hk⟩
    have : s.toNat = 2 ^ k := by
      have h2 : ((s.toNat : Nat) : Int) = ((2 ^ k : Nat) : Int) := by rw [Int.toNat_of_nonneg (by omega), hk]; push_cast; rfl
      exact_mod_cast h2
    exact_mod_cast key.2 ⟨k, this⟩
theorem blen_pow (k : Nat) : blen (2 ^ k) = k + 1 := blen_of (Int.le_refl _) (by have : (0 : Int) < 2 ^ k := Int.pow_pos (by omega); rw [Int.pow_succ]; omega)
theorem pow_inj {a b : Nat} (h : (2 : Int) ^ a = 2 ^ b) : a = b := by
  have := blen_pow a; rw [h, blen_pow] at this; omega
/-- What is asked at the end. -/
theorem Msz.ends {l : List Int} {m : Int} (hm : Msz l m) (h1 : 2 ≤ l.length) (h2 : l.length ≤ 256) (h3 : l.getD (l.length - 1) 0 ≠ 0) (h4 : ∀ i, i < l.length → l.getD i 0 ≤ 11) :
    (2 ≤ on l l.length → (∃ k : Nat, sm l l.length = 2 ^ k) → sm l l.length ≤ 2048 → m = blen (sm l l.length) - 1) ∧
    ((on l l.length < 2 ∨ (¬ ∃ k : Nat, sm l l.length = 2 ^ k) ∨ 2048 < sm l l.length) → m = 0) := by
  constructor
  · rintro k1 ⟨k, hk⟩ k3
    have hk11 : k ≤ 11 := by
      apply Classical.byContradiction
      intro h
      have : (2 : Int) ^ 12 ≤ 2 ^ k := pow_up (by omega)
      omega
    rcases hm with ⟨M, hW, rfl⟩ | ⟨hn, rfl⟩
    · have := hW.2.2.2.2.2.1
      rw [this, blen_pow]
      omega
    · exact (hn k ⟨h1, h2, h3, h4, k1, hk, hk11⟩).elim
  · intro h
    rcases hm with ⟨M, ⟨_, _, _, _, k1, k2, k3⟩, rfl⟩ | ⟨hn, rfl⟩
    · rcases h with h | h | h
      · omega
      · exact (h ⟨M, k2⟩).elim
      · have : (2 : Int) ^ M ≤ 2 ^ 11 := pow_up k3
        omega
    · rfl
theorem Msz.none {l : List Int} {m : Int} (hm : Msz l m) (h : l.length < 2 ∨ 256 < l.length ∨ l.getD (l.length - 1) 0 = 0 ∨ ∃ i, i < l.length ∧ 11 < l.getD i 0) : m = 0 := by
  rcases hm with ⟨M, ⟨k1, k2, k3, k4, _⟩, rfl⟩ | ⟨_, rfl⟩
  · rcases h with h | h | h | ⟨i, hi, h⟩
    · omega
    · omega
    · exact (k3 h).elim
    · have := k4 i hi; omega
  · rfl
theorem pw_word {w : Int} (h0 : 0 ≤ w) (h1 : w ≤ 11) : bV .shr .u64 (bV .shl .u64 1 w) 1 = pw w := by
  have hb : (2 : Int) ^ (IntKind.u64).bits = 18446744073709551616 := by decide
  have hp : (2 : Int) ^ w.toNat ≤ 2 ^ 11 := pow_up (by omega)
  rw [shl_u rfl (by omega) (by show w ≤ 64; omega) (by rw [hb]; omega), shr_eq (by decide)]
  unfold pw
  split
  · have : w.toNat = 0 := by omega
    rw [this]; rfl
  · obtain ⟨k, hk⟩ : ∃ k, w.toNat = k + 1 := ⟨w.toNat - 1, by omega⟩
    rw [hk, show (w - 1).toNat = k by omega, Int.pow_succ, Int.one_mul]
    show 2 ^ k * 2 / 2 = _
    omega
end Go.Proofs.Ytaaklikigccdfaa
namespace Go.Proofs.Ytaaklikigccdfaa
open Go Go.Sx Go.Proofs
set_option maxRecDepth 10000
set_option maxHeartbeats 40000000
theorem size_con (l : List Int) (cap : Nat) (m : Int) (hl : ∀ c ∈ l, isU8 c) (hlen : l.length ≤ 140737488355328) (hm0 : Msz l m) :
    Con Try.prog 46 [.slice 0 .z 1 l.length cap] [.ro .u8 l] (fun v H R => v = .int .i64 m ∧ H = [.ro .u8 l] ∧ R = []) := by
  have hlen1 := fun x h => len_con x h
  refine con_gen (con_cut 1 (by simp) (con_drop (con_walk hmix fn46 ?_)))
  intro vb vc vw vtoN vofN vaddN vsubN vmaxI vminI vcutN vgd vst vln vrep vsub vonto vsplice vstrEq vbyteV vnotB veqB hw qb qc qw qtoN qofN qaddN qsubN qmaxI qminI qcutN qgd qst qln qrep qsub qonto qsplice qstrEq qbyteV qnotB qeqB
  have hm := hmix; generalize Try.prog = P at *
  have hends := hm0.ends
  have hnone := hm0.none
  have hge := getD_u8 hl
  have hsr := fun i => @sm_range l i
  have hor := on_range l
  have hos := fun i => @on_sm l i
  have hs0 : sm l 0 = 0 := rfl
  have ho0 : on l 0 = 0 := rfl
  have hss : ∀ i, sm l (i + 1) = sm l i + pw (l.getD i 0) := fun _ => rfl
  have hosu : ∀ i, on l (i + 1) = on l i + (if l.getD i 0 = 1 then 1 else 0) := fun _ => rfl
  have hpr := @pw_range
  have hb16 := fun x h0 h1 => @blen_16 x h0 h1
  have hpwd : ∀ w : Int, 0 ≤ w → w ≤ 11 → vb .shr .u64 (vb .shl .u64 1 w) 1 = pw w := fun w h0 h1 => by rw [qb]; exact pw_word h0 h1
  have hand : ∀ s : Int, 1 ≤ s → s < 2 ^ 64 → (vb .and .u64 s (s - 1) = 0 ↔ ∃ k : Nat, s = 2 ^ k) := fun s h0 h1 => by rw [qb]; exact and_pow h0 h1
  clear hm0
  generalize sm l = SM at *
  generalize on l = ON at *
  generalize pw = PW at *
  generalize blen = BL at *
  generalize hn : l.length = n at *
  have hto : ∀ i : Nat, vtoN (i : Int) = i := fun i => by simp only [qtoN, Int.toNat_natCast]
  have hadd0 : ∀ i, vaddN 0 i = i := fun i => by simp only [qaddN, Nat.zero_add]
  have hvln : vln l = n := by simp only [qln, hn]
  have hvgd : ∀ i, vgd l i = l.getD i 0 := fun i => by simp only [qgd]
  obtain ⟨nI, hnI⟩ : ∃ nI : Int, nI = n := ⟨_, rfl⟩
  have en : vofN n = nI := by rw [hnI, qofN]
  cbv
  simp only [nc] at *
  rw [en]
  generalize hz1 : vc .lss nI 2 = z1
  cases z1
  rotate_left
  · rw [qc, lss_true] at hz1
    cbv
    have := hnone (.inl (by ((try simp only [nc] at *); omega)))
    subst this
    exact ⟨rfl, trivial⟩
  rw [qc, lss_false] at hz1
  cbv
  rw [en]
  generalize hz2 : vc .gtr nI 256 = z2
  cases z2
  rotate_left
  · rw [qc, gtr_true] at hz2
    cbv
    have := hnone (.inr (.inl (by ((try simp only [nc] at *); omega))))
    subst this
    exact ⟨rfl, trivial⟩
  rw [qc, gtr_false] at hz2
  obtain ⟨nm, hnm⟩ : ∃ nm : Int, nm = ((n - 1 : Nat) : Int) := ⟨_, rfl⟩
  have enm : vb .sub .i64 nI 1 = nm := by rw [qb, sub_i64 (by ((try simp only [nc] at *); omega)) (by ((try simp only [nc] at *); omega))]; ((try simp only [nc] at *); omega)
  have htm : vtoN nm = n - 1 := by rw [hnm]; exact hto _
  cbv
  rw [en, enm, htm, hadd0, hvgd, hvln]
  refine ⟨⟨by ((try simp only [nc] at *); omega)⟩, ⟨by ((try simp only [nc] at *); omega)⟩, ⟨by ((try simp only [nc] at *); omega)⟩, ?_⟩
  generalize hz3 : vc .eql (l.getD (n - 1) 0) 0 = z3
  cases z3
  rotate_left
  · rw [qc, eql_true] at hz3
    cbv
    have := hnone (.inr (.inr (.inl hz3)))
    subst this
    exact ⟨rfl, trivial⟩
  rw [qc, eql_false] at hz3
  have hends := hends (by ((try simp only [nc] at *); omega)) (by ((try simp only [nc] at *); omega)) hz3
  cbv
  rw [en]
  refine loop_fam (α := Int × Int × Int) ([6] ++ [27, 28, 29, 30, 31, 32, 33, 34, 35, 36, 37, 38, 39, 40, 41, 42, 43]) [] (fun (k, s, o) => [(26, .int .i64 k), (3, .int .u64 s), (4, .int .i64 o)]) (fun _ => [])
    (fun (k, s, o) => ∃ i : Nat, k = i ∧ i ≤ n ∧ s = SM i ∧ o = ON i ∧ ∀ j, j < i → l.getD j 0 ≤ 11) (fun (k, _) => n - k.toNat) hw hm ?_ ?_
  · refine Cv.genAt [26, 3, 4] [] (Cv.fold ([6] ++ [27, 28, 29, 30, 31, 32, 33, 34, 35, 36, 37, 38, 39, 40, 41, 42, 43]) 1 [] (by exact Nat.le_refl _) (by exact Nat.le_of_ble_eq_true rfl) (by rfl) (by cbv) ?_)
    intro js
    refine ⟨(_, _, _), ?_, js, rfl⟩
    exact ⟨0, rfl, by ((try simp only [nc] at *); omega), hs0.symm, ho0.symm, fun j hj => by ((try simp only [nc] at *); omega)⟩
  · rintro ⟨k, s, o⟩ js ⟨i, hk, hi, hs, ho, hj⟩
    have hsi := hsr i hj
    have hoi := hor i
    cbv
    generalize hz4 : vc .lss k nI = z4
    cases z4
    rotate_left
    · rw [qc, lss_true] at hz4
      have hlt : i < n := by ((try simp only [nc] at *); omega)
      have hti : vtoN k = i := by rw [hk]; exact hto i
      have hinR : 0 ≤ k ∧ k < (n : Int) := by ((try simp only [nc] at *); omega)
      obtain ⟨k1, hk1⟩ : ∃ k1 : Int, k1 = ((i + 1 : Nat) : Int) := ⟨_, rfl⟩
      have ek : vb .add .i64 k 1 = k1 := by rw [qb, add_i64 (by ((try simp only [nc] at *); omega)) (by ((try simp only [nc] at *); omega))]; ((try simp only [nc] at *); omega)
      have hmu : ∀ _ : Unit, n - k1.toNat < n - k.toNat := fun _ => by ((try simp only [nc] at *); omega)
      have hx := hge i
      have hss1 := hss i
      have hos1 := hosu i
      cbv
      rw [hti, hadd0, hvgd, hvln]
      refine ⟨⟨hinR⟩, ⟨hlt⟩, ⟨hlt⟩, ?_⟩
      generalize hxi : l.getD i 0 = x at *
      generalize hz5 : vc .gtr x 11 = z5
      cases z5
      rotate_left
      · rw [qc, gtr_true] at hz5
        cbv
        have := hnone (.inr (.inr (.inr ⟨i, hlt, by ((try simp only [nc] at *); omega)⟩)))
        subst this
        exact ⟨rfl, trivial⟩
      rw [qc, gtr_false] at hz5
      have hpx := hpr (w := x) (by ((try simp only [nc] at *); omega))
      have hpw := hpwd x (by ((try simp only [nc] at *); omega)) (by ((try simp only [nc] at *); omega))
      obtain ⟨s1, hs1⟩ : ∃ s1, s1 = SM (i + 1) := ⟨_, rfl⟩
      have es : vb .add .u64 s (PW x) = s1 := by
        rw [qb, hs1, hss1, ← hs]
        exact wrap_u64 (by ((try simp only [nc] at *); omega)) (by ((try simp only [nc] at *); omega))
      have hjj : ∀ j, j < i + 1 → l.getD j 0 ≤ 11 := fun j hj2 => by
        by_cases e : j = i
        · subst e; ((try simp only [nc] at *); omega)
        · exact hj j (by ((try simp only [nc] at *); omega))
      cbv
      generalize hz6 : vc .eql x 1 = z6
      cases z6
      · rw [qc, eql_false] at hz6
        rw [if_neg hz6] at hos1
        cbv
        rw [hpw, es, ek]
        refine ⟨⟨by ((try simp only [nc] at *); omega)⟩, ?_⟩
        refine Cv.fold ([6] ++ [27, 28, 29, 30, 31, 32, 33, 34, 35, 36, 37, 38, 39, 40, 41, 42, 43]) 1 [] (by exact Nat.le_refl _) (by exact Nat.le_of_ble_eq_true rfl) (by rfl) (by cbv) ?_
        intro js
        refine ⟨(_, _, _), ?_, js, rfl⟩
        exact ⟨⟨i + 1, hk1, hlt, hs1, by ((try simp only [nc] at *); omega), hjj⟩, hmu ()⟩
      · rw [qc, eql_true] at hz6
        rw [if_pos hz6] at hos1
        have eo : vb .add .i64 o 1 = o + 1 := by rw [qb, add_i64 (by ((try simp only [nc] at *); omega)) (by ((try simp only [nc] at *); omega))]
        obtain ⟨o1, ho1⟩ : ∃ o1, o1 = o + 1 := ⟨_, rfl⟩
        rw [← ho1] at eo
        cbv
        rw [hpw, es, ek, eo]
        refine ⟨⟨by ((try simp only [nc] at *); omega)⟩, ?_⟩
        refine Cv.fold ([6] ++ [27, 28, 29, 30, 31, 32, 33, 34, 35, 36, 37, 38, 39, 40, 41, 42, 43]) 1 [] (by exact Nat.le_refl _) (by exact Nat.le_of_ble_eq_true rfl) (by rfl) (by cbv) ?_
        intro js
        refine ⟨(_, _, _), ?_, js, rfl⟩
        exact ⟨⟨i + 1, hk1, hlt, hs1, by ((try simp only [nc] at *); omega), hjj⟩, hmu ()⟩
    · rw [qc, lss_false] at hz4
      obtain rfl : i = n := by ((try simp only [nc] at *); omega)
      obtain ⟨he1, he2⟩ := hends (fun j h => hj j h)
      rw [← hs, ← ho] at he1 he2
      have hos2 := hos i hj
      rw [← hs, ← ho] at hos2
      clear hends hnone
      cbv
      generalize hz5 : vc .lss o 2 = z5
      cases z5
      rotate_left
      · rw [qc, lss_true] at hz5
        cbv
        have := he2 (.inl hz5)
        subst this
        exact ⟨rfl, trivial⟩
      rw [qc, lss_false] at hz5
      have hs1 : 1 ≤ s := by ((try simp only [nc] at *); omega)
      have hs2 : s < 2 ^ 64 := by ((try simp only [nc] at *); omega)
      have hands := hand s hs1 hs2
      obtain ⟨sm1, hsm⟩ : ∃ sm1, sm1 = s - 1 := ⟨_, rfl⟩
      have esm : vb .sub .u64 s 1 = sm1 := by rw [qb, hsm]; exact wrap_u64 (by ((try simp only [nc] at *); omega)) (by ((try simp only [nc] at *); omega))
      rw [← hsm] at hands
      obtain ⟨an, han⟩ : ∃ an, an = vb .and .u64 s sm1 := ⟨_, rfl⟩
      rw [← han] at hands
      cbv
      rw [esm, ← han]
      generalize hz6 : vc .neq an 0 = z6
      cases z6
      rotate_left
      · rw [qc, neq_true] at hz6
        cbv
        have := he2 (.inr (.inl (fun h => hz6 (hands.2 h))))
        subst this
        exact ⟨rfl, trivial⟩
      rw [qc, neq_false] at hz6
      have hex := hands.1 (Classical.not_not.1 hz6)
      cbv
      generalize hz7 : vc .gtr s 2048 = z7
      cases z7
      rotate_left
      · rw [qc, gtr_true] at hz7
        cbv
        have := he2 (.inr (.inr hz7))
        subst this
        exact ⟨rfl, trivial⟩
      rw [qc, gtr_false] at hz7
      have hmv := he1 (by ((try simp only [nc] at *); omega)) hex (by ((try simp only [nc] at *); omega))
      have hlc := hlen1 s ⟨by ((try simp only [nc] at *); omega), by ((try simp only [nc] at *); omega)⟩
      obtain ⟨bl, hbl⟩ : ∃ bl, bl = BL s := ⟨_, rfl⟩
      rw [← hbl] at hmv hlc
      cbv
      refine call_con (ρ := []) hlc ⟨by rfl, by rfl, by rfl, by cbv⟩ ?_
      rintro v H R js2 ⟨rfl, rfl, rfl⟩
      have em : vb .sub .i64 bl 1 = m := by
        have := hb16 s (by ((try simp only [nc] at *); omega)) (by ((try simp only [nc] at *); omega))
        rw [qb, hmv, sub_i64 (by ((try simp only [nc] at *); omega)) (by ((try simp only [nc] at *); omega))]
      cbv
      rw [em]
      exact ⟨rfl, trivial⟩
end Go.Proofs.Ytaaklikigccdfaa
namespace Go.Proofs.Ytaaklikigccdfaa
open Go Go.Sx Go.Proofs
/-! Plain: the words tile what there is of numbers. -/
theorem isU8_0 {l : List Int} (h : ∀ c ∈ l, isU8 c) (i : Nat) : 0 ≤ l.getD i 0 := (getD_u8 h i).1
theorem p2 (n : Nat) : (0 : Int) < 2 ^ n := Int.pow_pos (by omega)
theorem p2s (n : Nat) : (2 : Int) ^ (n + 1) = 2 ^ n * 2 := Int.pow_succ _ _
theorem pw_of {w : Int} {L : Nat} (h : w = L) (hL : 1 ≤ L) : pw w = 2 ^ (L - 1) := by
  unfold pw
  rw [if_neg (by omega)]
  congr 1
  omega
def low (l : List Int) (L : Nat) : Nat → Int
  | 0 => 0
  | k + 1 => low l L k + (if l.getD k 0 < L then pw (l.getD k 0) else 0)
def gsum (l : List Int) (L : Nat) : Nat → Int
  | 0 => 0
  | i + 1 => gsum l L i + (if l.getD i 0 = L then 2 ^ (L - 1) else 0)
/-- What is next, among those of weight L at number i. -/
def gs (l : List Int) (L i : Nat) : Int := low l L l.length + gsum l L i
theorem pw_nn (w : Int) : 0 ≤ pw w := by
  unfold pw; split
  · omega
  · exact Int.le_of_lt (p2 _)
theorem low_one (l : List Int) (h : ∀ c ∈ l, isU8 c) : ∀ k, low l 1 k = 0
  | 0 => rfl
  | k + 1 => by
    have h0 := isU8_0 h k
    simp only [low, low_one l h k]
    split
    · rename_i e
      have : l.getD k 0 = 0 := by omega
      rw [this]; rfl
    · rfl
theorem gs_one (l : List Int) (h : ∀ c ∈ l, isU8 c) : gs l 1 0 = 0 := by unfold gs; rw [low_one l h]; rfl
theorem gs_step (l : List Int) (L i : Nat) : gs l L (i + 1) = gs l L i + (if l.getD i 0 = L then 2 ^ (L - 1) else 0) := by
  unfold gs
  simp only [gsum]
  omega
theorem low_succ (l : List Int) {L : Nat} (hL : 1 ≤ L) : ∀ k, low l (L + 1) k = low l L k + gsum l L k
  | 0 => rfl
  | k + 1 => by
    simp only [low, gsum, low_succ l hL k]
    by_cases h : l.getD k 0 = L
    · rw [if_pos (by push_cast; omega), if_neg (by omega), if_pos h, pw_of h hL]
      omega
    · rw [if_neg h]
      by_cases h2 : l.getD k 0 < L
      · rw [if_pos (by push_cast; omega), if_pos h2]; omega
      · rw [if_neg (by push_cast; omega), if_neg h2]; omega
theorem gs_next (l : List Int) {L : Nat} (hL : 1 ≤ L) : gs l (L + 1) 0 = gs l L l.length := by
  unfold gs
  rw [low_succ l hL]
  simp [gsum]
theorem low_all (l : List Int) {L : Nat} : ∀ k, (∀ j, j < k → l.getD j 0 < L) → low l L k = sm l k
  | 0, _ => rfl
  | k + 1, h => by
    simp only [low, sm, low_all l k (fun j hj => h j (by omega)), if_pos (h k (by omega))]
theorem gsum_nn (l : List Int) (L : Nat) : ∀ i, 0 ≤ gsum l L i
  | 0 => by simp [gsum]
  | i + 1 => by
    have := gsum_nn l L i
    have := p2 (L - 1)
    simp only [gsum]
    split <;> omega
theorem low_nn (l : List Int) (L : Nat) : ∀ i, 0 ≤ low l L i
  | 0 => by simp [low]
  | i + 1 => by
    have := low_nn l L i
    have := pw_nn (l.getD i 0)
    simp only [low]
    split <;> omega
theorem gs_mono (l : List Int) (L : Nat) {i : Nat} : ∀ {j : Nat}, i ≤ j → gs l L i ≤ gs l L j
  | 0, h => by obtain rfl : i = 0 := by omega
               exact Int.le_refl _
  | j + 1, h => by
    by_cases e : i = j + 1
    · subst e; exact Int.le_refl _
    · have h1 := gs_mono l L (i := i) (j := j) (by omega)
      have h2 := p2 (L - 1)
      rw [gs_step]
      split <;> omega
theorem gs_up (l : List Int) {L : Nat} (hL : 1 ≤ L) : ∀ {K : Nat}, L < K → gs l L l.length ≤ gs l K 0
  | 0, h => by omega
  | K + 1, h => by
    by_cases e : L = K
    · subst e; rw [gs_next l hL]; exact Int.le_refl _
    · have h1 := gs_up l hL (K := K) (by omega)
      have h2 := gs_mono l K (i := 0) (j := l.length) (by omega)
      rw [gs_next l (by omega)]
      omega
theorem on_plus {l : List Int} {i : Nat} (hi2 : 2 ≤ l.getD i 0) : ∀ {n : Nat}, i < n → (∀ j, j < n → l.getD j 0 ≤ 11) → on l n + pw (l.getD i 0) ≤ sm l n
  | 0, h, _ => by omega
  | n + 1, h, h11 => by
    have hpn := pw_nn (l.getD n 0)
    simp only [on, sm]
    by_cases e : i = n
    · subst e
      have := on_sm (l := l) (i := i) (fun j hj => h11 j (by omega))
      rw [if_neg (by omega)]
      omega
    · have := on_plus hi2 (n := n) (by omega) (fun j hj => h11 j (by omega))
      split
      · rename_i e1
        rw [e1, show pw 1 = 1 by decide]
        omega
      · omega
/-- No weight is above m. -/
theorem Wt.le {l : List Int} {M : Nat} (h : Wt l M) (i : Nat) (hi : i < l.length) : l.getD i 0 ≤ M := by
  obtain ⟨h1, h2, h3, h4, h5, h6, h7⟩ := h
  have ho := on_sm (l := l) (i := l.length) h4
  apply Classical.byContradiction
  intro hc
  by_cases e : 2 ≤ l.getD i 0
  · have hp := on_plus e hi h4
    have h8 : (2 : Int) ^ M ≤ pw (l.getD i 0) := by
      unfold pw
      rw [if_neg (by omega)]
      exact pow_up (by omega)
    omega
  · have hM : M = 0 := by omega
    subst hM
    omega
theorem Wt.pos {l : List Int} {M : Nat} (h : Wt l M) : 1 ≤ M := by
  obtain ⟨h1, h2, h3, h4, h5, h6, h7⟩ := h
  have ho := on_sm (l := l) (i := l.length) h4
  cases M with
  | zero => omega
  | succ M => omega
theorem gs_full {l : List Int} {M : Nat} (h : Wt l M) : gs l (M + 1) 0 = 2 ^ M := by
  unfold gs
  rw [low_all l l.length (fun j hj => by have := h.le j hj; push_cast; omega), h.2.2.2.2.2.1]
  simp [gsum]
theorem gs_none {l : List Int} {M : Nat} (h : Wt l M) : ∀ i, i ≤ l.length → gs l (M + 1) i = 2 ^ M
  | 0, _ => gs_full h
  | i + 1, hi => by
    have := h.le i (by omega)
    rw [gs_step, gs_none h i (by omega), if_neg (by push_cast; omega)]
    omega
theorem gs_range {l : List Int} {M : Nat} (h : Wt l M) {L i : Nat} (hL1 : 1 ≤ L) (hL : L ≤ M + 1) (hi : i ≤ l.length) : 0 ≤ gs l L i ∧ gs l L i ≤ 2 ^ M := by
  constructor
  · have := low_nn l L l.length
    have := gsum_nn l L i
    unfold gs
    omega
  · have h1 := gs_mono l L hi
    have h2 := gs_full h
    by_cases e : L = M + 1
    · subst e; rw [gs_none h i hi]; exact Int.le_refl _
    · have h3 := gs_up l hL1 (K := M + 1) (by omega)
      omega
theorem high_dvd (l : List Int) {L : Nat} (hL : 1 ≤ L) : ∀ k, ∃ q : Int, sm l k - low l L k = q * 2 ^ (L - 1)
  | 0 => ⟨0, by simp [sm, low]⟩
  | k + 1 => by
    obtain ⟨q, hq⟩ := high_dvd l hL k
    simp only [sm, low]
    by_cases h : l.getD k 0 < L
    · exact ⟨q, by rw [if_pos h]; omega⟩
    · rw [if_neg h]
      refine ⟨q + 2 ^ ((l.getD k 0).toNat - L), ?_⟩
      rw [Int.add_mul, ← hq, ← Int.pow_add]
      unfold pw
      rw [if_neg (by omega), show (l.getD k 0).toNat - L + (L - 1) = (l.getD k 0 - 1).toNat by omega]
      omega
theorem gsum_dvd (l : List Int) (L : Nat) : ∀ i, ∃ q : Int, gsum l L i = q * 2 ^ (L - 1)
  | 0 => ⟨0, by simp [gsum]⟩
  | i + 1 => by
    obtain ⟨q, hq⟩ := gsum_dvd l L i
    simp only [gsum]
    split
    · exact ⟨q + 1, by rw [hq, Int.add_mul]; omega⟩
    · exact ⟨q, by omega⟩
theorem gs_dvd {l : List Int} {M : Nat} (h : Wt l M) {L : Nat} (hL1 : 1 ≤ L) (hL : L ≤ M + 1) (i : Nat) : gs l L i = gs l L i / 2 ^ (L - 1) * 2 ^ (L - 1) := by
  obtain ⟨q, hq⟩ := high_dvd l hL1 l.length
  obtain ⟨r, hr⟩ := gsum_dvd l L i
  have e : gs l L i = (2 ^ (M - (L - 1)) - q + r) * 2 ^ (L - 1) := by
    unfold gs
    rw [hr, Int.add_mul, Int.sub_mul, ← hq, ← Int.pow_add, show M - (L - 1) + (L - 1) = M by omega, h.2.2.2.2.2.1]
    omega
  rw [e, Int.mul_ediv_cancel _ (by have := p2 (L - 1); omega)]
def wn (l : List Int) (c : Nat) : Nat := (l.getD c 0).toNat
/-- The number t begins with c's word. -/
def Dc (l : List Int) (t : Int) (c : Nat) : Prop := c < l.length ∧ 1 ≤ wn l c ∧ gs l (wn l c) c ≤ t ∧ t < gs l (wn l c) c + 2 ^ (wn l c - 1)
theorem gs_own {l : List Int} (h : ∀ c ∈ l, isU8 c) (c : Nat) (h1 : 1 ≤ wn l c) : gs l (wn l c) (c + 1) = gs l (wn l c) c + 2 ^ (wn l c - 1) := by
  have h0 := isU8_0 h c
  rw [gs_step, if_pos (by unfold wn at *; omega)]
theorem Dc.uniq {l : List Int} (h : ∀ c ∈ l, isU8 c) {t : Int} {c d : Nat} (hc : Dc l t c) (hd : Dc l t d) : c = d := by
  have key : ∀ c d, Dc l t c → Dc l t d → (wn l c < wn l d ∨ wn l c = wn l d ∧ c < d) → False := by
    rintro c d ⟨a1, a2, a3, a4⟩ ⟨b1, b2, b3, b4⟩ h3
    rw [← gs_own h c a2] at a4
    rcases h3 with h3 | ⟨h3, h4⟩
    · have k1 := gs_mono l (wn l c) (i := c + 1) (j := l.length) (by omega)
      have k2 := gs_up l a2 (K := wn l d) h3
      have k3 := gs_mono l (wn l d) (i := 0) (j := d) (by omega)
      omega
    · have k1 := gs_mono l (wn l c) (i := c + 1) (j := d) (by omega)
      rw [h3] at k1 a4
      omega
  apply Classical.byContradiction
  intro hne
  rcases (by omega : (wn l c < wn l d ∨ wn l c = wn l d ∧ c < d) ∨ (wn l d < wn l c ∨ wn l d = wn l c ∧ d < c)) with h1 | h1
  · exact key c d hc hd h1
  · exact key d c hd hc h1
theorem cover {l : List Int} (h : ∀ c ∈ l, isU8 c) : ∀ (L i : Nat) (t : Int), 1 ≤ L → i ≤ l.length → 0 ≤ t → t < gs l L i → ∃ c, Dc l t c
  | L, 0, t, hL, hi, h0, ht => by
    by_cases e : L = 1
    · subst e; rw [gs_one l h] at ht; omega
    · obtain ⟨K, hK, rfl⟩ : ∃ K, 1 ≤ K ∧ L = K + 1 := ⟨L - 1, by omega, by omega⟩
      rw [gs_next l hK] at ht
      exact cover h K l.length t hK (by omega) h0 ht
  | L, i + 1, t, hL, hi, h0, ht => by
    by_cases h1 : t < gs l L i
    · exact cover h L i t hL (by omega) h0 h1
    · rw [gs_step] at ht
      split at ht
      · rename_i e
        have hw : wn l i = L := by unfold wn; omega
        exact ⟨i, by omega, by omega, by rw [hw]; omega, by rw [hw]; omega⟩
      · omega
  termination_by L i => (L, i)
theorem Dc.ex {l : List Int} {M : Nat} (h : ∀ c ∈ l, isU8 c) (hW : Wt l M) {t : Int} (h0 : 0 ≤ t) (ht : t < 2 ^ M) : ∃ c, Dc l t c :=
  cover h (M + 1) 0 t (by omega) (by omega) h0 (by rw [gs_full hW]; exact ht)
theorem wn_le {l : List Int} {M : Nat} (hW : Wt l M) {c : Nat} (hc : c < l.length) : wn l c ≤ M := by have := hW.le c hc; unfold wn; omega
/-- A symbol's word. -/
def wx (l : List Int) (c : Nat) : Int := gs l (wn l c) c / 2 ^ (wn l c - 1)
theorem wx_mul {l : List Int} {M : Nat} (hW : Wt l M) {c : Nat} (hc : c < l.length) (h1 : 1 ≤ wn l c) : gs l (wn l c) c = wx l c * 2 ^ (wn l c - 1) :=
  gs_dvd hW h1 (by have := wn_le hW hc; omega) c
/-- The number begins with the word. -/
theorem Dc_iff {l : List Int} {M : Nat} (hW : Wt l M) {c : Nat} (hc : c < l.length) (h1 : 1 ≤ wn l c) (t : Int) : Dc l t c ↔ t / 2 ^ (wn l c - 1) = wx l c := by
  have hm := wx_mul hW hc h1
  have hp := p2 (wn l c - 1)
  generalize hq : (2 : Int) ^ (wn l c - 1) = Q at *
  unfold Dc
  rw [hq, hm]
  have h3 : wx l c * Q + Q = (wx l c + 1) * Q := by rw [Int.add_mul]; omega
  rw [h3]
  constructor
  · rintro ⟨_, _, h4, h5⟩
    have a := Int.le_ediv_of_mul_le hp h4
    have b := Int.ediv_lt_of_lt_mul hp h5
    omega
  · intro h4
    refine ⟨hc, h1, ?_, ?_⟩
    · have := Int.ediv_mul_le t (show Q ≠ 0 by omega)
      rw [h4] at this
      exact this
    · have := Int.lt_ediv_add_one_mul_self t hp
      rw [h4] at this
      exact this
end Go.Proofs.Ytaaklikigccdfaa
namespace Go.Proofs.Ytaaklikigccdfaa
open Go Go.Sx Go.Proofs
/-! Plain: the words, as they are told one after the other; what is packed. -/
def Pr (l : List Int) (L i c : Nat) : Prop := c < l.length ∧ 1 ≤ wn l c ∧ (wn l c < L ∨ wn l c = L ∧ c < i)
open Classical in
noncomputable def wA (l : List Int) (L i c : Nat) : Int := if Pr l L i c then wx l c else 0
open Classical in
noncomputable def wB (l : List Int) (M L i c : Nat) : Int := if Pr l L i c then (M : Int) + 1 - wn l c else 0
theorem Pr_zero {l : List Int} {c : Nat} : ¬ Pr l 1 0 c := by rintro ⟨_, h1, h2⟩; omega
theorem wA_zero (l : List Int) : wA l 1 0 = fun _ => 0 := by funext c; unfold wA; rw [if_neg Pr_zero]
theorem wB_zero (l : List Int) (M : Nat) : wB l M 1 0 = fun _ => 0 := by funext c; unfold wB; rw [if_neg Pr_zero]
theorem Pr_skip {l : List Int} {L i c : Nat} (h : ∀ c ∈ l, isU8 c) (hi : l.getD i 0 ≠ L) : Pr l L (i + 1) c ↔ Pr l L i c := by
  have h0 := isU8_0 h c
  unfold Pr
  constructor
  · rintro ⟨h1, h2, h3⟩
    refine ⟨h1, h2, ?_⟩
    rcases h3 with h3 | ⟨h3, h4⟩
    · exact .inl h3
    · by_cases e : c = i
      · subst e; unfold wn at h3; omega
      · exact .inr ⟨h3, by omega⟩
  · rintro ⟨h1, h2, h3⟩
    exact ⟨h1, h2, by omega⟩
theorem Pr_put {l : List Int} {L i c : Nat} (hn : i < l.length) (hL : 1 ≤ L) (hi : l.getD i 0 = L) : Pr l L (i + 1) c ↔ (c = i ∨ Pr l L i c) := by
  unfold Pr
  constructor
  · rintro ⟨h1, h2, h3⟩
    by_cases e : c = i
    · exact .inl e
    · exact .inr ⟨h1, h2, by omega⟩
  · rintro (rfl | ⟨h1, h2, h3⟩)
    · have : wn l c = L := by unfold wn; omega
      exact ⟨hn, by omega, by omega⟩
    · exact ⟨h1, h2, by omega⟩
theorem wA_skip {l : List Int} {L i : Nat} (h : ∀ c ∈ l, isU8 c) (hi : l.getD i 0 ≠ L) : wA l L (i + 1) = wA l L i := by
  funext c; unfold wA; rw [propext (Pr_skip (c := c) h hi)]
theorem wB_skip {l : List Int} {M L i : Nat} (h : ∀ c ∈ l, isU8 c) (hi : l.getD i 0 ≠ L) : wB l M L (i + 1) = wB l M L i := by
  funext c; unfold wB; rw [propext (Pr_skip (c := c) h hi)]
theorem wA_put {l : List Int} {L i : Nat} (hn : i < l.length) (hL : 1 ≤ L) (hi : l.getD i 0 = L) : wA l L (i + 1) = updI (wA l L i) i (gs l L i / 2 ^ (L - 1)) := by
  funext c
  rw [updI_eq]
  have hw : wn l i = L := by unfold wn; omega
  by_cases e : c = i
  · subst e
    rw [if_pos rfl]; unfold wA; rw [if_pos ((Pr_put hn hL hi).2 (.inl rfl))]; unfold wx; rw [hw]
  · rw [if_neg e]; unfold wA; rw [propext ((Pr_put (c := c) hn hL hi).trans ⟨fun h => h.resolve_left e, fun h => .inr h⟩)]
theorem wB_put {l : List Int} {M L i : Nat} (hn : i < l.length) (hL : 1 ≤ L) (hi : l.getD i 0 = L) : wB l M L (i + 1) = updI (wB l M L i) i ((M : Int) + 1 - L) := by
  funext c
  rw [updI_eq]
  have hw : wn l i = L := by unfold wn; omega
  by_cases e : c = i
  · subst e
    rw [if_pos rfl]; unfold wB; rw [if_pos ((Pr_put hn hL hi).2 (.inl rfl)), hw]
  · rw [if_neg e]; unfold wB; rw [propext ((Pr_put (c := c) hn hL hi).trans ⟨fun h => h.resolve_left e, fun h => .inr h⟩)]
theorem Pr_next {l : List Int} {L c : Nat} : Pr l L l.length c ↔ Pr l (L + 1) 0 c := by
  unfold Pr
  constructor
  · rintro ⟨h1, h2, h3⟩; exact ⟨h1, h2, by omega⟩
  · rintro ⟨h1, h2, h3⟩; exact ⟨h1, h2, by omega⟩
theorem wA_next (l : List Int) (L : Nat) : wA l L l.length = wA l (L + 1) 0 := by funext c; unfold wA; rw [propext (Pr_next (c := c))]
theorem wB_next (l : List Int) (M L : Nat) : wB l M L l.length = wB l M (L + 1) 0 := by funext c; unfold wB; rw [propext (Pr_next (c := c))]
/-- Is c a symbol? -/
def Sy (l : List Int) (c : Nat) : Prop := c < l.length ∧ 1 ≤ wn l c
open Classical in
noncomputable def xA (l : List Int) (c : Nat) : Int := if Sy l c then wx l c else 0
open Classical in
noncomputable def nA (l : List Int) (M c : Nat) : Int := if Sy l c then (M : Int) + 1 - wn l c else 0
theorem Pr_all {l : List Int} {M : Nat} (hW : Wt l M) {c : Nat} : Pr l (M + 2) 0 c ↔ Sy l c := by
  unfold Pr Sy
  constructor
  · rintro ⟨h1, h2, _⟩; exact ⟨h1, h2⟩
  · rintro ⟨h1, h2⟩
    have := wn_le hW h1
    exact ⟨h1, h2, by omega⟩
theorem wA_all {l : List Int} {M : Nat} (hW : Wt l M) : wA l (M + 2) 0 = xA l := by funext c; unfold wA xA; rw [propext (Pr_all (c := c) hW)]
theorem wB_all {l : List Int} {M : Nat} (hW : Wt l M) : wB l M (M + 2) 0 = nA l M := by funext c; unfold wB nA; rw [propext (Pr_all (c := c) hW)]
theorem nA_range {l : List Int} {M : Nat} (hW : Wt l M) (c : Nat) : 0 ≤ nA l M c ∧ nA l M c ≤ M ∧ (nA l M c = 0 ↔ ¬ Sy l c) := by
  unfold nA
  split
  · rename_i h
    have := wn_le hW h.1
    have h2 := h.2
    refine ⟨by omega, by omega, ?_, fun hh => (hh h).elim⟩
    intro; omega
  · rename_i h
    exact ⟨by omega, by omega, fun _ => h, fun _ => rfl⟩
theorem wx_range {l : List Int} {M : Nat} (hW : Wt l M) {c : Nat} (hc : Sy l c) : 0 ≤ wx l c ∧ wx l c < 2 ^ (M + 1 - wn l c) := by
  have h1 := gs_range hW hc.2 (by have := wn_le hW hc.1; omega) (i := c) (by have := hc.1; omega)
  have h2 := wx_mul hW hc.1 hc.2
  have hp := p2 (wn l c - 1)
  have hle := wn_le hW hc.1
  have hc2 := hc.2
  constructor
  · unfold wx; exact Int.ediv_nonneg h1.1 (by omega)
  · have h0 : Dc l (gs l (wn l c) c) c := ⟨hc.1, hc.2, Int.le_refl _, by omega⟩
    apply Int.ediv_lt_of_lt_mul hp
    rw [← Int.pow_add, show M + 1 - wn l c + (wn l c - 1) = M by omega]
    apply Classical.byContradiction
    intro hlt
    have e : gs l (wn l c) c = 2 ^ M := by omega
    have h3 := gs_mono l (wn l c) (i := c + 1) (j := l.length) (by have := hc.1; omega)
    have h4 := gs_range hW hc.2 (by omega) (i := l.length) (by omega)
    have h5 : gs l (wn l c) (c + 1) = gs l (wn l c) c + 2 ^ (wn l c - 1) := by
      rw [gs_step, if_pos (by unfold wn at *; omega)]
    omega
theorem xA_range {l : List Int} {M : Nat} (hW : Wt l M) (c : Nat) : 0 ≤ xA l c ∧ xA l c < 4096 := by
  unfold xA
  split
  · rename_i h
    have h1 := wx_range hW h
    have h2 : (2 : Int) ^ (M + 1 - wn l c) ≤ 2 ^ 12 := pow_up (by have := hW.2.2.2.2.2.2; have := h.2; omega)
    omega
  · omega
/-- The bits of the last j bytes. -/
noncomputable def pb (l : List Int) (M : Nat) (b : List Int) : Nat → List Int
  | 0 => []
  | j + 1 => pb l M b j ++ bitsN (xA l (b.getD (b.length - 1 - j) 0).toNat) (nA l M (b.getD (b.length - 1 - j) 0).toNat).toNat
theorem pb_bit (l : List Int) (M : Nat) (b : List Int) : ∀ j, ∀ x ∈ pb l M b j, isBit x
  | 0 => by simp [pb]
  | j + 1 => by
    intro x hx
    simp only [pb, List.mem_append] at hx
    rcases hx with hx | hx
    · exact pb_bit l M b j x hx
    · exact bitsN_bit _ _ x hx
theorem pb_len {l : List Int} {M : Nat} (hW : Wt l M) (b : List Int) : ∀ j, (pb l M b j).length ≤ 11 * j
  | 0 => by simp [pb]
  | j + 1 => by
    have h1 := pb_len hW b j
    have h2 := nA_range hW (b.getD (b.length - 1 - j) 0).toNat
    have h3 := hW.2.2.2.2.2.2
    simp only [pb, List.length_append, bitsN_length]
    omega
theorem pb_put {l : List Int} {M : Nat} (hW : Wt l M) (b : List Int) (j : Nat) : putBits (pb l M b j) (xA l (b.getD (b.length - 1 - j) 0).toNat) (nA l M (b.getD (b.length - 1 - j) 0).toNat) = pb l M b (j + 1) := by
  have h2 := nA_range hW (b.getD (b.length - 1 - j) 0).toNat
  have h3 := hW.2.2.2.2.2.2
  unfold putBits
  rw [if_pos (by omega)]
  rfl
end Go.Proofs.Ytaaklikigccdfaa
namespace Go.Proofs.Ytaaklikigccdfaa
open Go Go.Sx Go.Proofs
/-! weights.Pack. -/
set_option maxRecDepth 10000
set_option maxHeartbeats 40000000
def AllSy (l b : List Int) (j : Nat) : Prop := ∀ i, i < j → Sy l (b.getD (b.length - 1 - i) 0).toNat
theorem pack_ok (l b : List Int) (cap cap2 : Nat) (M : Nat) (hl : ∀ c ∈ l, isU8 c) (hb : ∀ c ∈ b, isU8 c) (hW : Wt l M) (hbl : b.length ≤ 131072) :
    Con Try.prog 20 [.slice 0 .z 1 l.length cap, .slice 1 .z 1 b.length cap2] [.ro .u8 l, .ro .u8 b]
      (fun v H R => R = [] ∧ ∃ L c', H = [.ro .u8 l, .ro .u8 b, .free, .free, .free, .free, .free, .free, .buf 5 .u8 L c'] ∧
        ((v = .tup [.val (.slice none 0 0), .int .i64 2] ∧ ¬ AllSy l b b.length) ∨
         (v = .tup [.slice 8 .z 1 L.length c', .int .i64 0] ∧ L = pack (pb l M b b.length ++ [1]) ∧ AllSy l b b.length))) := by
  have hsz := size_con l cap M hl (by have := hW.2.1; omega) (.inl ⟨M, hW, rfl⟩)
  have hput : ∀ j c, j < b.length → Con Try.prog 34 [.ptr 0 .z 2 0, .int .u64 (xA l (b.getD (b.length - 1 - j) 0).toNat), .int .i64 (nA l M (b.getD (b.length - 1 - j) 0).toNat)]
      [.one 79 [.slice 1 .z 1 (pack (pb l M b j)).length c, .int .i64 (pb l M b j).length], .buf 5 .u8 (pack (pb l M b j)) c]
      (fun v H R => v = .int .i64 (putErr (nA l M (b.getD (b.length - 1 - j) 0).toNat)) ∧ R = [1] ∧ ∃ c', H = [.one 79 [.slice 1 .z 1 (pack (pb l M b (j + 1))).length c', .int .i64 (pb l M b (j + 1)).length], .buf 5 .u8 (pack (pb l M b (j + 1))) c']) := by
    intro j c hj
    have h1 := xA_range hW (b.getD (b.length - 1 - j) 0).toNat
    have h2 := pb_len hW b j
    have := putA_con (pb l M b j) c (xA l (b.getD (b.length - 1 - j) 0).toNat) (nA l M (b.getD (b.length - 1 - j) 0).toNat) ⟨h1.1, by omega⟩ (pb_bit l M b j) (by omega)
    rw [pb_put hW] at this
    exact this
  have hclose := fun c => close_con (pb l M b b.length) c (pb_bit l M b b.length) (by have := pb_len hW b b.length; omega)
  have hsy : ∀ j, (nA l M (b.getD (b.length - 1 - j) 0).toNat = 0 ↔ ¬ Sy l (b.getD (b.length - 1 - j) 0).toNat) := fun j => (nA_range hW _).2.2
  have hpb0 : pack (pb l M b 0) = [] := (show pack [] = [] by decide)
  have hpl0 : ((pb l M b 0).length : Int) = 0 := rfl
  have hpbl := pb_len hW b
  have hall0 : AllSy l b 0 := fun i hi => by omega
  have halls : ∀ j, AllSy l b j → Sy l (b.getD (b.length - 1 - j) 0).toNat → AllSy l b (j + 1) := fun j h1 h2 i hi => by
    by_cases e : i = j
    · subst e; exact h2
    · exact h1 i (by omega)
  have hallb : ∀ j, j < b.length → ¬ Sy l (b.getD (b.length - 1 - j) 0).toNat → ¬ AllSy l b b.length := fun j h1 h2 h3 => h2 (h3 j h1)
  have hgb := getD_u8 hb
  refine con_gen (con_hide [2, 3, 4, 5, 6, 7] (con_drop (con_walk hmix fn20 ?_)))
  intro vb vc vw vtoN vofN vaddN vsubN vmaxI vminI vcutN vgd vst vln vrep vsub vonto vsplice vstrEq vbyteV vnotB veqB hw qb qc qw qtoN qofN qaddN qsubN qmaxI qminI qcutN qgd qst qln qrep qsub qonto qsplice qstrEq qbyteV qnotB qeqB
  have f16 := fn51
  have f33 := fn80
  have hm := hmix; generalize Try.prog = P at *
  have hM1 := hW.pos
  have hM11 := hW.2.2.2.2.2.2
  have hn2 := hW.1
  have hn256 := hW.2.1
  have hA0 := wA_zero l
  have hB0 := wB_zero l M
  have hgs0 := gs_one l hl
  have hgss := gs_step l
  have hgsn := fun L hL => @gs_next l L hL
  have hgsr := fun L i h1 h2 h3 => @gs_range l M hW L i h1 h2 h3
  have hgd := fun L i h1 h2 => @gs_dvd l M hW L h1 h2 i
  have hAs := fun L i h => @wA_skip l L i hl h
  have hBs := fun L i h => @wB_skip l M L i hl h
  have hAp := fun L i h1 h2 h3 => @wA_put l L i h1 h2 h3
  have hBp := fun L i h1 h2 h3 => @wB_put l M L i h1 h2 h3
  have hAn := wA_next l
  have hBn := wB_next l M
  have hAa := wA_all hW
  have hBa := wB_all hW
  have hge := getD_u8 hl
  clear hW
  generalize pb l M b = PB at *
  generalize AllSy l b = ALL at *
  generalize Sy l = SY at *
  generalize hpk : pack = PK at *
  generalize putErr = PE at *
  generalize gs l = GS at *
  generalize wA l = WA at *
  generalize wB l M = WB at *
  generalize xA l = XA at *
  generalize nA l M = NA at *
  obtain ⟨mI, hmI⟩ : ∃ mI : Int, mI = M := ⟨_, rfl⟩
  rw [← hmI] at hsz
  generalize hn : l.length = n at *
  generalize hlb : b.length = lb at *
  have hto : ∀ i : Nat, vtoN (i : Int) = i := fun i => by simp only [qtoN, Int.toNat_natCast]
  have hadd0 : ∀ i, vaddN 0 i = i := fun i => by simp only [qaddN, Nat.zero_add]
  have hvln : vln l = n := by simp only [qln, hn]
  have hvlb : vln b = lb := by simp only [qln, hlb]
  have hvgd : ∀ l i, vgd l i = l.getD i 0 := fun l i => by simp only [qgd]
  have hnf1 : vnotB true = false := by simp only [qnotB]; rfl
  have d1 : vc .eql mI 0 = false := by rw [qc, eql_false]; omega
  have d2 : vc .gtr (vofN lb) 131072 = false := by rw [qc, gtr_false, qofN]; simp only; omega
  cbv
  refine call_con (ρ := [(0, .z)]) hsz ⟨by rfl, by rfl, by rfl, by cbv; exact ⟨⟨⟨by omega, fun i _ => by rw [Nat.zero_add]⟩⟩, trivial⟩⟩ ?_
  rintro v H R js ⟨rfl, rfl, rfl⟩
  cbv
  rw [d1]
  cbv
  rw [d2]
  cbv
  refine inl_walkD hw hm f16 (by rfl) ?_
  cbv
  refine ⟨fun _ => rfl, fun _ => rfl, ?_⟩
  intro js
  refine range_rule (by rfl) (by rfl) (by cbv; exact ⟨fun _ => rfl, trivial⟩) (by cbv; exact ⟨fun _ => rfl, trivial⟩) (by rfl) ?_
  refine inl_walkD hw hm f33 (by rfl) ?_
  cbv
  refine WX.cv (Cv.arrEq 2 (fun m => [.int .u64 (WA 1 0 m), .int .i64 (WB 1 0 m)]) (by rfl) (by intro i; rw [hA0, hB0]; rfl) (Cv.here ?_))
  obtain ⟨m1, hm1⟩ : ∃ m1 : Int, m1 = mI + 1 := ⟨_, rfl⟩
  have em1 : vb .add .i64 mI 1 = m1 := by (try simp only [nc] at *); rw [qb, add_i64 (by omega) (by omega)]; omega
  have en : vofN n = (n : Int) := by simp only [qofN]
  refine loop_fam (α := Int × Int × (Nat → Int) × (Nat → Int)) [6, 7, 8, 9, 10, 11, 12, 13, 14, 15, 16, 17, 18, 19, 20, 21, 22, 23, 24, 25, 26, 27, 28, 29, 30, 31, 32, 33, 34, 35, 36, 37, 38, 39, 40, 41, 42, 43, 44, 45, 46] [] (fun (k, x, _, _) => [(5, .int .i64 k), (4, .int .i64 x)]) (fun (_, _, A, B) => [(2, .arr 117 2 256 (fun m => [.int .u64 (A m), .int .i64 (B m)]))])
    (fun (k, x, A, B) => ∃ L : Nat, k = L ∧ 1 ≤ L ∧ L ≤ M + 2 ∧ x = GS L 0 ∧ A = WA L 0 ∧ B = WB L 0) (fun (k, _) => M + 2 - k.toNat) hw hm ?_ ?_
  · refine Cv.genAt [5, 4] [] (Cv.fold [6, 7, 8, 9, 10, 11, 12, 13, 14, 15, 16, 17, 18, 19, 20, 21, 22, 23, 24, 25, 26, 27, 28, 29, 30, 31, 32, 33, 34, 35, 36, 37, 38, 39, 40, 41, 42, 43, 44, 45, 46] 7 [] (by exact Nat.le_refl _) (by exact Nat.le_of_ble_eq_true rfl) (by rfl) (by cbv) ?_)
    intro js
    refine ⟨(_, _, _, _), ?_, js, rfl⟩
    exact ⟨1, rfl, by omega, by omega, hgs0.symm, rfl, rfl⟩
  · rintro ⟨k, x, A, B⟩ js ⟨L, hk, hL1, hL2, hx, hA, hB⟩
    cbv
    rw [em1]
    generalize hz1 : vc .leq k m1 = z1
    cases z1
    rotate_left
    · rw [qc, leq_true] at hz1
      have hlt : L ≤ M + 1 := by ((try simp only [nc] at *); omega)
      have hgn := hgsn L hL1
      have hAn1 := hAn L
      have hBn1 := hBn L
      obtain ⟨k1, hk1⟩ : ∃ k1 : Int, k1 = ((L + 1 : Nat) : Int) := ⟨_, rfl⟩
      have ek : vb .add .i64 k 1 = k1 := by (try simp only [nc] at *); rw [qb, add_i64 (by omega) (by omega)]; omega
      have hmu : ∀ _ : Unit, M + 2 - k1.toNat < M + 2 - k.toNat := fun _ => by ((try simp only [nc] at *); omega)
      cbv
      rw [en]
      refine loop_fam (α := Int × Int × (Nat → Int) × (Nat → Int)) ([6, 7] ++ [17, 18, 19, 20, 21, 22, 23, 24, 25, 26, 27, 28, 29, 30, 31, 32, 33, 34, 35, 36, 37, 38, 39, 40, 41, 42, 43, 44, 45, 46]) [] (fun (q, x, _, _) => [(16, .int .i64 q), (4, .int .i64 x)]) (fun (_, _, A, B) => [(2, .arr 117 2 256 (fun m => [.int .u64 (A m), .int .i64 (B m)]))])
        (fun (q, x, A, B) => ∃ i : Nat, q = i ∧ i ≤ n ∧ x = GS L i ∧ A = WA L i ∧ B = WB L i) (fun (q, _) => n - q.toNat) hw hm ?_ ?_
      · refine Cv.genAt [16, 4] [] (Cv.fold ([6, 7] ++ [17, 18, 19, 20, 21, 22, 23, 24, 25, 26, 27, 28, 29, 30, 31, 32, 33, 34, 35, 36, 37, 38, 39, 40, 41, 42, 43, 44, 45, 46]) 7 [] (by exact Nat.le_refl _) (by exact Nat.le_of_ble_eq_true rfl) (by rfl) (by cbv) ?_)
        intro js
        refine ⟨(_, _, _, _), ?_, js, rfl⟩
        exact ⟨0, rfl, by omega, hx, hA, hB⟩
      · rintro ⟨q, x, A, B⟩ js2 ⟨i, hq, hi, hx, hA, hB⟩
        cbv
        generalize hz2 : vc .lss q (n : Int) = z2
        cases z2
        · rw [qc, lss_false] at hz2
          obtain rfl : i = n := by ((try simp only [nc] at *); omega)
          cbv
          rw [ek]
          refine Cv.fold [6, 7, 8, 9, 10, 11, 12, 13, 14, 15, 16, 17, 18, 19, 20, 21, 22, 23, 24, 25, 26, 27, 28, 29, 30, 31, 32, 33, 34, 35, 36, 37, 38, 39, 40, 41, 42, 43, 44, 45, 46] 7 [] (by exact Nat.le_refl _) (by exact Nat.le_of_ble_eq_true rfl) (by rfl) (by cbv) ?_
          intro js
          refine ⟨(_, _, _, _), ?_, js, rfl⟩
          exact ⟨⟨L + 1, hk1, by omega, by omega, by rw [hx, hgn], by rw [hA, hAn1], by rw [hB, hBn1]⟩, hmu ()⟩
        · rw [qc, lss_true] at hz2
          have hlt2 : i < n := by ((try simp only [nc] at *); omega)
          have hti : vtoN q = i := by rw [hq]; exact hto i
          have hinR : 0 ≤ q ∧ q < (n : Int) := by ((try simp only [nc] at *); omega)
          obtain ⟨q1, hq1⟩ : ∃ q1 : Int, q1 = ((i + 1 : Nat) : Int) := ⟨_, rfl⟩
          have eq1 : vb .add .i64 q 1 = q1 := by (try simp only [nc] at *); rw [qb, add_i64 (by omega) (by omega)]; omega
          have hmu2 : ∀ _ : Unit, n - q1.toNat < n - q.toNat := fun _ => by ((try simp only [nc] at *); omega)
          have hx0 := hge i
          have hgs1 := hgss L i
          have hr1 := hgsr L i hL1 hlt (by omega)
          have hr2 := hgsr L (i + 1) hL1 hlt (by omega)
          have hdv := hgd L i hL1 hlt
          have hAs1 := hAs L i
          have hBs1 := hBs L i
          have hAp1 := hAp L i hlt2 hL1
          have hBp1 := hBp L i hlt2 hL1
          have hp11 : (2 : Int) ^ M ≤ 2 ^ 11 := pow_up hM11
          cbv
          rw [hti, hadd0, hvgd]
          refine ⟨⟨hinR⟩, ⟨by omega⟩, ⟨by omega⟩, ?_⟩
          generalize hxi : l.getD i 0 = y at *
          have ew : vw .i64 y = y := by rw [qw]; exact wrap_i64 (by omega) (by omega)
          rw [ew]
          generalize hz3 : vc .neq y k = z3
          cases z3
          rotate_left
          · rw [qc, neq_true] at hz3
            have hne : y ≠ (L : Int) := by ((try simp only [nc] at *); omega)
            rw [if_neg hne] at hgs1
            cbv
            rw [eq1]
            refine Cv.fold ([6, 7] ++ [17, 18, 19, 20, 21, 22, 23, 24, 25, 26, 27, 28, 29, 30, 31, 32, 33, 34, 35, 36, 37, 38, 39, 40, 41, 42, 43, 44, 45, 46]) 7 [] (by exact Nat.le_refl _) (by exact Nat.le_of_ble_eq_true rfl) (by rfl) (by cbv) ?_
            intro js
            refine ⟨(_, _, _, _), ?_, js, rfl⟩
            exact ⟨⟨i + 1, hq1, hlt2, by rw [hx, hgs1]; omega, by rw [hA, hAs1 hne], by rw [hB, hBs1 hne]⟩, hmu2 ()⟩
          · rw [qc, neq_false] at hz3
            have hyL : y = (L : Int) := by (try simp only [nc] at *); omega
            rw [if_pos hyL] at hgs1
            have hAp2 := hAp1 hyL
            have hBp2 := hBp1 hyL
            obtain ⟨k0, hk0⟩ : ∃ k0 : Int, k0 = ((L - 1 : Nat) : Int) := ⟨_, rfl⟩
            have ek0 : vb .sub .i64 k 1 = k0 := by (try simp only [nc] at *); rw [qb, sub_i64 (by omega) (by omega)]; omega
            have ew0 : vw .u64 k0 = k0 := by (try simp only [nc] at *); rw [qw]; exact wrap_u64 (by omega) (by omega)
            obtain ⟨x1, hx1⟩ : ∃ x1 : Int, x1 = GS L i / 2 ^ (L - 1) := ⟨_, rfl⟩
            have hpL : (0 : Int) < 2 ^ (L - 1) := p2 _
            have hpL2 : (2 : Int) ^ (L - 1) ≤ 2 ^ 11 := pow_up (by omega)
            have hx1r : 0 ≤ x1 ∧ x1 ≤ 2048 := by
              rw [hx1]
              have a1 := Int.ediv_nonneg hr1.1 (Int.le_of_lt hpL)
              have a2 := Int.ediv_le_self (2 ^ (L - 1)) hr1.1
              constructor
              · exact a1
              · (try simp only [nc] at *); omega
            have es : vb .shr .i64 x k0 = x1 := by
              rw [qb, shr_eq (by show k0 ≤ 64; (try simp only [nc] at *); omega), hx1, hx, hk0, Int.toNat_natCast]
            have ew1 : vw .u64 x1 = x1 := by rw [qw]; exact wrap_u64 (by omega) (by omega)
            obtain ⟨n1, hn1⟩ : ∃ n1 : Int, n1 = (M : Int) + 1 - L := ⟨_, rfl⟩
            have en1 : vb .sub .i64 m1 k = n1 := by (try simp only [nc] at *); rw [qb, sub_i64 (by omega) (by omega)]; omega
            have hk00 : 0 ≤ k0 := by ((try simp only [nc] at *); omega)
            rw [← hx1] at hAp2
            rw [← hn1] at hBp2
            obtain ⟨s1, hs1⟩ : ∃ s1 : Int, s1 = 2 ^ (L - 1) := ⟨_, rfl⟩
            have esl : vb .shl .i64 1 k0 = s1 := by
              rw [qb, hs1, hk0]
              show IntKind.i64.wrap (1 * 2 ^ (min (((L - 1 : Nat) : Int).toNat) IntKind.i64.bits)) = _
              rw [Int.toNat_natCast, show min (L - 1) IntKind.i64.bits = L - 1 by simp [IntKind.bits]; omega, Int.one_mul]
              exact wrap_i64 (by omega) (by omega)
            obtain ⟨x2, hx2⟩ : ∃ x2 : Int, x2 = GS L (i + 1) := ⟨_, rfl⟩
            have ex2 : vb .add .i64 x s1 = x2 := by
              have e : x + s1 = x2 := by rw [hx2, hgs1, hx, hs1]
              rw [qb, add_i64 (by (try simp only [nc] at *); omega) (by (try simp only [nc] at *); omega), e]
            cbv
            rw [ek0, ew0, es, ew1, em1, en1]
            refine ⟨⟨hk00⟩, ?_⟩
            refine yield_walk hw hm (by rfl) ?_
            cbv
            rw [hti, updF_2_0, updF_2_1]
            rw [← hA] at hAp2
            rw [← hB] at hBp2
            have hi256 : i < 256 := by omega
            refine ⟨fun _ => rfl, ⟨⟨hinR.1, by ((try simp only [nc] at *); omega)⟩⟩, ⟨hi256⟩, ⟨hi256⟩, ?_⟩
            intro js1
            cbv
            rw [hnf1]
            cbv
            rw [ek0, ew0, esl, ex2, eq1]
            refine ⟨⟨hk00⟩, ?_⟩
            refine Cv.fold ([6, 7] ++ [17, 18, 19, 20, 21, 22, 23, 24, 25, 26, 27, 28, 29, 30, 31, 32, 33, 34, 35, 36, 37, 38, 39, 40, 41, 42, 43, 44, 45, 46]) 7 [] (by exact Nat.le_refl _) (by exact Nat.le_of_ble_eq_true rfl) (by rfl) (by cbv) ?_
            intro js
            refine ⟨(_, _, _, _), ?_, js, rfl⟩
            exact ⟨⟨i + 1, hq1, hlt2, hx2, hAp2.symm, hBp2.symm⟩, hmu2 ()⟩
    · rw [qc, leq_false] at hz1
      have hL : L = M + 2 := by ((try simp only [nc] at *); omega)
      subst hL
      rw [hAa] at hA
      rw [hBa] at hB
      cbv
      intro js1
      cbv
      refine ⟨fun _ => rfl, ?_⟩
      refine WX.cv (Cv.nilB 7 0 5 .u8 (by rfl) (by cbv; exact ⟨fun _ => rfl, trivial⟩) (Cv.here ?_))
      cbv
      have elb : vofN lb = (lb : Int) := by simp only [qofN]
      rw [elb]
      refine loop_fam (α := Int × Nat × Nat × Int × List Int) [34, 35, 36, 37, 38, 39, 40, 41, 42, 43, 44, 45, 46, 47, 48, 49, 50, 51, 52, 53, 54, 55, 56, 57, 58, 59, 60, 61] [8] (fun (k, _, _, _, _) => [(11, .int .i64 k)]) (fun (_, c, n1, m, L) => [(7, .one 79 [.slice 8 .z 1 n1 c, .int .i64 m]), (8, .buf 5 .u8 L c)])
        (fun (k, c, n1, m, L) => ∃ j : Nat, k = (lb : Int) - 1 - j ∧ j ≤ lb ∧ L = PK (PB j) ∧ n1 = L.length ∧ m = (PB j).length ∧ ALL j) (fun (k, _) => (k + 1).toNat) hw hm ?_ ?_
      · refine Cv.genAt [11] [7] (Cv.fold [34, 35, 36, 37, 38, 39, 40, 41, 42, 43, 44, 45, 46, 47, 48, 49, 50, 51, 52, 53, 54, 55, 56, 57, 58, 59, 60, 61] 9 [8] (by exact Nat.le_refl _) (by exact Nat.le_of_ble_eq_true rfl) (by rfl) (by cbv) ?_)
        intro js
        refine ⟨(_, _, _, _, _), ?_, js, rfl⟩
        exact ⟨0, by (try simp only [nc] at *); rw [qb, sub_i64 (by omega) (by omega)]; omega, by omega, hpb0.symm, rfl, hpl0.symm, hall0⟩
      · rintro ⟨k, c, n1, m, L⟩ js ⟨j, hk, hj, hL, hn1, hm2, hal⟩
        cbv
        generalize hz4 : vc .geq k 0 = z4
        cases z4
        · rw [qc, geq_false] at hz4
          obtain rfl : j = lb := by ((try simp only [nc] at *); omega)
          have hclose1 := hclose c
          simp only [nc] at hm2 hclose1
          rw [← hL, ← hn1, ← hm2] at hclose1
          generalize hl3 : PK (PB j ++ [1]) = L3 at *
          generalize hn3 : L3.length = n3 at *
          cbv
          refine call_con (ρ := [(7, .z), (8, .z)]) hclose1 ⟨by rfl, by rfl, by rfl, by cbv; exact ⟨fun _ => rfl, trivial⟩⟩ ?_
          rintro v H R js2 ⟨rfl, c', rfl, rfl⟩
          cbv
          subst hn3
          exact ⟨fun _ => rfl, L3, c', rfl, .inr ⟨rfl, rfl, hal⟩⟩
        · rw [qc, geq_true] at hz4
          have hjl : j < lb := by ((try simp only [nc] at *); omega)
          have hti : vtoN k = lb - 1 - j := by
            have e : k = ((lb - 1 - j : Nat) : Int) := by ((try simp only [nc] at *); omega)
            rw [e]; exact hto _
          have hinR : 0 ≤ k ∧ k < (lb : Int) := by ((try simp only [nc] at *); omega)
          have hput1 := hput j c hjl
          have hsy1 := hsy j
          have hs1 := halls j hal
          have hb1 := hallb j hjl
          have hy := hgb (lb - 1 - j)
          obtain ⟨ib, hib⟩ : ∃ ib, ib = lb - 1 - j := ⟨_, rfl⟩
          rw [← hib] at hti hput1 hsy1 hs1 hb1 hy
          simp only [nc] at hm2 hput1
          rw [← hL, ← hn1, ← hm2] at hput1
          generalize hyy : b.getD ib 0 = y at *
          have hty : vtoN y = y.toNat := by rw [qtoN]
          obtain ⟨Y, hY⟩ : ∃ Y, Y = y.toNat := ⟨_, rfl⟩
          rw [← hY] at hty hput1 hsy1 hs1 hb1
          have hY256 : Y < 256 := by omega
          have hyR : 0 ≤ y ∧ y < (256 : Int) := by omega
          rw [← hA] at hput1
          rw [← hB] at hput1 hsy1
          cbv
          rw [hti, hadd0, hvgd, hyy]
          refine ⟨⟨hinR⟩, ⟨by omega⟩, ⟨by omega⟩, ⟨hyR⟩, ?_⟩
          rw [hty]
          refine ⟨⟨hY256⟩, ?_⟩
          have hlt' : ib < vln b := by omega
          generalize hz5 : vc .eql (B Y) 0 = z5
          cases z5
          rotate_left
          · rw [qc, eql_true] at hz5
            have hbad := hb1 (hsy1.1 hz5)
            cbv
            exact ⟨L, c, rfl, .inl ⟨rfl, hbad⟩⟩
          · rw [qc, eql_false] at hz5
            have hal2 := hs1 (Classical.not_not.1 (fun h => hz5 (hsy1.2 h)))
            obtain ⟨k1, hk1⟩ : ∃ k1 : Int, k1 = (lb : Int) - 1 - ((j + 1 : Nat) : Int) := ⟨_, rfl⟩
            have ek1 : vb .sub .i64 k 1 = k1 := by (try simp only [nc] at *); rw [qb, sub_i64 (by omega) (by omega)]; omega
            have hmu : ∀ _ : Unit, (k1 + 1).toNat < (k + 1).toNat := fun _ => by ((try simp only [nc] at *); omega)
            simp only [nc] at hput1
            generalize hl3 : PK (PB (j + 1)) = L3 at *
            generalize hn3 : L3.length = n3 at *
            generalize hm3 : ((PB (j + 1)).length : Int) = m3 at *
            cbv
            rw [hti, hadd0, hvgd, hyy, hty]
            repeat (first | refine And.intro ⟨hinR⟩ ?_ | refine And.intro ⟨hyR⟩ ?_ | refine And.intro ⟨hY256⟩ ?_ | refine And.intro ⟨hlt'⟩ ?_)
            refine call_con (ρ := [(7, .z), (8, .z)]) hput1 ⟨by rfl, by rfl, by rfl, by cbv; exact ⟨fun _ => rfl, trivial⟩⟩ ?_
            rintro v H R js2 ⟨rfl, rfl, c', rfl⟩
            cbv
            refine ⟨fun _ => rfl, ⟨⟨hlt'⟩, by rw [hvgd, hyy]⟩, ⟨⟨hlt'⟩, by rw [hvgd, hyy]⟩, ?_⟩
            rw [ek1]
            refine Cv.fold [34, 35, 36, 37, 38, 39, 40, 41, 42, 43, 44, 45, 46, 47, 48, 49, 50, 51, 52, 53, 54, 55, 56, 57, 58, 59, 60, 61] 9 [8] (by exact Nat.le_refl _) (by exact Nat.le_of_ble_eq_true rfl) (by rfl) (by cbv) ?_
            intro js
            refine ⟨(_, _, _, _, _), ?_, js, rfl⟩
            exact ⟨⟨j + 1, hk1, hjl, hl3.symm, hn3.symm, hm3.symm, hal2⟩, hmu ()⟩
end Go.Proofs.Ytaaklikigccdfaa
namespace Go.Proofs.Ytaaklikigccdfaa
open Go Go.Sx Go.Proofs
/-! Plain: what is unpacked. -/
theorem rd_app (b : List Int) (p : Int) (a : Nat) : ∀ c, rd b p (a + c) = rd b p a * 2 ^ c + rd b (p - a) c
  | 0 => by simp [rd]
  | c + 1 => by
    rw [← Nat.add_assoc]
    simp only [rd]
    rw [rd_app b p a c, p2s, show p - 1 - ((a + c : Nat) : Int) = p - a - 1 - c by push_cast; omega, ← Int.mul_assoc, Int.add_mul]
    omega
theorem rd_mod (b : List Int) (p : Int) (a c : Nat) : rd b p (a + c) % 2 ^ c = rd b (p - a) c := by
  have h := rd_bound b (p - a) c
  rw [rd_app, Int.add_comm, Int.add_mul_emod_self_right, Int.emod_eq_of_lt h.1 h.2]
theorem rd_div (b : List Int) (p : Int) (a c : Nat) : rd b p (a + c) / 2 ^ c = rd b p a := by
  have h := rd_bound b (p - a) c
  have hp := p2 c
  rw [rd_app, Int.add_comm, Int.add_mul_ediv_right _ _ (by omega), Int.ediv_eq_zero_of_lt h.1 h.2]
  omega
open Classical in
/-- The symbol with whose word t begins. -/
noncomputable def dc (l : List Int) (t : Int) : Nat := if h : ∃ c, Dc l t c then h.choose else 0
theorem dc_of {l : List Int} (h : ∀ c ∈ l, isU8 c) {t : Int} {c : Nat} (hc : Dc l t c) : dc l t = c := by
  have he : ∃ c, Dc l t c := ⟨c, hc⟩
  unfold dc
  rw [dif_pos he]
  exact Dc.uniq h he.choose_spec hc
theorem dc_spec {l : List Int} {M : Nat} (h : ∀ c ∈ l, isU8 c) (hW : Wt l M) {t : Int} (h0 : 0 ≤ t) (ht : t < 2 ^ M) : Dc l t (dc l t) := by
  obtain ⟨c, hc⟩ := Dc.ex h hW h0 ht
  rw [dc_of h hc]
  exact hc
theorem Dc.sy {l : List Int} {t : Int} {c : Nat} (h : Dc l t c) : Sy l c := ⟨h.1, h.2.1⟩
/-- Where the reader stands behind j symbols. -/
noncomputable def pos (l : List Int) (M : Nat) (b : List Int) (p : Int) : Nat → Int
  | 0 => p
  | j + 1 => pos l M b p j - nA l M (dc l (rd b (pos l M b p j) M))
noncomputable def sym (l : List Int) (M : Nat) (b : List Int) (p : Int) (j : Nat) : Nat := dc l (rd b (pos l M b p j) M)
noncomputable def outs (l : List Int) (M : Nat) (b : List Int) (p : Int) (j : Nat) : List Int := (List.range j).map fun i => (sym l M b p i : Int)
theorem pos_step {l : List Int} {M : Nat} (h : ∀ c ∈ l, isU8 c) (hW : Wt l M) (b : List Int) (p : Int) (j : Nat) : pos l M b p (j + 1) = pos l M b p j - nA l M (sym l M b p j) ∧ 1 ≤ nA l M (sym l M b p j) ∧ nA l M (sym l M b p j) ≤ M ∧
    Dc l (rd b (pos l M b p j) M) (sym l M b p j) ∧ Sy l (sym l M b p j) := by
  have hr := rd_bound b (pos l M b p j) M
  have hd : Dc l (rd b (pos l M b p j) M) (sym l M b p j) := dc_spec h hW hr.1 hr.2
  have hn := nA_range hW (sym l M b p j)
  refine ⟨rfl, ?_, hn.2.1, hd, hd.sy⟩
  have : ¬ nA l M (sym l M b p j) = 0 := fun e => hn.2.2.1 e hd.sy
  omega
theorem pos_down {l : List Int} {M : Nat} (h : ∀ c ∈ l, isU8 c) (hW : Wt l M) (b : List Int) (p : Int) {i : Nat} : ∀ {j : Nat}, i ≤ j → pos l M b p j + (j : Int) ≤ pos l M b p i + i
  | 0, hij => by obtain rfl : i = 0 := by omega
                 exact Int.le_refl _
  | j + 1, hij => by
    by_cases e : i = j + 1
    · subst e; exact Int.le_refl _
    · have h1 := pos_down h hW b p (i := i) (j := j) (by omega)
      have h2 := pos_step h hW b p j
      push_cast
      omega
theorem outs_len (l : List Int) (M : Nat) (b : List Int) (p : Int) (j : Nat) : (outs l M b p j).length = j := by simp [outs]
theorem outs_succ (l : List Int) (M : Nat) (b : List Int) (p : Int) (j : Nat) : outs l M b p (j + 1) = outs l M b p j ++ [(sym l M b p j : Int)] := by simp [outs, List.range_succ]
/-- The table is filled up to G. -/
def TI (l : List Int) (M : Nat) (G : Int) (A B : Nat → Int) : Prop := ∀ t : Nat, (t : Int) < G → A t = dc l t ∧ B t = nA l M (dc l t)
theorem TI.zero (l : List Int) (M : Nat) (A B : Nat → Int) : TI l M 0 A B := fun t ht => by omega
theorem TI.put {l : List Int} {M : Nat} (h : ∀ c ∈ l, isU8 c) {A B : Nat → Int} {L i k t : Nat} (hn : i < l.length) (hL : 1 ≤ L) (hi : l.getD i 0 = L) (hk : (k : Int) < 2 ^ (L - 1)) (ht : (t : Int) = gs l L i + k)
    (hT : TI l M (gs l L i + k) A B) : TI l M (gs l L i + ((k + 1 : Nat) : Int)) (updI A t i) (updI B t ((M : Int) + 1 - L)) := by
  have hw : wn l i = L := by unfold wn; omega
  have hD : Dc l t i := ⟨hn, by omega, by rw [hw]; omega, by rw [hw]; omega⟩
  have hsy : Sy l i := hD.sy
  intro u hu
  rw [updI_eq, updI_eq]
  by_cases e : u = t
  · subst e
    rw [if_pos rfl, if_pos rfl, dc_of h hD]
    refine ⟨rfl, ?_⟩
    unfold nA
    rw [if_pos hsy, hw]
  · rw [if_neg e, if_neg e]
    exact hT u (by push_cast at hu; omega)
end Go.Proofs.Ytaaklikigccdfaa
namespace Go.Proofs.Ytaaklikigccdfaa
open Go Go.Sx Go.Proofs
/-! weights.Unpack. -/
set_option maxRecDepth 10000
set_option maxHeartbeats 40000000
theorem unpack_ok (l b : List Int) (cap cap2 : Nat) (M : Nat) (N : Int) (hl : ∀ c ∈ l, isU8 c) (hb : ∀ c ∈ b, isByte c) (hW : Wt l M) (hN : 0 ≤ N ∧ N ≤ 131072) (hbl : b.length ≤ 140737488355328) (hlast : b.getLastD 0 ≠ 0) (p0 : Int)
    (hp0 : p0 = 8 * (b.length - 1) + (len8 (b.getLastD 0) - 1)) (hp1 : 0 ≤ p0 ∧ p0 ≤ 8 * b.length) :
    Con Try.prog 54 [.slice 0 .z 1 l.length cap, .slice 1 .z 1 b.length cap2, .int .i64 N] [.ro .u8 l, .ro .u8 b]
      (fun v H R => R = [] ∧ ∃ L c', H = [.ro .u8 l, .ro .u8 b, .free, .free, .free, .free, .free, .free, .free, .free, .buf 5 .u8 L c'] ∧
        ((v = .tup [.val (.slice none 0 0), .int .i64 11] ∧ pos l M b p0 N.toNat ≠ 0) ∨
         (v = .tup [.slice 10 .z 1 L.length c', .int .i64 0] ∧ L = outs l M b p0 N.toNat ∧ pos l M b p0 N.toNat = 0))) := by
  have hsz := size_con l cap M hl (by have := hW.2.1; omega) (.inl ⟨M, hW, rfl⟩)
  have hnew := new_good b cap2 hlast hb hbl
  rw [← hp0] at hnew
  have hbits := fun cap p n hp => bits_con b cap p n hb hp (by omega)
  have hleft := fun cap p => left_con b b.length cap p
  have hps := fun j => pos_step hl hW b p0 j
  have hpd := fun i j h => @pos_down l M hl hW b p0 i j h
  have hol := outs_len l M b p0
  have hos := outs_succ l M b p0
  have ho0 : outs l M b p0 0 = [] := rfl
  have hpos0 : pos l M b p0 0 = p0 := rfl
  have hrb := fun p n => rd_bound b p n
  have hra := fun p a c => rd_app b p a c
  have hrm := fun p a c => rd_mod b p a c
  have hr0 : ∀ p, rd b p 0 = 0 := fun _ => rfl
  have hti0 := fun A B => TI.zero l M A B
  have htip := fun A B L i k t => @TI.put l M hl A B L i k t
  have htid : ∀ G A B, TI l M G A B → ∀ t : Nat, (t : Int) < G → A t = dc l t ∧ B t = nA l M (dc l t) := fun G A B h => h
  have hfl : ∀ p : Int, -1099511627776 ≤ p → floorP p = p := fun p h => by unfold floorP; rw [if_neg (by omega)]
  have hcl : ∀ n : Int, 0 ≤ n → n ≤ 11 → clampN n = n.toNat := fun n h1 h2 => by unfold clampN; rw [if_neg (by omega), if_neg (by omega)]
  have hsymd : ∀ j, sym l M b p0 j = dc l (rd b (pos l M b p0 j) M) := fun _ => rfl
  have hdl : ∀ j, sym l M b p0 j < l.length := fun j => (hps j).2.2.2.1.1
  refine con_gen (con_hide [2, 3, 4, 5, 6, 7, 8, 9] (con_cut 11 (by simp) (con_drop (con_walk hmix fn54 ?_))))
  intro vb vc vw vtoN vofN vaddN vsubN vmaxI vminI vcutN vgd vst vln vrep vsub vonto vsplice vstrEq vbyteV vnotB veqB hw qb qc qw qtoN qofN qaddN qsubN qmaxI qminI qcutN qgd qst qln qrep qsub qonto qsplice qstrEq qbyteV qnotB qeqB
  have f16 := fn51
  have f33 := fn80
  have hm := hmix; generalize Try.prog = P at *
  have hM1 := hW.pos
  have hM11 := hW.2.2.2.2.2.2
  have hn2 := hW.1
  have hn256 := hW.2.1
  have hgs0 := gs_one l hl
  have hgss := gs_step l
  have hgsn := fun L hL => @gs_next l L hL
  have hgsr := fun L i h1 h2 h3 => @gs_range l M hW L i h1 h2 h3
  have hgd := fun L i h1 h2 => @gs_dvd l M hW L h1 h2 i
  have hgf : gs l (M + 2) 0 = 2 ^ M := by rw [gs_next l (by omega), gs_none hW _ (by omega)]
  have hge := getD_u8 hl
  clear hW
  generalize outs l M b p0 = OUT at *
  generalize sym l M b p0 = SYM at *
  generalize pos l M b p0 = POS at *
  generalize dc l = DC at *
  generalize nA l M = NA at *
  generalize TI l M = TIl at *
  generalize Dc l = DCl at *
  generalize Sy l = SY at *
  generalize rd b = RD at *
  generalize clampN = CL at *
  generalize floorP = FL at *
  generalize gs l = GS at *
  obtain ⟨mI, hmI⟩ : ∃ mI : Int, mI = M := ⟨_, rfl⟩
  rw [← hmI] at hsz
  generalize hn : l.length = n at *
  generalize hlb : b.length = lb at *
  have hto : ∀ i : Nat, vtoN (i : Int) = i := fun i => by simp only [qtoN, Int.toNat_natCast]
  have hadd0 : ∀ i, vaddN 0 i = i := fun i => by simp only [qaddN, Nat.zero_add]
  have hvln : vln l = n := by simp only [qln, hn]
  have hvlb : vln b = lb := by simp only [qln, hlb]
  have hvgd : ∀ l i, vgd l i = l.getD i 0 := fun l i => by simp only [qgd]
  have hnf1 : vnotB true = false := by simp only [qnotB]; rfl
  have d1 : vc .eql mI 0 = false := by rw [qc, eql_false]; omega
  have d2 : vc .lss N 0 = false := by rw [qc, lss_false]; omega
  have d3 : vc .gtr N 131072 = false := by rw [qc, gtr_false]; omega
  cbv
  refine call_con (ρ := [(0, .z)]) hsz ⟨by rfl, by rfl, by rfl, by cbv; exact ⟨⟨⟨by omega, fun i _ => by rw [Nat.zero_add]⟩⟩, trivial⟩⟩ ?_
  rintro v H R js ⟨rfl, rfl, rfl⟩
  cbv
  rw [d1]
  cbv
  rw [d2]
  cbv
  rw [d3]
  cbv
  refine call_con (ρ := [(1, .z)]) hnew ⟨by rfl, by rfl, by rfl, by cbv; exact ⟨⟨⟨by omega, fun i _ => by rw [Nat.zero_add]⟩⟩, trivial⟩⟩ ?_
  rintro v H R js ⟨rfl, rfl, cb, rfl⟩
  cbv
  refine inl_walkD hw hm f16 (by rfl) ?_
  cbv
  refine ⟨fun _ => rfl, fun _ => rfl, ?_⟩
  intro js
  refine range_rule (by rfl) (by rfl) (by cbv; exact ⟨fun _ => rfl, trivial⟩) (by cbv; exact ⟨fun _ => rfl, trivial⟩) (by rfl) ?_
  refine inl_walkD hw hm f33 (by rfl) ?_
  cbv
  refine WX.cv (Cv.arrEq 5 (fun m => [.int .u8 0, .int .i64 0]) (by rfl) (by intro i; rfl) (Cv.here ?_))
  obtain ⟨m1, hm1⟩ : ∃ m1 : Int, m1 = mI + 1 := ⟨_, rfl⟩
  have em1 : vb .add .i64 mI 1 = m1 := by (try simp only [nc] at *); rw [qb, add_i64 (by omega) (by omega)]; omega
  have en : vofN n = (n : Int) := by simp only [qofN]
  refine loop_fam (α := Int × Int × (Nat → Int) × (Nat → Int)) [6, 7, 8, 9, 10, 11, 12, 13, 14, 15, 16, 17, 18, 19, 20, 21, 22, 23, 24, 25, 26, 27, 28, 29, 30, 31, 32, 33, 34, 35, 36, 37, 38, 39, 40, 41, 42, 43, 44, 45, 46] [] (fun (k, x, _, _) => [(5, .int .i64 k), (4, .int .i64 x)]) (fun (_, _, A, B) => [(5, .arr 165 2 2048 (fun m => [.int .u8 (A m), .int .i64 (B m)]))])
    (fun (k, x, A, B) => ∃ L : Nat, k = L ∧ 1 ≤ L ∧ L ≤ M + 2 ∧ x = GS L 0 ∧ TIl (GS L 0) A B) (fun (k, _) => M + 2 - k.toNat) hw hm ?_ ?_
  · refine Cv.genAt [5, 4] [] (Cv.fold [6, 7, 8, 9, 10, 11, 12, 13, 14, 15, 16, 17, 18, 19, 20, 21, 22, 23, 24, 25, 26, 27, 28, 29, 30, 31, 32, 33, 34, 35, 36, 37, 38, 39, 40, 41, 42, 43, 44, 45, 46] 10 [] (by exact Nat.le_refl _) (by exact Nat.le_of_ble_eq_true rfl) (by rfl) (by cbv) ?_)
    intro js
    refine ⟨(_, _, _, _), ?_, js, rfl⟩
    exact ⟨1, rfl, by omega, by omega, hgs0.symm, by rw [hgs0]; exact hti0 _ _⟩
  · rintro ⟨k, x, A, B⟩ js ⟨L, hk, hL1, hL2, hx, hT⟩
    cbv
    rw [em1]
    generalize hz1 : vc .leq k m1 = z1
    cases z1
    rotate_left
    · rw [qc, leq_true] at hz1
      have hlt : L ≤ M + 1 := by ((try simp only [nc] at *); omega)
      have hgn := hgsn L hL1
      obtain ⟨k1, hk1⟩ : ∃ k1 : Int, k1 = ((L + 1 : Nat) : Int) := ⟨_, rfl⟩
      have ek : vb .add .i64 k 1 = k1 := by (try simp only [nc] at *); rw [qb, add_i64 (by omega) (by omega)]; omega
      have hmu : ∀ _ : Unit, M + 2 - k1.toNat < M + 2 - k.toNat := fun _ => by ((try simp only [nc] at *); omega)
      cbv
      rw [en]
      refine loop_fam (α := Int × Int × (Nat → Int) × (Nat → Int)) ([6, 7] ++ [17, 18, 19, 20, 21, 22, 23, 24, 25, 26, 27, 28, 29, 30, 31, 32, 33, 34, 35, 36, 37, 38, 39, 40, 41, 42, 43, 44, 45, 46]) [] (fun (q, x, _, _) => [(16, .int .i64 q), (4, .int .i64 x)]) (fun (_, _, A, B) => [(5, .arr 165 2 2048 (fun m => [.int .u8 (A m), .int .i64 (B m)]))])
        (fun (q, x, A, B) => ∃ i : Nat, q = i ∧ i ≤ n ∧ x = GS L i ∧ TIl (GS L i) A B) (fun (q, _) => n - q.toNat) hw hm ?_ ?_
      · refine Cv.genAt [16, 4] [] (Cv.fold ([6, 7] ++ [17, 18, 19, 20, 21, 22, 23, 24, 25, 26, 27, 28, 29, 30, 31, 32, 33, 34, 35, 36, 37, 38, 39, 40, 41, 42, 43, 44, 45, 46]) 10 [] (by exact Nat.le_refl _) (by exact Nat.le_of_ble_eq_true rfl) (by rfl) (by cbv) ?_)
        intro js
        refine ⟨(_, _, _, _), ?_, js, rfl⟩
        exact ⟨0, rfl, by omega, hx, hT⟩
      · rintro ⟨q, x, A, B⟩ js2 ⟨i, hq, hi, hx, hT⟩
        cbv
        generalize hz2 : vc .lss q (n : Int) = z2
        cases z2
        · rw [qc, lss_false] at hz2
          obtain rfl : i = n := by ((try simp only [nc] at *); omega)
          cbv
          rw [ek]
          refine Cv.fold [6, 7, 8, 9, 10, 11, 12, 13, 14, 15, 16, 17, 18, 19, 20, 21, 22, 23, 24, 25, 26, 27, 28, 29, 30, 31, 32, 33, 34, 35, 36, 37, 38, 39, 40, 41, 42, 43, 44, 45, 46] 10 [] (by exact Nat.le_refl _) (by exact Nat.le_of_ble_eq_true rfl) (by rfl) (by cbv) ?_
          intro js
          refine ⟨(_, _, _, _), ?_, js, rfl⟩
          exact ⟨⟨L + 1, hk1, by omega, by omega, by rw [hx, hgn], by rw [hgn]; exact hT⟩, hmu ()⟩
        · rw [qc, lss_true] at hz2
          have hlt2 : i < n := by ((try simp only [nc] at *); omega)
          have hti : vtoN q = i := by rw [hq]; exact hto i
          have hinR : 0 ≤ q ∧ q < (n : Int) := by ((try simp only [nc] at *); omega)
          obtain ⟨q1, hq1⟩ : ∃ q1 : Int, q1 = ((i + 1 : Nat) : Int) := ⟨_, rfl⟩
          have eq1 : vb .add .i64 q 1 = q1 := by (try simp only [nc] at *); rw [qb, add_i64 (by omega) (by omega)]; omega
          have hmu2 : ∀ _ : Unit, n - q1.toNat < n - q.toNat := fun _ => by ((try simp only [nc] at *); omega)
          have hx0 := hge i
          have hgs1 := hgss L i
          have hr1 := hgsr L i hL1 hlt (by omega)
          have hr2 := hgsr L (i + 1) hL1 hlt (by omega)
          have hdv := hgd L i hL1 hlt
          have hp11 : (2 : Int) ^ M ≤ 2 ^ 11 := pow_up hM11
          cbv
          rw [hti, hadd0, hvgd]
          refine ⟨⟨hinR⟩, ⟨by omega⟩, ⟨by omega⟩, ?_⟩
          generalize hxi : l.getD i 0 = y at *
          have ew : vw .i64 y = y := by rw [qw]; exact wrap_i64 (by omega) (by omega)
          rw [ew]
          generalize hz3 : vc .neq y k = z3
          cases z3
          rotate_left
          · rw [qc, neq_true] at hz3
            have hne : y ≠ (L : Int) := by ((try simp only [nc] at *); omega)
            rw [if_neg hne] at hgs1
            cbv
            rw [eq1]
            refine Cv.fold ([6, 7] ++ [17, 18, 19, 20, 21, 22, 23, 24, 25, 26, 27, 28, 29, 30, 31, 32, 33, 34, 35, 36, 37, 38, 39, 40, 41, 42, 43, 44, 45, 46]) 10 [] (by exact Nat.le_refl _) (by exact Nat.le_of_ble_eq_true rfl) (by rfl) (by cbv) ?_
            intro js
            refine ⟨(_, _, _, _), ?_, js, rfl⟩
            exact ⟨⟨i + 1, hq1, hlt2, by rw [hx, hgs1]; omega, by rw [hgs1, Int.add_zero]; exact hT⟩, hmu2 ()⟩
          · rw [qc, neq_false] at hz3
            have hyL : y = (L : Int) := by (try simp only [nc] at *); omega
            rw [if_pos hyL] at hgs1
            obtain ⟨k0, hk0⟩ : ∃ k0 : Int, k0 = ((L - 1 : Nat) : Int) := ⟨_, rfl⟩
            have ek0 : vb .sub .i64 k 1 = k0 := by (try simp only [nc] at *); rw [qb, sub_i64 (by omega) (by omega)]; omega
            have ew0 : vw .u64 k0 = k0 := by (try simp only [nc] at *); rw [qw]; exact wrap_u64 (by omega) (by omega)
            obtain ⟨x1, hx1⟩ : ∃ x1 : Int, x1 = GS L i / 2 ^ (L - 1) := ⟨_, rfl⟩
            have hpL : (0 : Int) < 2 ^ (L - 1) := p2 _
            have hpL2 : (2 : Int) ^ (L - 1) ≤ 2 ^ 11 := pow_up (by omega)
            have hx1r : 0 ≤ x1 ∧ x1 ≤ 2048 := by
              rw [hx1]
              have a1 := Int.ediv_nonneg hr1.1 (Int.le_of_lt hpL)
              have a2 := Int.ediv_le_self (2 ^ (L - 1)) hr1.1
              constructor
              · exact a1
              · (try simp only [nc] at *); omega
            have es : vb .shr .i64 x k0 = x1 := by
              rw [qb, shr_eq (by show k0 ≤ 64; (try simp only [nc] at *); omega), hx1, hx, hk0, Int.toNat_natCast]
            have ew1 : vw .u64 x1 = x1 := by rw [qw]; exact wrap_u64 (by omega) (by omega)
            obtain ⟨n1, hn1⟩ : ∃ n1 : Int, n1 = (M : Int) + 1 - L := ⟨_, rfl⟩
            have en1 : vb .sub .i64 m1 k = n1 := by (try simp only [nc] at *); rw [qb, sub_i64 (by omega) (by omega)]; omega
            have hk00 : 0 ≤ k0 := by ((try simp only [nc] at *); omega)
            obtain ⟨s1, hs1⟩ : ∃ s1 : Int, s1 = 2 ^ (L - 1) := ⟨_, rfl⟩
            have esl : vb .shl .i64 1 k0 = s1 := by
              rw [qb, hs1, hk0]
              show IntKind.i64.wrap (1 * 2 ^ (min (((L - 1 : Nat) : Int).toNat) IntKind.i64.bits)) = _
              rw [Int.toNat_natCast, show min (L - 1) IntKind.i64.bits = L - 1 by simp [IntKind.bits]; omega, Int.one_mul]
              exact wrap_i64 (by omega) (by omega)
            obtain ⟨x2, hx2⟩ : ∃ x2 : Int, x2 = GS L (i + 1) := ⟨_, rfl⟩
            have ex2 : vb .add .i64 x s1 = x2 := by
              have e : x + s1 = x2 := by rw [hx2, hgs1, hx, hs1]
              rw [qb, add_i64 (by (try simp only [nc] at *); omega) (by (try simp only [nc] at *); omega), e]
            cbv
            rw [ek0, ew0, es, ew1, em1, en1]
            refine ⟨⟨hk00⟩, ?_⟩
            refine yield_walk hw hm (by rfl) ?_
            have ed0 : vb .sub .i64 mI n1 = k0 := by (try simp only [nc] at *); rw [qb, sub_i64 (by omega) (by omega)]; omega
            have efr : vb .shl .u64 x1 k0 = x := by
              have hb64 : (2 : Int) ^ (IntKind.u64).bits = 18446744073709551616 := by decide
              have e : x1 * 2 ^ k0.toNat = x := by rw [hk0, Int.toNat_natCast, hx1, hx]; exact hdv.symm
              rw [qb, shl_u rfl hx1r.1 (by show k0 ≤ 64; (try simp only [nc] at *); omega) (by rw [e, hb64]; (try simp only [nc] at *); omega), e]
            have es1u : vb .shl .u64 1 k0 = s1 := by
              have hb64 : (2 : Int) ^ (IntKind.u64).bits = 18446744073709551616 := by decide
              rw [qb, shl_u rfl (by decide) (by show k0 ≤ 64; (try simp only [nc] at *); omega) (by rw [hk0, Int.toNat_natCast, hb64]; omega), hk0, Int.toNat_natCast, hs1, Int.one_mul]
            have hs1r : 1 ≤ s1 ∧ s1 ≤ 2048 := by rw [hs1]; constructor <;> omega
            have htp := fun A B k t => htip A B L i k t hlt2 hL1 (by rw [hxi]; exact hyL)
            have ewq : vw .u8 q = q := by (try simp only [nc] at *); rw [qw]; exact wrap_u8 (by omega) (by omega)
            rw [← hx] at htp hT
            rw [← hs1] at htp
            rw [← hn1] at htp
            have hqi : q = (i : Int) := by ((try simp only [nc] at *); omega)
            (try simp only [nc] at htp hqi)
            rw [← hqi] at htp
            have hxs : x + s1 = x2 := by rw [hx2, hgs1, hx, hs1]
            have hx2r : 0 ≤ x ∧ x2 ≤ 2048 := by rw [hx, hx2]; constructor <;> ((try simp only [nc] at *); omega)
            cbv
            rw [ed0, ew0, efr, es1u]
            refine ⟨fun _ => rfl, ⟨hk00⟩, ⟨hk00⟩, ?_⟩
            refine loop_fam (α := Int × (Nat → Int) × (Nat → Int)) ([15] ++ [60, 61, 62, 63, 64, 65, 66, 67, 68, 69, 70, 71]) [] (fun (kk, _, _) => [(59, .int .u64 kk)]) (fun (_, A, B) => [(5, .arr 165 2 2048 (fun m => [.int .u8 (A m), .int .i64 (B m)]))])
              (fun (kk, A, B) => ∃ kn : Nat, kk = kn ∧ kk ≤ s1 ∧ TIl (x + kk) A B) (fun (kk, _) => (s1 - kk).toNat) hw hm ?_ ?_
            · refine Cv.genAt [59] [] (Cv.fold ([15] ++ [60, 61, 62, 63, 64, 65, 66, 67, 68, 69, 70, 71]) 11 [] (by exact Nat.le_refl _) (by exact Nat.le_of_ble_eq_true rfl) (by rfl) (by cbv) ?_)
              intro js
              refine ⟨(_, _, _), ?_, js, rfl⟩
              exact ⟨0, rfl, by ((try simp only [nc] at *); omega), by rw [Int.add_zero]; exact hT⟩
            · rintro ⟨kk, A, B⟩ js3 ⟨kn, hkk, hks, hT⟩
              cbv
              generalize hz4 : vc .lss kk s1 = z4
              cases z4
              rotate_left
              · rw [qc, lss_true] at hz4
                obtain ⟨tt, htt⟩ : ∃ tt, tt = x + kk := ⟨_, rfl⟩
                obtain ⟨tn, htn⟩ : ∃ tn : Nat, tn = tt.toNat := ⟨_, rfl⟩
                have ett : vb .add .u64 x kk = tt := by rw [qb, htt]; exact wrap_u64 (by ((try simp only [nc] at *); omega)) (by ((try simp only [nc] at *); omega))
                have htv : vtoN tt = tn := by rw [qtoN, htn]
                have htR : 0 ≤ tt ∧ tt < (2048 : Int) := by ((try simp only [nc] at *); omega)
                have ht2 : tn < 2048 := by ((try simp only [nc] at *); omega)
                obtain ⟨kk1, hkk1⟩ : ∃ kk1 : Int, kk1 = ((kn + 1 : Nat) : Int) := ⟨_, rfl⟩
                have ekk : vb .add .u64 kk 1 = kk1 := by
                  have e : kk + 1 = kk1 := by ((try simp only [nc] at *); omega)
                  rw [qb, ← e]; exact wrap_u64 (by ((try simp only [nc] at *); omega)) (by ((try simp only [nc] at *); omega))
                have hT2 := htp A B kn tn (by ((try simp only [nc] at *); omega)) (by ((try simp only [nc] at *); omega)) (by (try simp only [nc] at *); rw [← hkk]; exact hT)
                (try simp only [nc] at hT2)
                rw [← hkk1] at hT2
                have hmu4 : ∀ _ : Unit, (s1 - kk1).toNat < (s1 - kk).toNat := fun _ => by ((try simp only [nc] at *); omega)
                have hkk2 : kk1 ≤ s1 := by ((try simp only [nc] at *); omega)
                cbv
                rw [ett, ewq, htv, updF_2_0, updF_2_1, ekk]
                refine ⟨⟨htR⟩, ⟨ht2⟩, ⟨ht2⟩, ?_⟩
                refine Cv.fold ([15] ++ [60, 61, 62, 63, 64, 65, 66, 67, 68, 69, 70, 71]) 11 [] (by exact Nat.le_refl _) (by exact Nat.le_of_ble_eq_true rfl) (by rfl) (by cbv) ?_
                intro js
                refine ⟨(_, _, _), ?_, js, rfl⟩
                exact ⟨⟨kn + 1, hkk1, hkk2, hT2⟩, hmu4 ()⟩
              · rw [qc, lss_false] at hz4
                obtain rfl : kk = s1 := by ((try simp only [nc] at *); omega)
                rw [hxs, hx2] at hT
                cbv
                intro js1
                cbv
                rw [hnf1]
                cbv
                rw [ek0, ew0, esl, ex2, eq1]
                refine ⟨⟨hk00⟩, ?_⟩
                refine Cv.fold ([6, 7] ++ [17, 18, 19, 20, 21, 22, 23, 24, 25, 26, 27, 28, 29, 30, 31, 32, 33, 34, 35, 36, 37, 38, 39, 40, 41, 42, 43, 44, 45, 46]) 10 [] (by exact Nat.le_refl _) (by exact Nat.le_of_ble_eq_true rfl) (by rfl) (by cbv) ?_
                intro js
                refine ⟨(_, _, _, _), ?_, js, rfl⟩
                exact ⟨⟨i + 1, hq1, hlt2, hx2, hT⟩, hmu2 ()⟩
    · rw [qc, leq_false] at hz1
      have hL : L = M + 2 := by ((try simp only [nc] at *); omega)
      subst hL
      rw [hgf] at hT
      have hMp : (2 : Int) ^ M ≤ 2 ^ 11 := pow_up hM11
      have htd := htid _ _ _ hT
      clear hgs0 hgss hgsn hgsr hgd hgf hge htip hti0 htid hT
      have hb64 : (2 : Int) ^ (IntKind.u64).bits = 18446744073709551616 := by decide
      cbv
      intro js1
      cbv
      refine WX.cv (Cv.nilT 16 5 .u8 (by rfl) (by cbv; exact ⟨fun _ => rfl, trivial⟩) (Cv.here ?_))
      cbv
      refine loop_fam (α := Int × Int × Int × Nat × Nat × List Int) ([19] ++ [72, 73, 74, 75, 76, 77, 78, 79, 80, 81, 82, 83, 84, 85, 86, 87, 88, 89, 90, 91, 92, 93, 94, 95, 96, 97, 98, 99, 100, 101, 102, 103, 104, 105, 106, 107, 108, 109, 110, 111]) [10] (fun (x, h, _, c, n1, _) => [(16, .slice 10 .z 1 n1 c), (17, .int .u64 x), (18, .int .i64 h)])
        (fun (_, _, a, c, _, L) => [(4, .one 140 [.slice 3 .z 1 lb cb, .int .i64 a]), (10, .buf 5 .u8 L c)])
        (fun (x, h, a, c, n1, L) => ∃ j hN : Nat, h = hN ∧ hN ≤ M ∧ (j : Int) ≤ N ∧ a = POS j - h ∧ 0 ≤ POS j ∧ x = RD (POS j) hN ∧ L = OUT j ∧ n1 = j ∧ n1 ≤ c) (fun (_, _, _, _, n1, _) => N.toNat - n1) hw hm ?_ ?_
      · refine Cv.genAt [17, 18] [] (Cv.fold ([19] ++ [72, 73, 74, 75, 76, 77, 78, 79, 80, 81, 82, 83, 84, 85, 86, 87, 88, 89, 90, 91, 92, 93, 94, 95, 96, 97, 98, 99, 100, 101, 102, 103, 104, 105, 106, 107, 108, 109, 110, 111]) 11 [10] (by exact Nat.le_refl _) (by exact Nat.le_of_ble_eq_true rfl) (by rfl) (by cbv) ?_)
        intro js
        refine ⟨(_, _, _, _, _, _), ?_, js, rfl⟩
        exact ⟨0, 0, rfl, by omega, by (try simp only [nc] at *); omega, by rw [hpos0]; omega, by rw [hpos0]; omega, (hr0 _).symm, ho0.symm, rfl, Nat.le_refl _⟩
      · rintro ⟨x, h, a, c, n1, L⟩ js ⟨j, hN2, hh, hhM, hjN, ha, hp, hx, hL, hn1, hnc⟩
        subst hn1
        obtain ⟨jI, hjI⟩ : ∃ jI : Int, jI = (n1 : Int) := ⟨_, rfl⟩
        have ej : vofN n1 = jI := by rw [qofN, hjI]
        cbv
        rw [ej]
        generalize hz2 : vc .lss jI N = z2
        cases z2
        · rw [qc, lss_false] at hz2
          have ez : vc .lss jI N = false := by rw [qc, lss_false]; exact hz2
          have hnN : N.toNat = n1 := by ((try simp only [nc] at *); omega)
          have hlf := hleft cb a
          obtain ⟨p1, hp1'⟩ : ∃ p1, p1 = POS n1 := ⟨_, rfl⟩
          have hpd0 := hpd 0 n1 (by omega)
          rw [hpos0] at hpd0
          have ep1 : vb .add .i64 a h = p1 := by
            have e : a + h = p1 := by ((try simp only [nc] at *); omega)
            rw [qb, add_i64 (by ((try simp only [nc] at *); omega)) (by ((try simp only [nc] at *); omega)), e]
          have hLn : L.length = n1 := by rw [hL]; exact hol n1
          rw [hnN]
          cbv
          rw [ej, ez]
          cbv
          refine call_con (ρ := [(4, .z), (3, .z)]) hlf ⟨by rfl, by rfl, by rfl, by cbv; exact ⟨fun _ => rfl, view_refl _, trivial⟩⟩ ?_
          rintro v H R js3 ⟨rfl, rfl, rfl⟩
          cbv
          rw [ep1]
          refine ⟨fun _ => rfl, ?_⟩
          generalize hz3 : vc .neq p1 0 = z3
          cases z3
          rotate_left
          · rw [qc, neq_true, hp1'] at hz3
            cbv
            exact ⟨L, c, rfl, .inl ⟨rfl, hz3⟩⟩
          · rw [qc, neq_false, Decidable.not_not, hp1'] at hz3
            cbv
            subst hLn
            exact ⟨L, c, rfl, .inr ⟨rfl, hL, hz3⟩⟩
        · rw [qc, lss_true] at hz2
          obtain ⟨dN, hdN⟩ : ∃ dN, dN = M - hN2 := ⟨_, rfl⟩
          obtain ⟨dI, hdI⟩ : ∃ dI : Int, dI = (dN : Int) := ⟨_, rfl⟩
          have ed : vb .sub .i64 mI h = dI := by (try simp only [nc] at *); rw [qb, sub_i64 (by omega) (by omega)]; omega
          have ewd : vw .u64 dI = dI := by (try simp only [nc] at *); rw [qw]; exact wrap_u64 (by omega) (by omega)
          have hcl1 := hcl dI (by ((try simp only [nc] at *); omega)) (by ((try simp only [nc] at *); omega))
          have hcl2 : CL dI = dN := by ((try simp only [nc] at *); omega)
          have hd0 : 0 ≤ dI := by ((try simp only [nc] at *); omega)
          have hpd0 := hpd 0 n1 (by omega)
          rw [hpos0] at hpd0
          have hbt := hbits cb a dI (by ((try simp only [nc] at *); omega))
          obtain ⟨a2, ha2⟩ : ∃ a2, a2 = a - dN := ⟨_, rfl⟩
          have hfl1 : FL a2 = a2 := hfl a2 (by ((try simp only [nc] at *); omega))
          obtain ⟨y, hy⟩ : ∃ y, y = RD a dN := ⟨_, rfl⟩
          rw [hcl2] at hbt
          simp only [nc] at hbt ha2
          rw [← ha2, hfl1, ← hy] at hbt
          have hMs : M = hN2 + dN := by ((try simp only [nc] at *); omega)
          have hra1 := hra (POS n1) hN2 dN
          rw [← hMs, ← hx] at hra1
          have haP : POS n1 - (hN2 : Int) = a := by ((try simp only [nc] at *); omega)
          simp only [nc] at hra1
          rw [haP, ← hy] at hra1
          obtain ⟨X, hX⟩ : ∃ X, X = RD (POS n1) M := ⟨_, rfl⟩
          rw [← hX] at hra1
          have hXr := hrb (POS n1) M
          rw [← hX] at hXr
          have hyr := hrb a dN
          rw [← hy] at hyr
          have hxr := hrb (POS n1) hN2
          rw [← hx] at hxr
          have hpd1 : (0 : Int) < 2 ^ dN := p2 dN
          obtain ⟨X0, hX0⟩ : ∃ X0, X0 = x * 2 ^ dN := ⟨_, rfl⟩
          have hX00 : 0 ≤ X0 := by rw [hX0]; exact Int.mul_nonneg hxr.1 (Int.le_of_lt hpd1)
          have eX0 : vb .shl .u64 x dI = X0 := by
            have e : x * 2 ^ dI.toNat = X0 := by rw [hdI, Int.toNat_natCast, hX0]
            rw [qb, shl_u rfl hxr.1 (by show dI ≤ 64; ((try simp only [nc] at *); omega)) (by rw [e, hb64]; omega), e]
          have eX : vb .or .u64 X0 y = X := by
            rw [qb, or_comm_u rfl, hX0, or_add rfl dN hyr.1 hyr.2 hxr.1 (by rw [hb64]; omega)]
            omega
          cbv
          rw [ed, ewd, eX0]
          refine ⟨⟨hd0⟩, ?_⟩
          refine call_con (ρ := [(4, .z), (3, .z)]) hbt ⟨by rfl, by rfl, by rfl, by cbv; exact ⟨fun _ => rfl, view_refl _, trivial⟩⟩ ?_
          rintro v H R js2 ⟨rfl, rfl, rfl⟩
          cbv
          obtain ⟨Xn, hXn⟩ : ∃ Xn : Nat, Xn = X.toNat := ⟨_, rfl⟩
          have hXv : vtoN X = Xn := by rw [qtoN, hXn]
          have hX2 : X < 2048 := by omega
          have hXR : 0 ≤ X ∧ X < (2048 : Int) := ⟨hXr.1, hX2⟩
          have hXn2 : Xn < 2048 := by omega
          have hXc : (Xn : Int) = X := by omega
          simp only [nc] at htd hps hsymd hXc
          obtain ⟨hA1, hB1⟩ := htd Xn (by rw [hXc]; exact hXr.2)
          obtain ⟨hp1, hn1a, hn1b, _, _⟩ := hps n1
          have hsd := hsymd n1
          rw [← hX] at hsd
          have hsl := hdl n1
          rw [hXc, ← hsd] at hA1 hB1
          obtain ⟨cI, hcI⟩ : ∃ cI : Int, cI = (SYM n1 : Int) := ⟨_, rfl⟩
          obtain ⟨nI, hnI⟩ : ∃ nI : Int, nI = NA (SYM n1) := ⟨_, rfl⟩
          rw [← hcI] at hA1
          rw [← hnI] at hB1 hp1 hn1a hn1b
          obtain ⟨nN, hnN⟩ : ∃ nN : Nat, nN = nI.toNat := ⟨_, rfl⟩
          obtain ⟨h2, hh2⟩ : ∃ h2 : Nat, h2 = M - nN := ⟨_, rfl⟩
          obtain ⟨h3, hh3⟩ : ∃ h3 : Int, h3 = (h2 : Int) := ⟨_, rfl⟩
          have eh3 : vb .sub .i64 mI nI = h3 := by (try simp only [nc] at *); rw [qb, sub_i64 (by omega) (by omega)]; omega
          have ewh : vw .u64 h3 = h3 := by (try simp only [nc] at *); rw [qw]; exact wrap_u64 (by omega) (by omega)
          have hh30 : 0 ≤ h3 := by rw [hh3]; omega
          have hh2p : (0 : Int) < 2 ^ h2 := p2 h2
          have hh2q : (2 : Int) ^ h2 ≤ 2 ^ 11 := pow_up (by omega)
          obtain ⟨q2, hq2⟩ : ∃ q2 : Int, q2 = 2 ^ h2 := ⟨_, rfl⟩
          have eq2 : vb .shl .u64 1 h3 = q2 := by
            have e : 1 * 2 ^ h3.toNat = q2 := by rw [hh3, Int.toNat_natCast, hq2, Int.one_mul]
            rw [qb, shl_u rfl (by decide) (by show h3 ≤ 64; (try simp only [nc] at *); omega) (by rw [e, hb64]; omega), e]
          obtain ⟨q3, hq3⟩ : ∃ q3 : Int, q3 = q2 - 1 := ⟨_, rfl⟩
          have eq3 : vb .sub .u64 q2 1 = q3 := by rw [qb, hq3]; exact wrap_u64 (by omega) (by omega)
          obtain ⟨x3, hx3⟩ : ∃ x3, x3 = RD (POS (n1 + 1)) h2 := ⟨_, rfl⟩
          have ex3 : vb .and .u64 X q3 = x3 := by
            have e1 := hrm (POS n1) nN h2
            rw [show nN + h2 = M by ((try simp only [nc] at *); omega), ← hX] at e1
            have e2 : POS n1 - (nN : Int) = POS (n1 + 1) := by ((try simp only [nc] at *); omega)
            simp only [nc] at e1
            rw [e2, ← hx3] at e1
            rw [qb, hq3, hq2, and_mask rfl h2 (by show h2 ≤ 64; omega) hXr.1 (by rw [hb64]; omega)]
            exact e1
          obtain ⟨p1, hp1'⟩ : ∃ p1, p1 = POS (n1 + 1) := ⟨_, rfl⟩
          have ep1 : vb .add .i64 a2 h3 = p1 := by
            have e : a2 + h3 = p1 := by ((try simp only [nc] at *); omega)
            rw [qb, add_i64 (by ((try simp only [nc] at *); omega)) (by ((try simp only [nc] at *); omega)), e]
          have hlf := hleft cb a2
          have hpdN := hpd (n1 + 1) N.toNat (by ((try simp only [nc] at *); omega))
          rw [← hp1'] at hpdN
          rw [eX]
          refine ⟨fun _ => rfl, ⟨hXR⟩, ?_⟩
          rw [hXv, hB1, eh3, ewh, eq2, eq3, ex3]
          refine ⟨⟨hXn2⟩, ⟨hXn2⟩, fun _ => rfl, ⟨hh30⟩, ?_⟩
          refine call_con (ρ := [(4, .z), (3, .z)]) hlf ⟨by rfl, by rfl, by rfl, by cbv; exact ⟨fun _ => rfl, view_refl _, trivial⟩⟩ ?_
          rintro v H R js3 ⟨rfl, rfl, rfl⟩
          cbv
          rw [ep1]
          refine ⟨fun _ => rfl, ?_⟩
          generalize hz3 : vc .lss p1 0 = z3
          cases z3
          rotate_left
          · rw [qc, lss_true] at hz3
            have hne : POS N.toNat ≠ 0 := by ((try simp only [nc] at *); omega)
            have ez : vc .lss jI N = true := by rw [qc, lss_true]; exact hz2
            cbv
            rw [ej, ez]
            cbv
            exact ⟨L, c, rfl, .inl ⟨rfl, hne⟩⟩
          · rw [qc, lss_false] at hz3
            have hLn : L.length = n1 := by rw [hL]; exact hol n1
            have hadd1 : vaddN n1 1 = n1 + 1 := by rw [qaddN]
            have hadd01 : vaddN 0 1 = 1 := by rw [qaddN]
            have hln1 : vln [cI] = 1 := by rw [qln]; rfl
            have hlnL : vln L = n1 := by rw [qln]; exact hLn
            have hont : vonto L n1 (vsub [cI] 0 1) = OUT (n1 + 1) := by
              have e1 : vsub [cI] 0 1 = [cI] := by rw [qsub]; rfl
              have e2 : L.take n1 = L := by rw [← hLn, List.take_length]
              rw [e1, qonto, hos n1, hcI, ← hL]
              simp only [e2]
            obtain ⟨L2, hL2⟩ : ∃ L2, L2 = OUT (n1 + 1) := ⟨_, rfl⟩
            rw [← hL2] at hont
            obtain ⟨n2, hn2'⟩ : ∃ n2, n2 = n1 + 1 := ⟨_, rfl⟩
            rw [← hn2'] at hadd1
            have hmu : ∀ _ : Unit, N.toNat - n2 < N.toNat - n1 := fun _ => by ((try simp only [nc] at *); omega)
            have hjn : ((n2 : Nat) : Int) ≤ N := by ((try simp only [nc] at *); omega)
            have ha3 : a2 = POS n2 - h3 := by rw [hn2']; ((try simp only [nc] at *); omega)
            have hpn2 : 0 ≤ POS n2 := by rw [hn2', ← hp1']; ((try simp only [nc] at *); omega)
            rw [← hn2'] at hx3 hL2
            have hh2M : h2 ≤ M := by omega
            have hn2b : n2 * 1 ≤ 140737488355328 := by ((try simp only [nc] at *); omega)
            cbv
            rw [hA1]
            refine ⟨fun _ => rfl, ⟨by rw [hadd01, hln1]; exact Nat.le_refl _⟩, ⟨by rw [hlnL]; exact Nat.le_refl _⟩, ⟨Nat.le_refl _⟩, ⟨by rw [hadd1]; exact hn2b⟩, fun _ => rfl, ?_⟩
            intro c1 js4 hle
            have hle' : n2 ≤ c1 := by have := hle.out; simp only at this; rw [hadd1] at this; exact this
            cbv
            rw [hont, hadd1]
            refine Cv.fold ([19] ++ [72, 73, 74, 75, 76, 77, 78, 79, 80, 81, 82, 83, 84, 85, 86, 87, 88, 89, 90, 91, 92, 93, 94, 95, 96, 97, 98, 99, 100, 101, 102, 103, 104, 105, 106, 107, 108, 109, 110, 111]) 11 [10] (by exact Nat.le_refl _) (by exact Nat.le_of_ble_eq_true rfl) (by rfl) (by cbv) ?_
            intro js
            refine ⟨(_, _, _, _, _, _), ?_, js, rfl⟩
            exact ⟨⟨n2, h2, hh3, hh2M, hjn, ha3, hpn2, hx3, hL2, rfl, hle'⟩, hmu ()⟩
end Go.Proofs.Ytaaklikigccdfaa
namespace Go.Proofs.Ytaaklikigccdfaa
open Go Go.Sx Go.Proofs
/-! The ways of no code, of a wrong size, of a text without a mark. -/
set_option maxRecDepth 10000
set_option maxHeartbeats 40000000
theorem pack_code (l : List Int) (B : List Int) (cap cap2 : Nat) (hl : ∀ c ∈ l, isU8 c) (hlen : l.length ≤ 140737488355328) (hW : ∀ M, ¬ Wt l M) :
    Con Try.prog 20 [.slice 0 .z 1 l.length cap, .slice 1 .z 1 B.length cap2] [.ro .u8 l, .ro .u8 B] (fun v H R => v = .tup [.val (.slice none 0 0), .int .i64 50] ∧ H = [.ro .u8 l, .ro .u8 B] ∧ R = []) := by
  have hsz := size_con l cap 0 hl hlen (.inr ⟨hW, rfl⟩)
  refine con_gen (con_cut 2 (by simp) (con_drop (con_walk hmix fn20 ?_)))
  intro vb vc vw vtoN vofN vaddN vsubN vmaxI vminI vcutN vgd vst vln vrep vsub vonto vsplice vstrEq vbyteV vnotB veqB hw qb qc qw qtoN qofN qaddN qsubN qmaxI qminI qcutN qgd qst qln qrep qsub qonto qsplice qstrEq qbyteV qnotB qeqB
  have hm := hmix; generalize Try.prog = P at *
  generalize hn : l.length = n at *
  generalize hlb : B.length = lb at *
  have d1 : vc .eql 0 0 = true := by rw [qc, eql_true]
  cbv
  refine call_con (ρ := [(0, .z)]) hsz ⟨by rfl, by rfl, by rfl, by cbv; exact ⟨⟨⟨by omega, fun i _ => by rw [Nat.zero_add]⟩⟩, trivial⟩⟩ ?_
  rintro v H R js ⟨rfl, rfl, rfl⟩
  cbv
  rw [d1]
  cbv
theorem unpack_code (l : List Int) (B : List Int) (cap cap2 : Nat) (N : Int) (hl : ∀ c ∈ l, isU8 c) (hlen : l.length ≤ 140737488355328) (hW : ∀ M, ¬ Wt l M) :
    Con Try.prog 54 [.slice 0 .z 1 l.length cap, .slice 1 .z 1 B.length cap2, .int .i64 N] [.ro .u8 l, .ro .u8 B] (fun v H R => v = .tup [.val (.slice none 0 0), .int .i64 50] ∧ H = [.ro .u8 l, .ro .u8 B] ∧ R = []) := by
  have hsz := size_con l cap 0 hl hlen (.inr ⟨hW, rfl⟩)
  refine con_gen (con_cut 2 (by simp) (con_drop (con_walk hmix fn54 ?_)))
  intro vb vc vw vtoN vofN vaddN vsubN vmaxI vminI vcutN vgd vst vln vrep vsub vonto vsplice vstrEq vbyteV vnotB veqB hw qb qc qw qtoN qofN qaddN qsubN qmaxI qminI qcutN qgd qst qln qrep qsub qonto qsplice qstrEq qbyteV qnotB qeqB
  have hm := hmix; generalize Try.prog = P at *
  generalize hn : l.length = n at *
  generalize hlb : B.length = lb at *
  have d1 : vc .eql 0 0 = true := by rw [qc, eql_true]
  cbv
  refine call_con (ρ := [(0, .z)]) hsz ⟨by rfl, by rfl, by rfl, by cbv; exact ⟨⟨⟨by omega, fun i _ => by rw [Nat.zero_add]⟩⟩, trivial⟩⟩ ?_
  rintro v H R js ⟨rfl, rfl, rfl⟩
  cbv
  rw [d1]
  cbv
theorem unpack_arg (l : List Int) (B : List Int) (cap cap2 M : Nat) (N : Int) (hl : ∀ c ∈ l, isU8 c) (hW : Wt l M) (hN : N < 0 ∨ 131072 < N) :
    Con Try.prog 54 [.slice 0 .z 1 l.length cap, .slice 1 .z 1 B.length cap2, .int .i64 N] [.ro .u8 l, .ro .u8 B] (fun v H R => v = .tup [.val (.slice none 0 0), .int .i64 2] ∧ H = [.ro .u8 l, .ro .u8 B] ∧ R = []) := by
  have hsz := size_con l cap M hl (by have := hW.2.1; omega) (.inl ⟨M, hW, rfl⟩)
  refine con_gen (con_cut 2 (by simp) (con_drop (con_walk hmix fn54 ?_)))
  intro vb vc vw vtoN vofN vaddN vsubN vmaxI vminI vcutN vgd vst vln vrep vsub vonto vsplice vstrEq vbyteV vnotB veqB hw qb qc qw qtoN qofN qaddN qsubN qmaxI qminI qcutN qgd qst qln qrep qsub qonto qsplice qstrEq qbyteV qnotB qeqB
  have hm := hmix; generalize Try.prog = P at *
  have hM1 := hW.pos
  have hn256 := hW.2.1
  obtain ⟨mI, hmI⟩ : ∃ mI : Int, mI = M := ⟨_, rfl⟩
  rw [← hmI] at hsz
  generalize hn : l.length = n at *
  generalize hlb : B.length = lb at *
  have d1 : vc .eql mI 0 = false := by rw [qc, eql_false]; omega
  cbv
  refine call_con (ρ := [(0, .z)]) hsz ⟨by rfl, by rfl, by rfl, by cbv; exact ⟨⟨⟨by omega, fun i _ => by rw [Nat.zero_add]⟩⟩, trivial⟩⟩ ?_
  rintro v H R js ⟨rfl, rfl, rfl⟩
  cbv
  rw [d1]
  cbv
  rcases hN with hN | hN
  · have d2 : vc .lss N 0 = true := by rw [qc, lss_true]; exact hN
    rw [d2]
    cbv
  · have d2 : vc .lss N 0 = false := by rw [qc, lss_false]; omega
    have d3 : vc .gtr N 131072 = true := by rw [qc, gtr_true]; exact hN
    rw [d2]
    cbv
    rw [d3]
    cbv
theorem unpack_bad (l : List Int) (b : List Int) (cap cap2 M : Nat) (N : Int) (hl : ∀ c ∈ l, isU8 c) (hW : Wt l M) (hN : 0 ≤ N ∧ N ≤ 131072) (hlast : b.getLastD 0 = 0) (hbl : b.length ≤ 2 ^ 48) :
    Con Try.prog 54 [.slice 0 .z 1 l.length cap, .slice 1 .z 1 b.length cap2, .int .i64 N] [.ro .u8 l, .ro .u8 b] (fun v H R => v = .tup [.val (.slice none 0 0), .int .i64 11] ∧ H = [.ro .u8 l, .ro .u8 b] ∧ R = []) := by
  have hsz := size_con l cap M hl (by have := hW.2.1; omega) (.inl ⟨M, hW, rfl⟩)
  have hnew := new_bad b cap2 hlast hbl
  refine con_gen (con_cut 2 (by simp) (con_drop (con_walk hmix fn54 ?_)))
  intro vb vc vw vtoN vofN vaddN vsubN vmaxI vminI vcutN vgd vst vln vrep vsub vonto vsplice vstrEq vbyteV vnotB veqB hw qb qc qw qtoN qofN qaddN qsubN qmaxI qminI qcutN qgd qst qln qrep qsub qonto qsplice qstrEq qbyteV qnotB qeqB
  have hm := hmix; generalize Try.prog = P at *
  have hM1 := hW.pos
  have hn256 := hW.2.1
  obtain ⟨mI, hmI⟩ : ∃ mI : Int, mI = M := ⟨_, rfl⟩
  rw [← hmI] at hsz
  generalize hn : l.length = n at *
  generalize hlb : b.length = lb at *
  have d1 : vc .eql mI 0 = false := by rw [qc, eql_false]; omega
  have d2 : vc .lss N 0 = false := by rw [qc, lss_false]; omega
  have d3 : vc .gtr N 131072 = false := by rw [qc, gtr_false]; omega
  cbv
  refine call_con (ρ := [(0, .z)]) hsz ⟨by rfl, by rfl, by rfl, by cbv; exact ⟨⟨⟨by omega, fun i _ => by rw [Nat.zero_add]⟩⟩, trivial⟩⟩ ?_
  rintro v H R js ⟨rfl, rfl, rfl⟩
  cbv
  rw [d1]
  cbv
  rw [d2]
  cbv
  rw [d3]
  cbv
  refine call_con (ρ := [(1, .z)]) hnew ⟨by rfl, by rfl, by rfl, by cbv; exact ⟨⟨⟨by omega, fun i _ => by rw [Nat.zero_add]⟩⟩, trivial⟩⟩ ?_
  rintro v H R js ⟨rfl, rfl, rfl⟩
  cbv
theorem pack_okP (l b : List Int) (cap cap2 : Nat) (M : Nat) (hl : ∀ c ∈ l, isU8 c) (hb : ∀ c ∈ b, isU8 c) (hW : Wt l M) (hbl : b.length ≤ 131072) :
    Con Try.prog 20 [.slice 0 .z 1 l.length cap, .slice 1 .z 1 b.length cap2] [.ro .u8 l, .ro .u8 b]
      (fun v H R => R = [] ∧ ∃ L c', H = [.ro .u8 l, .ro .u8 b, .buf 5 .u8 L c'] ∧
        ((v = .tup [.val (.slice none 0 0), .int .i64 2] ∧ ¬ AllSy l b b.length) ∨
         (v = .tup [.slice 2 .z 1 L.length c', .int .i64 0] ∧ L = pack (pb l M b b.length ++ [1]) ∧ AllSy l b b.length))) := by
  refine con_pick [0, 1, 8] rfl rfl (Con.mono (pack_ok l b cap cap2 M hl hb hW hbl) ?_)
  rintro v H R ⟨rfl, L, c', rfl, ⟨rfl, h⟩ | ⟨rfl, h1, h2⟩⟩
  · exact ⟨.tup [.val (.slice none 0 0), .int .i64 2], [.ro .u8 l, .ro .u8 b, .buf 5 .u8 L c'], rfl, rfl, ⟨rfl, rfl, rfl, trivial⟩, rfl, L, c', rfl, .inl ⟨rfl, h⟩⟩
  · exact ⟨.tup [.slice 2 .z 1 L.length c', .int .i64 0], [.ro .u8 l, .ro .u8 b, .buf 5 .u8 L c'], rfl, rfl, ⟨rfl, rfl, rfl, trivial⟩, rfl, L, c', rfl, .inr ⟨rfl, h1, h2⟩⟩
theorem unpack_okP (l b : List Int) (cap cap2 : Nat) (M : Nat) (N : Int) (hl : ∀ c ∈ l, isU8 c) (hb : ∀ c ∈ b, isByte c) (hW : Wt l M) (hN : 0 ≤ N ∧ N ≤ 131072) (hbl : b.length ≤ 140737488355328) (hlast : b.getLastD 0 ≠ 0) (p0 : Int)
    (hp0 : p0 = 8 * (b.length - 1) + (len8 (b.getLastD 0) - 1)) (hp1 : 0 ≤ p0 ∧ p0 ≤ 8 * b.length) :
    Con Try.prog 54 [.slice 0 .z 1 l.length cap, .slice 1 .z 1 b.length cap2, .int .i64 N] [.ro .u8 l, .ro .u8 b]
      (fun v H R => R = [] ∧ ∃ L c', H = [.ro .u8 l, .ro .u8 b, .buf 5 .u8 L c'] ∧
        ((v = .tup [.val (.slice none 0 0), .int .i64 11] ∧ pos l M b p0 N.toNat ≠ 0) ∨
         (v = .tup [.slice 2 .z 1 L.length c', .int .i64 0] ∧ L = outs l M b p0 N.toNat ∧ pos l M b p0 N.toNat = 0))) := by
  refine con_pick [0, 1, 10] rfl rfl (Con.mono (unpack_ok l b cap cap2 M N hl hb hW hN hbl hlast p0 hp0 hp1) ?_)
  rintro v H R ⟨rfl, L, c', rfl, ⟨rfl, h⟩ | ⟨rfl, h1, h2⟩⟩
  · exact ⟨.tup [.val (.slice none 0 0), .int .i64 11], [.ro .u8 l, .ro .u8 b, .buf 5 .u8 L c'], rfl, rfl, ⟨rfl, rfl, rfl, trivial⟩, rfl, L, c', rfl, .inl ⟨rfl, h⟩⟩
  · exact ⟨.tup [.slice 2 .z 1 L.length c', .int .i64 0], [.ro .u8 l, .ro .u8 b, .buf 5 .u8 L c'], rfl, rfl, ⟨rfl, rfl, rfl, trivial⟩, rfl, L, c', rfl, .inr ⟨rfl, h1, h2⟩⟩
end Go.Proofs.Ytaaklikigccdfaa
namespace Go.Proofs.Ytaaklikigccdfaa
open Go Go.Sx Go.Proofs
/-! balerlaw09.wakes. -/
def tbW : Tab := [(6, fun _ => x6, 71, [2, 3, 4]), (17, fun _ => x17, 51, [2, 3])]
theorem tbW_ok : TabOk Try.prog tbW := ⟨fn6, fn17, trivial⟩
theorem wt_w : Wt [1, 1, 2, 3] 3 := by
  refine ⟨by decide, by decide, by decide, ?_, by decide, by decide, by decide⟩
  intro i hi
  simp only [List.length_cons, List.length_nil] at hi
  rcases (by omega : i = 0 ∨ i = 1 ∨ i = 2 ∨ i = 3) with rfl | rfl | rfl | rfl <;> decide
theorem xA_of {l : List Int} {c : Nat} (h : Sy l c) : xA l c = wx l c := by unfold xA; rw [if_pos h]
theorem nA_of {l : List Int} {M c : Nat} (h : Sy l c) : nA l M c = (M : Int) + 1 - wn l c := by unfold nA; rw [if_pos h]
theorem pb_w : pack (pb [1, 1, 2, 3] 3 [3, 2, 0] 3 ++ [1]) = [104] := by
  have e : pb [1, 1, 2, 3] 3 [3, 2, 0] 3 = (([] ++ bitsN (xA [1, 1, 2, 3] 0) (nA [1, 1, 2, 3] 3 0).toNat) ++ bitsN (xA [1, 1, 2, 3] 2) (nA [1, 1, 2, 3] 3 2).toNat) ++ bitsN (xA [1, 1, 2, 3] 3) (nA [1, 1, 2, 3] 3 3).toNat := rfl
  have s0 : Sy [1, 1, 2, 3] 0 := ⟨by decide, by decide⟩
  have s2 : Sy [1, 1, 2, 3] 2 := ⟨by decide, by decide⟩
  have s3 : Sy [1, 1, 2, 3] 3 := ⟨by decide, by decide⟩
  rw [e, xA_of s0, xA_of s2, xA_of s3, nA_of s0, nA_of s2, nA_of s3]
  decide
theorem all_w : AllSy [1, 1, 2, 3] [3, 2, 0] 3 := by
  intro i hi
  rcases (by omega : i = 0 ∨ i = 1 ∨ i = 2) with rfl | rfl | rfl <;> exact ⟨by decide, by decide⟩
set_option maxRecDepth 100000 in
set_option maxHeartbeats 4000000 in
theorem wakes9_con : Con Try.prog 8 [] [] (fun v H R => v = .bool true ∧ H = [] ∧ R = []) := by
  have hT := tbW_ok
  have hp := fun cap cap2 => pack_okP [1, 1, 2, 3] [3, 2, 0] cap cap2 3 (by intro c hc; simp only [List.mem_cons, List.not_mem_nil, or_false] at hc; unfold isU8; omega) (by intro c hc; simp only [List.mem_cons, List.not_mem_nil, or_false] at hc; unfold isU8; omega) wt_w (by decide)
  have hl4 := len_con 4 (by decide)
  rw [show blen 4 = 3 by decide] at hl4
  have hsz := fun cap => size_con [1, 1, 2, 3] cap 3 (by intro c hc; simp only [List.mem_cons, List.not_mem_nil, or_false] at hc; unfold isU8; omega) (by decide) (.inl ⟨3, wt_w, rfl⟩)
  have hpw := pb_w
  have haw := all_w
  simp only [List.length_cons, List.length_nil] at hp hsz
  generalize pb [1, 1, 2, 3] 3 [3, 2, 0] = PB at *
  generalize AllSy [1, 1, 2, 3] [3, 2, 0] = ALL at *
  generalize pack = PK at *
  have hm := hmix
  refine con_gen (con_cut 0 (by simp) (con_drop (con_run 1000 tbW hmix hT fn8 ?_)))
  generalize Try.prog = P at *
  cbv
  repeat (first | refine And.intro ⟨by decide⟩ ?_ | refine And.intro ⟨Nat.le_refl _⟩ ?_ | ((intro _ _ _; skip); cbv; done) | ((intro _ _ _; skip); cbv) | ((intro _ _; skip); cbv) | (intro _; cbv))
  rename_i cA jA hle
  have hle' : 4 ≤ cA := hle.out
  refine ⟨⟨by omega⟩, ?_⟩
  repeat (first | refine And.intro ⟨by decide⟩ ?_ | refine And.intro ⟨Nat.le_refl _⟩ ?_ | ((intro _ _ _; skip); cbv; done) | ((intro _ _ _; skip); cbv) | ((intro _ _; skip); cbv) | (intro _; cbv))
  refine CallX.mono' (fun _ _ h => h) (call_con (ρ := []) hl4 ⟨by rfl, by rfl, by rfl, by cbv⟩ ?_)
  rintro v H R js ⟨rfl, rfl, rfl⟩
  cbv
  refine ⟨⟨by decide⟩, ?_⟩
  refine CallX.mono' (fun _ _ h => h) (call_con (ρ := []) hl4 ⟨by rfl, by rfl, by rfl, by cbv⟩ ?_)
  rintro v H R js ⟨rfl, rfl, rfl⟩
  cbv
  refine ⟨⟨by decide⟩, ⟨by decide⟩, ⟨by omega⟩, ⟨by decide⟩, ?_⟩
  intro c2 j2 hle2
  cbv
  refine CallX.mono' (fun _ _ h => h) (call_con (ρ := [(2, .z)]) (hsz c2) ⟨by rfl, by rfl, by rfl, by cbv; exact ⟨⟨⟨by decide, fun i _ => by rw [Nat.zero_add]; rfl⟩⟩, trivial⟩⟩ ?_)
  rintro v H R js ⟨rfl, rfl, rfl⟩
  cbv
  intro js1
  cbv
  refine CallX.mono' (fun _ _ h => h) (call_con (ρ := [(2, .z), (5, .z)]) (hp c2 3) ⟨by rfl, by rfl, by rfl, by cbv; exact ⟨⟨⟨by decide, fun i _ => by rw [Nat.zero_add]; rfl⟩⟩, ⟨⟨by decide, fun i _ => by rw [Nat.zero_add]⟩⟩, trivial⟩⟩ ?_)
  rintro v H R js ⟨rfl, L, c', rfl, hor⟩
  rcases hor with ⟨_, hbad⟩ | ⟨rfl, hL, _⟩
  · exact (hbad haw).elim
  obtain rfl : L = [104] := hL.trans hpw
  cbv
  exact ⟨⟨by decide, by decide⟩, ⟨by decide⟩, ⟨by decide⟩, ⟨by decide⟩, trivial⟩
end Go.Proofs.Ytaaklikigccdfaa
