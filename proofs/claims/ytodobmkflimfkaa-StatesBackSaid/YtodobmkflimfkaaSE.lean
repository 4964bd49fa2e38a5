import Derived.Test.YtodobmkflimfkaaSD
namespace Go.Proofs.Ytodobmkflimfkaa
open Go Go.Sx Go.Proofs
/-! ### Reading counts, plainly -/
/-- n bits at a place, where they are there. -/
def rdN (b : List Int) (pos n : Nat) : Option Int := if pos + n ≤ 8 * b.length then some (bval (bitL b) pos n) else none
/-- A value, of which the first bits are read: the value, the place behind it. -/
def valR (b : List Int) (pos : Nat) (most v : Int) : Option (Int × Nat) :=
  if v ≥ 2 ^ (blen most).toNat - 1 - most then (match rdN b (pos + (blen most - 1).toNat) 1 with
      | none => none
      | some top => some (if top = 1 then v + (2 ^ (blen most - 1).toNat - (2 ^ (blen most).toNat - 1 - most)) else v, pos + (blen most).toNat))
    else some (v, pos + (blen most - 1).toNat)
theorem valR_low {b : List Int} {pos : Nat} {most v : Int} (h : ¬ v ≥ 2 ^ (blen most).toNat - 1 - most) : valR b pos most v = some (v, pos + (blen most - 1).toNat) := by unfold valR; rw [if_neg h]
theorem valR_none {b : List Int} {pos : Nat} {most v : Int} (h : v ≥ 2 ^ (blen most).toNat - 1 - most) (h2 : rdN b (pos + (blen most - 1).toNat) 1 = none) : valR b pos most v = none := by unfold valR; rw [if_pos h, h2]
theorem valR_some {b : List Int} {pos : Nat} {most v top : Int} (h : v ≥ 2 ^ (blen most).toNat - 1 - most) (h2 : rdN b (pos + (blen most - 1).toNat) 1 = some top) :
    valR b pos most v = some (if top = 1 then v + (2 ^ (blen most - 1).toNat - (2 ^ (blen most).toNat - 1 - most)) else v, pos + (blen most).toNat) := by unfold valR; rw [if_pos h, h2]
/-- What is left to hand out; what was read; the place. In a row of zeros or ahead of a count. The answer: an error, the counts, the place. -/
def readS (b : List Int) (ms : Int) : Nat → Bool → Int → List Int → Nat → Int × List Int × Nat
  | 0, _, _, cs, pos => (0, cs, pos)
  | f + 1, false, left, cs, pos =>
    if left ≤ 0 then (0, cs, pos)
    else if (cs.length : Int) > ms then (11, [], 0)
    else match rdN b pos (blen (left + 1) - 1).toNat with
      | none => (10, [], 0)
      | some v => match valR b pos (left + 1) v with
        | none => (10, [], 0)
        | some (v, pos) => if v - 1 ≠ 0 then readS b ms f false (left - partsN (v - 1)) (cs ++ [v - 1]) pos
          else if ((cs ++ [v - 1]).length : Int) > ms then (11, [], 0) else readS b ms f true (left - partsN (v - 1)) (cs ++ [v - 1]) pos
  | f + 1, true, left, cs, pos => match rdN b pos 2 with
    | none => (10, [], 0)
    | some n => if ((cs ++ List.replicate n.toNat 0).length : Int) > ms then (11, [], 0) else if n = 3 then readS b ms f true left (cs ++ List.replicate n.toNat 0) (pos + 2) else readS b ms f false left (cs ++ List.replicate n.toNat 0) (pos + 2)
/-- The answer of Read: counts, log, how many bytes, error. -/
def readR (b : List Int) (ml ms : Int) : List Int × Int × Int × Int :=
  if ml < 5 ∨ ml > 12 ∨ ms < 0 ∨ ms > 255 then ([], 0, 0, 2)
  else match rdN b 0 4 with
    | none => ([], 0, 0, 10)
    | some x => if x + 5 > ml then ([], 0, 0, 11) else
      if (readS b ms 600 false (2 ^ (x + 5).toNat) [] 4).1 ≠ 0 then ([], 0, 0, (readS b ms 600 false (2 ^ (x + 5).toNat) [] 4).1)
      else ((readS b ms 600 false (2 ^ (x + 5).toNat) [] 4).2.1, x + 5, ((readS b ms 600 false (2 ^ (x + 5).toNat) [] 4).2.2 + 7 : Int) / 8, 0)
theorem rd_rs (b : List Int) (pos cap bl : Nat) (n acc hv ai : Int) (hbl : bl = b.length) (hby : ∀ x ∈ b, isByte x) (hl : b.length ≤ 2 ^ 50) (h : RS b pos acc hv ai) (hn : 0 ≤ n ∧ n ≤ 56) :
    Con Try.prog 77 [.ptr 0 .z 4 0, .int .i64 n] [(.one 131 [.fn 80 [.ptr 1 .z 1 0, .ptr 2 .z 1 0], .int .u64 (acc), .int .i64 (hv), .fn 81 [.ptr 2 .z 1 0, .ptr 1 .z 1 0]]), .one 3 [.int .i64 ai], .one 23 [.slice 3 .z 1 bl cap], .ro .u8 b]
      (fun v H R => R = [] ∧ ∃ acc2 hv2 ai2 x e pos2, v = .tup [.int .u64 x, .int .i64 e] ∧ RS b pos2 acc2 hv2 ai2 ∧
        ((e = 0 ∧ rdN b pos n.toNat = some x ∧ pos2 = pos + n.toNat ∧ 0 ≤ x ∧ x < 2 ^ n.toNat) ∨ (e = 10 ∧ rdN b pos n.toNat = none)) ∧
        H = [(.one 131 [.fn 80 [.ptr 1 .z 1 0, .ptr 2 .z 1 0], .int .u64 (acc2), .int .i64 (hv2), .fn 81 [.ptr 2 .z 1 0, .ptr 1 .z 1 0]]), .one 3 [.int .i64 ai2], .one 23 [.slice 3 .z 1 bl cap], .ro .u8 b]) := by
  subst hbl
  refine (rbits_rs b pos cap n acc hv ai hby hl h).mono ?_
  rintro v H R ⟨rfl, rfl, acc2, hv2, ai2, hrs, rfl⟩
  refine ⟨rfl, acc2, hv2, ai2, _, _, _, rfl, hrs, ?_, rfl⟩
  unfold rbX rbE rbP rdN
  by_cases hp : pos + n.toNat ≤ 8 * b.length
  · have hp' : (pos : Int) + n ≤ 8 * b.length := by omega
    have hb := bval_bound (bitL b) (bitL_bit b) pos n.toNat
    have hc : 0 ≤ n ∧ n ≤ 56 ∧ (pos : Int) + n ≤ 8 * b.length := ⟨hn.1, hn.2, hp'⟩
    simp only [if_pos hc, if_pos hn, if_pos hp', if_pos hp]
    exact .inl ⟨trivial, trivial, trivial, hb⟩
  · have hp' : ¬ (pos : Int) + n ≤ 8 * b.length := by omega
    have hc : ¬ (0 ≤ n ∧ n ≤ 56 ∧ (pos : Int) + n ≤ 8 * b.length) := fun h => hp' h.2.2
    simp only [if_neg hc, if_pos hn, if_neg hp', if_neg hp]
    exact .inr ⟨trivial, trivial⟩
end Go.Proofs.Ytodobmkflimfkaa
namespace Go.Proofs.Ytodobmkflimfkaa
open Go Go.Sx Go.Proofs
set_option maxRecDepth 10000
set_option maxHeartbeats 40000000
theorem read_raw (b : List Int) (cap : Nat) (ml ms : Int) (hby : ∀ x ∈ b, isByte x) (hl : b.length ≤ 140737488355328) (hml : -9223372036854775808 ≤ ml ∧ ml ≤ 9223372036854775807) (hms : -9223372036854775808 ≤ ms ∧ ms ≤ 9223372036854775807)
    (cs0 : List Int) (log0 used0 e0 : Int) (hR : readR b ml ms = (cs0, log0, used0, e0)) :
    Con Try.prog 27 [.slice 0 .z 1 b.length cap, .int .i64 ml, .int .i64 ms] [.ro .u8 b] (fun v H R => dropN 1 R = [] ∧ 1 ≤ H.length ∧ genH (H.take 1) = [.ro .u8 b] ∧
      ((e0 ≠ 0 ∧ gen v = .tup [.val (.slice none 0 0), .int .i64 0, .int .i64 0, .int .i64 e0]) ∨
        (e0 = 0 ∧ 6 ≤ H.length ∧ ∃ c c0 acc hv ai, gen v = .tup [.slice 5 .z 1 cs0.length c, .int .i64 log0, .int .i64 used0, .int .i64 0] ∧
          genH (H.take 6) = [.ro .u8 b, .buf 5 .u8 b c0, .one 23 [.slice 1 .z 1 b.length c0], .one 3 [.int .i64 ai], .one 131 [.fn 80 [.ptr 3 .z 1 0, .ptr 2 .z 1 0], .int .u64 acc, .int .i64 hv, .fn 81 [.ptr 2 .z 1 0, .ptr 3 .z 1 0]], .buf 47 .i16 cs0 c]))) := by
  have hnew := rnew_con b cap hl
  have hrd := @rd_rs b
  have hleft := @rleft_rs b
  have hlen := len_con
  have hparts := parts_con
  have hst0 := RS.start b
  refine con_walk hmix fn27 ?_
  intro vb vc vw vtoN vofN vaddN vsubN vmaxI vminI vcutN vgd vst vln vrep vsub vonto vsplice vstrEq vbyteV vnotB veqB hw qb qc qw qtoN qofN qaddN qsubN qmaxI qminI qcutN qgd qst qln qrep qsub qonto qsplice qstrEq qbyteV qnotB qeqB
  have hm := hmix; generalize Try.prog = P at *
  have hR : (if ml < 5 ∨ ml > 12 ∨ ms < 0 ∨ ms > 255 then ([], 0, 0, 2)
      else match rdN b 0 4 with
        | none => ([], 0, 0, 10)
        | some x => if x + 5 > ml then ([], 0, 0, 11) else
          if (readS b ms 600 false (2 ^ (x + 5).toNat) [] 4).1 ≠ 0 then ([], 0, 0, (readS b ms 600 false (2 ^ (x + 5).toNat) [] 4).1)
          else ((readS b ms 600 false (2 ^ (x + 5).toNat) [] 4).2.1, x + 5, ((readS b ms 600 false (2 ^ (x + 5).toNat) [] 4).2.2 + 7 : Int) / 8, 0)) = (cs0, log0, used0, e0) := hR
  generalize hbl : b.length = bl at *
  cbv
  generalize h1 : vc .lss ml 5 = z1
  cases z1
  rotate_left
  · rw [qc, lss_true] at h1
    have he0 : e0 = 2 := by
      rw [if_pos (by omega)] at hR; simp only [Prod.mk.injEq] at hR; exact hR.2.2.2.symm
    cbv
    exact .inl ⟨by rw [he0]; decide, by rw [he0]⟩
  rw [qc, lss_false] at h1
  cbv
  generalize h2 : vc .gtr ml 12 = z2
  cases z2
  rotate_left
  · rw [qc, gtr_true] at h2
    have he0 : e0 = 2 := by
      rw [if_pos (by omega)] at hR; simp only [Prod.mk.injEq] at hR; exact hR.2.2.2.symm
    cbv
    exact .inl ⟨by rw [he0]; decide, by rw [he0]⟩
  rw [qc, gtr_false] at h2
  cbv
  generalize h3 : vc .lss ms 0 = z3
  cases z3
  rotate_left
  · rw [qc, lss_true] at h3
    have he0 : e0 = 2 := by
      rw [if_pos (by omega)] at hR; simp only [Prod.mk.injEq] at hR; exact hR.2.2.2.symm
    cbv
    exact .inl ⟨by rw [he0]; decide, by rw [he0]⟩
  rw [qc, lss_false] at h3
  cbv
  generalize h4 : vc .gtr ms 255 = z4
  cases z4
  rotate_left
  · rw [qc, gtr_true] at h4
    have he0 : e0 = 2 := by
      rw [if_pos (by omega)] at hR; simp only [Prod.mk.injEq] at hR; exact hR.2.2.2.symm
    cbv
    exact .inl ⟨by rw [he0]; decide, by rw [he0]⟩
  rw [qc, gtr_false] at h4
  rw [if_neg (by omega)] at hR
  cbv
  refine call_con (ρ := [(0, .z)]) hnew ⟨by rfl, by rfl, by rfl, by cbv; exact ⟨view_refl _, trivial⟩⟩ ?_
  rintro v H R js ⟨rfl, rfl, c0, rfl⟩
  have hrd4 := hrd 0 c0 bl 4 0 0 0 rfl hby (by omega) hst0 (by omega)
  cbv
  refine call_con (ρ := [(4, .z), (3, .z), (2, .z), (1, .z)]) hrd4 ⟨by rfl, by rfl, by rfl, by cbv; exact ⟨view_refl _, trivial⟩⟩ ?_
  rintro v H R js2 ⟨rfl, acc2, hv2, ai2, x, e, pos2, rfl, hrs, hcase, rfl⟩
  cbv
  have h00 : vc .neq 0 0 = false := by rw [qc]; rfl
  have h100 : vc .neq 10 0 = true := by rw [qc]; rfl
  rcases hcase with ⟨rfl, hrd1, rfl, hx0, hx1⟩ | ⟨rfl, hrd1⟩
  rotate_left
  · rw [h100]
    have he0 : e0 = 10 := by
      have hrd1 : rdN b 0 4 = none := hrd1
      rw [hrd1] at hR; simp only [Prod.mk.injEq] at hR; exact hR.2.2.2.symm
    cbv
    exact .inl ⟨by rw [he0]; decide, by rw [he0]⟩
  have hrd1 : rdN b 0 4 = some x := hrd1
  have hx1 : x < 16 := hx1
  rw [hrd1] at hR
  simp only at hR
  rw [h00]
  have ew1 : vw .i64 x = x := by rw [qw]; exact wrap_i64 (by omega) (by omega)
  have ea1 : vb .add .i64 x 5 = x + 5 := by rw [qb, add_i64 (by omega) (by omega)]
  obtain ⟨lg, hlg⟩ : ∃ lg : Int, lg = x + 5 := ⟨_, rfl⟩
  rw [← hlg] at ea1 hR
  cbv
  rw [ew1, ea1]
  generalize h5 : vc .gtr lg ml = z5
  cases z5
  rotate_left
  · rw [qc, gtr_true] at h5
    have he0 : e0 = 11 := by
      rw [if_pos (by omega)] at hR; simp only [Prod.mk.injEq] at hR; exact hR.2.2.2.symm
    cbv
    exact .inl ⟨by rw [he0]; decide, by rw [he0]⟩
  rw [qc, gtr_false] at h5
  rw [if_neg (by omega)] at hR
  have e2 : vw .u64 lg = lg := by rw [qw]; exact wrap_u64 (by omega) (by omega)
  have e3 : vb .shl .i64 1 lg = 2 ^ lg.toNat := by rw [qb, one_shl (by omega) (by omega)]
  have hpl := pow_log (log := lg) (by omega)
  generalize hpw : (2 : Int) ^ lg.toNat = pw at *
  have hfuel : ∃ RES, readS b ms 600 false pw [] 4 = RES := ⟨_, rfl⟩
  obtain ⟨RES, hRES⟩ := hfuel
  rw [hRES] at hR
  have hbad : ∀ E : Int, E ≠ 0 → RES = (E, [], 0) → e0 = E := by
    intro E hE h
    rw [h] at hR
    simp only at hR
    rw [if_pos hE] at hR
    simp only [Prod.mk.injEq] at hR
    exact hR.2.2.2.symm
  have hgood : ∀ cs pos, RES = (0, cs, pos) → cs0 = cs ∧ log0 = lg ∧ used0 = ((pos : Int) + 7) / 8 ∧ e0 = 0 := by
    intro cs pos h
    rw [h] at hR
    simp only at hR
    rw [if_neg (by decide)] at hR
    simp only [Prod.mk.injEq] at hR
    exact ⟨hR.1.symm, hR.2.1.symm, hR.2.2.1.symm, hR.2.2.2.symm⟩
  clear hR hrd4 hrd1 hst0
  have hrS := readS.eq_def
  cbv
  rw [e2, e3]
  refine ⟨⟨by omega⟩, ?_⟩
  refine WX.cv (Cv.nilT 6 47 .i16 (by rfl) (by cbv; try exact ⟨fun _ => rfl, trivial⟩) (Cv.here ?_))
  cbv
  refine loop_fam (α := Nat × Int × List Int × Nat × Nat × Nat × Int × Int × Int) ([13, 14, 15, 16, 17, 18, 19, 20] ++ [54, 55, 56, 57, 58, 59, 60, 61, 62, 63, 64, 65, 66, 67, 68, 69, 70, 71, 72, 73, 74, 75, 76, 77, 78, 79, 80, 81, 82, 83, 84, 85, 86, 87, 88, 89, 90, 91, 92, 93, 94, 95, 96, 97, 98, 99, 100, 101, 102, 103, 104, 105, 106, 107, 108, 109, 110, 111, 112, 113, 114, 115, 116, 117, 118, 119, 120, 121, 122, 123, 124, 125, 126, 127, 128, 129, 130, 131, 132, 133, 134, 135, 136]) [5]
    (fun (f, left, cs, rl, c, pos, acc, hv, ai) => [(12, .int .i64 left), (6, .slice 5 .z 1 rl c)])
    (fun (f, left, cs, rl, c, pos, acc, hv, ai) => [(3, .one 3 [.int .i64 ai]), (4, .one 131 [.fn 80 [.ptr 3 .z 1 0, .ptr 2 .z 1 0], .int .u64 acc, .int .i64 hv, .fn 81 [.ptr 2 .z 1 0, .ptr 3 .z 1 0]]), (5, .buf 47 .i16 cs c)])
    (fun (f, left, cs, rl, c, pos, acc, hv, ai) => readS b ms f false left cs pos = RES ∧ 600 ≤ f + 2 * cs.length ∧ cs.length ≤ 256 ∧ rl = cs.length ∧ RS b pos acc hv ai ∧ left ≤ 4096)
    (fun (f, left, cs, rl, c, pos, acc, hv, ai) => f) hw hm ?_ ?_
  · refine Cv.genAt [] [3, 4] (Cv.fold ([13, 14, 15, 16, 17, 18, 19, 20] ++ [54, 55, 56, 57, 58, 59, 60, 61, 62, 63, 64, 65, 66, 67, 68, 69, 70, 71, 72, 73, 74, 75, 76, 77, 78, 79, 80, 81, 82, 83, 84, 85, 86, 87, 88, 89, 90, 91, 92, 93, 94, 95, 96, 97, 98, 99, 100, 101, 102, 103, 104, 105, 106, 107, 108, 109, 110, 111, 112, 113, 114, 115, 116, 117, 118, 119, 120, 121, 122, 123, 124, 125, 126, 127, 128, 129, 130, 131, 132, 133, 134, 135, 136]) 6 [5] (by exact Nat.le_refl _) (by exact Nat.le_of_ble_eq_true rfl) (by rfl) (by cbv) ?_)
    intro js
    refine ⟨(600, _, _, _, _, 4, _, _, _), ?_, js, rfl⟩
    exact ⟨hRES, by omega, by simp, rfl, hrs, by omega⟩
  · rintro ⟨f, left, cs, rl, c, pos, acc, hv, ai⟩ js ⟨hS, hf, hcl, hrl, hrs3, hle⟩
    obtain ⟨g, rfl⟩ : ∃ g, f = g + 1 := ⟨f - 1, by omega⟩
    have hofn : vofN rl = (rl : Int) := by simp only [qofN]
    rw [readS] at hS
    cbv
    split
    rotate_left
    · rename_i hz
      rw [qc, gtr_false] at hz
      rw [if_pos (by omega)] at hS
      obtain ⟨rfl, rfl, hu, he0⟩ := hgood _ _ hS.symm
      have hlf := hleft pos c0 acc hv ai (by omega) hrs3
      have hposb : (pos : Int) ≤ 8 * bl := by
        obtain ⟨at', h1, h2, h3, _⟩ := hrs3
        simp only [nc] at *
        omega
      obtain ⟨lf, hlf1⟩ : ∃ lf : Int, lf = 8 * (bl : Int) - pos := ⟨_, rfl⟩
      simp only [nc] at hlf
      rw [← hlf1] at hlf
      have eq8 : vb .quo .i64 lf 8 = lf / 8 := by rw [qb, quo_i64 (by omega) (by omega) (by omega)]
      have hofb : vofN bl = (bl : Int) := by simp only [qofN]
      have eu : vb .sub .i64 (vofN bl) (lf / 8) = used0 := by rw [hofb, qb, sub_i64 (by omega) (by omega), hu]; simp only [nc] at *; omega
      cbv
      refine call_con (ρ := [(4, .z), (3, .z), (2, .z), (1, .z)]) hlf ⟨by rfl, by rfl, by rfl, by cbv; exact ⟨view_refl _, trivial⟩⟩ ?_
      rintro v H R js3 ⟨rfl, rfl, rfl⟩
      cbv
      rw [eq8, eu, hrl]
      exact .inr ⟨he0, c, c0, acc, hv, ai, rfl, rfl⟩
    · rename_i hz
      rw [qc, gtr_true] at hz
      rw [if_neg (by omega)] at hS
      cbv
      generalize hz2 : vc .gtr (vofN rl) ms = z2
      cases z2
      rotate_left
      · rw [qc, gtr_true, hofn] at hz2
        rw [if_pos (by simp only [nc] at *; omega)] at hS
        have he0 := hbad 11 (by decide) hS.symm
        cbv
        exact .inl ⟨by rw [he0]; decide, by rw [he0]⟩
      rw [qc, gtr_false, hofn] at hz2
      rw [if_neg (by simp only [nc] at *; omega)] at hS
      have ea : vb .add .i64 left 1 = left + 1 := by rw [qb, add_i64 (by omega) (by omega)]
      obtain ⟨mo, hmo⟩ : ∃ mo : Int, mo = left + 1 := ⟨_, rfl⟩
      rw [← hmo] at ea hS
      have eb : vw .u64 mo = mo := by rw [qw]; exact wrap_u64 (by omega) (by omega)
      have hl1 := hlen mo (by omega)
      have hmax := blen_max (x := mo) (by omega) (by omega)
      obtain ⟨mk, hmk, hmk1, hmk2⟩ := blen_spec (x := mo) (by omega)
      have hvA := fun v => @valR_low b pos mo v
      have hvB := fun v => @valR_none b pos mo v
      have hvC := fun v top => @valR_some b pos mo v top
      generalize valR b pos mo = VR at *
      generalize blen mo = mb at *
      have ec : vw .u64 mb = mb := by rw [qw]; exact wrap_u64 (by omega) (by omega)
      have ed : vb .shl .i64 1 mb = 2 ^ mb.toNat := by rw [qb, one_shl62 (by omega) (by omega)]
      have ee : vb .sub .i64 mb 1 = mb - 1 := by rw [qb, sub_i64 (by omega) (by omega)]
      have ee2 : vw .u64 (mb - 1) = mb - 1 := by rw [qw]; exact wrap_u64 (by omega) (by omega)
      have ef : vb .shl .u64 1 (mb - 1) = 2 ^ (mb - 1).toNat := by
        have e : (mb - 1).toNat = mk := by omega
        have e4 : mb - 1 = (mk : Int) := by omega
        rw [e, e4, qb]
        show IntKind.u64.wrap (1 * 2 ^ (min ((mk : Int).toNat) IntKind.u64.bits)) = 2 ^ mk
        have e2 : min ((mk : Int).toNat) IntKind.u64.bits = mk := by simp [IntKind.bits]; omega
        have hp : (2 : Int) ^ mk ≤ 2 ^ 12 := by exact_mod_cast Nat.pow_le_pow_right (by omega : 0 < 2) (by omega : mk ≤ 12)
        have hp0 : (0 : Int) < 2 ^ mk := Int.pow_pos (by omega)
        rw [e2, Int.one_mul]
        exact wrap_u64 (by omega) (by omega)
      have hpm : (2 : Int) ^ mb.toNat = 2 ^ (mk + 1) := by rw [hmk]; rfl
      have hmbt : (mb - 1).toNat = mk := by omega
      have hmbt2 : mb.toNat = mk + 1 := by omega
      have hpw2 : (2 : Int) ^ (mk + 1) = 2 * 2 ^ mk := by rw [Int.pow_succ]; omega
      rw [hpm, hpw2] at ed
      rw [hmbt] at ef hS
      simp only [hmbt, hmbt2, hpw2] at hvA hvB hvC
      rw [hpw2] at hmk2
      have hqq : (2 : Int) ^ mk ≤ 2 ^ 12 := by exact_mod_cast Nat.pow_le_pow_right (by omega : 0 < 2) (by omega : mk ≤ 12)
      have hrdm := hrd pos c0 bl (mb - 1) acc hv ai rfl hby (by omega) hrs3 (by omega)
      rw [hmbt] at hrdm
      generalize hq : (2 : Int) ^ mk = q at *
      have eg : vb .sub .i64 (2 * q) 1 = 2 * q - 1 := by rw [qb, sub_i64 (by omega) (by omega)]
      have eh : vb .sub .i64 (2 * q - 1) mo = 2 * q - 1 - mo := by rw [qb, sub_i64 (by omega) (by omega)]
      have ehw : vw .u64 (2 * q - 1 - mo) = 2 * q - 1 - mo := by rw [qw]; exact wrap_u64 (by omega) (by omega)
      have ei : vb .sub .u64 q (2 * q - 1 - mo) = q - (2 * q - 1 - mo) := by rw [qb]; show IntKind.u64.wrap _ = _; exact wrap_u64 (by omega) (by omega)
      obtain ⟨tt, htt⟩ : ∃ tt : Int, tt = 2 * q - 1 - mo := ⟨_, rfl⟩
      rw [← htt] at eh ehw ei
      simp only [hq, ← htt] at hvA hvB hvC
      generalize hq21 : 2 * q - 1 = q21 at *
      generalize hq2 : 2 * q = q2 at *
      generalize hmb1 : mb - 1 = mb1 at *
      cbv
      rw [ea, eb]
      refine call_con (ρ := []) hl1 ⟨by rfl, by rfl, by rfl, by cbv⟩ ?_
      rintro v H R js3 ⟨rfl, rfl, rfl⟩
      cbv
      rw [ec, ed, eg, ea, eh, ehw, ee]
      refine ⟨⟨by omega⟩, ?_⟩
      refine call_con (ρ := [(4, .z), (3, .z), (2, .z), (1, .z)]) hrdm ⟨by rfl, by rfl, by rfl, by cbv; exact ⟨view_refl _, trivial⟩⟩ ?_
      rintro v H R js4 ⟨rfl, acc3, hv3, ai3, v1, e1, pos3, rfl, hrs4, hcase, rfl⟩
      cbv
      rcases hcase with ⟨rfl, hrd1, rfl, hv0, hv1⟩ | ⟨rfl, hrd1⟩
      rotate_left
      · rw [hrd1] at hS
        have he0 := hbad 10 (by decide) hS.symm
        rw [h100]
        cbv
        exact .inl ⟨by rw [he0]; decide, by rw [he0]⟩
      rw [hrd1] at hS
      simp only at hS
      rw [h00]
      cbv
      have hrd1b := fun acc hv ai h => hrd (pos + mk) c0 bl 1 acc hv ai rfl hby (by omega) h (by omega)
      generalize hz7 : vc .geq v1 tt = z7
      have hfin : ∀ (vv : Int) (pp : Nat), VR v1 = some (vv, pp) → (if vv - 1 ≠ 0 then readS b ms g false (left - partsN (vv - 1)) (cs ++ [vv - 1]) pp
          else if ((cs ++ [vv - 1]).length : Int) > ms then (11, [], 0) else readS b ms g true (left - partsN (vv - 1)) (cs ++ [vv - 1]) pp) = RES := by
        intro vv pp h
        rw [h] at hS
        exact hS
      cases z7
      rw [qc, geq_false] at hz7
      have hval : ∃ (vv : Int) (pp : Nat), vv = v1 ∧ pp = pos + mk ∧ VR v1 = some (vv, pp) ∧ 0 ≤ vv ∧ vv ≤ 8192 := ⟨_, _, rfl, rfl, hvA _ (by omega), by omega, by omega⟩
      obtain ⟨vv, pp, rfl, hpp, hvr, hvv0, hvv1⟩ := hval
      rw [← hpp] at hrs4
      have hrsF := hrs4
      cbv
      rotate_left
      rw [qc, geq_true] at hz7
      cbv
      refine call_con (ρ := [(4, .z), (3, .z), (2, .z), (1, .z)]) (hrd1b _ _ _ hrs4) ⟨by rfl, by rfl, by rfl, by cbv; exact ⟨view_refl _, trivial⟩⟩ ?_
      rintro v H R js5 ⟨rfl, accF, hvF, aiF, top, e2, pp, rfl, hrsF, hcase2, rfl⟩
      cbv
      rcases hcase2 with ⟨rfl, hrd2, hpp, ht0, ht1⟩ | ⟨rfl, hrd2⟩
      rotate_left
      · rw [hvB _ (by omega) hrd2] at hS
        have he0 := hbad 10 (by decide) hS.symm
        rw [h100]
        cbv
        exact .inl ⟨by rw [he0]; decide, by rw [he0]⟩
      rotate_left
      have hvr := hvC _ _ (by omega) hrd2
      rw [h00]
      cbv
      generalize hz8 : vc .eql top 1 = z8
      cases z8
      rw [qc, eql_false] at hz8
      rw [if_neg hz8] at hvr
      have hval : ∃ (vv : Int), vv = v1 ∧ VR v1 = some (vv, pp) ∧ 0 ≤ vv ∧ vv ≤ 8192 := ⟨_, rfl, by rw [hvr, hpp]; rfl, by omega, by omega⟩
      clear hvr
      obtain ⟨vv, rfl, hvr, hvv0, hvv1⟩ := hval
      cbv
      rotate_left
      rw [qc, eql_true] at hz8
      rw [if_pos hz8] at hvr
      have ej : vb .add .u64 v1 (q - tt) = v1 + (q - tt) := by rw [qb, add_u64 (by omega) (by omega)]
      have hval : ∃ (vv : Int), vv = v1 + (q - tt) ∧ VR v1 = some (vv, pp) ∧ 0 ≤ vv ∧ vv ≤ 8192 := ⟨_, rfl, by rw [hvr, hpp]; rfl, by omega, by omega⟩
      clear hvr
      obtain ⟨vv, hvv, hvr, hvv0, hvv1⟩ := hval
      rw [← hvv] at ej
      cbv
      rw [ee, ee2, ef, ei, ej]
      refine ⟨⟨by omega⟩, ?_⟩
      all_goals
        have hS2 := hfin _ _ hvr
        clear hfin hS hvA hvB hvC
        have ek : vw .i16 vv = vv := by rw [qw]; exact wrap_i16 (by omega) (by omega)
        have el : vb .sub .i16 vv 1 = vv - 1 := by rw [qb]; show IntKind.i16.wrap _ = _; exact wrap_i16 (by omega) (by omega)
        obtain ⟨cc, hcc⟩ : ∃ cc : Int, cc = vv - 1 := ⟨_, rfl⟩
        rw [← hcc] at el hS2
        have hpc := hparts cc (by unfold isI16; omega)
        have hpn := partsN_le (c := cc) (by unfold isI16; omega)
        generalize partsN cc = pc at *
        have em : vb .sub .i64 left pc = left - pc := by rw [qb, sub_i64 (by omega) (by omega)]
        obtain ⟨left2, hl2⟩ : ∃ left2 : Int, left2 = left - pc := ⟨_, rfl⟩
        rw [← hl2] at em hS2
        have hvln : vln cs = rl := by simp only [qln, hrl]
        have hsub : vsub [cc] 0 1 = [cc] := by simp only [qsub]; rfl
        have honto : vonto cs rl [cc] = cs ++ [cc] := by rw [qonto, hrl]; simp
        have hln1 : vln [cc] = 1 := by simp only [qln]; rfl
        have ha1 : vaddN rl 1 = rl + 1 := by simp only [qaddN]
        have ha01 : vaddN 0 1 = 1 := by simp only [qaddN]
        have hrl40 : rl ≤ 256 := by omega
        obtain ⟨cs2, hcs2⟩ : ∃ cs2 : List Int, cs2 = cs ++ [cc] := ⟨_, rfl⟩
        have hcl2 : cs2.length = rl + 1 := by rw [hcs2, List.length_append, hrl]; rfl
        rw [← hcs2] at honto hS2
        obtain ⟨rl2, hrl2⟩ : ∃ rl2 : Nat, rl2 = rl + 1 := ⟨_, rfl⟩
        rw [← hrl2] at ha1 hcl2
        have hofn2 : vofN rl2 = (rl2 : Int) := by simp only [qofN]
        rw [ek, el]
        refine ⟨⟨by rw [ha01, hln1]; exact Nat.le_refl _⟩, ⟨by rw [hvln]; exact Nat.le_refl _⟩, ⟨Nat.le_refl _⟩, ⟨by rw [ha1]; omega⟩, ?_⟩
        intro c4 js6 hle4
        cbv
        refine call_con (ρ := []) hpc ⟨by rfl, by rfl, by rfl, by cbv⟩ ?_
        rintro v H R js7 ⟨rfl, rfl, rfl⟩
        cbv
        rw [em, hsub, honto, ha1]
        generalize hz9 : vc .neq cc 0 = z9
        cases z9
        rotate_left
        · rw [qc, neq_true] at hz9
          rw [if_pos hz9] at hS2
          cbv
          refine Cv.fold ([13, 14, 15, 16, 17, 18, 19, 20] ++ [54, 55, 56, 57, 58, 59, 60, 61, 62, 63, 64, 65, 66, 67, 68, 69, 70, 71, 72, 73, 74, 75, 76, 77, 78, 79, 80, 81, 82, 83, 84, 85, 86, 87, 88, 89, 90, 91, 92, 93, 94, 95, 96, 97, 98, 99, 100, 101, 102, 103, 104, 105, 106, 107, 108, 109, 110, 111, 112, 113, 114, 115, 116, 117, 118, 119, 120, 121, 122, 123, 124, 125, 126, 127, 128, 129, 130, 131, 132, 133, 134, 135, 136]) 6 [5] (by exact Nat.le_refl _) (by exact Nat.le_of_ble_eq_true rfl) (by rfl) (by cbv) ?_
          intro js
          refine ⟨(g, _, _, _, _, pp, _, _, _), ?_, js, rfl⟩
          refine ⟨⟨hS2, by omega, by simp only [nc] at *; omega, hcl2.symm, hrsF, by omega⟩, ?_⟩
          show g < g + 1
          omega
        rw [qc, neq_false] at hz9
        rw [if_neg hz9] at hS2
        cbv
        generalize hz10 : vc .gtr (vofN rl2) ms = z10
        cases z10
        rotate_left
        · rw [qc, gtr_true, hofn2] at hz10
          rw [if_pos (by simp only [nc] at *; omega)] at hS2
          have he0 := hbad 11 (by decide) hS2.symm
          cbv
          exact .inl ⟨by rw [he0]; decide, by rw [he0]⟩
        rw [qc, gtr_false, hofn2] at hz10
        rw [if_neg (by simp only [nc] at *; omega)] at hS2
        cbv
        refine loop_fam (α := Nat × Int × List Int × Nat × Nat × Nat × Int × Int × Int) ([16, 56, 106, 109, 116] ++ [120, 121, 122, 123, 124, 125, 126, 127, 128, 129, 130, 131, 132, 133, 134, 135, 136]) [5]
          (fun (f, nn, cs, rl, c, pos, acc, hv, ai) => [(20, .int .u64 nn), (6, .slice 5 .z 1 rl c)])
          (fun (f, nn, cs, rl, c, pos, acc, hv, ai) => [(3, .one 3 [.int .i64 ai]), (4, .one 131 [.fn 80 [.ptr 3 .z 1 0, .ptr 2 .z 1 0], .int .u64 acc, .int .i64 hv, .fn 81 [.ptr 2 .z 1 0, .ptr 3 .z 1 0]]), (5, .buf 47 .i16 cs c)])
          (fun (f, nn, cs, rl, c, pos, acc, hv, ai) => ((nn = 3 ∧ readS b ms f true left2 cs pos = RES ∧ 601 ≤ f + 2 * cs.length) ∨ (nn ≠ 3 ∧ readS b ms f false left2 cs pos = RES ∧ 600 ≤ f + 2 * cs.length)) ∧ cs.length ≤ 256 ∧ rl = cs.length ∧ RS b pos acc hv ai ∧ f ≤ g)
          (fun (f, nn, cs, rl, c, pos, acc, hv, ai) => f) hw hm ?_ ?_
        · refine Cv.genAt [20] [] (Cv.fold ([16, 56, 106, 109, 116] ++ [120, 121, 122, 123, 124, 125, 126, 127, 128, 129, 130, 131, 132, 133, 134, 135, 136]) 7 [5] (by exact Nat.le_refl _) (by exact Nat.le_of_ble_eq_true rfl) (by rfl) (by cbv) ?_)
          intro js
          refine ⟨(g, _, _, _, _, pp, _, _, _), ?_, js, rfl⟩
          exact ⟨.inl ⟨rfl, hS2, by omega⟩, by simp only [nc] at *; omega, hcl2.symm, hrsF, Nat.le_refl _⟩
        · rintro ⟨f5, nn, cs5, rl5, c5, pos5, acc5, hv5, ai5⟩ js ⟨hS5, hcl5, hrl5, hrs5, hf5⟩
          clear hS2
          cbv
          split
          rotate_left
          · rename_i hz11
            rw [qc, eql_false] at hz11
            obtain ⟨_, hS6, hf6⟩ := hS5.resolve_left (fun h => hz11 h.1)
            cbv
            refine Cv.fold ([13, 14, 15, 16, 17, 18, 19, 20] ++ [54, 55, 56, 57, 58, 59, 60, 61, 62, 63, 64, 65, 66, 67, 68, 69, 70, 71, 72, 73, 74, 75, 76, 77, 78, 79, 80, 81, 82, 83, 84, 85, 86, 87, 88, 89, 90, 91, 92, 93, 94, 95, 96, 97, 98, 99, 100, 101, 102, 103, 104, 105, 106, 107, 108, 109, 110, 111, 112, 113, 114, 115, 116, 117, 118, 119, 120, 121, 122, 123, 124, 125, 126, 127, 128, 129, 130, 131, 132, 133, 134, 135, 136]) 6 [5] (by exact Nat.le_refl _) (by exact Nat.le_of_ble_eq_true rfl) (by rfl) (by cbv) ?_
            intro js
            refine ⟨(f5, _, _, _, _, pos5, _, _, _), ?_, js, rfl⟩
            refine ⟨⟨hS6, hf6, hcl5, hrl5, hrs5, by omega⟩, ?_⟩
            show f5 < g + 1
            omega
          · rename_i hz11
            rw [qc, eql_true] at hz11
            obtain ⟨_, hS6, hf6⟩ := hS5.resolve_right (fun h => h.1 hz11)
            obtain ⟨g5, rfl⟩ : ∃ g5, f5 = g5 + 1 := ⟨f5 - 1, by omega⟩
            rw [readS] at hS6
            have hrd5 := hrd pos5 c0 bl 2 acc5 hv5 ai5 rfl hby (by omega) hrs5 (by omega)
            cbv
            refine call_con (ρ := [(4, .z), (3, .z), (2, .z), (1, .z)]) hrd5 ⟨by rfl, by rfl, by rfl, by cbv; exact ⟨view_refl _, trivial⟩⟩ ?_
            rintro v H R js8 ⟨rfl, acc6, hv6, ai6, n2, e2, pos6, rfl, hrs6, hcase6, rfl⟩
            cbv
            rcases hcase6 with ⟨rfl, hrd6, hpos6, hn0, hn1⟩ | ⟨rfl, hrd6⟩
            rotate_left
            · have hrd6 : rdN b pos5 2 = none := hrd6
              rw [hrd6] at hS6
              have he0 := hbad 10 (by decide) hS6.symm
              rw [h100]
              cbv
              exact .inl ⟨by rw [he0]; decide, by rw [he0]⟩
            have hrd6 : rdN b pos5 2 = some n2 := hrd6
            have hpos6 : pos6 = pos5 + 2 := hpos6
            have hn1 : n2 < 4 := hn1
            rw [hrd6] at hS6
            simp only at hS6
            rw [← hpos6] at hS6
            have htn : vtoN n2 = n2.toNat := by simp only [qtoN]
            have hrep : vrep n2.toNat 0 = List.replicate n2.toNat 0 := by simp only [qrep]
            have honto5 : vonto cs5 rl5 (List.replicate n2.toNat 0) = cs5 ++ List.replicate n2.toNat 0 := by rw [qonto, hrl5]; simp
            obtain ⟨cs7, hcs7⟩ : ∃ cs7 : List Int, cs7 = cs5 ++ List.replicate n2.toNat 0 := ⟨_, rfl⟩
            rw [← hcs7] at hS6 honto5
            have hvln5 : vln cs5 = rl5 := by simp only [qln, hrl5]
            have ha5 : vaddN rl5 n2.toNat = rl5 + n2.toNat := by simp only [qaddN]
            have hcl7 : cs7.length = rl5 + n2.toNat := by rw [hcs7, List.length_append, List.length_replicate, hrl5]
            have hrl5b : rl5 ≤ 256 := by omega
            have hnN4 : n2.toNat < 4 := by omega
            obtain ⟨rl7, hrl7⟩ : ∃ rl7 : Nat, rl7 = rl5 + n2.toNat := ⟨_, rfl⟩
            rw [← hrl7] at ha5 hcl7
            have hofn7 : vofN rl7 = (rl7 : Int) := by simp only [qofN]
            clear hcs7
            generalize hrepv : List.replicate n2.toNat (0 : Int) = rep at *
            generalize hnNv : n2.toNat = nN at *
            rw [h00]
            cbv
            rw [htn, hrep, ha5]
            refine ⟨⟨hn0⟩, ⟨by omega⟩, ⟨by rw [hvln5]; exact Nat.le_refl _⟩, ⟨Nat.le_refl _⟩, ⟨by omega⟩, ?_⟩
            intro c7 js9 hle7
            cbv
            rw [honto5, ha5]
            generalize hz12 : vc .gtr (vofN rl7) ms = z12
            cases z12
            rotate_left
            · rw [qc, gtr_true, hofn7] at hz12
              rw [if_pos (by simp only [nc] at *; omega)] at hS6
              have he0 := hbad 11 (by decide) hS6.symm
              cbv
              exact .inl ⟨by rw [he0]; decide, by rw [he0]⟩
            · rw [qc, gtr_false, hofn7] at hz12
              rw [if_neg (by simp only [nc] at *; omega)] at hS6
              cbv
              refine Cv.fold ([16, 56, 106, 109, 116] ++ [120, 121, 122, 123, 124, 125, 126, 127, 128, 129, 130, 131, 132, 133, 134, 135, 136]) 7 [5] (by exact Nat.le_refl _) (by exact Nat.le_of_ble_eq_true rfl) (by rfl) (by cbv) ?_
              intro js
              refine ⟨(g5, _, _, _, _, pos6, _, _, _), ?_, js, rfl⟩
              refine ⟨⟨?_, by simp only [nc] at *; omega, hcl7.symm, hrs6, by omega⟩, ?_⟩
              · by_cases h3 : n2 = 3
                · rw [if_pos h3] at hS6
                  exact .inl ⟨h3, hS6, by omega⟩
                · rw [if_neg h3] at hS6
                  exact .inr ⟨h3, hS6, by omega⟩
              · show g5 < g5 + 1
                omega
end Go.Proofs.Ytodobmkflimfkaa
namespace Go.Proofs.Ytodobmkflimfkaa
open Go Go.Sx Go.Proofs
/-! ### What is told is read -/
theorem rdN_at {b W pre rest : List Int} {x : Int} {n j k : Nat} (hb : ∀ i, i < W.length → (bitL b).getD i 0 = W.getD i 0) (hlen : W.length ≤ 8 * b.length) (hW : W = pre ++ bitsN x n ++ rest) (hjk : j + k ≤ n) :
    rdN b (pre.length + j) k = some (x / 2 ^ j % 2 ^ k) := by
  have hl : pre.length + n ≤ W.length := by rw [hW, List.length_append, List.length_append, bitsN_length]; omega
  unfold rdN
  rw [if_pos (by omega)]
  congr 1
  refine bval_of_bits _ _ _ _ (fun t ht => ?_)
  rw [hb _ (by omega), hW, List.append_assoc, List.getD_eq_getElem?_getD, List.getElem?_append_right (by omega), List.getElem?_append_left (by rw [bitsN_length]; omega)]
  have e : pre.length + j + t - pre.length = j + t := by omega
  rw [e]
  have hjt : j + t < n := by omega
  simp only [bitsN, List.getElem?_map, List.getElem?_range hjt, Option.map_some, Option.getD_some]
  rw [Int.pow_add, Int.ediv_ediv_of_nonneg (by exact Int.pow_nonneg (by omega))]
theorem isByte_behind {W behind : List Int} (hW : ∀ x ∈ W, isBit x) (i : Nat) (hi : i < W.length) : (bitL (pack W ++ behind)).getD i 0 = W.getD i 0 := by
  have hpl := pack_length W
  rw [bitL_get _ _ (by rw [List.length_append]; omega)]
  have h2 : bitAt (pack W) i = W.getD i 0 := bitAt_pack W hW i
  rw [← h2]
  unfold bitAt
  rw [if_pos (by omega), if_pos (by omega)]
  congr 2
  have e : ((i : Int) / 8).toNat < (pack W).length := by omega
  rw [List.getD_eq_getElem?_getD, List.getElem?_append_left e, ← List.getD_eq_getElem?_getD]
/-- A value that is told is read. -/
theorem readV {b W pre rest : List Int} {v most : Int} (hb : ∀ i, i < W.length → (bitL b).getD i 0 = W.getD i 0) (hlen : W.length ≤ 8 * b.length) (hW : W = pre ++ putV v most ++ rest) (hv : 0 ≤ v ∧ v ≤ most) (hm : 2 ≤ most) :
    ∃ v0, rdN b pre.length (blen most - 1).toNat = some v0 ∧ valR b pre.length most v0 = some (v, pre.length + (putV v most).length) := by
  obtain ⟨mk, h1, h2, h3⟩ := blen_spec (x := most) (by omega)
  unfold valR
  have e1 : (blen most).toNat = mk + 1 := by omega
  have e2 : (blen most - 1).toNat = mk := by omega
  have e3 : (2 : Int) ^ (mk + 1) = 2 * 2 ^ mk := by rw [Int.pow_succ]; omega
  unfold putV at hW ⊢
  rw [e1, e2] at hW ⊢
  rw [e3] at hW ⊢ h3
  have hq0 : (0 : Int) < 2 ^ mk := Int.pow_pos (by omega)
  generalize hq : (2 : Int) ^ mk = q at *
  have hz : ∀ x : Int, x / 2 ^ 0 = x := fun x => by simp
  by_cases c1 : v < 2 * q - 1 - most
  · rw [if_pos c1] at hW ⊢
    have hr := rdN_at (j := 0) (k := mk) hb hlen hW (by omega)
    rw [Nat.add_zero, hz, hq, Int.emod_eq_of_lt hv.1 (by omega)] at hr
    refine ⟨v, hr, ?_⟩
    rw [if_neg (by omega), bitsN_length]
  · rw [if_neg c1] at hW ⊢
    by_cases c2 : v < q
    · rw [if_pos c2] at hW ⊢
      have hr := rdN_at (j := 0) (k := mk) hb hlen hW (by omega)
      rw [Nat.add_zero, hz, hq, Int.emod_eq_of_lt hv.1 (by omega)] at hr
      have hr2 := rdN_at (j := mk) (k := 1) hb hlen hW (by omega)
      rw [hq, Int.ediv_eq_zero_of_lt hv.1 c2] at hr2
      refine ⟨v, hr, ?_⟩
      rw [if_pos (by omega), hr2, bitsN_length]
      rfl
    · rw [if_neg c2] at hW ⊢
      have hr := rdN_at (j := 0) (k := mk) hb hlen hW (by omega)
      have hx : (v + (2 * q - 1 - most)) % q = v + (2 * q - 1 - most) - q := by
        rw [← Int.emod_eq_of_lt (show 0 ≤ v + (2 * q - 1 - most) - q by omega) (show v + (2 * q - 1 - most) - q < q by omega), Int.sub_emod, Int.emod_self, Int.sub_zero, Int.emod_emod_of_dvd _ (Int.dvd_refl _)]
      rw [Nat.add_zero, hz, hq, hx] at hr
      have hr2 := rdN_at (j := mk) (k := 1) hb hlen hW (by omega)
      have hd : (v + (2 * q - 1 - most)) / q = 1 := by
        have : v + (2 * q - 1 - most) = (v + (2 * q - 1 - most) - q) + q * 1 := by omega
        rw [this, Int.add_mul_ediv_left _ _ (by omega), Int.ediv_eq_zero_of_lt (by omega) (by omega)]; rfl
      rw [hq, hd] at hr2
      refine ⟨_, hr, ?_⟩
      rw [if_pos (by omega), hr2, bitsN_length]
      have : ((1 : Int) % 2 ^ 1) = 1 := by decide
      simp only [this, if_true]
      congr 2
      omega
/-- A row of zeros that is told is read. -/
theorem readZ {b W : List Int} {ms left : Int} (hb : ∀ i, i < W.length → (bitL b).getD i 0 = W.getD i 0) (hlen : W.length ≤ 8 * b.length) : ∀ (q f : Nat) (pre rest cs : List Int), W = pre ++ zr q ++ rest → ((cs.length : Int) + q ≤ ms) → q + 1 ≤ f →
    ∃ f', f ≤ f' + q + 1 ∧ f' < f ∧ readS b ms f true left cs pre.length = readS b ms f' false left (cs ++ List.replicate q 0) (pre.length + (zr q).length)
  | 0, f, pre, rest, cs, hW, hms, hf => small b W ms left hb hlen 0 (by omega) f pre rest cs hW hms hf
  | 1, f, pre, rest, cs, hW, hms, hf => small b W ms left hb hlen 1 (by omega) f pre rest cs hW hms hf
  | 2, f, pre, rest, cs, hW, hms, hf => small b W ms left hb hlen 2 (by omega) f pre rest cs hW hms hf
  | q + 3, f, pre, rest, cs, hW, hms, hf => by
    obtain ⟨g, rfl⟩ : ∃ g, f = g + 1 := ⟨f - 1, by omega⟩
    have hW2 : W = pre ++ bitsN 3 2 ++ (zr q ++ rest) := by rw [hW, zr]; simp only [List.append_assoc]
    have hr := rdN_at (j := 0) (k := 2) hb hlen hW2 (by omega)
    have e3 : ((3 : Int) / 2 ^ 0 % 2 ^ 2) = 3 := by decide
    rw [Nat.add_zero, e3] at hr
    have e4 : (3 : Int).toNat = 3 := rfl
    obtain ⟨f', h1, h2, h3⟩ := readZ (left := left) (ms := ms) hb hlen q g (pre ++ bitsN 3 2) rest (cs ++ List.replicate 3 0) (by rw [hW, zr]; simp only [List.append_assoc]) (by rw [List.length_append, List.length_replicate]; push_cast at *; omega) (by omega)
    refine ⟨f', by omega, by omega, ?_⟩
    rw [readS, hr]
    simp only [e4]
    rw [if_neg (by rw [List.length_append, List.length_replicate]; push_cast at *; omega), if_pos trivial]
    rw [List.length_append, bitsN_length] at h3
    rw [h3, zr, List.length_append, bitsN_length, List.append_assoc, List.replicate_append_replicate]
    congr 1
    · rw [show 3 + q = q + 3 by omega]
    · omega
where
  small (b W : List Int) (ms left : Int) (hb : ∀ i, i < W.length → (bitL b).getD i 0 = W.getD i 0) (hlen : W.length ≤ 8 * b.length) (q : Nat) (hq : q < 3) (f : Nat) (pre rest cs : List Int) (hW : W = pre ++ zr q ++ rest) (hms : (cs.length : Int) + q ≤ ms) (hf : q + 1 ≤ f) :
      ∃ f', f ≤ f' + q + 1 ∧ f' < f ∧ readS b ms f true left cs pre.length = readS b ms f' false left (cs ++ List.replicate q 0) (pre.length + (zr q).length) := by
    obtain ⟨g, rfl⟩ : ∃ g, f = g + 1 := ⟨f - 1, by omega⟩
    rw [zr_small hq] at hW ⊢
    have hr := rdN_at (j := 0) (k := 2) hb hlen hW (by omega)
    have e3 : ((q : Int) / 2 ^ 0 % 2 ^ 2) = q := by simp only [Int.pow_zero, Int.ediv_one]; omega
    rw [Nat.add_zero, e3] at hr
    refine ⟨g, by omega, by omega, ?_⟩
    rw [readS, hr]
    simp only [Int.toNat_natCast]
    rw [if_neg (by rw [List.length_append, List.length_replicate]; push_cast at *; omega), if_neg (by omega), bitsN_length]
theorem zeros_run (l : List Int) : ∀ (m i : Nat), i + m = l.length → i < l.length → l.getD (l.length - 1) 0 ≠ 0 → ∃ q, i + q < l.length ∧ (∀ j, j < q → l.getD (i + j) 0 = 0) ∧ l.getD (i + q) 0 ≠ 0
  | 0, i, h, hi, _ => by omega
  | m + 1, i, h, hi, hl => by
    by_cases h0 : l.getD i 0 = 0
    · have hi1 : i + 1 < l.length := by
        apply Classical.byContradiction
        intro hc
        have : i = l.length - 1 := by omega
        rw [this] at h0; exact hl h0
      obtain ⟨q, h1, h2, h3⟩ := zeros_run l m (i + 1) (by omega) hi1 hl
      refine ⟨q + 1, by omega, fun j hj => ?_, by rw [show i + (q + 1) = i + 1 + q by omega]; exact h3⟩
      cases j with
      | zero => exact h0
      | succ j => rw [show i + (j + 1) = i + 1 + j by omega]; exact h2 j (by omega)
    · exact ⟨0, by omega, fun j hj => by omega, h0⟩
theorem sumP_drop (l : List Int) (i : Nat) : sumP (l.drop i) = sumP l - sumP (l.take i) := by
  have := congrArg sumP (List.take_append_drop i l)
  unfold sumP at *
  rw [List.map_append, List.sum_append] at this
  omega
/-- What is told from a count on is read. -/
theorem readBack {b W l : List Int} {ms pw : Int} (hb : ∀ i, i < W.length → (bitL b).getD i 0 = W.getD i 0) (hlen : W.length ≤ 8 * b.length) (h1 : ∀ c ∈ l, -1 ≤ c) (hlast : l.getD (l.length - 1) 0 ≠ 0) (hms : (l.length : Int) ≤ ms + 1) (hpw : sumP l = pw) :
    ∀ (m i f : Nat) (pre : List Int) (left : Int), i + m = l.length → left = pw - sumP (l.take i) → W = pre ++ wgo none (l.drop i) left → 2 * m + 1 ≤ f → readS b ms f false left (l.take i) pre.length = (0, l, W.length) := by
  intro m
  induction m using Nat.strongRecOn with
  | _ m ih =>
    intro i f pre left him hleft hW hf
    obtain ⟨g, rfl⟩ : ∃ g, f = g + 1 := ⟨f - 1, by omega⟩
    by_cases hi : i < l.length
    · have hci : -1 ≤ l.getD i 0 := h1 _ (by rw [List.getD_eq_getElem?_getD, List.getElem?_eq_getElem hi]; exact List.getElem_mem _)
      have hts := sumP_take_le h1 i
      have hts1 := sumP_take_le h1 (i + 1)
      have hs1 : sumP (l.take (i + 1)) = sumP (l.take i) + partsN (l.getD i 0) := by rw [take_snoc hi, sumP_snoc]
      have hpn := partsN_nonneg hci
      have hlpos : 0 < left := by
        have hn1 : l.length - 1 < l.length := by omega
        have ha := sumP_take_le (l := l.take (l.length - 1)) (fun c hc => h1 c (List.mem_of_mem_take hc)) i
        rw [List.take_take, Nat.min_eq_left (by omega)] at ha
        have hb1 : sumP (l.take (l.length - 1 + 1)) = sumP (l.take (l.length - 1)) + partsN (l.getD (l.length - 1) 0) := by rw [take_snoc hn1, sumP_snoc]
        rw [Nat.sub_add_cancel (by omega), List.take_length] at hb1
        have hcl : -1 ≤ l.getD (l.length - 1) 0 := h1 _ (by rw [List.getD_eq_getElem?_getD, List.getElem?_eq_getElem hn1]; exact List.getElem_mem _)
        have : 1 ≤ partsN (l.getD (l.length - 1) 0) := by unfold partsN; split <;> omega
        omega
      have hcl : l.getD i 0 ≤ left := by
        have : l.getD i 0 ≤ partsN (l.getD i 0) := by unfold partsN; split <;> omega
        omega
      rw [drop_cons hi, wgo, if_neg (by omega), ← List.append_assoc] at hW
      obtain ⟨v0, hr1, hr2⟩ := readV (v := l.getD i 0 + 1) (most := left + 1) hb hlen hW (by omega) (by omega)
      rw [readS, if_neg (by omega), if_neg (by rw [List.length_take]; omega), hr1]
      simp only
      rw [hr2]
      simp only [Int.add_sub_cancel]
      have htk : l.take i ++ [l.getD i 0] = l.take (i + 1) := (take_snoc hi).symm
      rw [htk]
      have hleft2 : left - partsN (l.getD i 0) = pw - sumP (l.take (i + 1)) := by omega
      have hpl : (pre ++ putV (l.getD i 0 + 1) (left + 1)).length = pre.length + (putV (l.getD i 0 + 1) (left + 1)).length := List.length_append
      by_cases h0 : l.getD i 0 = 0
      · rw [if_neg (fun h => h h0)]
        rw [if_pos h0] at hW
        have hi1 : i + 1 < l.length := by
          apply Classical.byContradiction
          intro hc
          have : i = l.length - 1 := by omega
          rw [this] at h0; exact hlast h0
        rw [if_neg (by rw [List.length_take]; omega)]
        obtain ⟨q, hq1, hq2, hq3⟩ := zeros_run l (m - 1) (i + 1) (by omega) hi1 hlast
        rw [wgo_zeros l _ q 0 (i + 1) (by omega) (by omega) hq2 hq3, Nat.zero_add, ← List.append_assoc] at hW
        obtain ⟨f', hf1, hf2, hf3⟩ := readZ (ms := ms) (left := left - partsN (l.getD i 0)) hb hlen q g _ _ (l.take (i + 1)) hW (by rw [List.length_take]; omega) (by omega)
        rw [hpl] at hf3
        rw [hf3]
        have htz : l.take (i + 1) ++ List.replicate q 0 = l.take (i + 1 + q) := by
          have : ∀ q, i + 1 + q ≤ l.length → (∀ j, j < q → l.getD (i + 1 + j) 0 = 0) → l.take (i + 1) ++ List.replicate q 0 = l.take (i + 1 + q) := by
            intro q
            induction q with
            | zero => intro _ _; simp
            | succ q ihq =>
              intro h1 h2
              have hz := h2 q (by omega)
              rw [List.replicate_succ', ← List.append_assoc, ihq (by omega) (fun j hj => h2 j (by omega)), ← Nat.add_assoc, take_snoc (by omega), hz]
          exact this q (by omega) hq2
        have hsz : sumP (l.take (i + 1 + q)) = sumP (l.take (i + 1)) := by
          rw [← htz]
          have : ∀ (a : List Int) n, sumP (a ++ List.replicate n 0) = sumP a := by
            intro a n
            induction n with
            | zero => simp
            | succ n ihn => rw [List.replicate_succ', ← List.append_assoc, sumP_snoc, ihn]; have : partsN 0 = 0 := by decide
                            omega
          exact this _ _
        rw [htz]
        have := ih (l.length - (i + 1 + q)) (by omega) (i + 1 + q) f' (pre ++ putV (l.getD i 0 + 1) (left + 1) ++ zr q) (left - partsN (l.getD i 0)) (by omega) (by omega) hW (by omega)
        rw [List.length_append, List.length_append] at this
        exact this
      · rw [if_pos h0]
        rw [if_neg h0] at hW
        have := ih (m - 1) (by omega) (i + 1) g (pre ++ putV (l.getD i 0 + 1) (left + 1)) (left - partsN (l.getD i 0)) (by omega) hleft2 hW (by omega)
        rw [hpl] at this
        exact this
    · have hie : i = l.length := by omega
      subst hie
      rw [List.take_length] at hleft ⊢
      rw [readS, if_pos (by omega)]
      rw [List.drop_length, wgo, List.append_nil] at hW
      rw [hW]
end Go.Proofs.Ytodobmkflimfkaa
namespace Go.Proofs.Ytodobmkflimfkaa
open Go Go.Sx Go.Proofs
set_option maxRecDepth 10000
set_option maxHeartbeats 40000000
theorem read_ok (b : List Int) (cap : Nat) (ml ms : Int) (hby : ∀ x ∈ b, isByte x) (hl : b.length ≤ 140737488355328) (hml : -9223372036854775808 ≤ ml ∧ ml ≤ 9223372036854775807) (hms : -9223372036854775808 ≤ ms ∧ ms ≤ 9223372036854775807)
    (cs0 : List Int) (log0 used0 : Int) (hR : readR b ml ms = (cs0, log0, used0, 0)) :
    Con Try.prog 27 [.slice 0 .z 1 b.length cap, .int .i64 ml, .int .i64 ms] [.ro .u8 b] (fun v H R => R = [] ∧ ∃ c c0 acc hv ai, v = .tup [.slice 5 .z 1 cs0.length c, .int .i64 log0, .int .i64 used0, .int .i64 0] ∧
      H = [.ro .u8 b, .buf 5 .u8 b c0, .one 23 [.slice 1 .z 1 b.length c0], .one 3 [.int .i64 ai], .one 131 [.fn 80 [.ptr 3 .z 1 0, .ptr 2 .z 1 0], .int .u64 acc, .int .i64 hv, .fn 81 [.ptr 2 .z 1 0, .ptr 3 .z 1 0]], .buf 47 .i16 cs0 c]) := by
  refine con_gen (con_cut 6 (by simp) (con_drop ((read_raw b cap ml ms hby hl hml hms cs0 log0 used0 0 hR).mono ?_)))
  rintro v H R ⟨h1, h2, h3, ⟨h4, _⟩ | ⟨_, h5, c, c0, acc, hv, ai, h6, h7⟩⟩
  · exact absurd rfl h4
  · exact ⟨h5, h1, c, c0, acc, hv, ai, h6, h7⟩
theorem read_err (b : List Int) (cap : Nat) (ml ms : Int) (hby : ∀ x ∈ b, isByte x) (hl : b.length ≤ 140737488355328) (hml : -9223372036854775808 ≤ ml ∧ ml ≤ 9223372036854775807) (hms : -9223372036854775808 ≤ ms ∧ ms ≤ 9223372036854775807)
    (cs0 : List Int) (log0 used0 e0 : Int) (hR : readR b ml ms = (cs0, log0, used0, e0)) (he : e0 ≠ 0) :
    Con Try.prog 27 [.slice 0 .z 1 b.length cap, .int .i64 ml, .int .i64 ms] [.ro .u8 b] (fun v H R => R = [] ∧ v = .tup [.val (.slice none 0 0), .int .i64 0, .int .i64 0, .int .i64 e0] ∧ H = [.ro .u8 b]) := by
  refine con_gen (con_cut 1 (by simp) (con_drop ((read_raw b cap ml ms hby hl hml hms cs0 log0 used0 e0 hR).mono ?_)))
  rintro v H R ⟨h1, h2, h3, ⟨_, h4⟩ | ⟨h4, _⟩⟩
  · exact ⟨h2, h1, h4, h3⟩
  · exact absurd h4 he
theorem same_con (l : List Int) (c1 c2 : Nat) (hl : l.length ≤ 1000000) : Con Try.prog 28 [.slice 0 .z 1 l.length c1, .slice 1 .z 1 l.length c2] [.ro .i16 l, .ro .i16 l] (fun v H R => v = .bool true ∧ H = [.ro .i16 l, .ro .i16 l] ∧ R = []) := by
  refine con_gen (con_walk hmix fn28 ?_)
  intro vb vc vw vtoN vofN vaddN vsubN vmaxI vminI vcutN vgd vst vln vrep vsub vonto vsplice vstrEq vbyteV vnotB veqB hw qb qc qw qtoN qofN qaddN qsubN qmaxI qminI qcutN qgd qst qln qrep qsub qonto qsplice qstrEq qbyteV qnotB qeqB
  have hm := hmix; generalize Try.prog = P at *
  have hto : ∀ i : Nat, vtoN (i : Int) = i := fun i => by simp only [qtoN, Int.toNat_natCast]
  have hadd0 : ∀ i, vaddN 0 i = i := fun i => by simp only [qaddN, Nat.zero_add]
  have hvln : vln l = l.length := by simp only [qln]
  generalize l.length = N at *
  have h1 : vc .neq (vofN N) (vofN N) = false := by rw [qc, neq_false]; simp
  have hself : ∀ x, vc .neq x x = false := fun x => by rw [qc, neq_false]; simp
  cbv
  rw [h1]
  cbv
  refine loop_fam (α := Int) ([5] ++ [14, 15, 16, 17, 18, 19, 20, 21, 22, 23, 24, 25]) [] (fun k => [(13, .int .i64 k)]) (fun _ => []) (fun k => ∃ i : Nat, k = i ∧ i ≤ N) (fun k => N - k.toNat) hw hm ?_ ?_
  · refine Cv.genAt [13] [] (Cv.fold ([5] ++ [14, 15, 16, 17, 18, 19, 20, 21, 22, 23, 24, 25]) 2 [] (by exact Nat.le_refl _) (by exact Nat.le_of_ble_eq_true rfl) (by rfl) (by cbv) ?_)
    intro js
    refine ⟨_, ?_, js, rfl⟩
    exact ⟨0, rfl, by omega⟩
  · rintro k js ⟨i, hk, hi⟩
    cbv
    split
    · rename_i hlt
      have hlt : i < N := by rw [qc, lss_true] at hlt; simp only [qofN] at hlt; simp only [nc] at *; omega
      have hti : vtoN k = i := by rw [hk]; exact hto i
      have hinR : 0 ≤ k ∧ k < (N : Int) := by simp only [nc] at *; omega
      obtain ⟨k1, hk1⟩ : ∃ k1 : Int, k1 = ((i + 1 : Nat) : Int) := ⟨_, rfl⟩
      have ek : vb .add .i64 k 1 = k1 := by simp only [nc] at *; rw [qb, add_i64 (by omega) (by omega)]; omega
      have hmu : N - k1.toNat < N - k.toNat := by simp only [nc] at *; omega
      cbv
      rw [hti, hadd0, hself]
      refine ⟨⟨hinR⟩, ⟨by omega⟩, ⟨by omega⟩, ⟨hinR⟩, ⟨by omega⟩, ⟨by omega⟩, ?_⟩
      cbv
      rw [ek]
      refine Cv.fold ([5] ++ [14, 15, 16, 17, 18, 19, 20, 21, 22, 23, 24, 25]) 2 [] (by exact Nat.le_refl _) (by exact Nat.le_of_ble_eq_true rfl) (by rfl) (by cbv) ?_
      intro js
      refine ⟨_, ?_, js, rfl⟩
      exact ⟨⟨i + 1, hk1, hlt⟩, hmu⟩
    · cbv
theorem pack_wbits {l : List Int} {log : Int} (h : Right l log) : (pack (wbits l log)).length ≤ 700 := by
  have := wbits_length h
  rw [pack_length]; omega
theorem readR_back {l : List Int} {log : Int} (h : Right l log) (behind : List Int) : readR (pack (wbits l log) ++ behind) 12 255 = (l, log, ((pack (wbits l log)).length : Int), 0) := by
  have hbit := wbits_bit l log
  have hpl := pack_length (wbits l log)
  have hb : ∀ i, i < (wbits l log).length → (bitL (pack (wbits l log) ++ behind)).getD i 0 = (wbits l log).getD i 0 := fun i hi => isByte_behind hbit i hi
  have hlen : (wbits l log).length ≤ 8 * (pack (wbits l log) ++ behind).length := by rw [List.length_append]; omega
  obtain ⟨g1, g2, g3, g4, g5, g6, g7⟩ := h
  have hW : wbits l log = [] ++ bitsN (log - 5) 4 ++ wgo none l (2 ^ log.toNat) := rfl
  have hr := rdN_at (j := 0) (k := 4) hb hlen hW (by omega)
  have e : ((log - 5) / 2 ^ 0 % 2 ^ 4 : Int) = log - 5 := by simp only [Int.pow_zero, Int.ediv_one]; omega
  rw [e] at hr
  have hr : rdN (pack (wbits l log) ++ behind) 0 4 = some (log - 5) := hr
  have hback := readBack (ms := 255) (pw := 2 ^ log.toNat) hb hlen g6 g5 (by omega) g7 l.length 0 600 (bitsN (log - 5) 4) (2 ^ log.toNat) (by omega) (by simp [sumP]) (by rw [List.drop_zero]; rfl) (by omega)
  rw [List.take_zero, bitsN_length] at hback
  unfold readR
  rw [if_neg (by omega), hr]
  simp only
  rw [if_neg (by omega), Int.sub_add_cancel, hback]
  simp only [ne_eq, not_true_eq_false, if_false]
  rw [hpl]
  congr 3
end Go.Proofs.Ytodobmkflimfkaa
