/-
  For every row of numbers, closed in between or not, balerlaw03.TailWrite returns true and leaves its arguments as they were. No condition.
-/
import Derived.Test.YtgbnngjmjimhiaaSx25
import Derived.Test.YtgbnngjmjimhiaaC7
namespace Go.Proofs.Ytgbnngjmjimhiaa.tailWrite
open Go Go.Sx Go.ChangeShapes Go.WideShapes Go.ChangeAt Go.RowKit
set_option linter.unusedVariables false
set_option maxHeartbeats 4000000 in
theorem law_con (xs ns : Nat → Int) (len cap : Nat) (ag : Bool) (hcap : len ≤ cap) (hx : ∀ i, 0 ≤ xs i ∧ xs i < 2 ^ 64) :
    Con Try.prog 4 [.slice 0 .z 2 len cap, .bool ag] [.roA 2 len (fun i => [.int .u64 (xs i), .int .i64 (ns i)])] (fun v H R => v = .bool true ∧ H = [.roA 2 len (fun i => [.int .u64 (xs i), .int .i64 (ns i)])] ∧ R = [3, 4, 7, 8]) := by
  have hput := putA_con
  have hrput := refput_con
  have hclose := close_con
  have hrclose := refclose_con
  have hwakes := wakes_con
  have hclose0 := close_con [] 0 (by simp) (by decide)
  simp only [show pack ([] : List Int) = [] by decide, show pack ([] ++ [(1 : Int)]) = [1] by decide, List.length_nil, show ((0 : Nat) : Int) = 0 from rfl, List.length_cons, Nat.zero_add] at hclose0
  refine con_cut 1 (by simp) (con_red [3, 4, 7, 8] (con_walk hmix fn4 ?_))
  intro vb vc vw vtoN vofN vaddN vsubN vmaxI vminI vcutN vgd vst vln vrep vsub vonto vsplice vstrEq vbyteV vnotB veqB hw qb qc qw qtoN qofN qaddN qsubN qmaxI qminI qcutN qgd qst qln qrep qsub qonto qsplice qstrEq qbyteV qnotB qeqB
  have hm := hmix
  have f19 := fn19
  generalize Try.prog = P at *
  cbv
  refine ⟨fun _ => rfl, fun _ => rfl, ?_⟩
  refine WX.cv (Cv.nilB 1 0 5 .u8 (by rfl) (by cbv; exact ⟨fun _ => rfl, trivial⟩) (Cv.nilB 2 0 5 .u8 (by rfl) (by cbv; exact ⟨fun _ => rfl, trivial⟩) (Cv.here ?_)))
  cbv
  refine loop_famW (α := Int × Nat × Nat × Int × List Int × Nat × Nat × List Int) [7, 8, 16, 17, 18, 19, 20, 21, 22, 23, 24, 25, 26, 27, 28, 29, 30, 31, 32, 33, 34, 35, 36, 37, 38, 39, 40, 41, 42, 43, 44, 45, 46, 47, 48, 49, 50] [3, 4]
    (fun (k, c1, n1, m, l, c2, n2, l2) => [(15, .int .i64 k)])
    (fun (k, c1, n1, m, l, c2, n2, l2) => [(1, .one 41 [.slice 3 .z 1 n1 c1, .int .i64 m]), (2, .one 44 [.slice 4 .z 1 n2 c2]), (3, .buf 5 .u8 l c1), (4, .buf 5 .u8 l2 c2)])
    (fun (k, c1, n1, m, l, c2, n2, l2) => ∃ i : Nat, k = i ∧ i ≤ len ∧ i ≤ 300 ∧ (∀ b ∈ l2, isBit b) ∧ l2.length ≤ 56 * i ∧ l = pack l2 ∧ n1 = l.length ∧ n2 = l2.length ∧ m = l2.length) (fun (k, _) => len - k.toNat) hw hm ?_ ?_
  · refine Cw.of (Cv.genAt [15] [1, 2] (Cv.fold [7, 8, 16, 17, 18, 19, 20, 21, 22, 23, 24, 25, 26, 27, 28, 29, 30, 31, 32, 33, 34, 35, 36, 37, 38, 39, 40, 41, 42, 43, 44, 45, 46, 47, 48, 49, 50] 5 [3, 4] (by exact Nat.le_refl _) (by exact Nat.le_refl _) (by rfl) (by cbv) ?_))
    intro js
    refine ⟨(_, _, _, _, _, _, _, _), ?_, js, rfl⟩
    exact ⟨0, rfl, by omega, by omega, by simp, Nat.le_refl _, (show pack [] = [] by decide).symm, rfl, rfl, rfl⟩
  · rintro ⟨k, c1, n1, m, l, c2, n2, l2⟩ js ⟨i, hk, hi, hi3, hbit, hl56, hl, hn1, hn2, hm1⟩
    have hput' := hput l2 c1 (xs i) (ns i) (hx i) hbit (by omega)
    have hrput' := hrput l2 c2 (xs i) (ns i) (hx i) (by omega)
    have hpb := putBits_bit (x := xs i) (n := ns i) hbit
    have hpl := putBits_length l2 (xs i) (ns i)
    have hcl := hclose l2 c1 hbit (by omega)
    have hrcl := hrclose l2 c2 hbit (by omega)
    simp only [nc] at hm1 hk hput' hrput' hcl hrcl
    rw [← hl, ← hn1, ← hm1] at hput' hcl
    rw [← hn2] at hrput' hrcl
    generalize hl3 : putBits l2 (xs i) (ns i) = l3 at hput' hrput' hpb hpl
    have hclx := fun c => hclose l3 c hpb (by omega)
    have hrclx := fun c => hrclose l3 c hpb (by omega)
    simp only [nc] at hclx hrclx
    generalize hp3 : pack l3 = p3 at hput' hclx
    generalize hp3n : p3.length = p3n at hput' hclx
    generalize hl3n : l3.length = l3n at hrput' hrclx
    generalize hm3 : ((l3.length : Nat) : Int) = m3 at hput' hclx
    generalize he3 : putErr (ns i) = e3 at hput' hrput'
    generalize hq : pack (l2 ++ [1]) = q at hcl hrcl
    generalize hqn : q.length = qn at hcl hrcl
    generalize hl21 : l2 ++ [1] = l21 at hrcl
    generalize hq3 : pack (l3 ++ [1]) = q3 at hclx hrclx
    generalize hq3n : q3.length = q3n at hclx hrclx
    generalize hl31 : l3 ++ [1] = l31 at hrclx
    cbv
    split
    · rename_i hlt
      have hlt : i < len := by rw [qc, lss_true] at hlt; simp only [qofN] at hlt; simp only [nc] at *; omega
      have hin : 0 ≤ k ∧ k < (len : Int) := by simp only [nc] at *; omega
      have hti : vtoN k = i := by simp only [qtoN]; simp only [nc] at *; omega
      have hin2 : vaddN 0 i = i := by simp only [qaddN, Nat.zero_add]
      cbv
      rw [hti, hin2]
      cbv
      refine ⟨⟨hin⟩, ⟨by omega⟩, ⟨by omega⟩, ⟨by omega⟩, fun _ => rfl, ?_⟩
      split
      · rename_i h300
        cbv
        have hle : vaddN 0 qn ≤ vln q := by simp only [qaddN, qln]; omega
        have hse : vstrEq (vsub q 0 qn) (vsub q 0 qn) = true := by simp only [qstrEq]; simp
        have hle1 : vaddN 0 1 ≤ vln [1] := by simp only [qaddN, qln]; exact Nat.le_refl _
        have hse1 : vstrEq (vsub [1] 0 1) [1] = true := by simp only [qstrEq, qsub]; decide
        refine call_con (ρ := [(1, .z), (3, .z)]) hcl ⟨by rfl, by rfl, by rfl, by cbv; exact ⟨fun _ => rfl, trivial⟩⟩ ?_
        rintro v H R js ⟨rfl, c', rfl, rfl⟩
        cbv
        refine ⟨fun _ => rfl, ⟨hle⟩, ?_⟩
        refine call_con (ρ := [(2, .z), (4, .z)]) hrcl ⟨by rfl, by rfl, by rfl, by cbv; exact ⟨fun _ => rfl, trivial⟩⟩ ?_
        rintro v H R js ⟨rfl, c'', n', rfl, rfl, rfl⟩
        cbv
        refine ⟨fun _ => rfl, ⟨⟨hle⟩, trivial⟩, ⟨hle⟩, ?_⟩
        rw [hse]
        cbv
        refine CallX.cv f19.go (Cv.nilB 1 0 5 .u8 (by rfl) (by cbv; exact ⟨fun _ => rfl, trivial⟩) (Cv.here ?_)) (by rfl)
        refine call_con (ρ := [(1, .z), (8, .z)]) hclose0 ⟨by rfl, by rfl, by rfl, by cbv; exact ⟨fun _ => rfl, trivial⟩⟩ ?_
        rintro v H R js ⟨rfl, c0, rfl, rfl⟩
        cbv
        refine ⟨fun _ => rfl, ⟨⟨hle⟩, trivial⟩, ⟨⟨hle⟩, trivial⟩, ⟨hle1⟩, ?_⟩
        rw [hse1]
        cbv
        refine call_con (ρ := []) hwakes ⟨by rfl, by rfl, by rfl, by cbv; exact ⟨fun _ => rfl, trivial⟩⟩ ?_
        rintro v H R js ⟨rfl, rfl, rfl⟩
        cbv
        exact ⟨fun _ => rfl, ⟨⟨hle1⟩, trivial⟩, ⟨⟨hle⟩, trivial⟩, ⟨⟨hle⟩, trivial⟩, trivial⟩
      · rename_i h300
        have hi300 : i < 300 := by rw [qc, geq_false] at h300; simp only [nc] at *; omega
        cbv
        refine call_con (ρ := [(1, .z), (3, .z)]) hput' ⟨by rfl, by rfl, by rfl, by cbv; exact ⟨fun _ => rfl, trivial⟩⟩ ?_
        rintro v H R js ⟨rfl, rfl, c3, rfl⟩
        cbv
        refine ⟨fun _ => rfl, ?_⟩
        refine call_con (ρ := [(2, .z), (4, .z)]) hrput' ⟨by rfl, by rfl, by rfl, by cbv; exact ⟨fun _ => rfl, trivial⟩⟩ ?_
        rintro v H R js ⟨rfl, rfl, c4, rfl⟩
        cbv
        refine ⟨fun _ => rfl, ?_⟩
        rw [show vc .neq e3 e3 = false by rw [qc, neq_false]; simp]
        have hk1 : vb .add .i64 k 1 = ((i + 1 : Nat) : Int) := by simp only [nc] at *; rw [qb, add_i64 (by omega) (by omega)]; omega
        have hmu : len - (vb .add .i64 k 1).toNat < len - k.toNat := by rw [hk1, hk]; simp only [nc] at *; omega
        cases ag
        · cbv
          refine Cw.of (Cv.fold [7, 8, 16, 17, 18, 19, 20, 21, 22, 23, 24, 25, 26, 27, 28, 29, 30, 31, 32, 33, 34, 35, 36, 37, 38, 39, 40, 41, 42, 43, 44, 45, 46, 47, 48, 49, 50] 5 [3, 4] (by exact Nat.le_refl _) (by exact Nat.le_succ _) (by rfl) (by cbv) ?_)
          intro js
          refine ⟨(_, _, _, _, _, _, _, _), ?_, js, rfl⟩
          exact ⟨⟨i + 1, hk1, hlt, hi300, hpb, by omega, hp3.symm, hp3n.symm, hl3n.symm, hm3.symm⟩, hmu⟩
        · cbv
          generalize h50 : vc .eql (vb .rem .i64 k 50) 49 = z
          cases z
          · cbv
            refine Cw.of (Cv.fold [7, 8, 16, 17, 18, 19, 20, 21, 22, 23, 24, 25, 26, 27, 28, 29, 30, 31, 32, 33, 34, 35, 36, 37, 38, 39, 40, 41, 42, 43, 44, 45, 46, 47, 48, 49, 50] 5 [3, 4] (by exact Nat.le_refl _) (by exact Nat.le_succ _) (by rfl) (by cbv) ?_)
            intro js
            refine ⟨(_, _, _, _, _, _, _, _), ?_, js, rfl⟩
            exact ⟨⟨i + 1, hk1, hlt, hi300, hpb, by omega, hp3.symm, hp3n.symm, hl3n.symm, hm3.symm⟩, hmu⟩
          · have hle : vaddN 0 q3n ≤ vln q3 := by simp only [qaddN, qln]; omega
            have hse : vnotB (vstrEq (vsub q3 0 q3n) (vsub q3 0 q3n)) = false := by simp only [qstrEq, qnotB]; simp
            cbv
            refine call_con (ρ := [(1, .z), (3, .z)]) (hclx c3) ⟨by rfl, by rfl, by rfl, by cbv; exact ⟨fun _ => rfl, trivial⟩⟩ ?_
            rintro v H R js ⟨rfl, c', rfl, rfl⟩
            cbv
            refine ⟨fun _ => rfl, ⟨hle⟩, ?_⟩
            refine call_con (ρ := [(2, .z), (4, .z)]) (hrclx c4) ⟨by rfl, by rfl, by rfl, by cbv; exact ⟨fun _ => rfl, trivial⟩⟩ ?_
            rintro v H R js ⟨rfl, c'', n', rfl, rfl, rfl⟩
            cbv
            refine ⟨fun _ => rfl, ⟨⟨hle⟩, trivial⟩, ⟨hle⟩, ?_⟩
            rw [hse]
            cbv
            refine Cw.nilO 1 0 3 5 .u8 (by rfl) (by rfl) (by rfl) (by cbv; exact ⟨fun _ => rfl, trivial⟩) (fun js5 => ?_)
            cbv
            refine Cw.nilO 2 0 4 5 .u8 (by rfl) (by rfl) (by rfl) (by cbv; exact ⟨fun _ => rfl, trivial⟩) (fun js6 => ?_)
            cbv
            refine Cw.of (Cv.fold [7, 8, 16, 17, 18, 19, 20, 21, 22, 23, 24, 25, 26, 27, 28, 29, 30, 31, 32, 33, 34, 35, 36, 37, 38, 39, 40, 41, 42, 43, 44, 45, 46, 47, 48, 49, 50] 5 [3, 4] (by exact Nat.le_refl _) (by exact Nat.le_of_ble_eq_true rfl) (by rfl) (by cbv) ?_)
            intro js
            refine ⟨(_, _, _, _, _, _, _, _), ?_, js, rfl⟩
            exact ⟨⟨i + 1, hk1, hlt, hi300, by simp, by simp, (show pack [] = [] by decide).symm, rfl, rfl, rfl⟩, hmu⟩
    · rename_i hge
      have hin : i = len := by rw [qc, lss_false] at hge; simp only [qofN] at hge; simp only [nc] at *; omega
      cbv
      have hle : vaddN 0 qn ≤ vln q := by simp only [qaddN, qln]; omega
      have hse : vstrEq (vsub q 0 qn) (vsub q 0 qn) = true := by simp only [qstrEq]; simp
      have hle1 : vaddN 0 1 ≤ vln [1] := by simp only [qaddN, qln]; exact Nat.le_refl _
      have hse1 : vstrEq (vsub [1] 0 1) [1] = true := by simp only [qstrEq, qsub]; decide
      refine call_con (ρ := [(1, .z), (3, .z)]) hcl ⟨by rfl, by rfl, by rfl, by cbv; exact ⟨fun _ => rfl, trivial⟩⟩ ?_
      rintro v H R js ⟨rfl, c', rfl, rfl⟩
      cbv
      refine ⟨fun _ => rfl, ⟨hle⟩, ?_⟩
      refine call_con (ρ := [(2, .z), (4, .z)]) hrcl ⟨by rfl, by rfl, by rfl, by cbv; exact ⟨fun _ => rfl, trivial⟩⟩ ?_
      rintro v H R js ⟨rfl, c'', n', rfl, rfl, rfl⟩
      cbv
      refine ⟨fun _ => rfl, ⟨⟨hle⟩, trivial⟩, ⟨hle⟩, ?_⟩
      rw [hse]
      cbv
      refine CallX.cv f19.go (Cv.nilB 1 0 5 .u8 (by rfl) (by cbv; exact ⟨fun _ => rfl, trivial⟩) (Cv.here ?_)) (by rfl)
      refine call_con (ρ := [(1, .z), (7, .z)]) hclose0 ⟨by rfl, by rfl, by rfl, by cbv; exact ⟨fun _ => rfl, trivial⟩⟩ ?_
      rintro v H R js ⟨rfl, c0, rfl, rfl⟩
      cbv
      refine ⟨fun _ => rfl, ⟨⟨hle⟩, trivial⟩, ⟨⟨hle⟩, trivial⟩, ⟨hle1⟩, ?_⟩
      rw [hse1]
      cbv
      refine call_con (ρ := []) hwakes ⟨by rfl, by rfl, by rfl, by cbv; exact ⟨fun _ => rfl, trivial⟩⟩ ?_
      rintro v H R js ⟨rfl, rfl, rfl⟩
      cbv
      exact ⟨fun _ => rfl, ⟨⟨hle1⟩, trivial⟩, ⟨⟨hle⟩, trivial⟩, ⟨⟨hle⟩, trivial⟩, trivial⟩
theorem own : ownKnob Try.prog.godebug = none := by kernel_rfl
set_option maxRecDepth 100000 in
theorem lifted (os : Os) (started : os.Started) (H : Type) (enc : TypeId × Value → H) :
    ReturnsInHanded {} Try.checked os 4 .any (Rows.tailWriteSpec.pre6 enc Try.prog Try.f4 Rows.tailWriteRow.domain false) (Rows.tailWriteSpec.post enc Try.prog Try.f4 false true false false) := by
  refine returnsInHanded_of_change (C := Try.checked) own started (by kernel_rfl) Try.func4
    (ChangeSpec.witness6 (enc := enc) (C := Try.checked) false ⟨#[], #[.slice none 0 0, .bool false], []⟩ 8 (by kernel_rfl) (by kernel_rfl) (by kernel_rfl) (by kernel_rfl)) ?_
  intro W base args ds gs before hval0 hW hcnd _
  have hval : ∀ (j : Nat) t v, Try.f4.params[j]? = some t → args[j]? = some v → Value.okWide Try.prog W .any base t v := hval0
  have hW' := hW
  obtain ⟨p, q, hA0, hV, rfl, hfz, hnd⟩ := hW
  have hA : DataW.TrodAll enc Try.prog W 0 (fun _ => true) true Try.f4.params.toList args.toList ds p := hA0
  rw [Try.params4] at hA hval
  obtain ⟨v0, vs0, d0, ds0, p0, q0, hargs0, rfl, rfl, h0, r0⟩ := trodAll_cons hA
  obtain ⟨v1, vs1, d1, ds1, p1, q1, hargs1, rfl, rfl, h1, r1⟩ := trodAll_cons r0
  obtain ⟨rfl, rfl, rfl⟩ := trodAll_nil r1
  obtain rfl : args = #[v0, v1] := by cases args; simp_all
  obtain ⟨rfl, rfl⟩ := trodVars_none hV
  obtain ⟨s0, xs0, ns0, len0, cap0, rfl, lt0, ho0, hx0, hn0, hc0, hm0⟩ := arg_pairs (P := Try.prog) Try.underlying38 Try.underlying46 (by kernel_rfl) (by kernel_rfl) (by kernel_rfl) (by kernel_rfl) (by kernel_rfl) Try.underlying32 Try.underlying3 (hval 0 38 v0 rfl rfl) h0
  obtain ⟨a1, rfl, rfl, rfl⟩ := open_bool Try.underlying4 (hval 1 4 v1 rfl rfl) h1
  refine (con_below (law_con xs0 ns0 len0 cap0 a1 hc0 (fun i => wf_u64 (hx0 i))) (by intro B hB; simp at hB; subst hB; rfl) (ok_args [(s0, .roA 2 len0 (fun i => [.int .u64 (xs0 i), .int .i64 (ns0 i)]))] (by intro e he; simp at he; subst he; exact ⟨lt0, rfl, ho0⟩))).mono fun e W' ⟨he, hb⟩ => ⟨_, he, ?_⟩
  exact law_post hW' rfl (by kernel_rfl) Try.underlying4 (by kernel_rfl) (by kernel_rfl) rfl rfl rfl hb

theorem over : Rows.tailWriteRow.holds Try.pinned (OpenSpec.ofChange Rows.tailWriteSpec) :=
  OpenClaim.holds_of_wide 4 Try.f4 rfl rfl rfl rfl rfl rfl rfl ⟨rfl, rfl, rfl, rfl, rfl⟩ rfl rfl rfl rfl rfl (by kernel_rfl) Try.func4 (by kernel_rfl)
    (of_decide_eq_true (by kernel_rfl)) (by unfold Func.isWrapper; first | (rw [if_pos (by decide +kernel)]; kernel_rfl) | (rw [if_neg (by decide +kernel)]; exact ⟨rfl, rfl⟩))
    (fun os started H enc _ => lifted os started H enc)

theorem proved : Rows.TailWriteSaid :=
  over
#print axioms proved
end Go.Proofs.Ytgbnngjmjimhiaa.tailWrite
