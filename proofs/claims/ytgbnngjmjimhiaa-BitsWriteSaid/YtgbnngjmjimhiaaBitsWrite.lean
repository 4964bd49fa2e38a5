/-
  For every row of numbers and steps to the byte's end, balerlaw01.BitsWrite returns true and leaves its argument as it was. No condition.
-/
import Derived.Test.YtgbnngjmjimhiaaSx27
import Derived.Test.YtgbnngjmjimhiaaE2
namespace Go.Proofs.Ytgbnngjmjimhiaa.bitsWrite
open Go Go.Sx Go.ChangeShapes Go.WideShapes Go.ChangeAt Go.RowKit
set_option linter.unusedVariables false
set_option maxHeartbeats 8000000 in
theorem law_con (xs ns : Nat → Int) (ag : Nat → Bool) (len cap : Nat) (hcap : len ≤ cap) (hx : ∀ i, 0 ≤ xs i ∧ xs i < 2 ^ 64) :
    Con Try.prog 7 [.slice 0 .z 3 len cap] [.roA 3 len (fun i => [.int .u64 (xs i), .int .i64 (ns i), .bool (ag i)])] (fun v H R => v = .bool true ∧ H = [.roA 3 len (fun i => [.int .u64 (xs i), .int .i64 (ns i), .bool (ag i)])] ∧ R = [3, 4]) := by
  have hput := bputA_con
  have hrput := brefput_con
  have halw := balign_con
  have hral := brefalign_con
  have hbytes := bbytes_con
  have hrbytes := brefbytes_con
  have hwakes := bwakes_con
  refine con_cut 1 (by simp) (con_red [3, 4] (con_walk hmix fn7 ?_))
  intro vb vc vw vtoN vofN vaddN vsubN vmaxI vminI vcutN vgd vst vln vrep vsub vonto vsplice vstrEq vbyteV vnotB veqB hw qb qc qw qtoN qofN qaddN qsubN qmaxI qminI qcutN qgd qst qln qrep qsub qonto qsplice qstrEq qbyteV qnotB qeqB
  have hm := hmix
  generalize Try.prog = P at *
  cbv
  refine ⟨fun _ => rfl, fun _ => rfl, ?_⟩
  refine WX.cv (Cv.nilB 1 0 5 .u8 (by rfl) (by cbv; exact ⟨fun _ => rfl, trivial⟩) (Cv.nilB 2 0 5 .u8 (by rfl) (by cbv; exact ⟨fun _ => rfl, trivial⟩) (Cv.here ?_)))
  cbv
  refine loop_fam (α := Int × Nat × Nat × Int × List Int × Nat × Nat × List Int) [5, 6, 14, 15, 16, 17, 18, 19, 20, 21, 22, 23, 24, 25, 26, 27, 28, 29, 30, 31, 32, 33, 34, 35, 36, 37, 38, 39, 40, 41, 42, 43, 44, 45, 46, 47, 48, 49, 50, 51] [3, 4]
    (fun (k, c1, n1, m, l, c2, n2, l2) => [(13, .int .i64 k)])
    (fun (k, c1, n1, m, l, c2, n2, l2) => [(1, .one 56 [.slice 3 .z 1 n1 c1, .int .i64 m]), (2, .one 58 [.slice 4 .z 1 n2 c2]), (3, .buf 5 .u8 l c1), (4, .buf 5 .u8 l2 c2)])
    (fun (k, c1, n1, m, l, c2, n2, l2) => ∃ i : Nat, k = i ∧ i ≤ len ∧ i ≤ 300 ∧ (∀ b ∈ l2, isBit b) ∧ l2.length ≤ 56 * i ∧ l = pack l2 ∧ n1 = l.length ∧ n2 = l2.length ∧ m = l2.length) (fun (k, _) => len - k.toNat) hw hm ?_ ?_
  · refine Cv.genAt [13] [1, 2] (Cv.fold [5, 6, 14, 15, 16, 17, 18, 19, 20, 21, 22, 23, 24, 25, 26, 27, 28, 29, 30, 31, 32, 33, 34, 35, 36, 37, 38, 39, 40, 41, 42, 43, 44, 45, 46, 47, 48, 49, 50, 51] 5 [3, 4] (by exact Nat.le_refl _) (by exact Nat.le_of_ble_eq_true rfl) (by rfl) (by cbv) ?_)
    intro js
    refine ⟨(_, _, _, _, _, _, _, _), ?_, js, rfl⟩
    exact ⟨0, rfl, by omega, by omega, by simp, Nat.le_refl _, (show pack [] = [] by decide).symm, rfl, rfl, rfl⟩
  · rintro ⟨k, c1, n1, m, l, c2, n2, l2⟩ js ⟨i, hk, hi, hi3, hbit, hl56, hl, hn1, hn2, hm1⟩
    have hcl := hbytes l2 c1 (by omega)
    have hrcl := hrbytes l2 c2 hbit (by omega)
    simp only [nc] at hm1 hk hcl
    rw [← hl, ← hn1, ← hm1] at hcl
    rw [← hl, ← hn1, ← hn2] at hrcl
    have hput' := hput l2 c1 (xs i) (ns i) (hx i) hbit (by omega)
    have hrput' := hrput l2 c2 (xs i) (ns i) (hx i) (by omega)
    have halw' := halw l2 c1 (by omega)
    have hral' := hral l2 c2 (by omega)
    simp only [nc] at hput' hrput' halw' hral'
    rw [← hl, ← hn1, ← hm1] at hput' halw'
    rw [← hn2] at hrput' hral'
    have hbytes' := fun L c (h : L.length ≤ 2 ^ 40) => hbytes L c h
    cbv
    split
    · rename_i hlt
      have hlt : i < len := by rw [qc, lss_true] at hlt; simp only [qofN] at hlt; simp only [nc] at *; omega
      have hin : 0 ≤ k ∧ k < (len : Int) := by simp only [nc] at *; omega
      have hti : vtoN k = i := by simp only [qtoN]; simp only [nc] at *; omega
      have hin2 : vaddN 0 i = i := by simp only [qaddN, Nat.zero_add]
      cbv
      rw [hti, hin2]
      cbv
      refine ⟨⟨hin⟩, ⟨by omega⟩, ⟨by omega⟩, ⟨by omega⟩, ⟨by omega⟩, fun _ => rfl, ?_⟩
      split
      · rename_i h300
        clear hput hrput halw hral hbytes hrbytes hput' hrput' halw' hral' hbytes'
        cbv
        have hle : vaddN 0 n1 ≤ vln l := by simp only [qaddN, qln]; omega
        have hse : vstrEq (vsub l 0 n1) (vsub l 0 n1) = true := by simp only [qstrEq]; simp
        refine call_con (ρ := [(1, .z), (3, .z)]) hcl ⟨by rfl, by rfl, by rfl, by cbv; exact ⟨fun _ => rfl, trivial⟩⟩ ?_
        rintro v H R js ⟨rfl, c', rfl, rfl⟩
        cbv
        refine ⟨fun _ => rfl, ⟨hle⟩, ?_⟩
        refine call_con (ρ := [(2, .z), (4, .z)]) hrcl ⟨by rfl, by rfl, by rfl, by cbv; exact ⟨fun _ => rfl, trivial⟩⟩ ?_
        rintro v H R js ⟨rfl, rfl, rfl⟩
        cbv
        refine ⟨fun _ => rfl, ⟨⟨hle⟩, trivial⟩, ⟨hle⟩, ?_⟩
        rw [hse]
        cbv
        refine call_con (ρ := []) hwakes ⟨by rfl, by rfl, by rfl, by cbv; exact ⟨fun _ => rfl, trivial⟩⟩ ?_
        rintro v H R js ⟨rfl, rfl, rfl⟩
        cbv
        exact ⟨fun _ => rfl, ⟨⟨hle⟩, trivial⟩, ⟨⟨hle⟩, trivial⟩, trivial⟩
      · rename_i h300
        have hi300 : i < 300 := by rw [qc, geq_false] at h300; simp only [nc] at *; omega
        have hk1 : vb .add .i64 k 1 = ((i + 1 : Nat) : Int) := by simp only [nc] at *; rw [qb, add_i64 (by omega) (by omega)]; omega
        have hmu : len - (vb .add .i64 k 1).toNat < len - k.toNat := by rw [hk1, hk]; simp only [nc] at *; omega
        cbv
        generalize hai : ag i = a0 at *
        clear hcl hrcl hput hrput halw hral
        cases a0
        · clear halw' hral'
          have hpb := putBits_bit (x := xs i) (n := ns i) hbit
          have hpl := putBits_length l2 (xs i) (ns i)
          generalize hl3 : putBits l2 (xs i) (ns i) = l3 at *
          have hclx := fun c => hbytes l3 c (by omega)
          have hrclx := fun c => hrbytes l3 c hpb (by omega)
          simp only [nc] at hclx hrclx
          clear hbytes hrbytes hbytes'
          generalize hp3 : pack l3 = p3 at *
          generalize hp3n : p3.length = p3n at *
          try simp only [nc] at hput'
          try simp only [nc] at hclx
          generalize hm3 : ((l3.length : Nat) : Int) = m3 at hput' hclx
          generalize hl3n : l3.length = l3n at hrput' hrclx
          generalize he3 : putErr (ns i) = e3 at *
          have he0 : vc .neq e3 e3 = false := by rw [qc, neq_false]; simp
          cbv
          refine call_con (ρ := [(1, .z), (3, .z)]) hput' ⟨by rfl, by rfl, by rfl, by cbv; exact ⟨fun _ => rfl, trivial⟩⟩ ?_
          rintro v H R js ⟨rfl, rfl, c3, rfl⟩
          cbv
          refine ⟨fun _ => rfl, ?_⟩
          refine call_con (ρ := [(2, .z), (4, .z)]) hrput' ⟨by rfl, by rfl, by rfl, by cbv; exact ⟨fun _ => rfl, trivial⟩⟩ ?_
          rintro v H R js ⟨rfl, rfl, c4, rfl⟩
          cbv
          refine ⟨fun _ => rfl, ?_⟩
          rw [he0]
          cbv
          generalize h7 : vc .eql (vb .rem .i64 k 7) 0 = z
          cases z
          · cbv
            refine Cv.fold [5, 6, 14, 15, 16, 17, 18, 19, 20, 21, 22, 23, 24, 25, 26, 27, 28, 29, 30, 31, 32, 33, 34, 35, 36, 37, 38, 39, 40, 41, 42, 43, 44, 45, 46, 47, 48, 49, 50, 51] 5 [3, 4] (by exact Nat.le_refl _) (by exact Nat.le_of_ble_eq_true rfl) (by rfl) (by cbv) ?_
            intro js
            refine ⟨(_, _, _, _, _, _, _, _), ?_, js, rfl⟩
            exact ⟨⟨i + 1, hk1, hlt, hi300, hpb, by omega, hp3.symm, hp3n.symm, hl3n.symm, hm3.symm⟩, hmu⟩
          · have hle : vaddN 0 p3n ≤ vln p3 := by simp only [qaddN, qln]; omega
            have hse : vnotB (vstrEq (vsub p3 0 p3n) (vsub p3 0 p3n)) = false := by simp only [qstrEq, qnotB]; simp
            cbv
            refine call_con (ρ := [(1, .z), (3, .z)]) (hclx c3) ⟨by rfl, by rfl, by rfl, by cbv; exact ⟨fun _ => rfl, trivial⟩⟩ ?_
            rintro v H R js ⟨rfl, c', rfl, rfl⟩
            cbv
            refine ⟨fun _ => rfl, ⟨hle⟩, ?_⟩
            refine call_con (ρ := [(2, .z), (4, .z)]) (hrclx c4) ⟨by rfl, by rfl, by rfl, by cbv; exact ⟨fun _ => rfl, trivial⟩⟩ ?_
            rintro v H R js ⟨rfl, rfl, rfl⟩
            cbv
            refine ⟨fun _ => rfl, ⟨⟨hle⟩, trivial⟩, ⟨hle⟩, ?_⟩
            rw [hse]
            cbv
            refine Cv.fold [5, 6, 14, 15, 16, 17, 18, 19, 20, 21, 22, 23, 24, 25, 26, 27, 28, 29, 30, 31, 32, 33, 34, 35, 36, 37, 38, 39, 40, 41, 42, 43, 44, 45, 46, 47, 48, 49, 50, 51] 5 [3, 4] (by exact Nat.le_refl _) (by exact Nat.le_of_ble_eq_true rfl) (by rfl) (by cbv) ?_
            intro js
            refine ⟨(_, _, _, _, _, _, _, _), ?_, js, rfl⟩
            exact ⟨⟨i + 1, hk1, hlt, hi300, hpb, by omega, hp3.symm, hp3n.symm, hl3n.symm, hm3.symm⟩, hmu⟩
        · clear hput' hrput' hbytes hrbytes hbytes'
          have hpb := padBits_bit hbit
          have hpl := padBits_length l2
          generalize hl3 : padBits l2 = l3 at *
          generalize hp3 : pack l3 = p3 at *
          generalize hp3n : p3.length = p3n at *
          try simp only [nc] at halw'
          generalize hm3 : ((l3.length : Nat) : Int) = m3 at halw'
          generalize hl3n : l3.length = l3n at hral'
          cbv
          refine call_con (ρ := [(1, .z), (3, .z)]) halw' ⟨by rfl, by rfl, by rfl, by cbv; exact ⟨fun _ => rfl, trivial⟩⟩ ?_
          rintro v H R js ⟨rfl, rfl, rfl⟩
          cbv
          refine ⟨fun _ => rfl, ?_⟩
          refine call_con (ρ := [(2, .z), (4, .z)]) hral' ⟨by rfl, by rfl, by rfl, by cbv; exact ⟨fun _ => rfl, trivial⟩⟩ ?_
          rintro v H R js ⟨rfl, rfl, c4, rfl⟩
          cbv
          refine ⟨fun _ => rfl, ?_⟩
          refine Cv.fold [5, 6, 14, 15, 16, 17, 18, 19, 20, 21, 22, 23, 24, 25, 26, 27, 28, 29, 30, 31, 32, 33, 34, 35, 36, 37, 38, 39, 40, 41, 42, 43, 44, 45, 46, 47, 48, 49, 50, 51] 5 [3, 4] (by exact Nat.le_refl _) (by exact Nat.le_of_ble_eq_true rfl) (by rfl) (by cbv) ?_
          intro js
          refine ⟨(_, _, _, _, _, _, _, _), ?_, js, rfl⟩
          exact ⟨⟨i + 1, hk1, hlt, hi300, hpb, by omega, hp3.symm, hp3n.symm, hl3n.symm, hm3.symm⟩, hmu⟩
    · rename_i hge
      clear hput hrput halw hral hbytes hrbytes hput' hrput' halw' hral' hbytes'
      cbv
      have hle : vaddN 0 n1 ≤ vln l := by simp only [qaddN, qln]; omega
      have hse : vstrEq (vsub l 0 n1) (vsub l 0 n1) = true := by simp only [qstrEq]; simp
      refine call_con (ρ := [(1, .z), (3, .z)]) hcl ⟨by rfl, by rfl, by rfl, by cbv; exact ⟨fun _ => rfl, trivial⟩⟩ ?_
      rintro v H R js ⟨rfl, c', rfl, rfl⟩
      cbv
      refine ⟨fun _ => rfl, ⟨hle⟩, ?_⟩
      refine call_con (ρ := [(2, .z), (4, .z)]) hrcl ⟨by rfl, by rfl, by rfl, by cbv; exact ⟨fun _ => rfl, trivial⟩⟩ ?_
      rintro v H R js ⟨rfl, rfl, rfl⟩
      cbv
      refine ⟨fun _ => rfl, ⟨⟨hle⟩, trivial⟩, ⟨hle⟩, ?_⟩
      rw [hse]
      cbv
      refine call_con (ρ := []) hwakes ⟨by rfl, by rfl, by rfl, by cbv; exact ⟨fun _ => rfl, trivial⟩⟩ ?_
      rintro v H R js ⟨rfl, rfl, rfl⟩
      cbv
      exact ⟨fun _ => rfl, ⟨⟨hle⟩, trivial⟩, ⟨⟨hle⟩, trivial⟩, trivial⟩


theorem own : ownKnob Try.prog.godebug = none := by kernel_rfl
set_option maxRecDepth 100000 in
theorem lifted (os : Os) (started : os.Started) (H : Type) (enc : TypeId × Value → H) :
    ReturnsInHanded {} Try.checked os 7 .any (Rows.bitsWriteSpec.pre6 enc Try.prog Try.f7 Rows.bitsWriteRow.domain false) (Rows.bitsWriteSpec.post enc Try.prog Try.f7 false true false false) := by
  refine returnsInHanded_of_change (C := Try.checked) own started (by kernel_rfl) Try.func7
    (ChangeSpec.witness6 (enc := enc) (C := Try.checked) false ⟨#[], #[.slice none 0 0], []⟩ 8 (by kernel_rfl) (by kernel_rfl) (by kernel_rfl) (by kernel_rfl)) ?_
  intro W base args ds gs before hval0 hW hcnd _
  have hval : ∀ (j : Nat) t v, Try.f7.params[j]? = some t → args[j]? = some v → Value.okWide Try.prog W .any base t v := hval0
  have hW' := hW
  obtain ⟨p, q, hA0, hV, rfl, hfz, hnd⟩ := hW
  have hA : DataW.TrodAll enc Try.prog W 0 (fun _ => true) true Try.f7.params.toList args.toList ds p := hA0
  rw [Try.params7] at hA hval
  obtain ⟨v0, vs0, d0, ds0, p0, q0, hargs0, rfl, rfl, h0, r0⟩ := trodAll_cons hA
  obtain ⟨rfl, rfl, rfl⟩ := trodAll_nil r0
  obtain rfl : args = #[v0] := by cases args; simp_all
  obtain ⟨rfl, rfl⟩ := trodVars_none hV
  obtain ⟨s0, xs0, ns0, as0, len0, cap0, rfl, lt0, ho0, hx0, hn0, hc0⟩ := arg_trips (P := Try.prog) Try.underlying53 Try.underlying60 (by kernel_rfl) (by kernel_rfl) (by kernel_rfl) (by kernel_rfl) (by kernel_rfl) (by kernel_rfl) (by kernel_rfl) Try.underlying32 Try.underlying3 Try.underlying4 (hval 0 53 v0 rfl rfl) h0
  refine (con_below (law_con xs0 ns0 as0 len0 cap0 hc0 (fun i => wf_u64 (hx0 i))) (by intro B hB; simp at hB; subst hB; rfl) (ok_args [(s0, .roA 3 len0 (fun i => [.int .u64 (xs0 i), .int .i64 (ns0 i), .bool (as0 i)]))] (by intro e he; simp at he; subst he; exact ⟨lt0, rfl, ho0⟩))).mono fun e W' ⟨he, hb⟩ => ⟨_, he, ?_⟩
  exact law_post hW' rfl (by kernel_rfl) Try.underlying4 (by kernel_rfl) (by kernel_rfl) rfl rfl rfl hb

theorem over : Rows.bitsWriteRow.holds Try.pinned (OpenSpec.ofChange Rows.bitsWriteSpec) :=
  OpenClaim.holds_of_wide 7 Try.f7 rfl rfl rfl rfl rfl rfl rfl ⟨rfl, rfl, rfl, rfl, rfl⟩ rfl rfl rfl rfl rfl (by kernel_rfl) Try.func7 (by kernel_rfl)
    (of_decide_eq_true (by kernel_rfl)) (by unfold Func.isWrapper; first | (rw [if_pos (by decide +kernel)]; kernel_rfl) | (rw [if_neg (by decide +kernel)]; exact ⟨rfl, rfl⟩))
    (fun os started H enc _ => lifted os started H enc)

theorem proved : Rows.BitsWriteSaid :=
  over
#print axioms proved

end Go.Proofs.Ytgbnngjmjimhiaa.bitsWrite
