/-
 For every row of steps, balerlaw13.SequencesBack returns true and leaves its arguments as they were. No condition.
-/
import Derived.Test.YtlclleihoampdaaA8
import Derived.Test.YtlclleihoampdaaED
namespace Go.Proofs.Ytlclleihoampdaa.sequencesBack
open Go Go.Sx Go.ChangeShapes Go.WideShapes Go.ChangeAt Go.RowKit Go.Deep
set_option linter.unusedVariables false
theorem holds_roA_congr {P : Program} {σ : Names} {p : Option (Nat × Nat)} {w : World} {m : Nat} {f g : Nat → List SV} (he : ∀ i, i < m → f i = g i) (h : holds P σ p w (.roA 3 m f)) : holds P σ p w (.roA 3 m g) := by
 rcases h with h | ⟨b, o, hp, h⟩
 ·exact .inl h
 ·refine .inr ⟨b, o, hp, fun i hi => ?_⟩
  have := h i hi
  rw [he i hi] at this
  exact this
theorem own : ownKnob Try.prog.godebug = none := by kernel_rfl
set_option maxRecDepth 100000 in
theorem lifted (os : Os) (started : os.Started) (H : Type) (enc : TypeId × Value → H) :
  ReturnsInHanded {} Try.checked os 3 .any (Rows.sequencesBackSpec.pre6 enc Try.prog Try.f3 Rows.sequencesBackRow.domain false) (Rows.sequencesBackSpec.post enc Try.prog Try.f3 false true false false) := by
 refine returnsInHanded_of_change (C := Try.checked) own started (by kernel_rfl) Try.func3
  (ChangeSpec.witness6 (enc := enc) (C := Try.checked) false ⟨#[], #[.slice none 0 0], []⟩ 8 (by kernel_rfl) (by kernel_rfl) (by kernel_rfl) (by kernel_rfl)) ?_
 intro W base args ds gs before hval0 hW hcnd _
 have hval : ∀ (j : Nat) t v, Try.f3.params[j]? = some t → args[j]? = some v → Value.okWide Try.prog W .any base t v := hval0
 have hW' := hW
 obtain ⟨p, q, hA0, hV, rfl, hfz, hnd⟩ := hW
 have hA : DataW.TrodAll enc Try.prog W 0 (fun _ => true) true Try.f3.params.toList args.toList ds p := hA0
 rw [Try.params3] at hA hval
 obtain ⟨v0, vs0, d0, ds0, p0, q0, hargs0, rfl, rfl, h0, r0⟩ := trodAll_cons hA
 obtain ⟨rfl, rfl, rfl⟩ := trodAll_nil r0
 obtain rfl : args = #[v0] := by cases args; simp_all
 obtain ⟨rfl, rfl⟩ := trodVars_none hV
 obtain ⟨s0, xs, ys, zs, n, cap, rfl, lt0, ho, wx, wy, wz, hc, hmx⟩ := arg_tripI (P := Try.prog) Try.underlying22 Try.underlying24 (by kernel_rfl) (by kernel_rfl) (by kernel_rfl) (by kernel_rfl) (by kernel_rfl) (by kernel_rfl) (by kernel_rfl) Try.underlying3 Try.underlying3 Try.underlying3 (hval 0 22 v0 rfl rfl) h0
 have hmx : cap ≤ 9223372036854775807 := hmx
 obtain ⟨m, hmn, hnm⟩ : ∃ m, m ≤ n ∧ ((n ≤ 3000 ∧ m = n) ∨ (3000 < n ∧ n ≤ 65535 ∧ m = 3000) ∨ (65535 < n ∧ m = n)) := by
  by_cases h1 : n ≤ 3000
  ·exact ⟨n, Nat.le_refl _, .inl ⟨h1, rfl⟩⟩
  ·by_cases h2 : n ≤ 65535
   ·exact ⟨3000, by omega, .inr (.inl ⟨by omega, h2, rfl⟩)⟩
   ·exact ⟨n, Nat.le_refl _, .inr (.inr ⟨by omega, rfl⟩)⟩
 obtain ⟨rows, hrl, hrr⟩ : ∃ rows : List Row, rows.length = m ∧ ∀ i, i < m → rows.getD i (0, 0, 0) = (xs i, ys i, zs i) :=
  ⟨(List.range m).map fun i => (xs i, ys i, zs i), by simp, fun i hi => by simp [List.getD_eq_getElem?_getD, hi]⟩
 have ho' : ∀ σ, holds Try.prog σ s0 W (.roA 3 m (fun i => [.int .i64 (rows.getD i (0, 0, 0)).1, .int .i64 (rows.getD i (0, 0, 0)).2.1, .int .i64 (rows.getD i (0, 0, 0)).2.2])) := fun σ =>
  holds_roA_congr (fun i hi => by rw [hrr i hi]) (ho m hmn σ)
 refine (con_below (law_con n m cap _ _ _ rows rfl rfl rfl hrl.symm hnm hc hmx) (by intro B hB; simp at hB; subst hB; rfl) (ok_args [(s0, .roA 3 m (fun i => [.int .i64 (rows.getD i (0, 0, 0)).1, .int .i64 (rows.getD i (0, 0, 0)).2.1, .int .i64 (rows.getD i (0, 0, 0)).2.2]))] (by intro e he; simp at he; subst he; exact ⟨lt0, rfl, ho'⟩))).mono fun e W' ⟨he, hb⟩ => ⟨_, he, ?_⟩
 exact law_post hW' rfl (by kernel_rfl) Try.underlying4 (by kernel_rfl) (by kernel_rfl) rfl rfl rfl hb

theorem over : Rows.sequencesBackRow.holds Try.pinned (OpenSpec.ofChange Rows.sequencesBackSpec) :=
 OpenClaim.holds_of_wide 3 Try.f3 rfl rfl rfl rfl rfl rfl rfl ⟨rfl, rfl, rfl, rfl, rfl⟩ rfl rfl rfl rfl rfl (by kernel_rfl) Try.func3 (by kernel_rfl)
  (of_decide_eq_true (by kernel_rfl)) (by unfold Func.isWrapper; first | (rw [if_pos (by decide +kernel)]; kernel_rfl) | (rw [if_neg (by decide +kernel)]; exact ⟨rfl, rfl⟩))
  (fun os started H enc _ => lifted os started H enc)

theorem proved : Rows.SequencesBackSaid :=
 over
#print axioms proved
end Go.Proofs.Ytlclleihoampdaa.sequencesBack
