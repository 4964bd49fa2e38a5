/-
  The engine, part 27: a slice of structs of two numbers and a bool that came in.
-/
import Derived.Test.YtgbnngjmjimhiaaSx26
namespace Go.Sx
open Go Go.ChangeShapes Go.WideShapes Go.RowKit Go.Deep
section
variable {H : Type} {enc : TypeId × Value → H} {P : Program}
def boolV (v : Value) : Bool :=
  match v with
  | .bool b => b
  | _ => false
theorem arg_trips {W : World} {base : Nat} {r : Reach} {t e : TypeId} {f0 f1 f2 : Field} {k0 k1 : IntKind} {v : Value} {d : DataW H} {ps : List MemPlace} (ht : P.underlying t = some (.slice e)) (he : P.underlying e = some (.struct #[f0, f1, f2]))
    (ce : P.cellsOf e = 3) (o0 : f0.offset = 0) (o1 : f1.offset = 1) (o2 : f2.offset = 2) (c0 : P.cellsOf f0.type = 1) (c1 : P.cellsOf f1.type = 1) (c2 : P.cellsOf f2.type = 1)
    (h0 : P.underlying f0.type = some (.int k0)) (h1 : P.underlying f1.type = some (.int k1)) (h2 : P.underlying f2.type = some .bool)
    (hval : Value.okWide P W r base t v) (hd : DataW.Trod enc P W 0 (fun _ => true) true t v d ps) :
    ∃ (p0 : Option (Nat × Nat)) (xs ns : Nat → Int) (as : Nat → Bool) (len cap : Nat), v = .slice (p0.map fun p => ⟨p.1, p.2, none⟩) len cap ∧ (∀ p, p0 = some p → p.1 < W.heap.size) ∧
      (∀ σ, holds P σ p0 W (.roA 3 len (fun i => [.int k0 (xs i), .int k1 (ns i), .bool (as i)]))) ∧
      (∀ i, (Lit.int k0 (xs i)).wf = true) ∧ (∀ i, (Lit.int k1 (ns i)).wf = true) ∧ len ≤ cap := by
  have z0 : ∀ k : IntKind, (Lit.int k 0).wf = true := fun k => by cases k <;> rfl
  obtain ⟨a1, len, cap, rfl⟩ := okWide_slice ht hval
  obtain ⟨fuel, hf⟩ := hd
  rcases open_slice ht hf with ⟨hcs, hx⟩ | ⟨a, len', cap', m, n, D, Pl, hcs, _, hl, hm, hmm, hx, hcell⟩
  · simp [Value.cells] at hcs
    obtain ⟨rfl, rfl, rfl⟩ := hcs
    exact ⟨none, fun _ => 0, fun _ => 0, fun _ => false, 0, 0, rfl, (fun p hp => by cases hp), (fun σ => .inl ⟨rfl, rfl⟩), fun _ => z0 _, fun _ => z0 _, Nat.le_refl _⟩
  · simp [Value.cells] at hcs
    obtain ⟨rfl, rfl, rfl⟩ := hcs
    simp only [if_true] at hmm
    obtain ⟨hspot, hlt⟩ := slice_in ht hval
    obtain ⟨b, o, sp⟩ := a
    simp only at hspot
    subst hspot
    have each : ∀ i, i < len → ∃ q : Int × Int × Bool, W.cell? ⟨b, o + (i * 3 + 0), none⟩ = some (.int k0 q.1) ∧ W.cell? ⟨b, o + (i * 3 + 1), none⟩ = some (.int k1 q.2.1) ∧ W.cell? ⟨b, o + (i * 3 + 2), none⟩ = some (.bool q.2.2) ∧
        (Lit.int k0 q.1).wf = true ∧ (Lit.int k1 q.2.1).wf = true := fun i hi => by
      obtain ⟨cs', g1, g2⟩ := hcell i (by omega)
      rw [ce] at g1
      obtain ⟨_, hlen, hc⟩ := World.cells?_some g1
      obtain ⟨xs, k, hk, hxy, _, hxl, hfs⟩ := DataW.trod_struct he g2
      match xs, hxl, cs', hlen with
      | [y0, y1, y2], _, [v0, v1, v2], _ =>
        have q0 := hfs 0 f0 rfl
        have q1 := hfs 1 f1 rfl
        have q2 := hfs 2 f2 rfl
        simp [o0, o1, o2, c0, c1, c2] at q0 q1 q2
        have e0 := hc 0 (by omega)
        have e1 := hc 1 (by omega)
        have e2 := hc 2 (by omega)
        rw [addr_add, addr_add] at e0 e1 e2
        obtain ⟨x, hx, _, hw⟩ := DataW.trod_int h0 q0
        obtain ⟨y, hy, _, hw'⟩ := DataW.trod_int h1 q1
        obtain ⟨z, hz, _⟩ := DataW.trod_bool h2 q2
        simp only [List.cons.injEq, and_true] at hx hy hz
        subst hx hy hz
        exact ⟨(x, y, z), by simpa [Nat.add_assoc] using e0, by simpa [Nat.add_assoc] using e1, by simpa [Nat.add_assoc] using e2, hw, hw'⟩
    obtain ⟨q, hq⟩ := choose_lt each
    refine ⟨some (b, o), fun i => if i < len then (q i).1 else 0, fun i => if i < len then (q i).2.1 else 0, fun i => if i < len then (q i).2.2 else false, len, cap, rfl, (fun p hp => by cases hp; exact hlt), fun σ => .inr ⟨b, o, rfl, fun i hi => ⟨rfl, fun j v hj => ?_⟩⟩, fun i => ?_, fun i => ?_, hl⟩
    · obtain ⟨e0, e1, e2, _, _⟩ := hq i hi
      simp only [if_pos hi] at hj
      match j, hj with
      | 0, hj => cases hj; simp only [den]; exact e0
      | 1, hj => cases hj; simp only [den]; exact e1
      | 2, hj => cases hj; simp only [den]; exact e2
      | j + 3, hj => simp at hj
    · dsimp only; split
      · rename_i hi; exact (hq i hi).2.2.2.1
      · exact z0 _
    · dsimp only; split
      · rename_i hi; exact (hq i hi).2.2.2.2
      · exact z0 _
end
end Go.Sx
