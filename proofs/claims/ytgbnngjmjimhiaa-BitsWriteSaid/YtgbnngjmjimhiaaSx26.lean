/-
  The engine, part 26: what a slice of numbers that came in reads as.
-/
import Derived.Test.YtgbnngjmjimhiaaSx25
namespace Go.Sx
open Go Go.ChangeShapes Go.WideShapes Go.RowKit Go.Deep
section
variable {H : Type} {enc : TypeId × Value → H} {P : Program}
theorem arg_intsD {W : World} {base : Nat} {r : Reach} {t e : TypeId} {k : IntKind} {v : Value} {d : DataW H} {ps : List MemPlace} (ht : P.underlying t = some (.slice e)) (he : P.underlying e = some (.int k)) (hc : P.cellsOf e = 1)
    (hval : Value.okWide P W r base t v) (hd : DataW.Trod enc P W 0 (fun _ => true) true t v d ps) :
    ∃ (p0 : Option (Nat × Nat)) (l : List Int) (cap : Nat), v = .slice (p0.map fun p => ⟨p.1, p.2, none⟩) l.length cap ∧ (∀ p, p0 = some p → p.1 < W.heap.size) ∧ (∀ σ, holds P σ p0 W (.ro k l)) ∧ (∀ x ∈ l, (Lit.int k x).wf = true) ∧
      l.length ≤ cap ∧ ((d = .nil ∧ l = []) ∨ ∃ rest, d = .slice (lits k l) rest) := by
  obtain ⟨a1, len, cap, rfl⟩ := okWide_slice ht hval
  obtain ⟨fuel, hf⟩ := hd
  rcases open_ints ht he hc hf with ⟨hcs, hx⟩ | ⟨a, len', cap', zs, hcs, _, hl, hm, hz, hx, hcell, hwz⟩
  · simp [Value.cells] at hcs
    obtain ⟨rfl, rfl, rfl⟩ := hcs
    simp only [Prod.mk.injEq] at hx
    exact ⟨none, [], 0, rfl, (fun p hp => by cases hp), (fun σ => .inl ⟨rfl, rfl⟩), (by simp), Nat.le_refl _, .inl ⟨hx.1, rfl⟩⟩
  · simp [Value.cells] at hcs
    obtain ⟨rfl, rfl, rfl⟩ := hcs
    simp only [if_true] at hz
    simp only [Prod.mk.injEq] at hx
    obtain ⟨hspot, hlt⟩ := slice_in ht hval
    have hlen : (zs.take len).length = len := by simp; omega
    obtain ⟨b, o, sp⟩ := a
    simp only at hspot
    subst hspot
    refine ⟨some (b, o), zs.take len, cap, by rw [hlen]; rfl, (fun p hp => by cases hp; exact hlt), fun σ => .inr ⟨b, o, rfl, fun i hi => ?_⟩, fun x hx => hwz x (List.mem_of_mem_take hx), (by rw [hlen]; exact hl), .inr ⟨_, hx.1⟩⟩
    have hi' : i < zs.length := by simp at hi; omega
    have := hcell i hi'
    have e : (zs.take len).getD i 0 = zs.getD i 0 := by
      rw [hlen] at hi
      simp [List.getD_eq_getElem?_getD, List.getElem?_take, hi]
    rw [addr_add] at this
    rw [e]
    exact this
end
end Go.Sx
