/-
  The engine, part 24: from a contract to a law's row.
-/
import Derived.Test.YtgbnngjmjimhiaaSx23
import Derived.ProofKit
import Derived.OpenShut
import Derived.Carry
import Derived.JoinedCond
import Derived.Deep.SlicePairs
namespace Go.Sx
open Go Go.ChangeShapes Go.WideShapes Go.RowKit Go.Deep
theorem con_below {P : Program} {f : Nat} {args : List SV} {H : List SB} {R0 : List Nat} {H0 : List SB} (c : Con P f args H (fun v H' R => v = .bool true ∧ H' = H0 ∧ R = R0)) (hH : ∀ B ∈ H, own B = false) {σ : Names} {w : World} (hok : Ok P σ (small H []) w) :
    Calls P f (denL σ args).toArray w fun e w' => e = .returned (.bool true) ∧ Below w.heap.size w w' := by
  refine ((c.out σ w hok).calls (fun k => by simp [Fence.room, FR, Fence.wide])).mono ?_
  rintro e w' ⟨σ', v, H', R, ⟨rfl, _, _⟩, rfl, _, hst⟩
  exact ⟨rfl, ⟨hst.os, hst.tape, hst.output, hst.size, fun k hk => hst.far k hk (fun i B p hB ho _ => by rw [hH B (List.mem_of_getElem? hB)] at ho; cases ho)⟩⟩
/-- Blocks that are only read, each where it lies. -/
theorem ok_args {P : Program} {w : World} (l : List (Option (Nat × Nat) × SB)) (h : ∀ e ∈ l, (∀ p, e.1 = some p → p.1 < w.heap.size) ∧ own e.2 = false ∧ ∀ σ, holds P σ e.1 w e.2) :
    Ok P (fun i => (l[i]?).bind (·.1)) (small (l.map (·.2)) []) w := by
  have hg : ∀ i B, (l.map (·.2))[i]? = some B → ∃ e ∈ l, l[i]? = some e ∧ e.2 = B := fun i B hB => by
    rw [List.getElem?_map, Option.map_eq_some_iff] at hB
    obtain ⟨e, he, rfl⟩ := hB
    exact ⟨e, List.mem_of_getElem? he, he, rfl⟩
  refine ⟨fun i p hi hp => ?_, fun i j B C p q hij hB hC ho _ _ => ?_, fun i B hB => ?_, (fun l hl => by cases hl), (fun l hl => by cases hl)⟩
  · simp only [Option.bind_eq_some_iff] at hp
    obtain ⟨e, he, hp⟩ := hp
    exact (h e (List.mem_of_getElem? he)).1 p hp
  · obtain ⟨e, he, _, rfl⟩ := hg i B hB
    obtain ⟨e', he', _, rfl⟩ := hg j C hC
    rw [(h e he).2.1, (h e' he').2.1] at ho
    simp at ho
  · obtain ⟨e, he, h1, rfl⟩ := hg i B hB
    rw [h1]
    exact (h e he).2.2 _
section
variable {H : Type} {enc : TypeId × Value → H} {P : Program}
theorem trodAll_below (hl : laidOutB P = true) {W W' : World} (hb : Below W.heap.size W W') : ∀ {ts : List TypeId} {vs : List Value} {ds : List (DataW H)} {ps : List MemPlace},
    ts.all (fun t => P.readableRec t && decide (t < P.types.size)) = true → DataW.TrodAll enc P W 0 (fun _ => true) true ts vs ds ps → (∀ x ∈ ps, x.block < W.heap.size) →
    DataW.TrodAll enc P W' 0 (fun b => decide (b < W.heap.size)) true ts vs ds ps
  | [], vs, ds, ps, _, h, _ => by cases vs <;> cases ds <;> simp [DataW.TrodAll] at h ⊢; exact h
  | t :: ts, vs, ds, ps, ht, h, hlt => by
    obtain ⟨v, vs', d, ds', p, q, rfl, rfl, rfl, h1, h2⟩ := trodAll_cons h
    simp only [List.all_cons, Bool.and_eq_true, decide_eq_true_eq] at ht
    exact ⟨p, q, Below.trod hl ht.1.1 ht.1.2 h1 hb (fun x hx => hlt x (List.mem_append_left _ hx)), trodAll_below hl hb ht.2 h2 (fun x hx => hlt x (List.mem_append_right _ hx)), rfl⟩
/-- A law's end: true; its arguments read as they did. -/
theorem law_post {fn : Func} {s : ChangeSpec} {args : Array Value} {ds gs : List (DataW H)} {before : List MemPlace} {W W' : World} {tb : TypeId} (hW : DataW.Whole enc P fn.params.toList s.vars false W args.toList ds gs before) (hv : s.vars = [])
    (hr : fn.resultTypes = #[tb]) (htb : P.underlying tb = some .bool) (hl : laidOutB P = true) (hp : fn.params.toList.all (fun t => P.readableRec t && decide (t < P.types.size)) = true)
    (hf : (s.fn H (ds ++ gs)).results = [.lit (.bool true)]) (hf2 : (s.fn H (ds ++ gs)).args = ds) (hf3 : (s.fn H (ds ++ gs)).vars = []) (hb : Below W.heap.size W W') :
    s.post enc P fn false true false false W args (.bool true) W' := by
  have hlt := hW.lt
  have hW0 := hW
  obtain ⟨p, q, hA, hV, rfl, hz, hn⟩ := hW
  have hq : q = [] := by
    rw [hv] at hV
    cases gs <;> simp [DataW.TrodVars] at hV
    exact hV
  subst hq
  refine ⟨ds, gs, p ++ [], [], p, [], hW0, ?_, ?_, ?_, hb.frame _, fun h => by cases h⟩
  · rw [hr, hf]
    exact trodAll_mk1 (shut_bool htb true)
  · rw [hf2]
    exact trodAll_below hl hb hp hA (fun x hx => hlt x (List.mem_append_left _ hx))
  · rw [hv, hf3]
    rfl
/-- A slice of numbers that came in. -/
theorem arg_ints {W : World} {base : Nat} {r : Reach} {t e : TypeId} {k : IntKind} {v : Value} {d : DataW H} {ps : List MemPlace} (ht : P.underlying t = some (.slice e)) (he : P.underlying e = some (.int k)) (hc : P.cellsOf e = 1)
    (hval : Value.okWide P W r base t v) (hd : DataW.Trod enc P W 0 (fun _ => true) true t v d ps) :
    ∃ (p0 : Option (Nat × Nat)) (l : List Int) (cap : Nat), v = .slice (p0.map fun p => ⟨p.1, p.2, none⟩) l.length cap ∧ (∀ p, p0 = some p → p.1 < W.heap.size) ∧ (∀ σ, holds P σ p0 W (.ro k l)) ∧ (∀ x ∈ l, (Lit.int k x).wf = true) ∧
      l.length ≤ cap ∧ cap ≤ maxLen := by
  obtain ⟨a1, len, cap, rfl⟩ := okWide_slice ht hval
  obtain ⟨fuel, hf⟩ := hd
  rcases open_ints ht he hc hf with ⟨hcs, hx⟩ | ⟨a, len', cap', zs, hcs, _, hl, hm, hz, hx, hcell, hwz⟩
  · simp [Value.cells] at hcs
    obtain ⟨rfl, rfl, rfl⟩ := hcs
    exact ⟨none, [], 0, rfl, (fun p hp => by cases hp), (fun σ => .inl ⟨rfl, rfl⟩), (by simp), Nat.le_refl _, Nat.zero_le _⟩
  · simp [Value.cells] at hcs
    obtain ⟨rfl, rfl, rfl⟩ := hcs
    simp only [if_true] at hz
    have hk : Cell.ok P W r base t (.slice (some a) len cap) := by
      simp only [Value.okWide, ht, Cell.okWide] at hval
      exact hval
    simp only [Cell.ok, ht] at hk
    obtain ⟨_, _, _, hspot, row, cells, hsh, _⟩ := hk
    have hlt : a.block < W.heap.size := by
      unfold World.shape? at hsh
      cases hg : W.heap[a.block]? with
      | none => rw [hg] at hsh; cases hsh
      | some o => exact (Array.getElem?_eq_some_iff.1 hg).1
    have hlen : (zs.take len).length = len := by simp; omega
    refine ⟨some (a.block, a.off), zs.take len, cap, ?_, (fun p hp => by cases hp; exact hlt), fun σ => .inr ⟨a.block, a.off, rfl, fun i hi => ?_⟩, fun x hx => hwz x (List.mem_of_mem_take hx), (by rw [hlen]; exact hl), hm⟩
    · rw [hlen]
      obtain ⟨b, o, sp⟩ := a
      simp only at hspot
      subst hspot
      rfl
    · have hi' : i < zs.length := by simp at hi; omega
      have := hcell i hi'
      obtain ⟨b, o, sp⟩ := a
      simp only at hspot
      subst hspot
      have e : (zs.take len).getD i 0 = zs.getD i 0 := by
        rw [hlen] at hi
        simp [List.getD_eq_getElem?_getD, List.getElem?_take, hi]
      rw [e]
      have ea : (⟨b, o, none⟩ : Addr).add i = ⟨b, o + i, none⟩ := by
        unfold Addr.add
        split
        · rename_i h; subst h; rfl
        · rfl
      rw [ea] at this
      exact this
end
end Go.Sx
