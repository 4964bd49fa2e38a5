/-
  The engine, part 24: from a contract to a law's row.
-/
import Derived.Test.YtgbnngjmjimhiaaSx23
import Derived.ProofKit
import Derived.OpenShut
import Derived.Carry
import Derived.JoinedCond
import Derived.Deep.SlicePairs
namespace Go.Sx
open Go Go.ChangeShapes Go.WideShapes Go.RowKit Go.Deep
theorem con_below {P : Program} {f : Nat} {args : List SV} {H : List SB} {R0 : List Nat} {H0 : List SB} (c : Con P f args H (fun v H' R => v = .bool true ∧ H' = H0 ∧ R = R0)) (hH : ∀ B ∈ H, own B = false) {σ : Names} {w : World} (hok : Ok P σ (small H []) w) :
    Calls P f (denL σ args).toArray w fun e w' => e = .returned (.bool true) ∧ Below w.heap.size w w' := by
  refine ((c.out σ w hok).calls (fun k => by simp [Fence.room, FR, Fence.wide])).mono ?_
  rintro e w' ⟨σ', v, H', R, ⟨rfl, _, _⟩, rfl, _, hst⟩
  exact ⟨rfl, ⟨hst.os, hst.tape, hst.output, hst.size, fun k hk => hst.far k hk (fun i B p hB ho _ => by rw [hH B (List.mem_of_getElem? hB)] at ho; cases ho)⟩⟩
/-- Blocks that are only read, each where it lies. -/
theorem ok_args {P : Program} {w : World} (l : List (Option (Nat × Nat) × SB)) (h : ∀ e ∈ l, (∀ p, e.1 = some p → p.1 < w.heap.size) ∧ own e.2 = false ∧ ∀ σ, holds P σ e.1 w e.2) :
    Ok P (fun i => (l[i]?).bind (·.1)) (small (l.map (·.2)) []) w := by
  have hg : ∀ i B, (l.map (·.2))[i]? = some B → ∃ e ∈ l, l[i]? = some e ∧ e.2 = B := fun i B hB => by
    rw [List.getElem?_map, Option.map_eq_some_iff] at hB
    obtain ⟨e, he, rfl⟩ := hB
    exact ⟨e, List.mem_of_getElem? he, he, rfl⟩
  refine ⟨fun i p hi hp => ?_, fun i j B C p q hij hB hC ho _ _ => ?_, fun i B hB => ?_, (fun l hl => by cases hl), (fun l hl => by cases hl)⟩
  · simp only [Option.bind_eq_some_iff] at hp
    obtain ⟨e, he, hp⟩ := hp
    exact (h e (List.mem_of_getElem? he)).1 p hp
  · obtain ⟨e, he, _, rfl⟩ := hg i B hB
    obtain ⟨e', he', _, rfl⟩ := hg j C hC
    rw [(h e he).2.1, (h e' he').2.1] at ho
    simp at ho
  · obtain ⟨e, he, h1, rfl⟩ := hg i B hB
    rw [h1]
    exact (h e he).2.2 _
section
variable {H : Type} {enc : TypeId × Value → H} {P : Program}
theorem trodAll_below (hl : laidOutB P = true) {W W' : World} (hb : Below W.heap.size W W') : ∀ {ts : List TypeId} {vs : List Value} {ds : List (DataW H)} {ps : List MemPlace},
    ts.all (fun t => P.readableRec t && decide (t < P.types.size)) = true → DataW.TrodAll enc P W 0 (fun _ => true) true ts vs ds ps → (∀ x ∈ ps, x.block < W.heap.size) →
    DataW.TrodAll enc P W' 0 (fun b => decide (b < W.heap.size)) true ts vs ds ps
  | [], vs, ds, ps, _, h, _ => by cases vs <;> cases ds <;> simp [DataW.TrodAll] at h ⊢; exact h
  | t :: ts, vs, ds, ps, ht, h, hlt => by
    obtain ⟨v, vs', d, ds', p, q, rfl, rfl, rfl, h1, h2⟩ := trodAll_cons h
    simp only [List.all_cons, Bool.and_eq_true, decide_eq_true_eq] at ht
    exact ⟨p, q, Below.trod hl ht.1.1 ht.1.2 h1 hb (fun x hx => hlt x (List.mem_append_left _ hx)), trodAll_below hl hb ht.2 h2 (fun x hx => hlt x (List.mem_append_right _ hx)), rfl⟩
/-- A law's end: true; its arguments read as they did. -/
theorem law_post {fn : Func} {s : ChangeSpec} {args : Array Value} {ds gs : List (DataW H)} {before : List MemPlace} {W W' : World} {tb : TypeId} (hW : DataW.Whole enc P fn.params.toList s.vars false W args.toList ds gs before) (hv : s.vars = [])
    (hr : fn.resultTypes = #[tb]) (htb : P.underlying tb = some .bool) (hl : laidOutB P = true) (hp : fn.params.toList.all (fun t => P.readableRec t && decide (t < P.types.size)) = true)
    (hf : (s.fn H (ds ++ gs)).results = [.lit (.bool true)]) (hf2 : (s.fn H (ds ++ gs)).args = ds) (hf3 : (s.fn H (ds ++ gs)).vars = []) (hb : Below W.heap.size W W') :
    s.post enc P fn false true false false W args (.bool true) W' := by
  have hlt := hW.lt
  have hW0 := hW
  obtain ⟨p, q, hA, hV, rfl, hz, hn⟩ := hW
  have hq : q = [] := by
    rw [hv] at hV
    cases gs <;> simp [DataW.TrodVars] at hV
    exact hV
  subst hq
  refine ⟨ds, gs, p ++ [], [], p, [], hW0, ?_, ?_, ?_, hb.frame _, fun h => by cases h⟩
  · rw [hr, hf]
    exact trodAll_mk1 (shut_bool htb true)
  · rw [hf2]
    exact trodAll_below hl hb hp hA (fun x hx => hlt x (List.mem_append_left _ hx))
  · rw [hv, hf3]
    rfl
theorem wf_u64 {x : Int} (h : (Lit.int .u64 x).wf = true) : 0 ≤ x ∧ x < 2 ^ 64 := by
  simp [Lit.wf, IntKind.min, IntKind.max, IntKind.signed, IntKind.bits] at h
  omega
theorem wf_i64 {x : Int} (h : (Lit.int .i64 x).wf = true) : -9223372036854775808 ≤ x ∧ x ≤ 9223372036854775807 := by
  simpa [Lit.wf, IntKind.min, IntKind.max, IntKind.signed, IntKind.bits] using h
theorem wf_u8 {x : Int} (h : (Lit.int .u8 x).wf = true) : 0 ≤ x ∧ x < 256 := by
  simp [Lit.wf, IntKind.min, IntKind.max, IntKind.signed, IntKind.bits] at h
  omega
theorem slice_in {W : World} {base : Nat} {r : Reach} {t e : TypeId} {a : Addr} {len cap : Nat} (ht : P.underlying t = some (.slice e)) (hval : Value.okWide P W r base t (.slice (some a) len cap)) : a.spot = none ∧ a.block < W.heap.size := by
  have hk : Cell.ok P W r base t (.slice (some a) len cap) := by
    simp only [Value.okWide, ht, Cell.okWide] at hval
    exact hval
  simp only [Cell.ok, ht] at hk
  obtain ⟨_, _, _, hspot, row, cells, hsh, _⟩ := hk
  refine ⟨hspot, ?_⟩
  unfold World.shape? at hsh
  cases hg : W.heap[a.block]? with
  | none => rw [hg] at hsh; cases hsh
  | some o => exact (Array.getElem?_eq_some_iff.1 hg).1
theorem addr_add (b o i : Nat) : (⟨b, o, none⟩ : Addr).add i = ⟨b, o + i, none⟩ := by
  unfold Addr.add
  split
  · rename_i h; subst h; rfl
  · rfl
def numV (v : Value) : Int :=
  match v with
  | .int _ n => n
  | _ => 0
/-- A slice of pairs of numbers that came in. -/
theorem arg_pairs {W : World} {base : Nat} {r : Reach} {t e : TypeId} {f0 f1 : Field} {k0 k1 : IntKind} {v : Value} {d : DataW H} {ps : List MemPlace} (ht : P.underlying t = some (.slice e)) (he : P.underlying e = some (.struct #[f0, f1]))
    (ce : P.cellsOf e = 2) (o0 : f0.offset = 0) (o1 : f1.offset = 1) (c0 : P.cellsOf f0.type = 1) (c1 : P.cellsOf f1.type = 1) (h0 : P.underlying f0.type = some (.int k0)) (h1 : P.underlying f1.type = some (.int k1))
    (hval : Value.okWide P W r base t v) (hd : DataW.Trod enc P W 0 (fun _ => true) true t v d ps) :
    ∃ (p0 : Option (Nat × Nat)) (xs ns : Nat → Int) (len cap : Nat), v = .slice (p0.map fun p => ⟨p.1, p.2, none⟩) len cap ∧ (∀ p, p0 = some p → p.1 < W.heap.size) ∧ (∀ σ, holds P σ p0 W (.roA 2 len (fun i => [.int k0 (xs i), .int k1 (ns i)]))) ∧
      (∀ i, (Lit.int k0 (xs i)).wf = true) ∧ (∀ i, (Lit.int k1 (ns i)).wf = true) ∧ len ≤ cap ∧ cap ≤ maxLen := by
  have z0 : ∀ k : IntKind, (Lit.int k 0).wf = true := fun k => by cases k <;> rfl
  obtain ⟨a1, len, cap, rfl⟩ := okWide_slice ht hval
  obtain ⟨fuel, hf⟩ := hd
  rcases open_slice_pairs ht he ce o0 o1 c0 c1 hf with ⟨hcs, hx⟩ | ⟨a, len', cap', m, n, V0, V1, D0, D1, P0, P1, hcs, _, hl, hm, hmm, hx, hcell⟩
  · simp [Value.cells] at hcs
    obtain ⟨rfl, rfl, rfl⟩ := hcs
    exact ⟨none, fun _ => 0, fun _ => 0, 0, 0, rfl, (fun p hp => by cases hp), (fun σ => .inl ⟨rfl, rfl⟩), fun _ => z0 _, fun _ => z0 _, Nat.le_refl _, Nat.zero_le _⟩
  · simp [Value.cells] at hcs
    obtain ⟨rfl, rfl, rfl⟩ := hcs
    simp only [if_true] at hmm
    obtain ⟨hspot, hlt⟩ := slice_in ht hval
    obtain ⟨b, o, sp⟩ := a
    simp only at hspot
    subst hspot
    have each : ∀ i, i < len → V0 i = .int k0 (numV (V0 i)) ∧ V1 i = .int k1 (numV (V1 i)) ∧ (Lit.int k0 (numV (V0 i))).wf = true ∧ (Lit.int k1 (numV (V1 i))).wf = true := fun i hi => by
      obtain ⟨_, _, g0, g1⟩ := hcell i (by omega)
      obtain ⟨x, hx, _, hw⟩ := DataW.trod_int h0 g0
      obtain ⟨y, hy, _, hw'⟩ := DataW.trod_int h1 g1
      simp only [List.cons.injEq, and_true] at hx hy
      rw [hx, hy]
      exact ⟨rfl, rfl, hw, hw'⟩
    refine ⟨some (b, o), fun i => if i < len then numV (V0 i) else 0, fun i => if i < len then numV (V1 i) else 0, len, cap, rfl, (fun p hp => by cases hp; exact hlt), fun σ => .inr ⟨b, o, rfl, fun i hi => ⟨rfl, fun j v hj => ?_⟩⟩, fun i => ?_, fun i => ?_, hl, hm⟩
    · obtain ⟨g0, g1, _, _⟩ := hcell i (by omega)
      rw [addr_add] at g0 g1
      obtain ⟨e0, e1, _, _⟩ := each i hi
      simp only [if_pos hi] at hj
      match j, hj with
      | 0, hj => cases hj; simp only [den, Nat.add_zero]; rw [← e0]; exact g0
      | 1, hj => cases hj; simp only [den]; rw [← e1]; exact g1
      | j + 2, hj => simp at hj
    · dsimp only; split
      · rename_i hi; exact (each i hi).2.2.1
      · exact z0 _
    · dsimp only; split
      · rename_i hi; exact (each i hi).2.2.2
      · exact z0 _
/-- A slice of numbers that came in. -/
theorem arg_ints {W : World} {base : Nat} {r : Reach} {t e : TypeId} {k : IntKind} {v : Value} {d : DataW H} {ps : List MemPlace} (ht : P.underlying t = some (.slice e)) (he : P.underlying e = some (.int k)) (hc : P.cellsOf e = 1)
    (hval : Value.okWide P W r base t v) (hd : DataW.Trod enc P W 0 (fun _ => true) true t v d ps) :
    ∃ (p0 : Option (Nat × Nat)) (l : List Int) (cap : Nat), v = .slice (p0.map fun p => ⟨p.1, p.2, none⟩) l.length cap ∧ (∀ p, p0 = some p → p.1 < W.heap.size) ∧ (∀ σ, holds P σ p0 W (.ro k l)) ∧ (∀ x ∈ l, (Lit.int k x).wf = true) ∧
      l.length ≤ cap ∧ cap ≤ maxLen := by
  obtain ⟨a1, len, cap, rfl⟩ := okWide_slice ht hval
  obtain ⟨fuel, hf⟩ := hd
  rcases open_ints ht he hc hf with ⟨hcs, hx⟩ | ⟨a, len', cap', zs, hcs, _, hl, hm, hz, hx, hcell, hwz⟩
  · simp [Value.cells] at hcs
    obtain ⟨rfl, rfl, rfl⟩ := hcs
    exact ⟨none, [], 0, rfl, (fun p hp => by cases hp), (fun σ => .inl ⟨rfl, rfl⟩), (by simp), Nat.le_refl _, Nat.zero_le _⟩
  · simp [Value.cells] at hcs
    obtain ⟨rfl, rfl, rfl⟩ := hcs
    simp only [if_true] at hz
    have hk : Cell.ok P W r base t (.slice (some a) len cap) := by
      simp only [Value.okWide, ht, Cell.okWide] at hval
      exact hval
    simp only [Cell.ok, ht] at hk
    obtain ⟨_, _, _, hspot, row, cells, hsh, _⟩ := hk
    have hlt : a.block < W.heap.size := by
      unfold World.shape? at hsh
      cases hg : W.heap[a.block]? with
      | none => rw [hg] at hsh; cases hsh
      | some o => exact (Array.getElem?_eq_some_iff.1 hg).1
    have hlen : (zs.take len).length = len := by simp; omega
    refine ⟨some (a.block, a.off), zs.take len, cap, ?_, (fun p hp => by cases hp; exact hlt), fun σ => .inr ⟨a.block, a.off, rfl, fun i hi => ?_⟩, fun x hx => hwz x (List.mem_of_mem_take hx), (by rw [hlen]; exact hl), hm⟩
    · rw [hlen]
      obtain ⟨b, o, sp⟩ := a
      simp only at hspot
      subst hspot
      rfl
    · have hi' : i < zs.length := by simp at hi; omega
      have := hcell i hi'
      obtain ⟨b, o, sp⟩ := a
      simp only at hspot
      subst hspot
      have e : (zs.take len).getD i 0 = zs.getD i 0 := by
        rw [hlen] at hi
        simp [List.getD_eq_getElem?_getD, List.getElem?_take, hi]
      rw [e]
      have ea : (⟨b, o, none⟩ : Addr).add i = ⟨b, o + i, none⟩ := by
        unfold Addr.add
        split
        · rename_i h; subst h; rfl
        · rfl
      rw [ea] at this
      exact this
end
end Go.Sx
