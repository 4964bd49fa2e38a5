/-
  The engine, part 9: the operations that make memory, and those that write it.
-/
import Derived.Test.YtgbnngjmjimhiaaSx8
namespace Go.Sx
open Go

/-- What an operation that acts is owed, where it goes on. -/
def ActOk (P : Program) (o : Oper) (σ : Names) (s : SS) (w : World) (K : SV → SS → Prop) : Prop :=
  ∃ v σ' s' w', K v s' ∧ ((execOp (act σ s).eval o).run P w = .ok (.value (den σ' v)) w' ∨ ((execOp (act σ s).eval o).run P w = .ok .skip w' ∧ v = .undef)) ∧
    Ok P σ' s' w' ∧ Step σ s w σ' s' w' ∧ act σ' s' = act σ s

mutual
theorem scV_ofV (n : Nat) (v : Value) : scV n (ofV v) = true := by cases v <;> rfl
end
theorem scL_get {n : Nat} {l : List SV} (h : scL n l = true) (i : Nat) : scV n (l.getD i .undef) = true := by
  cases hi : l[i]? with
  | none => simp [List.getD, hi, scV]
  | some v => simp [List.getD, hi]; exact scL_mem h hi
theorem scS_t {s : SS} (h : scS s True) : scL s.h.length s.t = true := by
  unfold scS at h; split at h
  · assumption
  · exact h.elim
theorem scS_iff {s : SS} {K : Prop} (h : scS s K) : K ∧ scS s True := by
  unfold scS at h ⊢
  split at h
  · rename_i hl
    rw [if_pos hl]
    have key : ∀ (l : List SB), scH s.h.length l K → K ∧ scH s.h.length l True := by
      intro l
      induction l with
      | nil => intro h; exact ⟨h, trivial⟩
      | cons B l ih =>
        intro h
        simp only [scH] at h ⊢
        cases B <;> simp only [scB] at h ⊢ <;> first
          | (split at h <;> first | (rename_i hc; rw [if_pos hc]; exact ih h) | exact h.elim)
          | (exact ⟨(ih h.2).1, h.1, (ih h.2).2⟩)
          | exact ih h
    exact key s.h h
  · exact h.elim
theorem sc_ev {s : SS} {x : Operand} {y : XO} (h : cO x = some y) (hs : scS s True) : scV s.h.length (ev s y) = true := by
  cases x <;> simp only [cO, Option.some.injEq, reduceCtorEq] at h <;> subst h
  · exact scL_get (scS_t hs) _
  · exact scV_ofV _ _
  · rfl
theorem scL_cells {n : Nat} {v : SV} {K : List SV → Prop} (h : cellsP v K) (hv : scV n v = true) (σ : Names) : ∃ cs, K cs ∧ (den σ v).cells = (denL σ cs).toArray ∧ scL n cs = true := by
  cases v <;> simp only [cellsP] at h
  case val u =>
    split at h
    · exact ⟨_, h, rfl, rfl⟩
    · exact ⟨_, h, rfl, rfl⟩
    · exact ⟨_, h, rfl, rfl⟩
    · exact ⟨_, h, rfl, rfl⟩
    · exact h.elim
  case agg cs => exact ⟨_, h, by simp [den, Value.cells], by simpa [scV] using hv⟩
  all_goals exact ⟨_, h, by simp [den, denL, Value.cells], by simp [scL, hv]⟩
theorem rowInts_den {k : IntKind} (σ : Names) : ∀ {cs : List SV} {K : List Int → Prop}, rowInts k cs K → ∃ ns, K ns ∧ denL σ cs = ns.map (Value.int k)
  | [], K, h => ⟨[], h, rfl⟩
  | v :: cs, K, h => by
    simp only [rowInts] at h
    obtain ⟨n, hn, h⟩ := asInt_den h (σ := σ)
    obtain ⟨ns, hK, hns⟩ := rowInts_den σ h
    exact ⟨_, hK, by simp [denL, hn, hns]⟩
section
variable {P : Program} {o : Oper} {σ : Names} {s : SS} {w : World} {K : SV → SS → Prop}
theorem den_newptr (σ : Names) (n g sz : Nat) (j : Nat) : den (more σ n (some (g, 0))) (.ptr n .z sz j) = .pointer (some ⟨g, j, none⟩) := by
  simp [den, more, ixN]
/-- A new block of cells. -/
theorem act_new {B : SB} {cells : Array Value} {t : TypeId} {v : SV} {res : Value} (hok : Ok P σ s w) (hK : K v (alloc B s)) (hsc : scS s True)
    (hrun : (execOp (act σ s).eval o).run P w = .ok (.value res) (w.alloc (.cells cells t)))
    (hres : den (more σ s.h.length (some (w.heap.size, 0))) v = res)
    (hh : holds P (more σ s.h.length (some (w.heap.size, 0))) (some (w.heap.size, 0)) (w.alloc (.cells cells t)) B) : ActOk P o σ s w K := by
  obtain ⟨h1, h2, h3⟩ := hok.new hsc (Grew.alloc w (.cells cells t)) (p := some (w.heap.size, 0)) (B := B) (fun q hq => by cases hq; simp) hh
  exact ⟨v, _, _, _, hK, .inl (by rw [hrun, hres]), h1, h2, h3⟩
theorem heap_new (w : World) (ob : Obj) : (w.alloc ob).heap[w.heap.size]? = some ob := World.alloc_heap_new w ob
theorem act_box {X : XE → SS → Prop} {t : TypeId} {x : Operand} {y : XO} (hok : Ok P σ s w) (ho : o.op = .box t x) (hx : cO x = some y) (ik : Option IntKind)
    (h : exAct std P (.box t ik y) s K X) : ActOk P o σ s w K := by
  simp only [exAct] at h
  have hrun : ∀ cs : Array Value, (den σ (ev s y)).cells = cs → (execOp (act σ s).eval o).run P w = .ok (.value (.pointer (some ⟨w.heap.size, 0, none⟩))) (w.alloc (.cells cs t)) := by
    intro cs hcs
    simp [execOp, ho, ev_den hx, Instr.box, newVar, newRow, hcs]
  cases ik with
  | none =>
    obtain ⟨cs0, h0, _⟩ := cellsP_den h σ
    obtain ⟨_, hsc⟩ := scS_iff h0
    obtain ⟨cs, h, hcs, hscs⟩ := scL_cells h (sc_ev hx hsc) σ
    obtain ⟨h, _⟩ := scS_iff h
    refine act_new hok h hsc (hrun _ hcs) (den_newptr σ _ _ _ _) ⟨w.heap.size, rfl, ?_⟩
    rw [heap_new, sc_denL (fun i hi => more_old hi) cs hscs]
  | some k =>
    obtain ⟨cs, h, hcs⟩ := cellsP_den h σ
    obtain ⟨ns, h, hns⟩ := rowInts_den σ h
    obtain ⟨h, hsc⟩ := scS_iff h
    refine act_new hok h hsc (hrun _ hcs) (den_newptr σ _ _ _ _) ⟨w.heap.size, rfl, ?_⟩
    rw [heap_new, hns]
theorem run_zero' {t : TypeId} {z : List Value} (hz : zeroT P t = some z) : ∃ v, (∀ w, (zeroValue t).run P w = .ok v w) ∧ v.cells = z.toArray := by
  obtain ⟨v, h1, h2⟩ := run_zero hz default
  refine ⟨v, fun w => ?_, h2⟩
  unfold zeroT at hz
  cases hi : P.info? t with
  | none => simp [hi] at hz
  | some i =>
    cases hz0 : i.zero with
    | none => simp [hi, hz0] at hz
    | some v0 => simp [zeroValue, typeInfo, hi, hz0] at h1 ⊢; rw [h1]
theorem allZero_eq {k : IntKind} : ∀ {l : List Value}, allZero k l = true → l = (List.replicate l.length 0).map (Value.int k)
  | [], _ => rfl
  | v :: l, h => by
    unfold allZero at h
    split at h
    · rename_i heq; cases heq
    · rename_i k' l' heq
      cases heq
      simp only [Bool.and_eq_true, kEq_iff] at h
      obtain ⟨rfl, h⟩ := h
      simp only [List.length_cons, List.replicate_succ, List.map_cons]
      rw [← allZero_eq h]
    · cases h
theorem zeroInts_eq {t : TypeId} {k : IntKind} {n : Nat} (h : zeroInts (zeroT P t) k n = true) : zeroT P t = some ((List.replicate n 0).map (Value.int k)) := by
  unfold zeroInts at h
  split at h
  · rename_i l hl
    simp only [Bool.and_eq_true, beq_iff_eq] at h
    rw [hl, allZero_eq h.2, h.1]
  · cases h
theorem act_newI {X : XE → SS → Prop} {t : TypeId} {k : IntKind} {n : Nat} (hok : Ok P σ s w) (ho : o.op = .alloc t) (hz : zeroInts (zeroT P t) k n = true)
    (h : exAct std P (.newI t k n) s K X) : ActOk P o σ s w K := by
  simp only [exAct] at h
  obtain ⟨h, hsc⟩ := scS_iff h
  obtain ⟨v, hv, hc⟩ := run_zero' (zeroInts_eq hz)
  refine act_new (cells := v.cells) (t := t) hok h hsc ?_ (den_newptr σ _ _ _ _) ⟨w.heap.size, rfl, ?_⟩
  · simp [execOp, ho, Instr.alloc, hv, newVar, newRow]
  · rw [heap_new, hc]; rfl
theorem denL_ofV (σ : Names) (z : List Value) : denL σ (z.map ofV) = z := by
  rw [denL_eq, List.map_map]
  conv => rhs; rw [← List.map_id z]
  apply List.map_congr_left
  intro v _
  simp [den_ofV]
theorem act_newR {X : XE → SS → Prop} {t : TypeId} {z : List Value} (hok : Ok P σ s w) (ho : o.op = .alloc t) (hz : zeroT P t = some z)
    (h : exAct std P (.newR t (z.map ofV)) s K X) : ActOk P o σ s w K := by
  simp only [exAct] at h
  obtain ⟨h, hsc⟩ := scS_iff h
  obtain ⟨v, hv, hc⟩ := run_zero' hz
  refine act_new (cells := v.cells) (t := t) hok h hsc ?_ (den_newptr σ _ _ _ _) ⟨w.heap.size, rfl, ?_⟩
  · simp [execOp, ho, Instr.alloc, hv, newVar, newRow]
  · rw [heap_new, hc, denL_ofV]
theorem fillI_sound {k : IntKind} : ∀ {parts : List (Nat × Operand)} {ps : List Part} {l : List Int} {K : List Int → Prop},
    cParts (fun i => some (i, 1)) parts = some ps → fillI s k ps l K →
    ∃ l', K l' ∧ Instr.fill (fun i => some (i, 1)) (l.map (Value.int k)).toArray (parts.map fun (i, x) => (i, (act σ s).eval x)) = some (l'.map (Value.int k)).toArray ∧ l'.length = l.length
  | [], ps, l, K, hp, h => by
    simp only [cParts, Option.some.injEq] at hp; subst hp
    exact ⟨l, h, by simp [Instr.fill], rfl⟩
  | (i, x) :: parts, ps, l, K, hp, h => by
    simp only [cParts] at hp
    split at hp
    rotate_left
    · cases hp
    rename_i off sz y ps' hpl hx hl
    simp only [Option.some.injEq, Prod.mk.injEq] at hp hpl; subst hp
    obtain ⟨rfl, rfl⟩ := hpl
    simp only [fillI] at h
    obtain ⟨n, hn, h⟩ := asInt_den h (σ := σ)
    split at h
    rotate_left
    · exact h.elim
    rename_i hlt
    obtain ⟨l', hK, hf, hlen⟩ := fillI_sound hl h
    refine ⟨l', hK, ?_, by rw [hlen]; simp⟩
    simp only [List.map_cons, Instr.fill, ev_den hx, hn]
    rw [if_neg (by simp [Value.cells]; omega)]
    rw [← hf]
    congr 1
    simp [Value.cells, List.map_set]
theorem zero1_eq {e : TypeId} {k : IntKind} (h : zero1 P e k = true) : zeroT P e = some [.int k 0] := by
  unfold zero1 at h
  split at h
  · rename_i k' hz; rw [kEq_iff] at h; subst h; exact hz
  · cases h
theorem zeros_row (k : IntKind) (n : Nat) : ((Array.range (n * 1)).map fun i => (#[Value.int k 0] : Array Value)[i % (#[Value.int k 0] : Array Value).size]!) = ((List.replicate n 0).map (Value.int k)).toArray := by
  apply Array.ext
  · simp
  · intro i h1 h2
    simp [Nat.mod_one]
theorem act_bsliceI {X : XE → SS → Prop} {t e : TypeId} {k : IntKind} {n : Nat} {parts : Array (Nat × Operand)} {ps : List Part} (hok : Ok P σ s w) (ho : o.op = .buildSlice t n parts) (ht : P.underlying t = some (.slice e))
    (hs : sizeT P e = some 1) (hz : zero1 P e k = true) (hn : n * 1 ≤ 16777216) (hp : cParts (fun i => some (i, 1)) parts.toList = some ps)
    (h : exAct std P (.bsliceI e k n ps) s K X) : ActOk P o σ s w K := by
  simp only [exAct] at h
  obtain ⟨l, h, hf, hlen⟩ := fillI_sound (σ := σ) hp h
  obtain ⟨h, hsc⟩ := scS_iff h
  obtain ⟨v, hv, hc⟩ := run_zero' (zero1_eq hz)
  have hf' : Instr.fill (fun i => some (i * 1, 1)) ((List.replicate n 0).map (Value.int k)).toArray (parts.map fun x => (x.1, (act σ s).eval x.2)).toList = some (l.map (Value.int k)).toArray := by
    rw [← hf]; congr 1
    · funext i; simp
    · simp
  refine act_new (cells := (l.map (Value.int k)).toArray) (t := e) hok h hsc ?_ (res := .slice (some ⟨w.heap.size, 0, none⟩) n n) (by simp [den, more, ixN]) ⟨w.heap.size, rfl, heap_new _ _⟩
  simp only [execOp, ho, Instr.buildSlice, Sem.run_bind, runU ht, Result.andThen_ok, run_size hs]
  rw [if_neg (by omega)]
  by_cases hn0 : n = 0
  · subst hn0
    have hl : l = [] := List.eq_nil_of_length_eq_zero (by simpa using hlen)
    subst hl
    simp at hf'
    simp [hf', newRow, show Array.range 0 = #[] from rfl]
  · rw [if_neg (by omega)]
    simp only [Sem.run_bind, Sem.run_pure, Result.andThen_ok, hv, hc]
    have hz2 := zeros_row k n
    simp only [Nat.mul_one] at hz2 hf' ⊢
    rw [show ([Value.int k 0] : List Value).toArray = #[Value.int k 0] from rfl, hz2, hf']
    simp [newRow]
theorem act_mkslI {X : XE → SS → Prop} {t e : TypeId} {k : IntKind} {l c : Operand} {l' c' : XO} {i : TypeInfo} (hok : Ok P σ s w) (ho : o.op = .makeSlice t l c) (ht : P.underlying t = some (.slice e)) (hi : P.info? e = some i)
    (hsz : i.size = 1) (hz : zero1 P e k = true) (hby : 1 ≤ i.bytes) (hl : cO l = some l') (hc : cO c = some c')
    (h : exAct std P (.mkslI e k i.bytes l' c') s K X) : ActOk P o σ s w K := by
  simp only [exAct] at h
  have hx : ∃ a b, den σ (ev s l') = .int .i64 a ∧ den σ (ev s c') = .int .i64 b ∧ (NonNeg a ∧ NonNeg b ∧ InC a (std.toN b) ∧ FitsMk b i.bytes ∧
      scS s (K (.slice s.h.length .z 1 (std.toN a) (std.toN b)) (alloc (.ints e k (std.rep (std.toN b) 0)) s))) := by
    unfold twoI at h
    split at h
    all_goals first | exact h.elim | (rename_i h1 h2; exact ⟨_, _, by rw [h1]; rfl, by rw [h2]; rfl, h⟩)
  obtain ⟨a, b, ha, hb, h0, hb0, h1, h2, h⟩ := hx
  obtain ⟨h, hsc⟩ := scS_iff h
  obtain ⟨v, hv, hcz⟩ := run_zero' (zero1_eq hz)
  have h0 := h0.out
  have h1 := h1.out
  have h2 := h2.out
  have hb0 := hb0.out
  have hb63 : b ≤ 281474976710656 := by
    have h3 : (1 : Int) ≤ (i.bytes : Int) := by omega
    have h4 : b * 1 ≤ b * (i.bytes : Int) := Int.mul_le_mul_of_nonneg_left h3 hb0
    omega
  have hab : a ≤ b := by simp only [std] at h1; omega
  have wr : ∀ x : Int, 0 ≤ x → x ≤ 281474976710656 → IntKind.i64.wrap x = x := by
    intro x h1 h2
    simp [IntKind.wrap, IntKind.bits, IntKind.signed]
    omega
  have ea := wr a h0 (by omega)
  have eb := wr b hb0 hb63
  have hsz' : sizeT P e = some 1 := by simp [sizeT, hi, hsz]
  refine act_new (cells := ((List.replicate b.toNat 0).map (Value.int k)).toArray) (t := e) hok h hsc ?_ (res := .slice (some ⟨w.heap.size, 0, none⟩) a.toNat b.toNat) (by simp [den, more, ixN, std]) ⟨w.heap.size, rfl, heap_new _ _⟩
  have hz3 := zeros_row k b.toNat
  have hti : ∀ w, (typeInfo e).run P w = .ok i w := fun w => by simp [typeInfo, hi]
  have hroom : ∀ n w, (askRoom n).run P w = .ok () w := by
    intro n w
    unfold askRoom
    split
    · rfl
    · rfl
  have hcond : (decide (b < 0) || decide ((i.bytes : Int) * b > 2 ^ 48) || decide (a < 0) || decide (a > b)) = false := by
    have : (i.bytes : Int) * b ≤ 2 ^ 48 := by rw [Int.mul_comm]; simpa using h2
    simp
    omega
  simp only [execOp, ho, Instr.makeSlice, Sem.run_bind, runU ht, Result.andThen_ok, ev_den hl, ev_den hc, ha, hb, asInt, asIntOf, Sem.run_pure, hti, ea, eb]
  have h5 : ¬ (decide (b < 0) || decide ((i.bytes : Int) * b > 2 ^ 48) || decide (a < 0) || decide (a > b)) = true := by rw [hcond]; simp
  simp only [gt_iff_lt] at h5 ⊢
  rw [if_neg h5]
  simp only [Sem.run_bind, hroom, Result.andThen_ok, run_size hsz']
  by_cases hb00 : b.toNat = 0
  · simp [hb00, newRow, show Array.range 0 = #[] from rfl]
  · rw [if_neg (by omega)]
    simp only [Sem.run_bind, Sem.run_pure, Result.andThen_ok, hv, hcz]
    rw [show ([Value.int k 0] : List Value).toArray = #[Value.int k 0] from rfl, hz3]
    simp [newRow]

/-! ### Stores -/
theorem one_cell {v : SV} (h : one v = true) (σ : Names) : (den σ v).oneCell' = true ∧ (den σ v).cells = #[den σ v] := by
  cases v with
  | val u =>
    simp only [one] at h
    unfold one1 at h
    split at h <;> first | (cases h; done) | simp [den, Value.oneCell', Value.cells]
  | _ => simp [one] at h <;> simp [den, Value.oneCell', Value.cells]
theorem set_int {l : List Int} {i : Nat} {k : IntKind} {n : Int} : ((l.map (Value.int k)).toArray).setIfInBounds i (.int k n) = ((l.set i n).map (Value.int k)).toArray := by
  simp [List.map_set]
theorem set_int' {l l' : List Int} {i : Nat} {k : IntKind} {n : Int} (h : i < l.length) : (((l ++ l').map (Value.int k)).toArray).setIfInBounds i (.int k n) = ((l.set i n ++ l').map (Value.int k)).toArray := by
  simp only [List.setIfInBounds_toArray, ← List.map_set]
  rw [List.set_append_left _ _ h]
theorem stB_sound {B : SB} {p : Option (Nat × Nat)} {ix : Ix} {sz j : Nat} {v : SV} {K : SB → Prop} (hb : holds P σ p w B) (h : stB std B ix sz j v K) :
    ∃ B' g, K B' ∧ p = some (g, 0) ∧ own B = true ∧ own B' = true ∧ B ≠ .defd ∧ isLoop B = false ∧ (den σ v).oneCell' = true ∧ (w.cell? ⟨g, ixN ix * sz + j, none⟩).isSome = true ∧ w.frozen? ⟨g, ixN ix * sz + j, none⟩ = false ∧
      holds P σ (some (g, 0)) (w.setCell ⟨g, ixN ix * sz + j, none⟩ (den σ v)) B' := by
  unfold stB at h
  split at h
  · rename_i t row
    obtain ⟨b, rfl, hh⟩ := hb
    split at h
    rotate_left
    · exact h.elim
    rename_i h1
    split at h
    rotate_left
    · exact h.elim
    rename_i hj
    refine ⟨_, b, h, rfl, rfl, rfl, (by simp), rfl, (one_cell h1 σ).1, ?_, frozen_cells hh _, ⟨b, rfl, ?_⟩⟩
    · rw [cell_cells hh]; simp [ixN, denL_eq, hj]
    · rw [setCell_eq_setRow _ _ _ _ _ _ _ hh, setRow_heap _ _ _ _ _ _ hh]
      simp [ixN, denL_eq, List.map_set]
  · rename_i t k l
    obtain ⟨b, rfl, hh⟩ := hb
    split at h
    · obtain ⟨n, hn, h⟩ := asInt_den h (σ := σ)
      have hl := h.1.out
      refine ⟨_, b, h.2, rfl, rfl, rfl, (by simp), rfl, by rw [hn]; rfl, ?_, frozen_cells hh _, ⟨b, rfl, ?_⟩⟩
      · rw [cell_cells hh, int_at (by simpa [std, ixN] using hl)]; rfl
      · rw [setCell_eq_setRow _ _ _ _ _ _ _ hh, setRow_heap _ _ _ _ _ _ hh, hn, set_int]; simp [ixN, std]
    · obtain ⟨n, hn, h⟩ := asInt_den h (σ := σ)
      have hl := h.1.out
      refine ⟨_, b, h.2, rfl, rfl, rfl, (by simp), rfl, by rw [hn]; rfl, ?_, frozen_cells hh _, ⟨b, rfl, ?_⟩⟩
      · rw [cell_cells hh, int_at (by simpa [std, ixN] using hl)]; rfl
      · rw [setCell_eq_setRow _ _ _ _ _ _ _ hh, setRow_heap _ _ _ _ _ _ hh, hn, set_int]; simp [ixN, std]
  · rename_i t k l i
    obtain ⟨b, rfl, hh⟩ := hb
    split at h
    · obtain ⟨n, hn, h⟩ := asInt_den h (σ := σ)
      have hl := h.1.out
      refine ⟨_, b, h.2, rfl, rfl, rfl, (by simp), rfl, by rw [hn]; rfl, ?_, frozen_cells hh _, ⟨b, rfl, ?_⟩⟩
      · rw [cell_cells hh, int_at (by simpa [std, ixN] using hl)]; rfl
      · rw [setCell_eq_setRow _ _ _ _ _ _ _ hh, setRow_heap _ _ _ _ _ _ hh, hn, set_int]; simp [ixN, std]
    · exact h.elim
  · rename_i t k l c
    rcases hb with ⟨rfl, rfl, _⟩ | ⟨b, l', rfl, hh, hc⟩
    · split at h <;> (obtain ⟨n, hn, h⟩ := asInt_den h (σ := σ); have := h.1.out; simp [std] at this)
    · split at h
      · obtain ⟨n, hn, h⟩ := asInt_den h (σ := σ)
        have hl : 0 < l.length := by simpa [std] using h.1.out
        refine ⟨_, b, h.2, rfl, rfl, rfl, (by simp), rfl, by rw [hn]; rfl, ?_, frozen_cells hh _, .inr ⟨b, l', rfl, ?_, ?_⟩⟩
        · rw [cell_cells hh, int_at' (by simpa [ixN] using hl)]; rfl
        · rw [setCell_eq_setRow _ _ _ _ _ _ _ hh, setRow_heap _ _ _ _ _ _ hh, hn, set_int' (by simpa [ixN] using hl)]; simp [ixN, std]
        · simpa [std] using hc
      · obtain ⟨n, hn, h⟩ := asInt_den h (σ := σ)
        have hl : j < l.length := by simpa [std] using h.1.out
        refine ⟨_, b, h.2, rfl, rfl, rfl, (by simp), rfl, by rw [hn]; rfl, ?_, frozen_cells hh _, .inr ⟨b, l', rfl, ?_, ?_⟩⟩
        · rw [cell_cells hh, int_at' (by simpa [ixN] using hl)]; rfl
        · rw [setCell_eq_setRow _ _ _ _ _ _ _ hh, setRow_heap _ _ _ _ _ _ hh, hn, set_int' (by simpa [ixN] using hl)]; simp [ixN, std]
        · simpa [std] using hc
  · rename_i t k l c i
    split at h
    rotate_left
    · exact h.elim
    obtain ⟨n, hn, h⟩ := asInt_den h (σ := σ)
    have hl : i < l.length := by simpa [std] using h.1.out
    rcases hb with ⟨rfl, rfl, _⟩ | ⟨b, l', rfl, hh, hc⟩
    · simp at hl
    · refine ⟨_, b, h.2, rfl, rfl, rfl, (by simp), rfl, by rw [hn]; rfl, ?_, frozen_cells hh _, .inr ⟨b, l', rfl, ?_, ?_⟩⟩
      · rw [cell_cells hh, int_at' (by simpa [ixN] using hl)]; rfl
      · rw [setCell_eq_setRow _ _ _ _ _ _ _ hh, setRow_heap _ _ _ _ _ _ hh, hn, set_int' (by simpa [ixN] using hl)]; simp [ixN, std]
      · simpa [std] using hc
  · rename_i t sz' len f i
    split at h
    rotate_left
    · exact h.elim
    rename_i hsz
    obtain rfl : sz = sz' := by simpa using hsz
    split at h
    rotate_left
    · exact h.elim
    rename_i h1
    split at h
    rotate_left
    · exact h.elim
    rename_i hj
    obtain ⟨hi, hK⟩ := h
    have hi := hi.out
    obtain ⟨b, cs, rfl, hh, hc, hf⟩ := hb
    have hlen := (hf i hi).1
    have hjl : j < (f i).length := by omega
    have hin : i * sz + j < cs.size := by
      rw [hc]
      have : (i + 1) * sz ≤ len * sz := Nat.mul_le_mul_right _ hi
      rw [Nat.add_mul] at this; omega
    refine ⟨_, b, hK, rfl, rfl, rfl, (by simp), rfl, (one_cell h1 σ).1, ?_, frozen_cells hh _, ⟨b, cs.setIfInBounds (i * sz + j) (den σ v), rfl, ?_, by simpa using hc, fun m hm => ⟨?_, fun k u hk => ?_⟩⟩⟩
    · rw [cell_cells hh]; simp only [ixN]; rw [(hf i hi).2 j _ (List.getElem?_eq_getElem hjl)]; rfl
    · rw [setCell_eq_setRow _ _ _ _ _ _ _ hh, setRow_heap _ _ _ _ _ _ hh]; simp [ixN]
    · dsimp only
      split
      · subst m; simpa using hlen
      · exact (hf m hm).1
    · by_cases hmi : m = i
      · subst hmi
        dsimp only at hk
        rw [if_pos rfl, List.getElem?_set] at hk
        split at hk
        · rename_i hjk; subst hjk
          cases hk
          simp [hin]
        · rename_i hjk
          rw [Array.getElem?_setIfInBounds_ne (by omega)]
          exact (hf m hm).2 k u hk
      · dsimp only at hk
        rw [if_neg hmi] at hk
        have hkl : k < sz := by rw [← (hf m hm).1]; exact (List.getElem?_eq_some_iff.1 hk).1
        have hne : i * sz + j ≠ m * sz + k := by
          intro e
          rcases Nat.lt_or_gt_of_ne hmi with h | h
          · have : (m + 1) * sz ≤ i * sz := Nat.mul_le_mul_right _ h
            rw [Nat.add_mul] at this; omega
          · have : (i + 1) * sz ≤ m * sz := Nat.mul_le_mul_right _ h
            rw [Nat.add_mul] at this; omega
        rw [Array.getElem?_setIfInBounds_ne hne]
        exact (hf m hm).2 k u hk
  · exact h.elim
theorem st1_sound {x v : SV} {K : SS → Prop} (hok : Ok P σ s w) (h : st1 std s x v K) :
    ∃ s' a, K s' ∧ den σ x = .pointer (some a) ∧ (store a (den σ v)).run P w = .ok () (w.setCell a (den σ v)) ∧ Ok P σ s' (w.setCell a (den σ v)) ∧ Step σ s w σ s' (w.setCell a (den σ v)) ∧ act σ s' = act σ s ∧ s'.h.length = s.h.length := by
  unfold st1 at h
  split at h
  rotate_left
  · exact h.elim
  rename_i b i sz j
  split at h
  rotate_left
  · exact h.elim
  rename_i B hB
  obtain ⟨B', g, hK, hp, ho1, ho2, hnd, hnl, h1, hc, hfz, hh⟩ := stB_sound (hok.blk b B hB) h
  have hup := hok.update (w' := w.setCell ⟨g, ixN i * sz + j, none⟩ (den σ v)) hB ho1 hp ho2 (fun e => absurd e hnd) (fun e => by rw [hnl] at e; cases e)
    (fun k hk => by simp only [World.setCell]; rw [Array.getElem?_modify]; simp [Ne.symm hk]) (by simp [World.setCell]) rfl rfl rfl hh
  refine ⟨_, ⟨g, ixN i * sz + j, none⟩, hK, by simp [den, hp], ?_, hup.1, hup.2, rfl, by simp⟩
  rw [run_store P w _ _ _ h1]
  cases hcc : w.cell? ⟨g, ixN i * sz + j, none⟩ with
  | none => rw [hcc] at hc; cases hc
  | some u => simp [hfz]
theorem stN_sound {b : Nat} {i : Ix} {sz : Nat} {q : Nat × Nat} (hq : σ b = some q) : ∀ {cs : List SV} {j : Nat} {s : SS} {w : World} {K : SS → Prop}, Ok P σ s w → stN std b i sz cs j s K →
    ∃ s' w', K s' ∧ (∀ m a, a = (⟨q.1, q.2 + (ixN i * sz + m), none⟩ : Addr) → ∀ k, m + k = j → (storeCells a (denL σ cs) k).run P w = .ok () w') ∧ Ok P σ s' w' ∧ Step σ s w σ s' w' ∧ act σ s' = act σ s
  | [], j, s, w, K, hok, h => ⟨s, w, h, fun m a ha k hk => rfl, hok, Step.refl σ s w, rfl⟩
  | v :: cs, j, s, w, K, hok, h => by
    simp only [stN] at h
    obtain ⟨s1, a1, h, ha1, hr1, hok1, hst1, hact1, _⟩ := st1_sound hok h
    obtain ⟨s2, w2, hK, hr2, hok2, hst2, hact2⟩ := stN_sound hq hok1 h
    have e1 : a1 = ⟨q.1, q.2 + (ixN i * sz + j), none⟩ := by simp [den, hq] at ha1; exact ha1.symm
    refine ⟨s2, w2, hK, fun m a ha k hk => ?_, hok2, hst1.trans hst2, hact2.trans hact1⟩
    simp only [denL, storeCells, Sem.run_bind]
    have e2 : a.add k = a1 := by rw [ha, add_mk, e1]; congr 1; omega
    rw [e2, hr1]
    exact hr2 m a ha (k + 1) (by omega)
theorem act_store1 {X : XE → SS → Prop} {t : TypeId} {a v : Operand} {a' v' : XO} (hok : Ok P σ s w) (ho : o.op = .store t a v) (hs : sizeT P t = some 1) (ha : cO a = some a') (hv : cO v = some v')
    (h : exAct std P (.store1 a' v') s K X) : ActOk P o σ s w K := by
  simp only [exAct] at h
  obtain ⟨cs, h, hcs⟩ := cellsP_den h σ
  split at h
  rotate_left
  · exact h.elim
  rename_i u
  obtain ⟨s', ad, hK, had, hr, h1, h2, h3, _⟩ := st1_sound hok h
  refine ⟨_, σ, s', _, hK, .inr ⟨?_, rfl⟩, h1, h2, h3⟩
  have hr' : (storeCells ad [den σ u]).run P w = .ok () (w.setCell ad (den σ u)) := by
    simp [storeCells, Addr.add, hr]
  simp [execOp, ho, ev_den ha, ev_den hv, had, Instr.storeAt, Instr.sureAddr, storeVar, hcs, denL, run_size hs, hr']
theorem act_storeA {X : XE → SS → Prop} {t : TypeId} {a v : Operand} {a' v' : XO} {n : Nat} (hok : Ok P σ s w) (ho : o.op = .store t a v) (hs : sizeT P t = some n) (ha : cO a = some a') (hv : cO v = some v')
    (h : exAct std P (.storeA n a' v') s K X) : ActOk P o σ s w K := by
  simp only [exAct] at h
  split at h
  rotate_left
  · exact h.elim
  rename_i b i sz j cs hxa hxv
  split at h
  rotate_left
  · exact h.elim
  rename_i hl
  have hl : cs.length = n := by simpa using hl
  obtain ⟨h, q, hq⟩ := there_some hok h
  obtain ⟨s', w', hK, hr, h1, h2, h3⟩ := stN_sound hq hok h
  refine ⟨_, σ, s', w', hK, .inr ⟨?_, rfl⟩, h1, h2, h3⟩
  have hr' := hr j _ rfl 0 (by omega)
  simp [execOp, ho, ev_den ha, ev_den hv, hxa, hxv, den, hq, Instr.storeAt, Instr.sureAddr, storeVar, Value.cells, denL_len, hl, run_size hs, hr']
end
end Go.Sx
