/-
  The engine, part 7: reading memory.
-/
import Derived.Test.YtgbnngjmjimhiaaSx6
import Derived.Laws.BytesString
import Derived.Laws.Cells
import Derived.Laws.CopyRow
namespace Go.Sx
open Go
section
variable {P : Program} {o : Oper} {σ : Names} {s : SS} {K : SV → Prop} {w : World}

theorem cell_cells {b : Nat} {cs : Array Value} {t : TypeId} (h : w.heap[b]? = some (.cells cs t (0, 0))) (i : Nat) : w.cell? ⟨b, i, none⟩ = cs[i]? := by
  simp [World.cell?, h]
theorem frozen_cells {b : Nat} {cs : Array Value} {t : TypeId} (h : w.heap[b]? = some (.cells cs t (0, 0))) (i : Nat) : w.frozen? ⟨b, i, none⟩ = false := by
  simp [World.frozen?, h]
theorem int_at {l : List Int} {i : Nat} {k : IntKind} (h : i < l.length) : ((l.map (Value.int k)).toArray)[i]? = some (.int k (l.getD i 0)) := by
  simp [List.getD, h]
theorem int_at' {l l' : List Int} {i : Nat} {k : IntKind} (h : i < l.length) : (((l ++ l').map (Value.int k)).toArray)[i]? = some (.int k (l.getD i 0)) := by
  simp only [List.getElem?_toArray, List.getElem?_map]
  rw [List.getElem?_append_left h, List.getElem?_eq_getElem h]
  simp [List.getD, h]
theorem ldB_sound {B : SB} {p : Option (Nat × Nat)} {ix : Ix} {sz j : Nat} (hb : holds P σ p w B) (h : ldB std B ix sz j K) :
    ∃ v q, K v ∧ p = some q ∧ w.cell? ⟨q.1, q.2 + (ixN ix * sz + j), none⟩ = some (den σ v) := by
  unfold ldB at h
  split at h
  · rename_i t row
    obtain ⟨b, rfl, hh⟩ := hb
    obtain ⟨v, hv, hK⟩ := rowAt_den h
    refine ⟨v, _, hK, rfl, ?_⟩
    rw [cell_cells hh]
    simp [ixN, denL_eq, hv]
  · rename_i t k l
    obtain ⟨b, rfl, hh⟩ := hb
    split at h
    · refine ⟨_, _, h.2, rfl, ?_⟩
      rw [cell_cells hh, int_at (by have := h.1.out; simpa [std, ixN] using this)]
      simp [ixN, den, std]
    · refine ⟨_, _, h.2, rfl, ?_⟩
      rw [cell_cells hh, int_at (by have := h.1.out; simpa [std, ixN] using this)]
      simp [ixN, den, std]
  · rename_i t k l i
    obtain ⟨b, rfl, hh⟩ := hb
    split at h
    · refine ⟨_, _, h.2, rfl, ?_⟩
      rw [cell_cells hh, int_at (by have := h.1.out; simpa [std, ixN] using this)]
      simp [ixN, den, std]
    · exact h.elim
  · rename_i t k l c
    rcases hb with ⟨rfl, rfl, _⟩ | ⟨b, l', rfl, hh, _⟩
    · split at h <;> (have := h.1.out; simp [std] at this)
    · split at h
      · refine ⟨_, _, h.2, rfl, ?_⟩
        rw [cell_cells hh, int_at' (by have := h.1.out; simpa [std, ixN] using this)]
        simp [ixN, den, std]
      · refine ⟨_, _, h.2, rfl, ?_⟩
        rw [cell_cells hh, int_at' (by have := h.1.out; simpa [std, ixN] using this)]
        simp [ixN, den, std]
  · rename_i t k l c i
    split at h
    · rcases hb with ⟨rfl, rfl, _⟩ | ⟨b, l', rfl, hh, _⟩
      · have := h.1.out; simp [std] at this
      · refine ⟨_, _, h.2, rfl, ?_⟩
        rw [cell_cells hh, int_at' (by have := h.1.out; simpa [std, ixN] using this)]
        simp [ixN, den, std]
    · exact h.elim
  · rename_i k l
    split at h
    · rcases hb with ⟨rfl, rfl⟩ | ⟨b, o, rfl, hh⟩
      · have := h.1.out; simp [std] at this
      · refine ⟨_, _, h.2, rfl, ?_⟩
        have := hh 0 (by have := h.1.out; simpa [std] using this)
        simpa [ixN, den, std] using this
    · exact h.elim
  · rename_i k l i
    split at h
    · rcases hb with ⟨rfl, rfl⟩ | ⟨b, o, rfl, hh⟩
      · have := h.1.out; simp [std] at this
      · refine ⟨_, _, h.2, rfl, ?_⟩
        have := hh i (by have := h.1.out; simpa [std] using this)
        simpa [ixN, den, std] using this
    · exact h.elim
  · rename_i t sz' len f i
    split at h
    rotate_left
    · exact h.elim
    rename_i hsz
    obtain rfl : sz = sz' := by simpa using hsz
    obtain ⟨b, cs, rfl, hh, hc, hf⟩ := hb
    obtain ⟨hi, h⟩ := h
    obtain ⟨v, hv, hK⟩ := rowAt_den h
    refine ⟨v, _, hK, rfl, ?_⟩
    rw [cell_cells hh]
    simpa [ixN] using (hf i hi.out).2 j v hv
  · rename_i t sz' len f
    split at h
    rotate_left
    · exact h.elim
    rename_i hsz
    obtain rfl : sz = sz' := by simpa using hsz
    obtain ⟨b, cs, rfl, hh, hc, hf⟩ := hb
    obtain ⟨hi, h⟩ := h
    obtain ⟨v, hv, hK⟩ := rowAt_den h
    refine ⟨v, _, hK, rfl, ?_⟩
    rw [cell_cells hh]
    simpa [ixN] using (hf 0 hi.out).2 j v hv
  · rename_i sz' len f i
    split at h
    rotate_left
    · exact h.elim
    rename_i hsz
    obtain rfl : sz = sz' := by simpa using hsz
    obtain ⟨hi, h⟩ := h
    rcases hb with ⟨_, rfl⟩ | ⟨b, o, rfl, hf⟩
    · have := hi.out; omega
    obtain ⟨v, hv, hK⟩ := rowAt_den h
    refine ⟨v, _, hK, rfl, ?_⟩
    simpa [ixN] using (hf i hi.out).2 j v hv
  · rename_i sz' len f
    split at h
    rotate_left
    · exact h.elim
    rename_i hsz
    obtain rfl : sz = sz' := by simpa using hsz
    obtain ⟨hi, h⟩ := h
    rcases hb with ⟨_, rfl⟩ | ⟨b, o, rfl, hf⟩
    · have := hi.out; omega
    obtain ⟨v, hv, hK⟩ := rowAt_den h
    refine ⟨v, _, hK, rfl, ?_⟩
    simpa [ixN] using (hf 0 hi.out).2 j v hv
  · exact h.elim
theorem ld1_sound {x : SV} (hok : Ok P σ s w) (h : ld1 std s x K) : ∃ v a, K v ∧ den σ x = .pointer (some a) ∧ w.cell? a = some (den σ v) := by
  unfold ld1 at h
  split at h
  rotate_left
  · exact h.elim
  rename_i b i sz j
  split at h
  rotate_left
  · exact h.elim
  rename_i B hB
  obtain ⟨v, q, hK, hq, hc⟩ := ldB_sound (hok.blk b B hB) h
  exact ⟨v, _, hK, by simp [den, hq], hc⟩
theorem ldN_sound {b : Nat} {i : Ix} {sz : Nat} (hok : Ok P σ s w) : ∀ {n j : Nat} {K : List SV → Prop}, ldN std s b i sz n j K →
    ∃ vs, K vs ∧ vs.length = n ∧ ∀ k v, vs[k]? = some v → ∃ q, σ b = some q ∧ w.cell? ⟨q.1, q.2 + (ixN i * sz + j) + k, none⟩ = some (den σ v)
  | 0, j, K, h => ⟨[], h, rfl, fun k v hk => by simp at hk⟩
  | n + 1, j, K, h => by
    simp only [ldN] at h
    obtain ⟨v, a, h, ha, hc⟩ := ld1_sound hok h
    obtain ⟨vs, hK, hl, hvs⟩ := ldN_sound hok h
    refine ⟨v :: vs, hK, by simp [hl], fun k u hk => ?_⟩
    cases k with
    | zero =>
      simp at hk; subst hk
      simp only [den] at ha
      cases hq : σ b with
      | none => simp [hq] at ha
      | some q => simp [hq] at ha; subst ha; exact ⟨q, rfl, hc⟩
    | succ k =>
      simp at hk
      obtain ⟨q, hq, hc⟩ := hvs k u hk
      exact ⟨q, hq, by rw [← hc]; congr 2; omega⟩
/-- What an operation that reads is owed. -/
def LoadOk (P : Program) (o : Oper) (σ : Names) (s : SS) (w : World) (K : SV → Prop) : Prop := ∃ v, K v ∧ (execOp (act σ s).eval o).run P w = .ok (.value (den σ v)) w
theorem add_plain (q : Nat × Nat) (x n : Nat) : (Addr.add ⟨q.1, x, none⟩ n) = ⟨q.1, x + n, none⟩ := add_mk _ _ _

/-- The cells of a slice of integers, loaded. -/
theorem srcI_sound {k : IntKind} {v : SV} {K : List Int → Nat → Prop} (hok : Ok P σ s w) (h : srcI std s k v K) :
    ∃ xs m, K xs m ∧ xs.length = m ∧
      (∃ a c, den σ v = .slice a m c ∧ (∀ b, a = some b → ∀ i, i < m → w.cell? (b.add i) = some (.int k (xs.getD i 0))) ∧ (a = none → m = 0)) := by
  unfold srcI at h
  split at h
  · rename_i b ix len cap
    have key : ∀ (l : List Int) (q : Option (Nat × Nat)), σ b = q → ixN ix + len ≤ l.length → (q = none → len = 0) →
        (∀ p, q = some p → ∀ i, i < l.length → w.cell? ⟨p.1, p.2 + i, none⟩ = some (.int k (l.getD i 0))) → K (std.sub l (ixN ix) len) len →
        ∃ xs m, K xs m ∧ xs.length = m ∧
          (∃ a c, den σ (.slice b ix 1 len cap) = .slice a m c ∧ (∀ b, a = some b → ∀ i, i < m → w.cell? (b.add i) = some (.int k (xs.getD i 0))) ∧ (a = none → m = 0)) := by
      intro l q hq hl h0 hc hK
      refine ⟨_, _, hK, by simp [std]; omega, ⟨_, _, rfl, ?_, ?_⟩⟩
      · intro a ha i hi
        cases q with
        | none => simp [hq] at ha
        | some p =>
          simp [hq] at ha
          subst ha
          rw [add_mk, Nat.add_assoc, hc p rfl (ixN ix + i) (by omega)]
          simp [std, List.getD, List.getElem?_take, hi]
      · intro ha
        cases q with
        | none => exact h0 rfl
        | some p => simp [hq] at ha
    split at h
    · rename_i t k' l hB
      split at h
      rotate_left
      · exact h.elim
      rename_i hk
      rw [kEq_iff] at hk; subst hk
      obtain ⟨b', hp, hh⟩ := hok.blk b _ hB
      refine key l _ hp (by simpa [std] using h.1.out) (fun h => by cases h) (fun p hp i hi => ?_) h.2
      cases hp
      rw [cell_cells hh, int_at (by simpa using hi)]; simp
    · rename_i t k' l c hB
      split at h
      rotate_left
      · exact h.elim
      rename_i hk
      rw [kEq_iff] at hk; subst hk
      rcases hok.blk b _ hB with ⟨hp, rfl, _⟩ | ⟨b', l', hp, hh, _⟩
      · refine key [] _ hp (by simpa [std] using h.1.out) (fun _ => by have := h.1.out; simp [std] at this; omega) (fun p hp => by cases hp) h.2
      · refine key l _ hp (by simpa [std] using h.1.out) (fun h => by cases h) (fun p hp i hi => ?_) h.2
        cases hp
        rw [cell_cells hh, int_at' (by simpa using hi)]; simp
    · rename_i k' l hB
      split at h
      rotate_left
      · exact h.elim
      rename_i hk
      rw [kEq_iff] at hk; subst hk
      rcases hok.blk b _ hB with ⟨hp, rfl⟩ | ⟨b', o', hp, hh⟩
      · refine key [] _ hp (by simpa [std] using h.1.out) (fun _ => by have := h.1.out; simp [std] at this; omega) (fun p hp => by cases hp) h.2
      · refine key l _ hp (by simpa [std] using h.1.out) (fun h => by cases h) (fun p hp i hi => ?_) h.2
        cases hp
        exact hh i hi
    · exact h.elim
  · exact ⟨[], 0, h, rfl, ⟨none, 0, rfl, fun b hb => (by cases hb), fun _ => rfl⟩⟩
  · exact h.elim
theorem fold_push (ns : List Int) : ∀ (r : ByteArray), ns.foldl (fun r n => r.push (UInt8.ofNat n.toNat)) r = ⟨r.data ++ (ns.map fun n => UInt8.ofNat n.toNat).toArray⟩ := by
  induction ns with
  | nil => intro r; simp
  | cons n ns ih =>
    intro r
    rw [List.foldl_cons, ih]
    congr 1
    simp [ByteArray.push]
theorem load_sound {x : XOp} (hok : Ok P σ s w) (hc : cLoad P o = some x) (h : exLoad std x s K) : LoadOk P o σ s w K := by
  unfold cLoad at hc
  split at hc
  · rename_i t a ho
    split at hc
    · rename_i a' ha hag
      split at hc
      rotate_left
      · cases hc
      rename_i n hn
      simp only [Option.some.injEq] at hc; subst hc
      simp only [exLoad] at h
      cases hv : ev s a' <;> simp only [hv] at h
      rename_i b i sz j
      obtain ⟨vs, hK, hl, hvs⟩ := ldN_sound hok h
      refine ⟨_, hK, ?_⟩
      obtain ⟨v0, hv0⟩ : ∃ v0, vs[0]? = some v0 := ⟨vs[0]'(by omega), List.getElem?_eq_getElem (by omega)⟩
      obtain ⟨q, hq, _⟩ := hvs 0 v0 hv0
      have hrun : (loadCells ⟨q.1, q.2 + (ixN i * sz + j), none⟩ (denL σ vs).length).run P w = .ok (denL σ vs).toArray w := by
        refine run_loadCells_list w _ _ (fun k v hk => ?_)
        rw [denL_get] at hk
        cases hvk : vs[k]? with
        | none => simp [hvk] at hk
        | some u =>
          simp [hvk] at hk; subst hk
          obtain ⟨q', hq', hc'⟩ := hvs k u hvk
          rw [hq] at hq'; cases hq'
          rw [add_mk]; exact hc'
      rw [denL_len, hl] at hrun
      simp [execOp, ho, ev_den ha, hv, den, hq, Instr.loadAt, Instr.sureAddr, loadVar, run_agg hag, run_size hn, hrun]
    · rename_i a' ha hag
      simp only [Option.some.injEq] at hc; subst hc
      simp only [exLoad] at h
      obtain ⟨v, ad, hK, had, hc⟩ := ld1_sound hok h
      refine ⟨v, hK, ?_⟩
      simp [execOp, ho, ev_den ha, had, Instr.loadAt, Instr.sureAddr, loadVar, run_agg hag, hc]
    · cases hc
  · rename_i src dst a ho
    split at hc
    · rename_i a' e ha hs hd
      split at hc
      · rename_i he
        simp only [Option.some.injEq] at hc; subst hc
        simp only [exLoad] at h
        obtain ⟨xs, m, hK, hl, hsrc⟩ := srcI_sound hok h
        refine ⟨_, hK, ?_⟩
        obtain ⟨ad, c, hden, hcell, h0⟩ := hsrc
        · have hr : (Conv.bytesToString (.slice ad m c)).run P w = .ok (.string (mkStr xs)) w := by
            cases ad with
            | none =>
              obtain rfl := h0 rfl
              obtain rfl : xs = [] := List.eq_nil_of_length_eq_zero hl
              simp [Conv.bytesToString, mkStr]; rfl
            | some ad =>
              rw [run_bytesToString w ad m c xs, fold_push]
              · simp [mkStr]
              · have := run_loadCells_list (P := P) w ad (xs.map (Value.int .u8)) (fun j v hj => by
                  simp only [List.getElem?_map, Option.map_eq_some_iff] at hj
                  obtain ⟨n, hn, rfl⟩ := hj
                  have hlt := (List.getElem?_eq_some_iff.1 hn).1
                  rw [hcell ad rfl j (by omega)]
                  simp [List.getD, hn])
                rw [List.length_map, hl] at this
                exact this
          simp only [execOp, ho, ev_den ha, hden, convert, Sem.run_bind, runU hs, runU hd, Result.andThen_ok, runU he, hr, Sem.run_pure, den]
      · cases hc
    · cases hc
  · cases hc
end
end Go.Sx
