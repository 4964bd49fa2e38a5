/-
  The engine, part 8: a state goes on: a block is written, a block is new, a name goes over to another block.
-/
import Derived.Test.YtgbnngjmjimhiaaSx7
namespace Go.Sx
open Go

/-! ### Names and meanings -/
theorem memN_iff {n : Nat} : ∀ {l : List Nat}, memN n l = true ↔ n ∈ l
  | [] => by simp [memN]
  | m :: l => by
    simp only [memN]
    split
    · rename_i h; simp at h; simp [h]
    · rename_i h; simp at h; rw [memN_iff]; simp [h]
mutual
theorem men_den {R : List Nat} {σ σ' : Names} (hσ : ∀ i, i ∉ R → σ' i = σ i) : ∀ (v : SV), men R v = false → den σ' v = den σ v
  | .undef, _ => rfl
  | .val _, _ => rfl
  | .bool _, _ => rfl
  | .lit _ _, _ => rfl
  | .int _ _, _ => rfl
  | .str _, _ => rfl
  | .ptr b i sz j, h => by simp only [men] at h; simp only [den]; rw [hσ b (by rw [← memN_iff]; simp [h])]
  | .slice b i sz len cap, h => by simp only [men] at h; simp only [den]; rw [hσ b (by rw [← memN_iff]; simp [h])]
  | .yield b, h => by simp only [men] at h; simp only [den]; rw [hσ b (by rw [← memN_iff]; simp [h])]
  | .fn _ cs, h => by simp only [men] at h; simp only [den]; rw [men_denL hσ cs h]
  | .iface _ v, h => by simp only [men] at h; simp only [den]; rw [men_den hσ v h]
  | .agg cs, h => by simp only [men] at h; simp only [den]; rw [men_denL hσ cs h]
  | .tup cs, h => by simp only [men] at h; simp only [den]; rw [men_denL hσ cs h]
theorem men_denL {R : List Nat} {σ σ' : Names} (hσ : ∀ i, i ∉ R → σ' i = σ i) : ∀ (l : List SV), menL R l = false → denL σ' l = denL σ l
  | [], _ => rfl
  | v :: l, h => by
    simp only [menL] at h
    split at h
    · cases h
    · rename_i hv
      simp only [denL]
      rw [men_den hσ v (by simpa using hv), men_denL hσ l h]
end
mutual
theorem sc_den {n : Nat} {σ σ' : Names} (hσ : ∀ i, i < n → σ' i = σ i) : ∀ (v : SV), scV n v = true → den σ' v = den σ v
  | .undef, _ => rfl
  | .val _, _ => rfl
  | .bool _, _ => rfl
  | .lit _ _, _ => rfl
  | .int _ _, _ => rfl
  | .str _, _ => rfl
  | .ptr b i sz j, h => by simp only [scV, ltB, decide_eq_true_eq] at h; simp only [den]; rw [hσ b h]
  | .slice b i sz len cap, h => by simp only [scV, ltB, decide_eq_true_eq] at h; simp only [den]; rw [hσ b h]
  | .yield b, h => by simp only [scV, ltB, decide_eq_true_eq] at h; simp only [den]; rw [hσ b h]
  | .fn _ cs, h => by simp only [scV] at h; simp only [den]; rw [sc_denL hσ cs h]
  | .iface _ v, h => by simp only [scV] at h; simp only [den]; rw [sc_den hσ v h]
  | .agg cs, h => by simp only [scV] at h; simp only [den]; rw [sc_denL hσ cs h]
  | .tup cs, h => by simp only [scV] at h; simp only [den]; rw [sc_denL hσ cs h]
theorem sc_denL {n : Nat} {σ σ' : Names} (hσ : ∀ i, i < n → σ' i = σ i) : ∀ (l : List SV), scL n l = true → denL σ' l = denL σ l
  | [], _ => rfl
  | v :: l, h => by
    simp only [scL] at h
    split at h
    · rename_i hv
      simp only [denL]
      rw [sc_den hσ v hv, sc_denL hσ l h]
    · cases h
end
/-- What is forgotten means what it meant. -/
theorem scrL_den {R : List Nat} {σ σ' : Names} (hσ : ∀ i, i ∉ R → σ' i = σ i) {js : Nat → Value} : ∀ (l : List SV) (i : Nat), (∀ k v, l[k]? = some v → js (i + k) = den σ v) →
    denL σ' (scrL R js i l) = denL σ l
  | [], _, _ => rfl
  | v :: l, i, h => by
    simp only [scrL, denL]
    rw [scrL_den hσ l (i + 1) (fun k u hk => by rw [← h (k + 1) u (by simpa using hk)]; congr 1; omega)]
    congr 1
    split
    · simpa [den] using h 0 v rfl
    · rename_i hv
      exact men_den hσ v (by simpa using hv)
theorem scrL_len {R : List Nat} {js : Nat → Value} : ∀ (l : List SV) (i : Nat), (scrL R js i l).length = l.length
  | [], _ => rfl
  | v :: l, i => by simp [scrL, scrL_len l]

/-- What is known of a block does not hang on names that it does not mention, nor on the other blocks. -/
theorem holds_ext {P : Program} {σ σ' : Names} {p : Option (Nat × Nat)} {w w' : World} {B : SB} (h : holds P σ p w B)
    (hw : ∀ q, p = some q → own B = true → w'.heap[q.1]? = w.heap[q.1]?) (hro : ∀ q, p = some q → own B = false → w'.heap[q.1]? = w.heap[q.1]?)
    (hden : (∀ t row, B = .one t row → denL σ' row = denL σ row) ∧ (∀ t sz len (f : Nat → List SV) (i j : Nat) (v : SV), B = .arr t sz len f → (f i)[j]? = some v → den σ' v = den σ v) ∧
      (∀ sz len (f : Nat → List SV) (i j : Nat) (v : SV), B = .roA sz len f → (f i)[j]? = some v → den σ' v = den σ v) ∧ (∀ st pe t ps a b, B = .loop st pe t ps a b → denL σ' t = denL σ t)) : holds P σ' p w' B := by
  obtain ⟨h1, h2, h3, h4⟩ := hden
  have hw' : ∀ q, p = some q → w'.heap[q.1]? = w.heap[q.1]? := fun q hq => by
    cases hB : own B
    · exact hro q hq hB
    · exact hw q hq hB
  have hcell : ∀ q, p = some q → ∀ o, w'.cell? ⟨q.1, o, none⟩ = w.cell? ⟨q.1, o, none⟩ := fun q hq o => by simp [World.cell?, hw' q hq]
  cases B
  case free => trivial
  case one t row => obtain ⟨b, rfl, hh⟩ := h; exact ⟨b, rfl, by rw [hw' _ rfl, hh, h1 t row rfl]⟩
  case ints t k l => obtain ⟨b, rfl, hh⟩ := h; exact ⟨b, rfl, by rw [hw' _ rfl, hh]⟩
  case buf t k l c =>
    rcases h with h | ⟨b, l', rfl, hh, hc⟩
    · exact .inl h
    · exact .inr ⟨b, l', rfl, by rw [hw' _ rfl, hh], hc⟩
  case arr t sz len f =>
    obtain ⟨b, cs, rfl, hh, hc, hf⟩ := h
    exact ⟨b, cs, rfl, by rw [hw' _ rfl, hh], hc, fun i hi => ⟨(hf i hi).1, fun j v hv => by rw [h2 t sz len f i j v rfl hv]; exact (hf i hi).2 j v hv⟩⟩
  case ro k l =>
    rcases h with h | ⟨b, o, rfl, hh⟩
    · exact .inl h
    · exact .inr ⟨b, o, rfl, fun i hi => by rw [hcell _ rfl]; exact hh i hi⟩
  case roA sz len f =>
    rcases h with h | ⟨b, o, rfl, hf⟩
    · exact .inl h
    · exact .inr ⟨b, o, rfl, fun i hi => ⟨(hf i hi).1, fun j v hv => by rw [hcell _ rfl, h3 sz len f i j v rfl hv]; exact (hf i hi).2 j v hv⟩⟩
  case loop st pe t ps a b =>
    obtain ⟨g, fn, ca, cb, d, rfl, ha, hb, hh⟩ := h
    exact ⟨g, fn, ca, cb, d, rfl, ha, hb, by rw [hw' _ rfl, hh, h4 _ _ _ _ _ _ rfl]⟩
  case defd => obtain ⟨b, rfl, hh⟩ := h; exact ⟨b, rfl, by rw [hw' _ rfl, hh]⟩
/-- With the same names. -/
theorem holds_same {P : Program} {σ : Names} {p : Option (Nat × Nat)} {w w' : World} {B : SB} (h : holds P σ p w B) (hw : ∀ q, p = some q → w'.heap[q.1]? = w.heap[q.1]?) : holds P σ p w' B :=
  holds_ext h (fun q hq _ => hw q hq) (fun q hq _ => hw q hq) ⟨fun _ _ _ => rfl, fun _ _ _ _ _ _ _ _ _ => rfl, fun _ _ _ _ _ _ _ _ => rfl, fun _ _ _ _ _ _ _ => rfl⟩

/-! ### Steps -/
theorem Step.refl (σ : Names) (s : SS) (w : World) : Step σ s w σ s w :=
  ⟨Nat.le_refl _, rfl, rfl, rfl, fun _ _ _ => rfl, Nat.le_refl _, fun _ _ _ => rfl, fun _ h => h, fun i B p h1 h2 h3 _ => ⟨i, B, p, h1, h2, h3, rfl⟩, rfl⟩
theorem Step.trans {σ σ' σ'' : Names} {s s' s'' : SS} {w w' w'' : World} (h : Step σ s w σ' s' w') (k : Step σ' s' w' σ'' s'' w'') : Step σ s w σ'' s'' w'' where
  size := Nat.le_trans h.size k.size
  os := k.os.trans h.os
  tape := k.tape.trans h.tape
  output := k.output.trans h.output
  far b hb hf := (k.far b (Nat.lt_of_lt_of_le hb h.size) (fun i B p hi hB hp e => by
    obtain ⟨j, C, q, hj, hC, hq, he⟩ := h.own i B p hi hB hp (by omega)
    exact hf j C q hj hC hq (by omega))).trans (h.far b hb hf)
  len := Nat.le_trans h.len k.len
  names i hi hr := (k.names i (Nat.lt_of_lt_of_le hi h.len) hr).trans (h.names i hi (fun h' => hr (k.red i h')))
  red i hi := k.red i (h.red i hi)
  own i B p hi hB hp hlt := by
    obtain ⟨j, C, q, hj, hC, hq, he⟩ := k.own i B p hi hB hp (Nat.lt_of_lt_of_le hlt h.size)
    obtain ⟨j', C', q', hj', hC', hq', he'⟩ := h.own j C q hj hC hq (by omega)
    exact ⟨j', C', q', hj', hC', hq', he'.trans he⟩
  rd := k.rd.trans h.rd

/-! ### A block is written -/
theorem Ok.update {P : Program} {σ : Names} {s : SS} {w w' : World} {b g : Nat} {B B' : SB} (hok : Ok P σ s w) (hB : s.h[b]? = some B) (hB1 : own B = true) (hσ : σ b = some (g, 0))
    (hB2 : own B' = true) (hd : B = .defd → B' = .defd) (hlp : isLoop B = true → isLoop B' = true) (hw : ∀ k, k ≠ g → w'.heap[k]? = w.heap[k]?) (hsz : w'.heap.size = w.heap.size) (hos : w'.os = w.os) (htp : w'.tape = w.tape) (hou : w'.output = w.output)
    (hh : holds P σ (some (g, 0)) w' B') :
    Ok P σ { s with h := s.h.set b B' } w' ∧ Step σ s w σ { s with h := s.h.set b B' } w' := by
  have hbl : b < s.h.length := (List.getElem?_eq_some_iff.1 hB).1
  have hget : ∀ i, (s.h.set b B')[i]? = if b = i then some B' else s.h[i]? := fun i => by
    rw [List.getElem?_set]; by_cases hi : b = i <;> simp [hi]; subst hi; exact hbl
  have hown : ∀ i C, (s.h.set b B')[i]? = some C → ∃ C0, s.h[i]? = some C0 ∧ own C0 = own C := fun i C hC => by
    rw [hget] at hC
    split at hC
    · rename_i hi; subst hi; cases hC; exact ⟨B, hB, by rw [hB1, hB2]⟩
    · exact ⟨C, hC, rfl⟩
  refine ⟨⟨fun i p hi hp => ?_, fun i j C D p q hij hC hD ho hp hq => ?_, fun i C hC => ?_, fun l hl => ?_, fun l hl => ?_⟩, ?_⟩
  · rw [hsz]; exact hok.lt i p (by simpa using hi) hp
  · obtain ⟨C0, hC0, e1⟩ := hown i C hC
    obtain ⟨D0, hD0, e2⟩ := hown j D hD
    exact hok.ne i j C0 D0 p q hij hC0 hD0 (by rw [e1, e2]; exact ho) hp hq
  · rw [hget] at hC
    split at hC
    · rename_i hi; subst hi; cases hC; rw [hσ]; exact hh
    · rename_i hi
      refine holds_same (hok.blk i C hC) (fun q hq => hw q.1 (fun e => ?_))
      exact hok.ne b i B C (g, 0) q hi hB hC (.inl hB1) hσ hq e.symm
  · obtain ⟨h1, h2⟩ := hok.marks l hl
    refine ⟨h1, ?_⟩
    rw [hget]
    split
    · rename_i hi; subst hi; rw [hB] at h2; rw [hd (Option.some.inj h2)]
    · exact h2
  · obtain ⟨h1, C, h2, h3⟩ := hok.rnd l hl
    refine ⟨h1, ?_⟩
    rw [hget]
    split
    · rename_i hi; subst hi; rw [hB] at h2; cases h2; exact ⟨B', rfl, hlp h3⟩
    · exact ⟨C, h2, h3⟩
  · refine ⟨by omega, hos, htp, hou, fun k hk hf => hw k (fun e => ?_), by simp, fun _ _ _ => rfl, fun _ h => h, fun i C p hC ho hp _ => ?_, rfl⟩
    · subst e; exact hf b B (k, 0) hB hB1 hσ rfl
    · obtain ⟨C0, hC0, e1⟩ := hown i C hC
      exact ⟨i, C0, p, hC0, e1.trans ho, hp, rfl⟩

/-! ### A block is new -/
theorem scL_mem {n : Nat} : ∀ {l : List SV} {j : Nat} {v : SV}, scL n l = true → l[j]? = some v → scV n v = true
  | [], j, v, _, h => by simp at h
  | u :: l, j, v, hs, h => by
    simp only [scL] at hs
    split at hs
    · rename_i hu
      cases j with
      | zero => simp at h; subst h; exact hu
      | succ j => simp at h; exact scL_mem hs h
    · cases hs
theorem scH_get {n : Nat} {K : Prop} : ∀ {l : List SB}, scH n l K → K ∧ ∀ (i : Nat) (B : SB), l[i]? = some B → scB n B True
  | [], h => ⟨h, fun i B hB => by simp at hB⟩
  | B :: l, h => by
    simp only [scH] at h
    have key : scH n l K ∧ scB n B True := by
      cases B <;> simp only [scB] at h ⊢ <;> first | (split at h <;> first | exact ⟨h, by simp [*]⟩ | exact h.elim) | exact ⟨h.2, h.1, trivial⟩ | exact ⟨h, trivial⟩
    obtain ⟨hK, hr⟩ := scH_get key.1
    refine ⟨hK, fun i C hC => ?_⟩
    cases i with
    | zero => simp at hC; subst hC; exact key.2
    | succ i => simp at hC; exact hr i C hC
theorem scB_ext {n : Nat} {B : SB} (h : scB n B True) {σ σ' : Names} (hσ : ∀ i, i < n → σ' i = σ i) :
    (∀ t row, B = .one t row → denL σ' row = denL σ row) ∧ (∀ t sz len (f : Nat → List SV) (i j : Nat) (v : SV), B = .arr t sz len f → (f i)[j]? = some v → den σ' v = den σ v) ∧
      (∀ sz len (f : Nat → List SV) (i j : Nat) (v : SV), B = .roA sz len f → (f i)[j]? = some v → den σ' v = den σ v) ∧ (∀ st pe t ps a b, B = .loop st pe t ps a b → denL σ' t = denL σ t) := by
  refine ⟨fun t row e => ?_, fun t sz len f i j v e hv => ?_, fun sz len f i j v e hv => ?_, fun st pe t ps a b e => ?_⟩ <;> subst e <;> simp only [scB] at h
  · split at h
    · exact sc_denL hσ row (by assumption)
    · exact h.elim
  · exact sc_den hσ v (scL_mem (h.1 i) hv)
  · exact sc_den hσ v (scL_mem (h.1 i) hv)
  · split at h
    · exact sc_denL hσ t (by assumption)
    · exact h.elim
/-- Names as before, and one more. -/
def more (σ : Names) (n : Nat) (p : Option (Nat × Nat)) : Names := fun i => if i = n then p else σ i
theorem more_old {σ : Names} {n : Nat} {p : Option (Nat × Nat)} {i : Nat} (h : i < n) : more σ n p i = σ i := by unfold more; rw [if_neg (by omega)]
theorem more_new {σ : Names} {n : Nat} {p : Option (Nat × Nat)} : more σ n p n = p := by unfold more; rw [if_pos rfl]
/-- The world goes on by blocks beyond those that were: nothing that was has turned. -/
structure Grew (w w' : World) : Prop where
  size : w.heap.size ≤ w'.heap.size
  os : w'.os = w.os
  tape : w'.tape = w.tape
  output : w'.output = w.output
  old : ∀ k, k < w.heap.size → w'.heap[k]? = w.heap[k]?
theorem Grew.alloc (w : World) (o : Obj) : Grew w (w.alloc o) :=
  ⟨by simp, rfl, rfl, rfl, fun k hk => by simp only [World.alloc]; rw [Array.getElem?_push]; rw [if_neg (by omega)]⟩
theorem Ok.new {P : Program} {σ : Names} {s : SS} {w w' : World} {B : SB} {p : Option (Nat × Nat)} (hok : Ok P σ s w) (hsc : scS s True) (hg : Grew w w')
    (hp : ∀ q, p = some q → w.heap.size ≤ q.1 ∧ q.1 < w'.heap.size) (hh : holds P (more σ s.h.length p) p w' B) :
    Ok P (more σ s.h.length p) (alloc B s) w' ∧ Step σ s w (more σ s.h.length p) (alloc B s) w' ∧ act (more σ s.h.length p) (alloc B s) = act σ s := by
  unfold scS at hsc
  split at hsc
  rotate_left
  · exact hsc.elim
  rename_i hst
  obtain ⟨_, hsh⟩ := scH_get hsc
  have hσ : ∀ i, i < s.h.length → more σ s.h.length p i = σ i := fun i hi => more_old hi
  have hget : ∀ i C, (s.h ++ [B])[i]? = some C → (i < s.h.length ∧ s.h[i]? = some C) ∨ (i = s.h.length ∧ C = B) := fun i C hC => by
    rcases Nat.lt_trichotomy i s.h.length with h | h | h
    · rw [List.getElem?_append_left h] at hC; exact .inl ⟨h, hC⟩
    · subst h; simp at hC; exact .inr ⟨rfl, hC.symm⟩
    · rw [List.getElem?_append_right (by omega)] at hC
      rw [List.getElem?_eq_none (by simp; omega)] at hC
      cases hC
  have hmarks : ∀ l, l ∈ s.d → l < s.h.length := fun l hl => (List.getElem?_eq_some_iff.1 (hok.marks l hl).2).1
  refine ⟨⟨fun i q hi hq => ?_, fun i j C D q r hij hC hD ho hq hr => ?_, fun i C hC => ?_, fun l hl => ?_, fun l hl => ?_⟩, ?_, ?_⟩
  · simp only [alloc, List.length_append, List.length_cons, List.length_nil] at hi
    by_cases h : i < s.h.length
    · rw [hσ i h] at hq; exact Nat.lt_of_lt_of_le (hok.lt i q h hq) hg.size
    · obtain rfl : i = s.h.length := by omega
      rw [more_new] at hq; exact (hp q hq).2
  · rcases hget i C hC with ⟨hi, hC'⟩ | ⟨hi, rfl⟩ <;> rcases hget j D hD with ⟨hj, hD'⟩ | ⟨hj, rfl⟩
    · rw [hσ i hi] at hq; rw [hσ j hj] at hr; exact hok.ne i j C D q r hij hC' hD' ho hq hr
    · subst hj; rw [hσ i hi] at hq; rw [more_new] at hr
      have h1 := hok.lt i q hi hq; have h2 := (hp r hr).1; omega
    · subst hi; rw [hσ j hj] at hr; rw [more_new] at hq
      have h1 := hok.lt j r hj hr; have h2 := (hp q hq).1; omega
    · omega
  · rcases hget i C hC with ⟨hi, hC'⟩ | ⟨hi, rfl⟩
    · rw [hσ i hi]
      have hold : ∀ q, σ i = some q → w'.heap[q.1]? = w.heap[q.1]? := fun q hq => hg.old q.1 (hok.lt i q hi hq)
      exact holds_ext (hok.blk i C hC') (fun q hq _ => hold q hq) (fun q hq _ => hold q hq) (scB_ext (hsh i C hC') hσ)
    · subst hi; rw [more_new]; exact hh
  · obtain ⟨h1, h2⟩ := hok.marks l hl
    exact ⟨h1, by simp only [alloc]; rw [List.getElem?_append_left (hmarks l hl)]; exact h2⟩
  · obtain ⟨h1, C, h2, h3⟩ := hok.rnd l hl
    exact ⟨h1, C, by simp only [alloc]; rw [List.getElem?_append_left (List.getElem?_eq_some_iff.1 h2).1]; exact h2, h3⟩
  · refine ⟨hg.size, hg.os, hg.tape, hg.output, fun b hb _ => hg.old b hb, by simp [alloc], fun i hi _ => hσ i hi, fun _ h => h, fun i C q hC ho hq hlt => ?_, rfl⟩
    rcases hget i C hC with ⟨hi, hC'⟩ | ⟨hi, rfl⟩
    · rw [hσ i hi] at hq; exact ⟨i, C, q, hC', ho, hq, rfl⟩
    · subst hi; rw [more_new] at hq; have := (hp q hq).1; omega
  · unfold act
    simp only [alloc]
    rw [sc_denL hσ s.t hst]
    congr 1
    apply List.map_congr_left
    intro l hl
    unfold mark
    rw [hσ l (hmarks l hl)]

/-! ### A name goes over to another block -/
theorem scrH_get {R : List Nat} {js : Nat → Nat → Value} : ∀ (l : List SB) (i k : Nat), (scrH R js k l)[i]? = (l[i]?).map (scrB R (js (k + i + 1)))
  | [], i, k => by simp [scrH]
  | B :: l, i, k => by
    cases i with
    | zero => simp [scrH]
    | succ i => simp only [scrH, List.getElem?_cons_succ]; rw [scrH_get l i (k + 1)]; congr 3; omega
theorem own_scrB {R : List Nat} {js : Nat → Value} (B : SB) : own (scrB R js B) = own B := by cases B <;> rfl
theorem scrL_get {R : List Nat} {js : Nat → Value} : ∀ (l : List SV) (i k : Nat), (scrL R js k l)[i]? = (l[i]?).map fun v => if men R v then .val (js (k + i)) else v
  | [], i, k => by simp [scrL]
  | v :: l, i, k => by
    cases i with
    | zero => simp [scrL]
    | succ i => simp only [scrL, List.getElem?_cons_succ]; rw [scrL_get l i (k + 1)]; congr 1; funext u; congr 3; omega

theorem menH_get {R : List Nat} {K : Prop} : ∀ {l : List SB}, menH R l K → K ∧ ∀ (i : Nat) (B : SB), l[i]? = some B → menB R B True
  | [], h => ⟨h, fun i B hB => by simp at hB⟩
  | B :: l, h => by
    simp only [menH] at h
    have key : menH R l K ∧ menB R B True := by
      cases B <;> simp only [menB] at h ⊢ <;> first | exact ⟨h.2, h.1, trivial⟩ | exact ⟨h, trivial⟩
    obtain ⟨hK, hr⟩ := menH_get key.1
    refine ⟨hK, fun i C hC => ?_⟩
    cases i with
    | zero => simp at hC; subst hC; exact key.2
    | succ i => simp at hC; exact hr i C hC
theorem menL_mem {R : List Nat} : ∀ {l : List SV} {j : Nat} {v : SV}, menL R l = false → l[j]? = some v → men R v = false
  | [], j, v, _, h => by simp at h
  | u :: l, j, v, hs, h => by
    simp only [menL] at hs
    split at hs
    · cases hs
    · rename_i hu
      cases j with
      | zero => simp at h; subst h; simpa using hu
      | succ j => simp at h; exact menL_mem hs h
/-- What is forgotten. -/
def jsOf (σ : Names) (s : SS) : Nat → Nat → Value
  | 0, i => den σ (s.t.getD i .undef)
  | m + 1, i => match s.h[m]? with
    | some (.one _ row) => den σ (row.getD i .undef)
    | some (.loop _ _ t _ _ _) => den σ (t.getD i .undef)
    | _ => undef
theorem getD_of_get {l : List SV} {i : Nat} {v : SV} (h : l[i]? = some v) : l.getD i .undef = v := by simp [List.getD, h]
theorem Ok.over {P : Program} {σ σ' : Names} {s : SS} {w w' : World} {b : Nat} {B B' : SB} (hok : Ok P σ s w) (hB : s.h[b]? = some B) (hB1 : own B = true) (hB2 : own B' = true) (hBd : B ≠ .defd) (hBl : isLoop B = false)
    (hmen : ∀ (i : Nat) (C : SB), s.h[i]? = some C → menB [b] C True) (hσ : ∀ i, i ≠ b → σ' i = σ i) (hb : ∀ q, σ' b = some q → q.1 < w'.heap.size ∧ (w.heap.size ≤ q.1 ∨ σ b = some q))
    (hsz : w.heap.size ≤ w'.heap.size) (hos : w'.os = w.os) (htp : w'.tape = w.tape) (hou : w'.output = w.output)
    (hw : ∀ k, k < w.heap.size → σ b ≠ some (k, 0) → w'.heap[k]? = w.heap[k]?) (hz : ∀ q, σ b = some q → q.2 = 0) (hh : holds P σ' (σ' b) w' B') :
    Ok P σ' (Sx.over b B' (jsOf σ s) s) w' ∧ Step σ s w σ' (Sx.over b B' (jsOf σ s) s) w' ∧ act σ' (Sx.over b B' (jsOf σ s) s) = act σ s := by
  have hbl : b < s.h.length := (List.getElem?_eq_some_iff.1 hB).1
  have hlen : (scrH [b] (jsOf σ s) 0 s.h).length = s.h.length := by
    have : ∀ (l : List SB) k, (scrH [b] (jsOf σ s) k l).length = l.length := by
      intro l; induction l with
      | nil => intro k; rfl
      | cons B l ih => intro k; simp [scrH, ih]
    exact this _ _
  have hget : ∀ i, (Sx.over b B' (jsOf σ s) s).h[i]? = if b = i then some B' else (s.h[i]?).map (scrB [b] (jsOf σ s (i + 1))) := fun i => by
    simp only [Sx.over, scr]
    rw [List.getElem?_set]
    by_cases hi : b = i
    · subst hi; simp [hlen, hbl]
    · rw [if_neg hi, if_neg hi, scrH_get]; simp
  have hnm : ∀ i, i ∉ [b] → σ' i = σ i := fun i hi => hσ i (by simpa using hi)
  have hown : ∀ i C, (Sx.over b B' (jsOf σ s) s).h[i]? = some C → ∃ C0, s.h[i]? = some C0 ∧ own C0 = own C := fun i C hC => by
    rw [hget] at hC
    split at hC
    · rename_i hi; subst hi; cases hC; exact ⟨B, hB, by rw [hB1, hB2]⟩
    · simp only [Option.map_eq_some_iff] at hC
      obtain ⟨C0, h0, rfl⟩ := hC
      exact ⟨C0, h0, (own_scrB C0).symm⟩
  have hmk : ∀ l, l ∈ s.d → l ≠ b := fun l hl e => by
    subst e
    have := (hok.marks l hl).2
    rw [hB] at this; exact hBd (Option.some.inj this)
  have hsame : ∀ i C q, i ≠ b → s.h[i]? = some C → σ i = some q → w'.heap[q.1]? = w.heap[q.1]? := fun i C q hi hC hq => by
    have hl : i < s.h.length := (List.getElem?_eq_some_iff.1 hC).1
    refine hw q.1 (hok.lt i q hl hq) (fun e => ?_)
    exact hok.ne b i B C (q.1, 0) q (Ne.symm hi) hB hC (.inl hB1) e hq rfl
  refine ⟨⟨fun i p hi hp => ?_, fun i j C D p q hij hC hD ho hp hq => ?_, fun i C hC => ?_, fun l hl => ?_, fun l hl => ?_⟩, ?_, ?_⟩
  · have hi' : i < s.h.length := by simpa [Sx.over, scr, hlen] using hi
    by_cases h : i = b
    · subst h; exact (hb p hp).1
    · rw [hσ i h] at hp; exact Nat.lt_of_lt_of_le (hok.lt i p hi' hp) hsz
  · obtain ⟨C0, hC0, e1⟩ := hown i C hC
    obtain ⟨D0, hD0, e2⟩ := hown j D hD
    have hne := hok.ne
    by_cases hib : i = b
    · subst hib
      rw [hσ j (Ne.symm hij)] at hq
      rcases (hb p hp).2 with h | h
      · have := hok.lt j q (List.getElem?_eq_some_iff.1 hD0).1 hq
        omega
      · exact hne i j B D0 p q hij hB hD0 (.inl hB1) h hq
    · by_cases hjb : j = b
      · subst hjb
        rw [hσ i hib] at hp
        rcases (hb q hq).2 with h | h
        · have := hok.lt i p (List.getElem?_eq_some_iff.1 hC0).1 hp
          omega
        · exact hne i j C0 B p q hij hC0 hB (.inr hB1) hp h
      · rw [hσ i hib] at hp; rw [hσ j hjb] at hq
        exact hne i j C0 D0 p q hij hC0 hD0 (by rw [e1, e2]; exact ho) hp hq
  · rw [hget] at hC
    split at hC
    · rename_i hi; subst hi; cases hC; exact hh
    · rename_i hi
      simp only [Option.map_eq_some_iff] at hC
      obtain ⟨C0, h0, rfl⟩ := hC
      rw [hσ i (Ne.symm hi)]
      have hb0 := hok.blk i C0 h0
      have hs := fun q hq => hsame i C0 q (Ne.symm hi) h0 hq
      have hm := hmen i C0 h0
      cases C0
      case one t row =>
        obtain ⟨g', hg', hh'⟩ := hb0
        refine ⟨g', hg', ?_⟩
        rw [hs _ hg', hh', scrL_den hnm]
        intro k v hv
        simp only [jsOf, h0, Nat.zero_add, getD_of_get hv]
      case loop st pe t ps a c =>
        obtain ⟨g', fn, ca, cb, d, hg', h1, h2, hh'⟩ := hb0
        refine ⟨g', fn, ca, cb, d, hg', h1, h2, ?_⟩
        rw [hs _ hg', hh', scrL_den hnm]
        intro k v hv
        simp only [jsOf, h0, Nat.zero_add, getD_of_get hv]
      all_goals refine holds_ext hb0 (fun q hq _ => hs q hq) (fun q hq _ => hs q hq) ⟨fun _ _ e => (by cases e), fun t sz len f i j v e hv => ?_, fun sz len f i j v e hv => ?_, fun _ _ _ _ _ _ e => (by cases e)⟩ <;> cases e
      · exact men_den hnm v (menL_mem (hm.1 _) hv)
      · exact men_den hnm v (menL_mem (hm.1 _) hv)
  · obtain ⟨h1, h2⟩ := hok.marks l hl
    refine ⟨?_, ?_⟩
    · simp only [Sx.over, addR]
      split
      · exact h1
      · simp; exact ⟨hmk l hl, h1⟩
    · rw [hget, if_neg (Ne.symm (hmk l hl)), h2]; rfl
  · obtain ⟨h1, C, h2, h3⟩ := hok.rnd l hl
    have hlb : l ≠ b := fun e => by subst e; rw [hB] at h2; cases h2; rw [hBl] at h3; cases h3
    refine ⟨?_, scrB [b] (jsOf σ s (l + 1)) C, ?_, ?_⟩
    · simp only [Sx.over, addR]
      split
      · exact h1
      · simp; exact ⟨hlb, h1⟩
    · rw [hget, if_neg (Ne.symm hlb), h2]; rfl
    · cases C <;> first | exact h3 | cases h3
  · refine ⟨hsz, hos, htp, hou, fun k hk hf => hw k hk (fun e => hf b B (k, 0) hB hB1 e rfl), by simp [Sx.over, scr, hlen], fun i hi hr => hσ i (fun e => ?_), fun i hi => ?_, fun i C p hC ho hp hlt => ?_, rfl⟩
    · subst e; apply hr; simp only [Sx.over, addR]; split
      · rename_i h; rwa [memN_iff] at h
      · simp
    · simp only [Sx.over, addR]; split
      · exact hi
      · simp [hi]
    · obtain ⟨C0, hC0, e1⟩ := hown i C hC
      by_cases hib : i = b
      · subst hib
        rcases (hb p hp).2 with h | h
        · omega
        · exact ⟨i, B, p, hB, hB1, h, rfl⟩
      · rw [hσ i hib] at hp
        exact ⟨i, C0, p, hC0, e1.trans ho, hp, rfl⟩
  · unfold act
    simp only [Sx.over, scr]
    rw [scrL_den hnm s.t 0 (fun k v hv => by simp [jsOf, List.getD, hv])]
    congr 1
    apply List.map_congr_left
    intro l hl
    unfold mark
    rw [hσ l (hmk l hl)]
end Go.Sx
