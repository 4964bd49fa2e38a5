/-
  The engine, part 17: a call by its contract (proof).
-/
import Derived.Test.YtgbnngjmjimhiaaSx16
namespace Go.Sx
open Go
section
variable {P : Program} {σ : Names} {s : SS} {w : World}

theorem fits_spec {ρ : List (Nat × Ix)} {n0 : Nat} {h : List SB} {K : Prop} : ∀ {es : List (Nat × Ix)} {H : List SB}, fits ρ n0 h es H K → es.length = H.length ∧ K ∧ ∀ (i : Nat) (B : SB), H[i]? = some B →
    ∃ e C, es[i]? = some e ∧ h[e.1]? = some C ∧ fit ρ n0 e.2 B C ∧ okB ρ n0 B True
  | [], [], hf => ⟨rfl, hf, fun i B hB => by simp at hB⟩
  | (b, o) :: es, B :: H, hf => by
    simp only [fits] at hf
    obtain ⟨h1, h2⟩ := hf
    obtain ⟨h2, h3⟩ := okB_iff h2
    obtain ⟨h4, h5, h6⟩ := fits_spec h2
    refine ⟨by simp [h4], h5, fun i B' hB => ?_⟩
    cases i with
    | zero =>
      simp at hB; subst hB
      split at h1
      · rename_i C hC
        exact ⟨(b, o), C, by simp, hC, h1, h3⟩
      · exact h1.elim
    | succ i => simp at hB; simpa using h6 i B' hB
  | [], _ :: _, hf => hf.elim
  | _ :: _, [], hf => by simp only [fits] at hf
theorem fit_own {ρ : List (Nat × Ix)} {n0 : Nat} {o : Ix} {B C : SB} (h : fit ρ n0 o B C) (hB : own B = true) : own C = own B ∧ isZ o = true := by
  have key : genB C = genB (renB ρ n0 B) ∧ isZ o = true := by cases B <;> first | exact h | cases hB
  refine ⟨?_, key.2⟩
  rw [← own_genB C, key.1, own_genB, own_renB]
theorem apart1_spec {b : Nat} {o : Bool} : ∀ {es : List (Nat × Ix)} {H : List SB}, apart1 b o es H = true → ∀ (j : Nat) (e : Nat × Ix) (C : SB), es[j]? = some e → H[j]? = some C → (o = true ∨ own C = true) → b ≠ e.1
  | [], H, _, j, e, C, he, _, _ => by simp at he
  | (b', o') :: es, [], _, j, e, C, _, hC, _ => by simp at hC
  | (b', o') :: es, B :: H, h, j, e, C, he, hC, ho => by
    simp only [apart1] at h
    cases j with
    | zero =>
      simp at he hC; subst he; subst hC
      rw [if_pos (by simpa using ho)] at h
      split at h
      · cases h
      · rename_i hb; simpa using hb
    | succ j =>
      simp at he hC
      have : apart1 b o es H = true := by
        split at h
        · split at h
          · cases h
          · exact h
        · exact h
      exact apart1_spec this j e C he hC ho
theorem apartR_spec : ∀ {es : List (Nat × Ix)} {H : List SB}, apartR es H = true → ∀ (i j : Nat) (e e' : Nat × Ix) (B C : SB), i ≠ j → es[i]? = some e → es[j]? = some e' → H[i]? = some B → H[j]? = some C → (own B = true ∨ own C = true) → e.1 ≠ e'.1
  | [], H, _, i, j, e, e', B, C, _, he, _, _, _, _ => by simp at he
  | (b, o) :: es, [], _, i, j, e, e', B, C, _, _, _, hB, _, _ => by simp at hB
  | (b, o) :: es, A :: H, h, i, j, e, e', B, C, hij, he, he', hB, hC, ho => by
    simp only [apartR] at h
    split at h
    rotate_left
    · cases h
    rename_i h1
    cases i with
    | zero =>
      cases j with
      | zero => exact absurd rfl hij
      | succ j =>
        simp at he he' hB hC; subst he; subst hB
        exact apart1_spec h1 j e' C he' hC ho
    | succ i =>
      cases j with
      | zero =>
        simp at he he' hB hC; subst he'; subst hC
        exact (apart1_spec h1 i e B he hB ho.symm).symm
      | succ j =>
        simp at he he' hB hC
        exact apartR_spec h i j e e' B C (by omega) he he' hB hC ho
theorem ownAs_spec : ∀ {H H' : List SB}, ownAs H H' = true → H.length ≤ H'.length ∧ (∀ (i : Nat) (B B' : SB), H[i]? = some B → H'[i]? = some B' → own B = own B') ∧ (∀ (i : Nat) (B' : SB), H.length ≤ i → H'[i]? = some B' → own B' = true)
  | [], [], _ => ⟨Nat.le_refl _, fun i B B' h => by simp at h, fun i B' _ h => by simp at h⟩
  | [], B' :: H', h => by
    simp only [ownAs] at h
    split at h
    rotate_left
    · cases h
    rename_i hB
    obtain ⟨_, _, h3⟩ := ownAs_spec h
    refine ⟨by simp, fun i B B' h => by simp at h, fun i C _ hC => ?_⟩
    cases i with
    | zero => simp at hC; subst hC; exact hB
    | succ i => simp at hC; exact h3 i C (by simp) hC
  | B :: H, B' :: H', h => by
    simp only [ownAs] at h
    split at h
    rotate_left
    · cases h
    rename_i hB
    obtain ⟨h1, h2, h3⟩ := ownAs_spec h
    refine ⟨by simpa using h1, fun i C C' hC hC' => ?_, fun i C hi hC => ?_⟩
    · cases i with
      | zero => simp at hC hC'; subst hC; subst hC'; simpa using hB
      | succ i => simp at hC hC'; exact h2 i C C' hC hC'
    · cases i with
      | zero => simp at hi
      | succ i => simp at hC hi; exact h3 i C hi hC
  | _ :: _, [], h => by simp [ownAs] at h
theorem redOwn_spec {H : List SB} : ∀ {R : List Nat}, redOwn H R = true → ∀ i ∈ R, ∀ B, H[i]? = some B → own B = true
  | [], _, i, hi, _, _ => by cases hi
  | k :: R, h, i, hi, B, hB => by
    simp only [redOwn] at h
    rcases List.mem_cons.1 hi with rfl | hi
    · rw [hB] at h
      simp only at h
      split at h
      · assumption
      · cases h
    · have : redOwn H R = true := by
        split at h
        · split at h
          · exact h
          · cases h
        · exact h
      exact redOwn_spec this i hi B hB
theorem mem_rOld {n i : Nat} : ∀ {R : List Nat}, i ∈ rOld n R ↔ i ∈ R ∧ i < n
  | [] => by simp [rOld]
  | k :: R => by
    simp only [rOld]
    split
    · rename_i h
      have h : k < n := by simpa [ltB] using h
      simp only [List.mem_cons, mem_rOld (R := R)]
      constructor
      · rintro (rfl | h')
        · exact ⟨.inl rfl, h⟩
        · exact ⟨.inr h'.1, h'.2⟩
      · rintro ⟨rfl | h', h2⟩
        · exact .inl rfl
        · exact .inr ⟨h', h2⟩
    · rename_i h
      have h : ¬ k < n := by simpa [ltB] using h
      simp only [List.mem_cons, mem_rOld (R := R)]
      constructor
      · rintro ⟨h', h2⟩
        exact ⟨.inr h', h2⟩
      · rintro ⟨rfl | h', h2⟩
        · exact absurd h2 h
        · exact ⟨h', h2⟩
theorem okH_spec {ρ : List (Nat × Ix)} {n0 : Nat} {K : Prop} : ∀ {H : List SB}, okH ρ n0 H K → K ∧ ∀ (i : Nat) (B : SB), H[i]? = some B → okB ρ n0 B True
  | [], h => ⟨h, fun i B hB => by simp at hB⟩
  | B :: H, h => by
    simp only [okH] at h
    obtain ⟨h1, h2⟩ := okB_iff h
    obtain ⟨h3, h4⟩ := okH_spec h1
    refine ⟨h3, fun i C hC => ?_⟩
    cases i with
    | zero => simp at hC; subst hC; exact h2
    | succ i => simp at hC; exact h4 i C hC
theorem scrH_len {R : List Nat} {js : Nat → Nat → Value} : ∀ (l : List SB) k, (scrH R js k l).length = l.length
  | [], k => rfl
  | B :: l, k => by simp [scrH, scrH_len l]
theorem mset_new {ρ : List (Nat × Ix)} {n0 : Nat} : ∀ (es : List (Nat × Ix)) (H h : List SB) (k : Nat), es.length ≤ H.length → (mset ρ n0 es H h)[h.length + k]? = (H[es.length + k]?).map (renB ρ n0)
  | [], H, h, k, _ => by
    simp only [mset, List.length_nil, Nat.zero_add]
    rw [List.getElem?_append_right (by omega)]
    simp
  | (b, o) :: es, [], h, k, hl => by simp at hl
  | (b, o) :: es, B :: H, h, k, hl => by
    simp only [mset]
    have := mset_new (ρ := ρ) (n0 := n0) es H (if own B then h.set b (renB ρ n0 B) else h) k (by simpa using hl)
    have hlen : (if own B then h.set b (renB ρ n0 B) else h).length = h.length := by split <;> simp
    rw [hlen] at this
    rw [this]
    have : (b, o) :: es = [(b, o)] ++ es := rfl
    simp [Nat.succ_add]
theorem mset_len {ρ : List (Nat × Ix)} {n0 : Nat} : ∀ (es : List (Nat × Ix)) (H h : List SB), es.length ≤ H.length → (mset ρ n0 es H h).length = h.length + (H.length - es.length)
  | [], H, h, _ => by simp [mset]
  | (b, o) :: es, [], h, hl => by simp at hl
  | (b, o) :: es, B :: H, h, hl => by
    simp only [mset]
    have hlen : (if own B then h.set b (renB ρ n0 B) else h).length = h.length := by split <;> simp
    rw [mset_len es H _ (by simpa using hl), hlen]
    simp
theorem mset_old {ρ : List (Nat × Ix)} {n0 : Nat} : ∀ (es : List (Nat × Ix)) (H h : List SB) (b : Nat), b < h.length → (∀ (i : Nat) (e : Nat × Ix) (B : SB), es[i]? = some e → H[i]? = some B → own B = true → e.1 ≠ b) → (mset ρ n0 es H h)[b]? = h[b]?
  | [], H, h, b, hb, _ => by simp only [mset]; rw [List.getElem?_append_left hb]
  | (c, o) :: es, [], h, b, hb, _ => rfl
  | (c, o) :: es, B :: H, h, b, hb, hn => by
    simp only [mset]
    have hlen : (if own B then h.set c (renB ρ n0 B) else h).length = h.length := by split <;> simp
    rw [mset_old es H _ b (by rw [hlen]; exact hb) (fun i e C he hC ho => hn (i + 1) e C (by simpa using he) (by simpa using hC) ho)]
    split
    · rename_i hB
      have := hn 0 (c, o) B (by simp) (by simp) hB
      rw [List.getElem?_set_ne this]
    · rfl
theorem mset_set {ρ : List (Nat × Ix)} {n0 : Nat} : ∀ (es : List (Nat × Ix)) (H h : List SB) (i : Nat) (e : Nat × Ix) (B : SB), es[i]? = some e → H[i]? = some B → own B = true → e.1 < h.length →
    (∀ (j : Nat) (e' : Nat × Ix) (C : SB), j ≠ i → es[j]? = some e' → H[j]? = some C → own C = true → e'.1 ≠ e.1) → (mset ρ n0 es H h)[e.1]? = some (renB ρ n0 B)
  | [], H, h, i, e, B, he, _, _, _, _ => by simp at he
  | (c, o) :: es, [], h, i, e, B, _, hB, _, _, _ => by simp at hB
  | (c, o) :: es, A :: H, h, i, e, B, he, hB, ho, hb, hn => by
    simp only [mset]
    have hlen : (if own A then h.set c (renB ρ n0 A) else h).length = h.length := by split <;> simp
    cases i with
    | zero =>
      simp at he hB; subst he; subst hB
      rw [if_pos ho, mset_old es H _ c (by simpa using hb) (fun j e' C he' hC hoC => hn (j + 1) e' C (by omega) (by simpa using he') (by simpa using hC) hoC)]
      rw [List.getElem?_set_self hb]
    | succ i =>
      simp at he hB
      exact mset_set es H _ i e B he hB ho (by rw [hlen]; exact hb) (fun j e' C hj he' hC hoC => hn (j + 1) e' C (by omega) (by simpa using he') (by simpa using hC) hoC)
/-- A value that mentions none of the names that went over means what it meant. -/
theorem den_keep {σ' : Names} {n : Nat} {R : List Nat} (hσ : ∀ i, i < n → i ∉ R → σ' i = σ i) {v : SV} (hs : scV n v = true) (hm : men R v = false) : den σ' v = den σ v := by
  let σ1 : Names := fun i => if i < n then σ' i else σ i
  have h1 : ∀ i, i ∉ R → σ1 i = σ i := fun i hi => by
    simp only [σ1]; split
    · exact hσ i (by assumption) hi
    · rfl
  rw [← men_den h1 v hm]
  exact sc_den (fun i hi => by simp only [σ1]; rw [if_pos hi]) v hs
theorem holds_scr {σ' : Names} {n : Nat} {R : List Nat} {w' : World} {B : SB} {i : Nat} (hB : s.h[i]? = some B) (hσ : ∀ i, i < n → i ∉ R → σ' i = σ i) (hs : scB n B True) (hm : menB R B True) (h : holds P σ (σ i) w B)
    (hw : ∀ q, σ i = some q → w'.heap[q.1]? = w.heap[q.1]?) : holds P σ' (σ i) w' (scrB R (jsOf σ s (i + 1)) B) := by
  cases B
  case one t row =>
    obtain ⟨g, hg, hh⟩ := h
    refine ⟨g, hg, ?_⟩
    simp only [scB] at hs
    split at hs
    rotate_left
    · exact hs.elim
    rename_i hs'
    rw [hw _ hg, hh]
    have : jsOf σ s (i + 1) = fun k => den σ (row.getD k .undef) := by funext k; simp [jsOf, hB]
    rw [this, denL_back hs' hσ]
  case loop st pe t ps a c =>
    obtain ⟨g, fn, ca, cb, d, hg, h1, h2, hh⟩ := h
    refine ⟨g, fn, ca, cb, d, hg, h1, h2, ?_⟩
    simp only [scB] at hs
    split at hs
    rotate_left
    · exact hs.elim
    rename_i hs'
    rw [hw _ hg, hh]
    have : jsOf σ s (i + 1) = fun k => den σ (t.getD k .undef) := by funext k; simp [jsOf, hB]
    rw [this, denL_back hs' hσ]
  all_goals refine holds_ext h (fun q hq _ => hw q hq) (fun q hq _ => hw q hq) ⟨fun _ _ e => (by cases e), fun t sz len f i j v e hv => ?_, fun sz len f i j v e hv => ?_, fun _ _ _ _ _ _ e => (by cases e)⟩ <;> cases e
  · simp only [scB] at hs; exact den_keep hσ (scL_mem (hs.1 _) hv) (menL_mem (hm.1 _) hv)
  · simp only [scB] at hs; exact den_keep hσ (scL_mem (hs.1 _) hv) (menL_mem (hm.1 _) hv)

/-! ### The contract's state at the call -/
structure At (P : Program) (σ : Names) (s : SS) (w : World) (ρ : List (Nat × Ix)) (H : List SB) : Prop where
  len : ρ.length = H.length
  fit : ∀ (i : Nat) (B : SB), H[i]? = some B → ∃ e C, ρ[i]? = some e ∧ s.h[e.1]? = some C ∧ Sx.fit ρ s.h.length e.2 B C ∧ okB ρ s.h.length B True
  apart : ∀ (i j : Nat) (e e' : Nat × Ix) (B C : SB), i ≠ j → ρ[i]? = some e → ρ[j]? = some e' → H[i]? = some B → H[j]? = some C → (own B = true ∨ own C = true) → e.1 ≠ e'.1
theorem rn_old {ρ : List (Nat × Ix)} {n0 i : Nat} {e : Nat × Ix} (h : ρ[i]? = some e) : rn ρ n0 i = e := by simp [rn, h]
theorem rn_new {ρ : List (Nat × Ix)} {n0 i : Nat} (h : ρ.length ≤ i) : rn ρ n0 i = (n0 + (i - ρ.length), .z) := by simp [rn, List.getElem?_eq_none h]
theorem At.ok {ρ : List (Nat × Ix)} {H : List SB} (hok : Ok P σ s w) (h : At P σ s w ρ H) : Ok P (cut ρ s.h.length σ) (small H []) w := by
  refine ⟨fun i p hi hp => ?_, fun i j B C p q hij hB hC ho hp hq => ?_, fun i B hB => ?_, (fun l hl => by cases hl), (fun l hl => by cases hl)⟩
  · obtain ⟨e, C, he, hC, _⟩ := h.fit i H[i] (List.getElem?_eq_getElem hi)
    simp only [cut, rn_old he, Option.map_eq_some_iff] at hp
    obtain ⟨q, hq, rfl⟩ := hp
    exact hok.lt e.1 q (List.getElem?_eq_some_iff.1 hC).1 hq
  · obtain ⟨e, B', he, hB', hf, _⟩ := h.fit i B hB
    obtain ⟨e', C', he', hC', hf', _⟩ := h.fit j C hC
    simp only [cut, rn_old he, rn_old he', Option.map_eq_some_iff] at hp hq
    obtain ⟨p, hp, rfl⟩ := hp
    obtain ⟨q, hq, rfl⟩ := hq
    refine hok.ne e.1 e'.1 B' C' p q (h.apart i j e e' B C hij he he' hB hC ho) hB' hC' ?_ hp hq
    rcases ho with ho | ho
    · left; rw [(fit_own hf ho).1]; exact ho
    · right; rw [(fit_own hf' ho).1]; exact ho
  · obtain ⟨e, C, he, hC, hf, hb⟩ := h.fit i B hB
    have hblk := hok.blk e.1 C hC
    have key : genB C = genB (renB ρ s.h.length B) ∧ isZ e.2 = true → holds P (cut ρ s.h.length σ) (cut ρ s.h.length σ i) w B := by
      rintro ⟨hg, hz⟩
      have : cut ρ s.h.length σ i = σ e.1 := by
        simp only [cut, rn_old he, ixN_isZ hz, Nat.add_zero]
        cases σ e.1 <;> rfl
      rw [this]
      exact (holds_ren (fun _ => rfl) hb).1 (holds_gen.1 (hg ▸ holds_gen.2 hblk))
    cases B
    case free => exact hf.elim
    case ro k l =>
      have hcut : ∀ q, σ e.1 = some q → cut ρ s.h.length σ i = some (q.1, q.2 + ixN e.2) := fun q hq => by simp [cut, rn_old he, hq]
      have hcut0 : σ e.1 = none → cut ρ s.h.length σ i = none := fun hq => by simp [cut, rn_old he, hq]
      cases C <;> simp only [Sx.fit] at hf
      case ro k' l' =>
        obtain ⟨rfl, hv⟩ := hf
        obtain ⟨hv1, hv2⟩ := hv.out
        rcases hblk with ⟨h0, rfl⟩ | ⟨g, o, hg, hc⟩
        · exact .inl ⟨hcut0 h0, by simp at hv1; exact hv1.2⟩
        · refine .inr ⟨g, o + ixN e.2, hcut _ hg, fun j hj => ?_⟩
          rw [hv2 j hj, Nat.add_assoc]
          exact hc (ixN e.2 + j) (by omega)
      case ints t k' l' =>
        obtain ⟨rfl, hv⟩ := hf
        obtain ⟨hv1, hv2⟩ := hv.out
        obtain ⟨g, hg, hh⟩ := hblk
        refine .inr ⟨g, 0 + ixN e.2, hcut _ hg, fun j hj => ?_⟩
        rw [hv2 j hj]
        have hj' : ixN e.2 + j < l'.length := by omega
        simp [World.cell?, hh, hj', List.getD]
      case buf t k' l' c =>
        obtain ⟨rfl, hv⟩ := hf
        obtain ⟨hv1, hv2⟩ := hv.out
        rcases hblk with ⟨h0, rfl, _⟩ | ⟨g, l'', hg, hh, _⟩
        · exact .inl ⟨hcut0 h0, by simp at hv1; exact hv1.2⟩
        · refine .inr ⟨g, 0 + ixN e.2, hcut _ hg, fun j hj => ?_⟩
          rw [hv2 j hj]
          have hj' : ixN e.2 + j < l'.length := by omega
          have hj'' : ixN e.2 + j < (l' ++ l'').length := by simp; omega
          simp [World.cell?, hh, hj', List.getD]
          rw [List.getElem?_append_left (by simpa using hj')]; simp [hj']
    case roA sz len f => exact key ⟨by rw [hf.1]; rfl, hf.2⟩
    all_goals exact key hf

/-! ### Behind it -/
/-- The caller's names behind the call. -/
def pick (ρ : List (Nat × Ix)) (n0 : Nat) (R : List Nat) (b : Nat) : Option Nat := (rOld ρ.length R).find? fun i => (rn ρ n0 i).1 == b
def join (ρ : List (Nat × Ix)) (n0 : Nat) (R : List Nat) (σ σc : Names) : Names := fun b =>
  if b < n0 then match pick ρ n0 R b with
    | some i => σc i
    | none => σ b
  else σc (b - n0 + ρ.length)
theorem pick_none {ρ : List (Nat × Ix)} {n0 : Nat} {R : List Nat} {b : Nat} (h : b ∉ rR ρ n0 (rOld ρ.length R)) : pick ρ n0 R b = none := by
  unfold pick
  rw [List.find?_eq_none]
  intro i hi
  simp only [beq_iff_eq]
  intro e
  exact h (List.mem_map.2 ⟨i, hi, e⟩)
theorem At.pick_own {ρ : List (Nat × Ix)} {H : List SB} {R : List Nat} {n0 : Nat} (h : At P σ s w ρ H) (hR : redOwn H R = true) {i : Nat} (hi : i < ρ.length) {j : Nat} (hp : pick ρ n0 R (rn ρ n0 i).1 = some j) : j = i ∧ i ∈ R := by
  have h1 := List.find?_some hp
  have h2 := mem_rOld.1 (List.mem_of_find?_eq_some hp)
  simp only [beq_iff_eq] at h1
  have hj : j < H.length := by rw [← h.len]; exact h2.2
  have hi' : i < H.length := by rw [← h.len]; exact hi
  have ho := redOwn_spec hR j h2.1 H[j] (List.getElem?_eq_getElem hj)
  have hij : j = i := by
    refine Classical.byContradiction fun hne => ?_
    rw [rn_old (List.getElem?_eq_getElem h2.2), rn_old (List.getElem?_eq_getElem hi)] at h1
    exact h.apart j i _ _ _ _ hne (List.getElem?_eq_getElem h2.2) (List.getElem?_eq_getElem hi) (List.getElem?_eq_getElem hj) (List.getElem?_eq_getElem hi') (.inl ho) h1
  subst hij
  exact ⟨rfl, h2.1⟩
theorem call_con {f : Nat} {ρ : List (Nat × Ix)} {cargs args : List SV} {H : List SB} {Post : SV → List SB → List Nat → Prop} {K : SV → SS → Prop} {X : XE → SS → Prop} (c : Con P f cargs H Post) (hm : Meets s ρ cargs args H)
    (hK : ∀ v H' R js, Post v H' R → Behind ρ H H' R js v s K) : CallX P f args s K X := by
  obtain ⟨ha, hav, hap, hsc⟩ := hm
  refine ⟨c.go, fun σ w hok => ?_⟩
  obtain ⟨hfits, hscS⟩ := scS_iff hsc
  obtain ⟨hlen, _, hfit⟩ := fits_spec hfits
  have hat : At P σ s w ρ H := ⟨hlen, hfit, apartR_spec hap⟩
  have hst0 : scL s.h.length s.t = true := scS_t hscS
  have hsh : ∀ (i : Nat) (B : SB), s.h[i]? = some B → scB s.h.length B True := by
    unfold scS at hscS
    rw [if_pos hst0] at hscS
    exact (scH_get hscS).2
  have hargs : denL σ args = denL (cut ρ s.h.length σ) cargs := by rw [← den_genL, ha, den_genL]; exact den_renL ρ _ σ _ (fun _ => rfl) cargs hav
  rw [hargs]
  have hcall : CallsIn (FR (rOf σ s)) 0 P f (denL (cut ρ s.h.length σ) cargs).toArray w (COut P (cut ρ s.h.length σ) H w Post) := c.out _ w (hat.ok hok)
  refine hcall.mono ?_
  rintro e w' ⟨σc, v, H', R, hP, rfl, hok', hst⟩
  have hB := hK v H' R (jsOf σ s) hP
  unfold Behind at hB
  split at hB
  rotate_left
  · exact hB.elim
  rename_i hch
  simp only [Bool.and_eq_true] at hch
  obtain ⟨⟨hoA, hrO⟩, hvO⟩ := hch
  obtain ⟨hB, hokH⟩ := okH_spec hB
  obtain ⟨hB, hmen⟩ := menH_get hB
  obtain ⟨hB, hkd⟩ := keepD_spec hB
  obtain ⟨hB, hkr⟩ := keepR_spec hB
  obtain ⟨hA1, hA2, hA3⟩ := ownAs_spec hoA
  generalize hRR : rR ρ s.h.length (rOld ρ.length R) = RR at *
  generalize hn0 : s.h.length = n0 at *
  generalize hσ' : join ρ n0 R σ σc = σ' at *
  -- the names
  have hkeep : ∀ b, b < n0 → b ∉ RR → σ' b = σ b := fun b hb hr => by
    rw [← hσ']; unfold join
    rw [if_pos hb, pick_none (by rw [hRR]; exact hr)]
  have hlt_of : ∀ {i : Nat} {e : Nat × Ix}, ρ[i]? = some e → e.1 < n0 := fun {i e} he => by
    have hi : i < H.length := by rw [← hlen]; exact (List.getElem?_eq_some_iff.1 he).1
    obtain ⟨e', C, he', hC, _⟩ := hfit i H[i] (List.getElem?_eq_getElem hi)
    rw [he] at he'; cases he'
    rw [← hn0]; exact (List.getElem?_eq_some_iff.1 hC).1
  have hcut : ∀ i, σc i = cut ρ n0 σ' i := fun i => by
    by_cases hi : i < ρ.length
    · have hiH : i < H.length := by rw [← hlen]; exact hi
      have he : ρ[i]? = some ρ[i] := List.getElem?_eq_getElem hi
      obtain ⟨e', C, he', hC, hf, _⟩ := hfit i H[i] (List.getElem?_eq_getElem hiH)
      have hee : e' = ρ[i] := by rw [he] at he'; exact (Option.some.inj he').symm
      subst hee
      have hb := hlt_of he
      by_cases hr : i ∈ R
      · have ho := redOwn_spec hrO i hr H[i] (List.getElem?_eq_getElem hiH)
        have hz := (fit_own hf ho).2
        have hσb : σ' (ρ[i]).1 = σc i := by
          rw [← hσ']; unfold join
          rw [if_pos hb]
          cases hp : pick ρ n0 R (ρ[i]).1 with
          | none =>
            exfalso
            unfold pick at hp
            rw [List.find?_eq_none] at hp
            exact hp i (mem_rOld.2 ⟨hr, hi⟩) (by simp [rn_old he])
          | some j =>
            have : pick ρ n0 R (rn ρ n0 i).1 = some j := by rw [rn_old he]; exact hp
            obtain ⟨rfl, _⟩ := hat.pick_own hrO hi this
            rfl
        simp only [cut, rn_old he, hσb, ixN_isZ hz, Nat.add_zero]
        cases σc i <;> rfl
      · have h1 := hst.names i hiH hr
        rw [h1]
        have hσb : σ' (ρ[i]).1 = σ (ρ[i]).1 := by
          rw [← hσ']; unfold join
          rw [if_pos hb]
          cases hp : pick ρ n0 R (ρ[i]).1 with
          | none => rfl
          | some j =>
            have : pick ρ n0 R (rn ρ n0 i).1 = some j := by rw [rn_old he]; exact hp
            exact absurd (hat.pick_own hrO hi this).2 hr
        simp only [cut, rn_old he, hσb]
    · have hi' : ρ.length ≤ i := by omega
      have hσb : σ' (n0 + (i - ρ.length)) = σc i := by
        rw [← hσ']; unfold join
        rw [if_neg (by omega)]
        congr 1; omega
      simp only [cut, rn_new hi', hσb, ixN, Nat.add_zero]
      cases σc i <;> rfl
  -- the blocks
  have hlenH : ρ.length ≤ H'.length := by omega
  have hsl : (scrH RR (jsOf σ s) 0 s.h).length = n0 := by rw [scrH_len, hn0]
  have hML : (mrg ρ H' RR (jsOf σ s) s).h.length = n0 + (H'.length - ρ.length) := by simp only [mrg]; rw [mset_len ρ H' _ hlenH, hsl]
  have hold : ∀ b, b < n0 → (∀ (i : Nat) (e : Nat × Ix) (B : SB), ρ[i]? = some e → H[i]? = some B → own B = true → e.1 ≠ b) → (mrg ρ H' RR (jsOf σ s) s).h[b]? = (s.h[b]?).map (scrB RR (jsOf σ s (b + 1))) := by
    intro b hb hno
    simp only [mrg]
    rw [mset_old ρ H' _ b (by rw [hsl]; exact hb) (fun i e B he hB' ho => ?_), scrH_get]
    · simp
    · have hiH : i < H.length := by rw [← hlen]; exact (List.getElem?_eq_some_iff.1 he).1
      exact hno i e H[i] he (List.getElem?_eq_getElem hiH) (by rw [hA2 i _ B (List.getElem?_eq_getElem hiH) hB']; exact ho)
  have hset : ∀ (i : Nat) (e : Nat × Ix) (B : SB), ρ[i]? = some e → H[i]? = some B → own B = true → ∃ B', H'[i]? = some B' ∧ own B' = true ∧ (mrg ρ H' RR (jsOf σ s) s).h[e.1]? = some (renB ρ n0 B') := by
    intro i e B he hB' ho
    have hiH : i < H.length := (List.getElem?_eq_some_iff.1 hB').1
    have hiH' : i < H'.length := by omega
    have ho' : own H'[i] = true := by rw [← hA2 i B _ hB' (List.getElem?_eq_getElem hiH')]; exact ho
    refine ⟨H'[i], List.getElem?_eq_getElem hiH', ho', ?_⟩
    simp only [mrg]
    have := mset_set (ρ := ρ) (n0 := n0) ρ H' (scrH RR (jsOf σ s) 0 s.h) i e H'[i] he (List.getElem?_eq_getElem hiH') ho' (by rw [hsl]; exact hlt_of he) (fun j e' C hj he' hC hoC => by
      have hjH : j < H.length := by rw [← hlen]; exact (List.getElem?_eq_some_iff.1 he').1
      exact hat.apart j i e' e H[j] B hj he' he (List.getElem?_eq_getElem hjH) hB' (.inr ho))
    rw [hn0]; exact this
  have hnew : ∀ k, (mrg ρ H' RR (jsOf σ s) s).h[n0 + k]? = (H'[ρ.length + k]?).map (renB ρ n0) := fun k => by
    simp only [mrg]
    have := mset_new (ρ := ρ) (n0 := n0) ρ H' (scrH RR (jsOf σ s) 0 s.h) k hlenH
    rw [hsl] at this
    rw [hn0]; exact this
  -- each name is the caller's own, or the contract's
  have hcls : ∀ (b : Nat) (B : SB), (mrg ρ H' RR (jsOf σ s) s).h[b]? = some B →
      (∃ i B', H'[i]? = some B' ∧ own B' = true ∧ B = renB ρ n0 B' ∧ σ' b = σc i ∧ (rn ρ n0 i).1 = b ∧ (i < ρ.length → ∃ C, H[i]? = some C ∧ own C = true)) ∨
      (b < n0 ∧ (∀ (i : Nat) (e : Nat × Ix) (C : SB), ρ[i]? = some e → H[i]? = some C → own C = true → e.1 ≠ b) ∧ ∃ C, s.h[b]? = some C ∧ B = scrB RR (jsOf σ s (b + 1)) C ∧ σ' b = σ b) := by
    intro b B hb
    by_cases hlt : b < n0
    · by_cases hno : ∀ (i : Nat) (e : Nat × Ix) (C : SB), ρ[i]? = some e → H[i]? = some C → own C = true → e.1 ≠ b
      · right
        refine ⟨hlt, hno, ?_⟩
        rw [hold b hlt hno] at hb
        simp only [Option.map_eq_some_iff] at hb
        obtain ⟨C, hC, rfl⟩ := hb
        refine ⟨C, hC, rfl, hkeep b hlt (fun hr => ?_)⟩
        rw [← hRR] at hr
        obtain ⟨i, hi, e⟩ := List.mem_map.1 hr
        obtain ⟨hi1, hi2⟩ := mem_rOld.1 hi
        have hiH : i < H.length := by rw [← hlen]; exact hi2
        rw [rn_old (List.getElem?_eq_getElem hi2)] at e
        exact hno i _ H[i] (List.getElem?_eq_getElem hi2) (List.getElem?_eq_getElem hiH) (redOwn_spec hrO i hi1 _ (List.getElem?_eq_getElem hiH)) e
      · left
        have : ∃ (i : Nat) (e : Nat × Ix) (C : SB), ρ[i]? = some e ∧ H[i]? = some C ∧ own C = true ∧ e.1 = b := by
          refine Classical.byContradiction fun hc => hno fun i e C h1 h2 h3 h4 => hc ⟨i, e, C, h1, h2, h3, h4⟩
        obtain ⟨i, e, C, he, hC, ho, rfl⟩ := this
        obtain ⟨B', hB', hoB, hs⟩ := hset i e C he hC ho
        rw [hb] at hs
        have hf := hfit i C hC
        obtain ⟨e', C', he', _, hf, _⟩ := hf
        rw [he] at he'; cases he'
        refine ⟨i, B', hB', hoB, Option.some.inj hs, ?_, by rw [rn_old he], fun _ => ⟨C, hC, ho⟩⟩
        rw [hcut i]
        simp only [cut, rn_old he, ixN_isZ (fit_own hf ho).2, Nat.add_zero]
        cases σ' e.1 <;> rfl
    · left
      have hb' : b = n0 + (b - n0) := by omega
      rw [hb', hnew] at hb
      simp only [Option.map_eq_some_iff] at hb
      obtain ⟨B', hB', rfl⟩ := hb
      have hrn : rn ρ n0 (ρ.length + (b - n0)) = (b, .z) := by rw [rn_new (by omega)]; congr 1; omega
      refine ⟨ρ.length + (b - n0), B', hB', hA3 _ B' (by omega) hB', rfl, ?_, by rw [hrn], fun h => by omega⟩
      rw [hcut]
      simp only [cut, hrn, ixN, Nat.add_zero]
      cases σ' b <;> rfl
  -- a block of the contract's own is far from the caller's others
  have hfar : ∀ (i : Nat) (B' : SB) (p : Nat × Nat) (b : Nat) (C : SB) (q : Nat × Nat), H'[i]? = some B' → own B' = true → σc i = some p → (∀ (k : Nat) (e : Nat × Ix) (A : SB), ρ[k]? = some e → H[k]? = some A → own A = true → e.1 ≠ b) →
      s.h[b]? = some C → σ b = some q → p.1 ≠ q.1 := by
    intro i B' p b C q hB' ho hp hno hC hq heq
    have hql := hok.lt b q (List.getElem?_eq_some_iff.1 hC).1 hq
    obtain ⟨k, A, r, hk, hA, hr, he⟩ := hst.own i B' p hB' ho hp (by omega)
    have hk' : H[k]? = some A := hk
    obtain ⟨e', C', he', hC', hf, _⟩ := hfit k A hk'
    simp only [cut, rn_old he', Option.map_eq_some_iff] at hr
    obtain ⟨r', hr', rfl⟩ := hr
    have hne := hno k e' A he' hk' hA
    refine hok.ne e'.1 b C' C r' q hne hC' hC (.inl ?_) hr' hq (by simp only at he; omega)
    rw [(fit_own hf hA).1]; exact hA
  have hmk : ∀ l, l ∈ s.d → l < n0 := fun l hl => by rw [← hn0]; exact (List.getElem?_eq_some_iff.1 (hok.marks l hl).2).1
  refine ⟨σ', mrg ρ H' RR (jsOf σ s) s, ?_, ?_, ?_, ⟨ren ρ n0 v, hB, ?_⟩⟩
  · refine ⟨fun b p hb hp => ?_, fun b b' B C p q hbb hb hb' ho hp hq => ?_, fun b B hb => ?_, fun l hl => ⟨?_, (hkd l hl).2⟩, fun l hl => ⟨?_, (hkr l hl).2⟩⟩
    · obtain ⟨B, hB'⟩ : ∃ B, (mrg ρ H' RR (jsOf σ s) s).h[b]? = some B := ⟨_, List.getElem?_eq_getElem hb⟩
      rcases hcls b B hB' with ⟨i, B', hi, _, _, hs, _⟩ | ⟨hlt, _, C, hC, _, hs⟩
      · rw [hs] at hp; exact hok'.lt i p (List.getElem?_eq_some_iff.1 hi).1 hp
      · rw [hs] at hp; exact Nat.lt_of_lt_of_le (hok.lt b p (List.getElem?_eq_some_iff.1 hC).1 hp) hst.size
    · rcases hcls b B hb with ⟨i, B', hi, hoB, rfl, hs, hr, _⟩ | ⟨hlt, hno, C0, hC0, rfl, hs⟩ <;> rcases hcls b' C hb' with ⟨j, C', hj, hoC, rfl, hs', hr', _⟩ | ⟨hlt', hno', D0, hD0, rfl, hs'⟩ <;> rw [hs] at hp <;> rw [hs'] at hq
      · exact hok'.ne i j B' C' p q (fun e => hbb (by rw [← hr, ← hr', e])) hi hj (.inl hoB) hp hq
      · exact hfar i B' p b' D0 q hi hoB hp hno' hD0 hq
      · exact (hfar j C' q b C0 p hj hoC hq hno hC0 hp).symm
      · exact hok.ne b b' C0 D0 p q hbb hC0 hD0 (by rw [own_scrB, own_scrB] at ho; exact ho) hp hq
    · rcases hcls b B hb with ⟨i, B', hi, hoB, rfl, hs, _⟩ | ⟨hlt, hno, C, hC, rfl, hs⟩
      · rw [hs]
        exact (holds_ren hcut (hokH i B' hi)).2 (hok'.blk i B' hi)
      · rw [hs]
        refine holds_scr hC (n := n0) hkeep (hsh b C hC) (hmen b C hC) (hok.blk b C hC) (fun q hq => ?_)
        refine hst.far q.1 (hok.lt b q (List.getElem?_eq_some_iff.1 hC).1 hq) (fun k A r hk hA hr => ?_)
        have hk' : H[k]? = some A := hk
        obtain ⟨e', C', he', hC', hf, _⟩ := hfit k A hk'
        simp only [cut, rn_old he', Option.map_eq_some_iff] at hr
        obtain ⟨r', hr', rfl⟩ := hr
        refine hok.ne e'.1 b C' C r' q (hno k e' A he' hk' hA) hC' hC (.inl ?_) hr' hq
        rw [(fit_own hf hA).1]; exact hA
    · intro hm
      rcases mem_addAll.1 hm with hm | hm
      · exact (hkd l hl).1 hm
      · exact (hok.marks l hl).1 hm
    · intro hm
      rcases mem_addAll.1 hm with hm | hm
      · exact (hkr l hl).1 hm
      · exact (hok.rnd l hl).1 hm
  · refine ⟨hst.size, hst.os, hst.tape, hst.output, fun k hk hf => hst.far k hk (fun i B p hi hoB hp => ?_), by rw [hML, hn0]; omega, fun b hb hr => hkeep b (by rw [← hn0]; exact hb) (fun hm => hr (mem_addAll.2 (.inl hm))), fun i hi => mem_addAll.2 (.inr hi), fun b B p hb hoB hp hlt => ?_, rfl⟩
    · have hi' : H[i]? = some B := hi
      obtain ⟨e', C', he', hC', hfi, _⟩ := hfit i B hi'
      simp only [cut, rn_old he', Option.map_eq_some_iff] at hp
      obtain ⟨p', hp', rfl⟩ := hp
      refine hf e'.1 C' p' hC' ?_ hp'
      rw [(fit_own hfi hoB).1]; exact hoB
    · rcases hcls b B hb with ⟨i, B', hi, hoB', rfl, hs, _⟩ | ⟨hltb, hno, C, hC, rfl, hs⟩
      · rw [hs] at hp
        obtain ⟨k, A, r, hk, hA, hr, he⟩ := hst.own i B' p hi hoB' hp hlt
        have hk' : H[k]? = some A := hk
        obtain ⟨e', C', he', hC', hfi, _⟩ := hfit k A hk'
        simp only [cut, rn_old he', Option.map_eq_some_iff] at hr
        obtain ⟨r', hr', rfl⟩ := hr
        refine ⟨e'.1, C', r', hC', ?_, hr', he⟩
        rw [(fit_own hfi hA).1]; exact hA
      · rw [hs] at hp
        exact ⟨b, C, p, hC, by rw [own_scrB] at hoB; exact hoB, hp, rfl⟩
  · unfold act
    simp only [mrg]
    have : jsOf σ s 0 = fun k => den σ (s.t.getD k .undef) := by funext k; simp [jsOf]
    rw [this, denL_back hst0 hkeep]
    congr 1
    apply List.map_congr_left
    intro l hl
    unfold mark
    rw [hkeep l (hmk l hl) (hkd l hl).1]
  · exact (den_ren ρ n0 σ' σc hcut v hvO).symm
end
end Go.Sx
