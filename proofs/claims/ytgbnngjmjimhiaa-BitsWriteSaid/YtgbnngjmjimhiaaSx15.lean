/-
  The engine, part 15: a call that is walked in place.
-/
import Derived.Test.YtgbnngjmjimhiaaSx14
namespace Go.Sx
open Go

/-- The marks are there, none of their names went over. -/
def keepD (R : List Nat) (h : List SB) : List Nat → Prop → Prop
  | [], K => K
  | l :: ds, K => if memN l R then False else match h[l]? with
    | some .defd => keepD R h ds K
    | _ => False
def keepR (R : List Nat) (h : List SB) (rd : Option Nat) (K : Prop) : Prop :=
  match rd with
  | none => K
  | some l => if memN l R then False else match h[l]? with
    | some (.loop _ _ _ _ _ _) => K
    | _ => False
def addAll : List Nat → List Nat → List Nat
  | [], R => R
  | n :: l, R => addAll l (addR n R)
/-- Back in the caller: its temporaries, the blocks as the callee left them. -/
def back (H : List SB) (R : List Nat) (js : Nat → Value) (s : SS) : SS := { s with t := scrL R js 0 s.t, h := H, r := addAll R s.r }
/-- What is owed behind a call that was walked in place. -/
def InlPost (s : SS) (K : SV → SS → Prop) : SV → List SB → List Nat → Prop := fun v H R =>
  ∀ js, keepD R H s.d (keepR R H s.rd (K v (back H R js s)))

section
variable {P : Program} {σ : Names} {s : SS} {w : World}
theorem mem_addR {n m : Nat} {R : List Nat} : m ∈ addR n R ↔ m = n ∨ m ∈ R := by
  unfold addR
  split
  · rename_i h
    rw [memN_iff] at h
    exact ⟨.inr, fun h' => h'.elim (fun e => by subst e; exact h) id⟩
  · simp
theorem mem_addAll {m : Nat} : ∀ {l R : List Nat}, m ∈ addAll l R ↔ m ∈ l ∨ m ∈ R
  | [], R => by simp [addAll]
  | n :: l, R => by
    simp only [addAll, mem_addAll (l := l), mem_addR, List.mem_cons]
    constructor
    · rintro (h | h | h)
      · exact .inl (.inr h)
      · exact .inl (.inl h)
      · exact .inr h
    · rintro ((h | h) | h)
      · exact .inr (.inl h)
      · exact .inl h
      · exact .inr (.inr h)
theorem keepD_spec {R : List Nat} {h : List SB} {K : Prop} : ∀ {ds : List Nat}, keepD R h ds K → K ∧ ∀ l ∈ ds, l ∉ R ∧ h[l]? = some .defd
  | [], hk => ⟨hk, fun l hl => by cases hl⟩
  | l :: ds, hk => by
    simp only [keepD] at hk
    split at hk
    · exact hk.elim
    rename_i hm
    split at hk
    · rename_i hh
      obtain ⟨h1, h2⟩ := keepD_spec hk
      refine ⟨h1, fun l' hl' => ?_⟩
      rcases List.mem_cons.1 hl' with rfl | hl'
      · exact ⟨fun hm' => hm (memN_iff.2 hm'), hh⟩
      · exact h2 l' hl'
    · exact hk.elim
theorem keepR_spec {R : List Nat} {h : List SB} {K : Prop} {rd : Option Nat} (hk : keepR R h rd K) : K ∧ ∀ l, rd = some l → l ∉ R ∧ ∃ B, h[l]? = some B ∧ isLoop B = true := by
  cases rd with
  | none => exact ⟨hk, fun l hl => by cases hl⟩
  | some l =>
    simp only [keepR] at hk
    split at hk
    · exact hk.elim
    rename_i hm
    split at hk
    · rename_i hh
      refine ⟨hk, fun l' hl' => ?_⟩
      cases hl'
      exact ⟨fun hm' => hm (memN_iff.2 hm'), _, hh, rfl⟩
    · exact hk.elim
theorem scrL_sc {n : Nat} {R : List Nat} {js : Nat → Value} : ∀ {l : List SV} {i : Nat}, scL n l = true → scL n (scrL R js i l) = true
  | [], _, _ => rfl
  | v :: l, i, h => by
    simp only [scL] at h
    split at h
    · rename_i hv
      simp only [scrL, scL]
      have : scV n (if men R v = true then SV.val (js i) else v) = true := by
        split
        · rfl
        · exact hv
      rw [if_pos this]
      exact scrL_sc h
    · cases h
/-- The caller's temporaries mean what they meant. -/
theorem denL_back {σ' : Names} {n : Nat} {R : List Nat} {t : List SV} (hsc : scL n t = true) (hσ : ∀ i, i < n → i ∉ R → σ' i = σ i) :
    denL σ' (scrL R (fun i => den σ (t.getD i .undef)) 0 t) = denL σ t := by
  let σ1 : Names := fun i => if i < n then σ' i else σ i
  have h1 : ∀ i, i ∉ R → σ1 i = σ i := fun i hi => by
    simp only [σ1]; split
    · exact hσ i (by assumption) hi
    · rfl
  have h2 : denL σ1 (scrL R (fun i => den σ (t.getD i .undef)) 0 t) = denL σ t := scrL_den h1 t 0 (fun k v hv => by simp [List.getD, hv])
  rw [← h2]
  exact sc_denL (fun i hi => by simp only [σ1]; rw [if_pos hi]) _ (scrL_sc hsc)
theorem call_inl {f : Nat} {args : List SV} {K : SV → SS → Prop} {X : XE → SS → Prop} (hsc : scL s.h.length s.t = true) (h : Con P f args s.h (InlPost s K)) : CallX P f args s K X := by
  refine ⟨h.go, fun σ w hok => ?_⟩
  have hok0 : Ok P σ (small s.h []) w := ⟨hok.lt, hok.ne, hok.blk, (fun l hl => by cases hl), (fun l hl => by cases hl)⟩
  have hc : CallsIn (FR (rOf σ s)) 0 P f (denL σ args).toArray w (COut P σ s.h w (InlPost s K)) := h.out σ w hok0
  refine hc.mono ?_
  rintro e w' ⟨σ', v, H', R, hP, rfl, hok', hst⟩
  obtain ⟨hP, hkd⟩ := keepD_spec (hP (fun i => den σ (s.t.getD i .undef)))
  obtain ⟨hP, hkr⟩ := keepR_spec hP
  have hlt : ∀ l, l ∈ s.d → l < s.h.length := fun l hl => (List.getElem?_eq_some_iff.1 (hok.marks l hl).2).1
  refine ⟨σ', back H' R (fun i => den σ (s.t.getD i .undef)) s, ?_, ?_, ?_, ⟨v, hP, rfl⟩⟩
  · refine ⟨hok'.lt, hok'.ne, hok'.blk, fun l hl => ⟨?_, (hkd l hl).2⟩, fun l hl => ⟨?_, (hkr l hl).2⟩⟩
    · intro hm
      rcases mem_addAll.1 hm with hm | hm
      · exact (hkd l hl).1 hm
      · exact (hok.marks l hl).1 hm
    · intro hm
      rcases mem_addAll.1 hm with hm | hm
      · exact (hkr l hl).1 hm
      · exact (hok.rnd l hl).1 hm
  · exact ⟨hst.size, hst.os, hst.tape, hst.output, hst.far, hst.len, fun i hi hr => hst.names i hi (fun hm => hr (mem_addAll.2 (.inl hm))), fun i hi => mem_addAll.2 (.inr hi), hst.own, rfl⟩
  · unfold act
    simp only [back]
    rw [denL_back hsc (fun i hi hr => hst.names i hi hr)]
    congr 1
    apply List.map_congr_left
    intro l hl
    unfold mark
    rw [hst.names l (hlt l hl) (hkd l hl).1]
end
end Go.Sx
