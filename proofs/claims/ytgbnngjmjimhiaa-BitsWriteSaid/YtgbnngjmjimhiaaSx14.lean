/-
  The engine, part 14: a function's contract, out of its body's walk; a call that is walked in place.
-/
import Derived.Test.YtgbnngjmjimhiaaSx13
import Derived.RangeFuncLeaves
namespace Go.Sx
open Go

/-! ### The way out of a function -/
/-- The marks' blocks are shut. -/
def freeL : List Nat → List SB → List SB
  | [], h => h
  | l :: ds, h => freeL ds (h.set l .free)
def noDup : List Nat → Bool
  | [] => true
  | l :: ds => if memN l ds then false else noDup ds
def unm (s : SS) : SS := { s with h := freeL s.d s.h, d := [] }
def cRes : List ResultVar → Option (List Nat)
  | [] => some []
  | .tmp t :: l => match cRes l with
    | some ts => some (t :: ts)
    | none => none
  | .cell _ _ :: _ => none
def retV (s : SS) (rs : List Nat) : SV :=
  match rs with
  | [r] => s.t.getD r .undef
  | rs => .tup (rs.map fun r => s.t.getD r .undef)
/-- A function's end. -/
def fin (rs : List Nat) (Post : SV → List SB → List Nat → Prop) : XE → SS → Prop := fun e s =>
  match e with
  | .normal => if noDup s.d then Post (retV s rs) (freeL s.d s.h) s.r else False
  | .ret => if noDup s.d then Post (retV s rs) (freeL s.d s.h) s.r else False
  | _ => False
abbrev small (H : List SB) (R : List Nat) : SS := { t := [], h := H, r := R, d := [], rd := none }
def COut (P : Program) (σ : Names) (H : List SB) (w : World) (Post : SV → List SB → List Nat → Prop) : Ending → World → Prop := fun e w' =>
  ∃ σ' v H' R, Post v H' R ∧ e = .returned (den σ' v) ∧ Ok P σ' (small H' R) w' ∧ Step σ (small H []) w σ' (small H' R) w'
/-- Function f, called with these arguments on these blocks, returns as Post says. -/
structure Con (P : Program) (f : Nat) (args : List SV) (H : List SB) (Post : SV → List SB → List Nat → Prop) : Prop where
  go : ∀ (xs : Array Value) (w : World), (callFunc f xs).run P w = .ok (.enter f xs) w
  out : ∀ σ w, Ok P σ (small H []) w → CallsIn (FR none) 0 P f (denL σ args).toArray w (COut P σ H w Post)
/-- What the program's text says of function f: its compact code, its temporaries, where its results lie. -/
structure FnOk (P : Program) (f : Nat) (x : XC) (n : Nat) (rs : List Nat) : Prop where
  go : ∀ (xs : Array Value) (w : World), (callFunc f xs).run P w = .ok (.enter f xs) w
  has : ∃ fn c, P.funcs[f]? = some fn ∧ fn.body = some c ∧ compile P c = some x ∧ fn.ntmps = n ∧ cRes fn.results.toList = some rs

theorem FnOk.of {P : Program} {f : Nat} {x : XC} {n : Nat} {rs : List Nat} {fn : Func} (go : ∀ (xs : Array Value) (w : World), (callFunc f xs).run P w = .ok (.enter f xs) w) (hf : P.funcs[f]? = some fn)
    (hc : fn.body.bind (compile P) = some x) (hn : fn.ntmps = n) (hr : cRes fn.results.toList = some rs) : FnOk P f x n rs := by
  refine ⟨go, ?_⟩
  cases hb : fn.body with
  | none => rw [hb] at hc; cases hc
  | some c => rw [hb] at hc; exact ⟨fn, c, hf, hb, hc, hn, hr⟩
section
variable {P : Program} {σ : Names} {s : SS} {w : World}
theorem cRes_eq : ∀ {l : List ResultVar} {rs : List Nat}, cRes l = some rs → l = rs.map .tmp
  | [], rs, h => by simp only [cRes, Option.some.injEq] at h; subst h; rfl
  | .tmp t :: l, rs, h => by
    simp only [cRes] at h
    split at h
    · rename_i ts hts
      simp only [Option.some.injEq] at h; subst h
      simp [cRes_eq hts]
    · cases h
  | .cell _ _ :: _, rs, h => by simp [cRes] at h
theorem getD_den (σ : Names) (t : List SV) (r : Nat) : (denL σ t).toArray.getD r undef = den σ (t.getD r .undef) := by
  rw [Array.getD_eq_getD_getElem?, List.getElem?_toArray, denL_get, List.getD_eq_getElem?_getD]
  cases t[r]? <;> simp [den]
def resV (tmps : Array Value) (rs : List Nat) : Value :=
  match rs with
  | [r] => tmps.getD r undef
  | rs => .tuple (rs.map fun r => tmps.getD r undef).toArray
theorem run_results {fn : Func} {rs : List Nat} (h : cRes fn.results.toList = some rs) (tmps : Array Value) (P : Program) (w : World) :
    (results fn tmps).run P w = .ok (resV tmps rs) w := by
  have h1 := cRes_eq h
  have h2 : fn.results = (rs.map ResultVar.tmp).toArray := by rw [← h1]
  have key : ∀ (f : ResultVar → Sem Value), (∀ t, f (.tmp t) = pure (tmps.getD t undef)) → ∀ (l : List Nat), Sem.run P (List.mapM f (l.map ResultVar.tmp)) w = .ok (l.map fun r => tmps.getD r undef) w := by
    intro f hf l
    induction l with
    | nil => simp
    | cons r l ih =>
      simp only [List.map_cons, List.mapM_cons, Sem.run_bind, hf, Sem.run_pure, Result.andThen_ok, ih]
  unfold results
  rw [h2]
  simp only [List.mapM_toArray, Sem.run_bind]
  have hmap : ∀ (m : Sem (List Value)), Sem.run P (List.toArray <$> m) w = (Sem.run P m w).andThen fun a w => .ok a.toArray w := fun m => by simp
  rw [hmap, key _ (fun _ => rfl)]
  simp only [Result.andThen_ok, Sem.run_pure]
  unfold resV
  cases rs with
  | nil => simp
  | cons r l =>
    cases l with
    | nil => simp
    | cons r' l => rw [dif_neg (by simp)]
theorem retV_den (σ : Names) (s : SS) (rs : List Nat) : resV (act σ s).tmps rs = den σ (retV s rs) := by
  have h : ∀ r, (act σ s).tmps.getD r undef = den σ (s.t.getD r .undef) := fun r => getD_den σ s.t r
  unfold retV resV
  split
  · exact h _
  · simp only [den, denL_eq, List.map_map]
    congr 2
    apply List.map_congr_left
    intro r _
    exact h r

theorem Ok.freed {b g : Nat} {B : SB} {w' : World} {ds : List Nat} (hok : Ok P σ s w) (hB : s.h[b]? = some B) (hB1 : own B = true) (hσ : σ b = some (g, 0)) (hds : ∀ l, l ∈ ds → l ∈ s.d ∧ l ≠ b) (hrd : s.rd ≠ some b)
    (hw : ∀ k, k ≠ g → w'.heap[k]? = w.heap[k]?) (hsz : w'.heap.size = w.heap.size) (hos : w'.os = w.os) (htp : w'.tape = w.tape) (hou : w'.output = w.output) :
    Ok P σ { s with h := s.h.set b .free, d := ds } w' ∧ Step σ s w σ { s with h := s.h.set b .free, d := ds } w' := by
  have hbl : b < s.h.length := (List.getElem?_eq_some_iff.1 hB).1
  have hget : ∀ i, (s.h.set b .free)[i]? = if b = i then some .free else s.h[i]? := fun i => by
    rw [List.getElem?_set]; by_cases hi : b = i <;> simp [hi]; subst hi; exact hbl
  have hown : ∀ i C, (s.h.set b .free)[i]? = some C → ∃ C0, s.h[i]? = some C0 ∧ (own C = true → C0 = C) := fun i C hC => by
    rw [hget] at hC
    split at hC
    · rename_i hi; subst hi; cases hC; exact ⟨B, hB, fun h => by cases h⟩
    · exact ⟨C, hC, fun _ => rfl⟩
  refine ⟨⟨fun i p hi hp => ?_, fun i j C D p q hij hC hD ho hp hq => ?_, fun i C hC => ?_, fun l hl => ?_, fun l hl => ?_⟩, ?_⟩
  · rw [hsz]; exact hok.lt i p (by simpa using hi) hp
  · obtain ⟨C0, hC0, e1⟩ := hown i C hC
    obtain ⟨D0, hD0, e2⟩ := hown j D hD
    exact hok.ne i j C0 D0 p q hij hC0 hD0 (ho.elim (fun h => .inl (by rw [e1 h]; exact h)) (fun h => .inr (by rw [e2 h]; exact h))) hp hq
  · rw [hget] at hC
    split at hC
    · cases hC; trivial
    · rename_i hi
      refine holds_same (hok.blk i C hC) (fun q hq => hw q.1 (fun e => ?_))
      exact hok.ne b i B C (g, 0) q hi hB hC (.inl hB1) hσ hq e.symm
  · obtain ⟨h0, hlb⟩ := hds l hl
    obtain ⟨h1, h2⟩ := hok.marks l h0
    exact ⟨h1, by rw [hget, if_neg (Ne.symm hlb)]; exact h2⟩
  · obtain ⟨h1, C, h2, h3⟩ := hok.rnd l hl
    have hlb : l ≠ b := fun e => hrd (by rw [← e]; exact hl)
    exact ⟨h1, C, by rw [hget, if_neg (Ne.symm hlb)]; exact h2, h3⟩
  · refine ⟨by omega, hos, htp, hou, fun k hk hf => hw k (fun e => ?_), by simp, fun _ _ _ => rfl, fun _ h => h, fun i C p hC ho hp _ => ?_, rfl⟩
    · subst e; exact hf b B (k, 0) hB hB1 hσ rfl
    · obtain ⟨C0, hC0, e1⟩ := hown i C hC
      exact ⟨i, C0, p, hC0, by rw [e1 ho]; exact ho, hp, rfl⟩
theorem noDup_spec {l : Nat} {ds : List Nat} (h : noDup (l :: ds) = true) : l ∉ ds ∧ noDup ds = true := by
  simp only [noDup] at h
  split at h
  · cases h
  · rename_i hm
    exact ⟨fun hm' => hm (memN_iff.2 hm'), h⟩
theorem leaves_marks {fn : Func} {rs : List Nat} {R : Ending → World → Prop} {tmps : Array Value} (hrs : cRes fn.results.toList = some rs) {σ0 : Names} {s0 : SS} {w0 : World} : ∀ (ds : List Nat) (s : SS) (w : World), s.d = ds → noDup ds = true → s.rd = none → Ok P σ s w → Step σ0 s0 w0 σ s w →
    (∀ w', Ok P σ (unm s) w' → Step σ0 s0 w0 σ (unm s) w' → R (.returned (resV tmps rs)) w') →
    LeavesInM (FR none) 0 P fn tmps R (ds.map (mark σ)) .returning w
  | [], s, w, hd, _, _, hok, hst, h => by
    refine ⟨_, run_results hrs tmps P w, h w ?_ ?_⟩
    · have : unm s = s := by unfold unm; rw [hd]; cases s; simp only at hd; subst hd; rfl
      rw [this]; exact hok
    · have : unm s = s := by unfold unm; rw [hd]; cases s; simp only at hd; subst hd; rfl
      rw [this]; exact hst
  | l :: ds, s, w, hd, hnd, hrd, hok, hst, h => by
    obtain ⟨hl, hnd'⟩ := noDup_spec hnd
    obtain ⟨_, hB⟩ := hok.marks l (by rw [hd]; simp)
    obtain ⟨g, hσ, hh⟩ := hok.blk l _ hB
    have hlt := hok.lt l _ (List.getElem?_eq_some_iff.1 hB).1 hσ
    refine ⟨by simp, .inl ⟨g, w.putObj g (.deferred none), ?_, ?_, ?_⟩⟩
    · simp [mark, hσ]
    · exact run_takeDeferred hh
    · have hf := hok.freed (ds := ds) (w' := w.putObj g (.deferred none)) hB rfl hσ (fun k hk => ⟨by rw [hd]; exact List.mem_cons_of_mem _ hk, fun e => hl (e ▸ hk)⟩) (by rw [hrd]; simp)
        (fun k hk => by simp only [World.putObj]; rw [Array.getElem?_setIfInBounds_ne (Ne.symm hk)]) (by simp [World.putObj]) rfl rfl rfl
      refine leaves_marks hrs ds { s with h := s.h.set l .free, d := ds } _ rfl hnd' hrd hf.1 (hst.trans hf.2) ?_
      intro w' h1 h2
      have e : unm { s with h := s.h.set l .free, d := ds } = unm s := by unfold unm; simp only [hd, freeL]
      rw [e] at h1 h2
      exact h w' h1 h2
theorem con_of_walk {f : Nat} {x : XC} {n : Nat} {rs : List Nat} {args : List SV} {H : List SB} {Post : SV → List SB → List Nat → Prop} (hm : P.follows .mixedOrders = true) (hf : FnOk P f x n rs)
    (h : ex std P x { t := args ++ List.replicate (n - args.length) .undef, h := H, r := [], d := [], rd := none } (fin rs Post)) : Con P f args H Post := by
  obtain ⟨fn, c, h1, h2, h3, h4, h5⟩ := hf.has
  refine ⟨hf.go, fun σ w hok => ?_⟩
  refine callsIn_of_wp_marks h1 h2 trivial ?_
  have hok' : Ok P σ { t := args ++ List.replicate (n - args.length) .undef, h := H, r := [], d := [], rd := none } w := ⟨hok.lt, hok.ne, hok.blk, hok.marks, hok.rnd⟩
  have ha : act σ { t := args ++ List.replicate (n - args.length) .undef, h := H, r := [], d := [], rd := none } = { tmps := (denL σ args).toArray ++ Array.replicate (fn.ntmps - (denL σ args).toArray.size) undef, defers := [] } := by
    simp only [act, denL_append, List.map_nil, h4, List.size_toArray, denL_len]
    congr 1
    simp only [denL_eq, List.map_replicate, den]
    rw [← List.toArray_replicate]
    simp
  rw [← ha]
  refine ex_sound (draw_law hm) c x σ _ w _ _ h3 h hok' ?_
  intro e' e σ' s' a w' hK hok'' hst he
  have key : (if noDup s'.d then Post (retV s' rs) (freeL s'.d s'.h) s'.r else False) → LeavesInM (FR none) 0 P fn (act σ' s').tmps (COut P σ H w Post) (act σ' s').defers .returning w' := by
    intro hK
    split at hK
    rotate_left
    · exact hK.elim
    rename_i hnd
    have hrd : s'.rd = none := hst.rd
    refine leaves_marks h5 s'.d s' w' rfl hnd hrd hok'' hst ?_
    intro w'' ho hs
    refine ⟨σ', retV s' rs, freeL s'.d s'.h, s'.r, hK, ?_, ?_, ?_⟩
    · rw [retV_den]
    · exact ⟨ho.lt, ho.ne, ho.blk, ho.marks, fun l hl => by cases hl⟩
    · exact ⟨hs.size, hs.os, hs.tape, hs.output, hs.far, hs.len, hs.names, hs.red, hs.own, rfl⟩
  cases e' <;> cases e <;> simp only [exitOk] at he <;> simp only [fin] at hK
  · subst he; exact key hK
  · subst he; exact key hK
end
end Go.Sx
