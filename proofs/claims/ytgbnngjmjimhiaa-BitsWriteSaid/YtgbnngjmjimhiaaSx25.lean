/-
  The engine, part 25: a nil slice takes over the name of a block that nothing mentions; loops whose rounds may do so.
-/
import Derived.Test.YtgbnngjmjimhiaaSx24
namespace Go.Sx
open Go
/-- As Cv, but names may go over. -/
structure Cw (P : Program) (n0 : Nat) (s : SS) (S : SS → Prop) : Prop where
  out : ∀ σ0 s0 w0 σ w, s0.h.length ≤ n0 → Ok P σ s w → Step σ0 s0 w0 σ s w → ∃ σ2 s2, S s2 ∧ Ok P σ2 s2 w ∧ Step σ0 s0 w0 σ2 s2 w ∧ act σ2 s2 = act σ s
section
variable {P : Program} {s : SS} {S : SS → Prop} {n0 : Nat}
theorem Cw.of (h : Cv P n0 s S) : Cw P n0 s S :=
  ⟨fun σ0 s0 w0 σ w hn hok hst => let ⟨σ2, s2, h1, h2, h3, h4, _⟩ := h.out σ0 s0 w0 σ w hn hok hst; ⟨σ2, s2, h1, h2, h3, h4⟩⟩
theorem Cw.mono {S' : SS → Prop} (h : Cw P n0 s S) (hS : ∀ s, S s → S' s) : Cw P n0 s S' :=
  ⟨fun σ0 s0 w0 σ w hn hok hst => let ⟨σ2, s2, h1, h2⟩ := h.out σ0 s0 w0 σ w hn hok hst; ⟨σ2, s2, hS _ h1, h2⟩⟩
def bufAt (n : Nat) (s : SS) : Bool :=
  match s.h[n]? with
  | some (.buf _ _ _ _) => true
  | _ => false
def setSl (b j n : Nat) (s : SS) : SS :=
  { s with h := match s.h[b]? with
    | some (.one ty row) => s.h.set b (.one ty (row.set j (.slice n .z 1 0 0)))
    | _ => s.h }
def nilO (b j n t : Nat) (k : IntKind) (js : Nat → Nat → Value) (s : SS) : SS := setSl b j n (over n (.buf t k [] 0) js s)
theorem Cw.nilO (b j n t : Nat) (k : IntKind) (hbn : (b == n) = false) (hat : nilAt b j s = true) (hB : bufAt n s = true) (hmen : menH [n] s.h True) (h : ∀ js, Cw P n0 (nilO b j n t k js s) S) : Cw P n0 s S := by
  refine ⟨fun σ0 s0 w0 σ w hn hok hst => ?_⟩
  have hbn' : b ≠ n := fun e => by simp [e] at hbn
  unfold bufAt at hB
  split at hB
  rotate_left
  · cases hB
  rename_i t0 k0 l0 c0 hBn
  have hzero : ∀ q, σ n = some q → q.2 = 0 := fun q hq => by
    rcases hok.blk n _ hBn with ⟨h1, _⟩ | ⟨g, _, h1, _⟩
    · rw [hq] at h1; cases h1
    · rw [hq] at h1; cases h1; rfl
  obtain ⟨h1, h2, h3⟩ := hok.over (σ' := fun i => if i = n then none else σ i) (w' := w) (B' := .buf t k [] 0) hBn rfl rfl (by simp) rfl (fun i C hC => (menH_get hmen).2 i C hC) (fun i hi => by simp [hi])
    (fun q hq => by simp at hq) (Nat.le_refl _) rfl rfl rfl (fun _ _ _ => rfl) hzero (by simp only [if_true]; exact .inl ⟨rfl, rfl, rfl⟩)
  unfold nilAt at hat
  split at hat
  rotate_left
  · cases hat
  rename_i ty row hb
  split at hat
  rotate_left
  · cases hat
  rename_i v hv
  have hv' := isNil_eq hat
  subst hv'
  have hb' : (over n (.buf t k [] 0) (jsOf σ s) s).h[b]? = some (.one ty (scrL [n] (jsOf σ s (b + 1)) 0 row)) := by
    simp only [over, scr]
    rw [List.getElem?_set, if_neg (Ne.symm hbn'), scrH_get, hb]
    simp [scrB]
  have hv2 : (scrL [n] (jsOf σ s (b + 1)) 0 row)[j]? = some (.val (.slice none 0 0)) := by rw [scrL_get row j 0, hv]; simp [men]
  obtain ⟨g, hg, hh⟩ := h1.blk b _ hb'
  obtain ⟨h4, h5⟩ := h1.update (B' := .one ty ((scrL [n] (jsOf σ s (b + 1)) 0 row).set j (.slice n .z 1 0 0))) hb' rfl hg rfl (fun e => by cases e) (fun e => by cases e) (fun _ _ => rfl) rfl rfl rfl rfl
    ⟨g, rfl, by rw [denL_set hv2 (by simp [den])]; exact hh⟩
  have he : ({ over n (.buf t k [] 0) (jsOf σ s) s with h := (over n (.buf t k [] 0) (jsOf σ s) s).h.set b (.one ty ((scrL [n] (jsOf σ s (b + 1)) 0 row).set j (.slice n .z 1 0 0))) } : SS) = Sx.nilO b j n t k (jsOf σ s) s := by
    unfold Sx.nilO setSl
    rw [hb']
  rw [he] at h4 h5
  obtain ⟨σ2, s2, k1, k2, k3, k4⟩ := (h (jsOf σ s)).out σ0 s0 w0 _ w hn h4 (hst.trans (h2.trans h5))
  refine ⟨σ2, s2, k1, k2, k3, k4.trans ?_⟩
  rw [← h3]
  unfold act Sx.nilO setSl
  rfl
/-- A loop, names may go over in its rounds. -/
theorem loop_ruleW {b : XC} {K : XE → SS → Prop} (hm : P.follows .mixedOrders = true) (J : Nat → SS → Prop) (h0 : Cw P s.h.length s (fun s' => ∃ n, J n s'))
    (round : ∀ n s', J n s' → ex std P b s' (fun e s'' => match e with
      | .normal => Cw P s.h.length s'' (fun s3 => ∃ m, m < n ∧ J m s3)
      | .exit id => K (.exit id) s''
      | .ret => K .ret s''
      | .panic v => K (.panic v) s'')) : WX P (.loop b) s K := by
  refine ⟨fun c hc σ w hok => ?_⟩
  have hcl : ∃ cb, c = .loop cb ∧ compile P cb = some b := by
    cases c
    case loop cb =>
      simp only [compile, Option.map_eq_some_iff, XC.loop.injEq] at hc
      obtain ⟨x, hx, rfl⟩ := hc
      exact ⟨cb, rfl, hx⟩
    case region id ops d => cases d <;> simp only [compile] at hc <;> (repeat' split at hc) <;> simp at hc
    all_goals simp only [compile] at hc
    all_goals first | (cases hc; done) | ((repeat' split at hc) <;> simp at hc; done)
  obtain ⟨cb, rfl, hcb⟩ := hcl
  have key : ∀ (N n : Nat), n ≤ N → ∀ σ' s' w', J n s' → Ok P σ' s' w' → Step σ s w σ' s' w' → Code.roundsIn (FR (rOf σ s)) 0 P cb (Post P σ s w K) (N + 1) (act σ' s') w' := by
    intro N
    induction N with
    | zero =>
      intro n hn σ' s' w' hJ hok' hst
      rw [roundsIn_succ]
      have := ex_sound (draw_law hm) cb b σ' s' w' _ (Exit.then (Code.roundsIn (FR (rOf σ s)) 0 P cb (Post P σ s w K) 0) (Post P σ s w K)) hcb (round n s' hJ) hok' (fun e' e σ'' s'' a w'' hK hok'' hst'' he => ?_)
      · rwa [rOf_eq hok hok' hst] at this
      · cases e' <;> cases e <;> simp only [exitOk] at he <;> simp only at hK
        · obtain ⟨σ3, s3, ⟨m, hm', _⟩, _⟩ := hK.out σ s w σ'' w'' (Nat.le_refl _) hok'' (hst.trans hst'')
          omega
        · exact ⟨_, σ'', s'', hK, hok'', hst.trans hst'', he⟩
        · exact ⟨_, σ'', s'', hK, hok'', hst.trans hst'', he⟩
        · exact ⟨_, σ'', s'', hK, hok'', hst.trans hst'', he⟩
    | succ N ih =>
      intro n hn σ' s' w' hJ hok' hst
      rw [roundsIn_succ]
      have := ex_sound (draw_law hm) cb b σ' s' w' _ (Exit.then (Code.roundsIn (FR (rOf σ s)) 0 P cb (Post P σ s w K) (N + 1)) (Post P σ s w K)) hcb (round n s' hJ) hok' (fun e' e σ'' s'' a w'' hK hok'' hst'' he => ?_)
      · rwa [rOf_eq hok hok' hst] at this
      · cases e' <;> cases e <;> simp only [exitOk] at he <;> simp only at hK
        · subst he
          obtain ⟨σ3, s3, ⟨m, hm', hJ'⟩, hok3, hst3, ha⟩ := hK.out σ s w σ'' w'' (Nat.le_refl _) hok'' (hst.trans hst'')
          have := ih m (by omega) σ3 s3 w'' hJ' hok3 hst3
          rw [ha] at this
          exact this
        · exact ⟨_, σ'', s'', hK, hok'', hst.trans hst'', he⟩
        · exact ⟨_, σ'', s'', hK, hok'', hst.trans hst'', he⟩
        · exact ⟨_, σ'', s'', hK, hok'', hst.trans hst'', he⟩
  obtain ⟨σ1, s1, ⟨n, hJ⟩, hok1, hst1, ha⟩ := h0.out σ s w σ w (Nat.le_refl _) hok (Step.refl σ s w)
  have := wpIn_loop_rounds (n + 1) (key n n (Nat.le_refl _) σ1 s1 w hJ hok1 hst1)
  rwa [ha] at this
theorem loop_famW {O : Ops} {b : XC} {K : XE → SS → Prop} {α : Type} (D : List Nat) (R : List Nat) (T : α → List (Nat × SV)) (B : α → List (Nat × SB)) (I : α → Prop) (μ : α → Nat) (hw : Words O) (hm : P.follows .mixedOrders = true)
    (h0 : Cw P s.h.length s (fun s' => ∃ a, I a ∧ ∃ js, s' = fam D R s js (T a) (B a)))
    (round : ∀ a js, I a → ex O P b (fam D R s js (T a) (B a)) (fun e s'' => match e with
      | .normal => Cw P s.h.length s'' (fun s3 => ∃ a', (I a' ∧ μ a' < μ a) ∧ ∃ js, s3 = fam D R s js (T a') (B a'))
      | .exit id => K (.exit id) s''
      | .ret => K .ret s''
      | .panic v => K (.panic v) s'')) : WX P (.loop b) s K := by
  rw [hw.eq] at round
  refine loop_ruleW hm (fun n s' => ∃ a, (I a ∧ μ a = n) ∧ ∃ js, s' = fam D R s js (T a) (B a)) (h0.mono fun s' ⟨a, h1, h2⟩ => ⟨_, a, ⟨h1, rfl⟩, h2⟩) ?_
  rintro n s' ⟨a, ⟨h1, rfl⟩, js, rfl⟩
  have := round a js h1
  have e : (fun (e : XE) (s'' : SS) => match e with
      | .normal => Cw P s.h.length s'' (fun s3 => ∃ a', (I a' ∧ μ a' < μ a) ∧ ∃ js, s3 = fam D R s js (T a') (B a'))
      | .exit id => K (.exit id) s''
      | .ret => K .ret s''
      | .panic v => K (.panic v) s'') = (fun (e : XE) (s'' : SS) => match e with
      | .normal => Cw P s.h.length s'' (fun s3 => ∃ m, m < μ a ∧ ∃ a', (I a' ∧ μ a' = m) ∧ ∃ js, s3 = fam D R s js (T a') (B a'))
      | .exit id => K (.exit id) s''
      | .ret => K .ret s''
      | .panic v => K (.panic v) s'') := by
    funext e s''
    cases e with
    | normal =>
      refine propext ⟨fun h => h.mono ?_, fun h => h.mono ?_⟩
      · rintro s3 ⟨a', ⟨h1, h2⟩, h3⟩; exact ⟨_, h2, a', ⟨h1, rfl⟩, h3⟩
      · rintro s3 ⟨m, hm, a', ⟨h1, rfl⟩, h3⟩; exact ⟨a', ⟨h1, hm⟩, h3⟩
    | _ => rfl
  rw [e] at this
  exact this
end
end Go.Sx
