/-
  The engine, part 12: code.
-/
import Derived.Test.YtgbnngjmjimhiaaSx11
namespace Go.Sx
open Go
section
variable {P : Program} {σ : Names} {s : SS} {w : World} {K : XE → SS → Prop} {Q : Exit → Act → World → Prop}

theorem Ok.put_ (hok : Ok P σ s w) (d : Option Nat) (v : SV) : Ok P σ (put d v s) w := by
  cases d with
  | none => exact hok
  | some d => exact ⟨hok.lt, hok.ne, hok.blk, hok.marks, hok.rnd⟩
theorem Step.put_ {σ' : Names} {s' : SS} {w' : World} (h : Step σ s w σ' s' w') (d : Option Nat) (v : SV) : Step σ s w σ' (put d v s') w' := by
  cases d with
  | none => exact h
  | some d => exact ⟨h.size, h.os, h.tape, h.output, h.far, h.len, h.names, h.red, h.own, h.rd⟩
theorem rOf_eq {σ' : Names} {s' : SS} {w' : World} (hok : Ok P σ s w) (hok' : Ok P σ' s' w') (hst : Step σ s w σ' s' w') : rOf σ' s' = rOf σ s := by
  unfold rOf
  rw [hst.rd]
  cases hr : s.rd with
  | none => rfl
  | some l =>
    obtain ⟨_, B, hB, _⟩ := hok.rnd l hr
    obtain ⟨h1, _⟩ := hok'.rnd l (by rw [hst.rd, hr])
    simp only [Option.bind_some]
    rw [hst.names l (List.getElem?_eq_some_iff.1 hB).1 h1]

/-- Wherever the evaluation ends, Q holds. -/
def Lands (P : Program) (σ : Names) (s : SS) (w : World) (K : XE → SS → Prop) (Q : Exit → Act → World → Prop) : Prop :=
  ∀ e' e σ' s' a w', K e' s' → Ok P σ' s' w' → Step σ s w σ' s' w' → exitOk σ' s' a e' e → Q e a w'
theorem Lands.post : Lands P σ s w K (Post P σ s w K) := fun e' _ σ' s' _ _ hK hok hst he => ⟨e', σ', s', hK, hok, hst, he⟩
theorem Lands.later {σ' : Names} {s' : SS} {w' : World} (h : Lands P σ s w K Q) (hst : Step σ s w σ' s' w') : Lands P σ' s' w' K Q :=
  fun e' e σ'' s'' a w'' hK hok hst' he => h e' e σ'' s'' a w'' hK hok (hst.trans hst') he

theorem steps_plain {ops : Array Oper} : ∀ (l : List Oper) (i : Nat) (steps : List XStep) (σ : Names) (s : SS) (w : World), (∀ k, k < l.length → ops[i + k]? = l[k]?) → cPlain P ops l = some steps →
    exSteps std P steps s K → Ok P σ s w → Lands P σ s w K Q → wpOpsIn (FR (rOf σ s)) 0 P ops Q (List.range' i l.length) (act σ s) w
  | [], i, steps, σ, s, w, _, hc, h, hok, hQ => by
    simp only [cPlain, Option.some.injEq] at hc; subst hc
    exact hQ .normal .normal σ s _ w h hok (Step.refl σ s w) rfl
  | o :: l, i, steps, σ, s, w, hops, hc, h, hok, hQ => by
    simp only [cPlain] at hc
    split at hc
    rotate_left
    · cases hc
    rename_i st ss hst hss
    simp only [Option.some.injEq] at hc; subst hc
    unfold cStep at hst
    split at hst
    rotate_left
    · cases hst
    rename_i x g hx hg
    simp only [Option.some.injEq] at hst; subst hst
    have ho : ops[i]? = some o := by simpa using hops 0 (by simp)
    have hrest : ∀ k, k < l.length → ops[i + 1 + k]? = l[k]? := fun k hk => by
      have := hops (k + 1) (by simp; omega)
      rw [List.getElem?_cons_succ] at this
      rw [← this]; congr 1; omega
    simp only [List.length_cons, List.range'_succ, wpOpsIn, ho]
    simp only [exSteps] at h
    rcases guard_sound (σ := σ) hg h with ⟨hw, h⟩ | ⟨hw, h⟩
    · rw [if_pos hw]
      refine op_sound hok hx h (fun v σ' s' w' hK hok' hst hact => ?_) (fun v σ' s' w' hK hok' hst hact => ?_)
      · simp only [chkP] at hK
        have := steps_plain l (i + 1) ss σ' (put o.dst v s') w' hrest hss hK (hok'.put_ _ _) (hQ.later (hst.put_ _ _))
        rwa [rOf_eq hok (hok'.put_ o.dst v) (hst.put_ _ _)] at this
      · exact hQ (.panic v) _ σ' s' _ w' hK hok' hst ⟨rfl, by rw [hact]⟩
    · rw [if_neg (by rw [hw]; simp)]
      refine ⟨fun f _ => fn_FR _ f, ?_⟩
      have := steps_plain l (i + 1) ss σ (put o.dst .undef s) w hrest hss h (hok.put_ _ _) (hQ.later ((Step.refl σ s w).put_ _ _))
      rw [rOf_eq hok (hok.put_ o.dst .undef) ((Step.refl σ s w).put_ _ _)] at this
      rw [← act_put] at this
      exact this
theorem condP_sound {c : Operand} {c' : XO} {A B : Unit → Prop} (hc : cO c = some c') (h : condP (ev s c') A B) : ∃ t, (act σ s).eval c = .bool t ∧ (if t then A () else B ()) := by
  cases hv : ev s c' <;> simp only [hv, condP] at h
  rename_i t
  refine ⟨t, by rw [ev_den hc, hv]; rfl, ?_⟩
  cases t <;> exact h
/-- The law of a region that draws its order is a premise here (part 13). -/
def DrawLaw (P : Program) : Prop := ∀ (id : Nat) (ops : Array Oper) (x : XC) (σ : Names) (s : SS) (w : World) (K : XE → SS → Prop) (Q : Exit → Act → World → Prop),
  compile P (.region id ops true) = some x → ex std P x s K → Ok P σ s w → Lands P σ s w K Q → (Code.region id ops true).wpIn (FR (rOf σ s)) 0 P Q (act σ s) w
theorem ex_sound (hdraw : DrawLaw P) : ∀ (c : Code) (x : XC) (σ : Names) (s : SS) (w : World) (K : XE → SS → Prop) (Q : Exit → Act → World → Prop), compile P c = some x → ex std P x s K → Ok P σ s w → Lands P σ s w K Q →
    c.wpIn (FR (rOf σ s)) 0 P Q (act σ s) w := by
  intro c
  induction c with
  | skip =>
    intro x σ s w K Q hc h hok hQ
    simp only [compile, Option.some.injEq] at hc; subst hc
    exact wpIn_skip (hQ .normal .normal σ s _ w h hok (Step.refl σ s w) rfl)
  | region id ops draw =>
    intro x σ s w K Q hc h hok hQ
    cases draw with
    | true => exact hdraw id ops x σ s w K Q hc h hok hQ
    | false =>
      simp only [compile, Option.map_eq_some_iff] at hc
      obtain ⟨steps, hs, rfl⟩ := hc
      refine wpIn_region ?_
      have := steps_plain (Q := Q) ops.toList 0 steps σ s w (fun k hk => by simp) hs h hok hQ
      rw [List.range_eq_range']
      simpa using this
  | seq a b iha ihb =>
    intro x σ s w K Q hc h hok hQ
    simp only [compile] at hc
    split at hc
    rotate_left
    · cases hc
    rename_i xa xb ha hb
    simp only [Option.some.injEq] at hc; subst hc
    simp only [ex] at h
    refine wpIn_seq (iha xa σ s w _ _ ha h hok (fun e' e σ' s' a' w' hK hok' hst he => ?_))
    cases e' <;> cases e <;> simp only [exitOk] at he
    · subst he
      have := ihb xb σ' s' w' K Q hb hK hok' (hQ.later hst)
      rwa [rOf_eq hok hok' hst] at this
    · exact hQ _ _ σ' s' _ w' hK hok' hst he
    · exact hQ _ _ σ' s' _ w' hK hok' hst he
    · exact hQ _ _ σ' s' _ w' hK hok' hst he
  | cond c a b iha ihb =>
    intro x σ s w K Q hc h hok hQ
    simp only [compile] at hc
    split at hc
    rotate_left
    · cases hc
    rename_i c' xa xb hcc ha hb
    simp only [Option.some.injEq] at hc; subst hc
    simp only [ex] at h
    obtain ⟨t, ht, h⟩ := condP_sound (σ := σ) hcc h
    refine wpIn_cond ht ?_
    cases t
    · exact ihb xb σ s w K Q hb h hok hQ
    · exact iha xa σ s w K Q ha h hok hQ
  | block id b ih =>
    intro x σ s w K Q hc h hok hQ
    simp only [compile, Option.map_eq_some_iff] at hc
    obtain ⟨xb, hb, rfl⟩ := hc
    simp only [ex] at h
    refine wpIn_block (ih xb σ s w _ _ hb h hok (fun e' e σ' s' a' w' hK hok' hst he => ?_))
    cases e' <;> cases e <;> simp only [exitOk] at he
    · exact hQ .normal .normal σ' s' _ w' hK hok' hst he
    · rename_i i j
      obtain ⟨rfl, he⟩ := he
      simp only [Exit.inBlock]
      simp only [beq_iff_eq] at hK
      split
      · rename_i hi
        rw [if_pos hi] at hK
        exact hQ .normal .normal σ' s' _ w' hK hok' hst he
      · rename_i hi
        rw [if_neg hi] at hK
        exact hQ (.exit i) (.exit i) σ' s' _ w' hK hok' hst ⟨rfl, he⟩
    · exact hQ .ret .ret σ' s' _ w' hK hok' hst he
    · exact hQ _ _ σ' s' _ w' hK hok' hst he
  | loop b ih =>
    intro x σ s w K Q hc h hok hQ
    have hc' := hc
    simp only [compile, Option.map_eq_some_iff] at hc
    obtain ⟨xb, hb, rfl⟩ := hc
    simp only [ex] at h
    refine wpIn_mono (h.out _ hc' σ w hok) (fun e a w' hp => ?_)
    obtain ⟨e', σ', s', hK, hok', hst, he⟩ := hp
    exact hQ e' e σ' s' a w' hK hok' hst he
  | rangeFunc f ps a b iha ihb =>
    intro x σ s w K Q hc h hok hQ
    have hc' := hc
    simp only [compile] at hc
    split at hc
    rotate_left
    · cases hc
    simp only [Option.some.injEq] at hc; subst hc
    simp only [ex] at h
    refine wpIn_mono (h.out _ hc' σ w hok) (fun e a w' hp => ?_)
    obtain ⟨e', σ', s', hK, hok', hst, he⟩ := hp
    exact hQ e' e σ' s' a w' hK hok' hst he
  | exit id =>
    intro x σ s w K Q hc h hok hQ
    simp only [compile, Option.some.injEq] at hc; subst hc
    exact wpIn_exit (hQ (.exit id) (.exit id) σ s _ w h hok (Step.refl σ s w) ⟨rfl, rfl⟩)
  | ret =>
    intro x σ s w K Q hc h hok hQ
    simp only [compile, Option.some.injEq] at hc; subst hc
    exact wpIn_ret (hQ .ret .ret σ s _ w h hok (Step.refl σ s w) rfl)
  | label l =>
    intro x σ s w K Q hc h hok hQ
    simp only [compile, Option.some.injEq] at hc; subst hc
    exact wpIn_label (hQ .normal .normal σ s _ w h hok (Step.refl σ s w) rfl)
  | scope b ih => intro x σ s w K Q hc; cases hc
  | goto l => intro x σ s w K Q hc; cases hc
  | refuse y => intro x σ s w K Q hc; cases hc
end
end Go.Sx
