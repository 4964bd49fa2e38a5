/-
  The engine, part 11: any operation; a row of operations.
-/
import Derived.Test.YtgbnngjmjimhiaaSx10
namespace Go.Sx
open Go
section
variable {P : Program} {o : Oper} {σ : Names} {s : SS} {w : World} {K : SV → SS → Prop} {X : XE → SS → Prop}

theorem denL_append (σ : Names) (a b : List SV) : denL σ (a ++ b) = denL σ a ++ denL σ b := by simp [denL_eq]
/-- What goes on behind an operation. -/
def GoesOn (P : Program) (σ : Names) (s : SS) (w : World) (K : SV → SS → Prop) (dst : Option Tmp) (next : Act → World → Prop) : Prop :=
  ∀ v σ' s' w', K v s' → Ok P σ' s' w' → Step σ s w σ' s' w' → act σ' s' = act σ s → next (act σ' (put dst v s')) w'
/-- What is owed where it panics. -/
def Fails (P : Program) (σ : Names) (s : SS) (w : World) (X : XE → SS → Prop) (Q : Exit → Act → World → Prop) : Prop :=
  ∀ v σ' s' w', X (.panic v) s' → Ok P σ' s' w' → Step σ s w σ' s' w' → act σ' s' = act σ s → Q (.panic [{ v := den σ' v, recovered := false }]) (act σ s) w'
theorem fn_FR (r : Option Nat) (f : FuncId) : (FR r).fn f := trivial
theorem wpIn_of_run {next : Act → World → Prop} {Q : Exit → Act → World → Prop} {r : Option Nat} {a : Act} (hd : ∀ c, o.op ≠ .defer c)
    (h : o.uponIn (FR r) 0 P a next Q ((execOp a.eval o).run P w)) : o.wpIn (FR r) 0 P a w next Q :=
  ⟨fun f _ => fn_FR r f, by rw [Oper.semAt_eq _ _ _ hd]; exact h⟩
theorem wpIn_of_act {next : Act → World → Prop} {Q : Exit → Act → World → Prop} {r : Option Nat} (hd : ∀ c, o.op ≠ .defer c) (h : ActOk P o σ s w K) (hK : GoesOn P σ s w K o.dst next) :
    o.wpIn (FR r) 0 P (act σ s) w next Q := by
  obtain ⟨v, σ', s', w', hKv, hr, hok, hst, hact⟩ := h
  refine wpIn_of_run hd ?_
  have hn := hK v σ' s' w' hKv hok hst hact
  rcases hr with hr | ⟨hr, rfl⟩
  · rw [hr]
    simp only [Oper.uponIn]
    rw [← hact, act_put]; exact hn
  · rw [hr]
    simp only [Oper.uponIn]
    rw [← hact]
    have := act_put σ' s' o.dst .undef
    simp only [den] at this
    rw [this]; exact hn
theorem call_sound {next : Act → World → Prop} {Q : Exit → Act → World → Prop} {f : Operand} {args : Array Operand} {tys : Array TypeId} {f' : XO} {xs : List XO} (hok : Ok P σ s w)
    (ho : o.op = .call { callee := .value f, args := args, argTypes := tys }) (hf : cO f = some f') (hx : cOs args.toList = some xs)
    (h : exAct std P (.call f' xs) s K X) (hK : GoesOn P σ s w K o.dst next) (hX : Fails P σ s w X Q) : o.wpIn (FR (rOf σ s)) 0 P (act σ s) w next Q := by
  have hargs : args.map (act σ s).eval = (denL σ (xs.map (ev s))).toArray := by
    rw [← evs_den (σ := σ) (s := s) hx, ← Array.toList_map]
  simp only [exAct] at h
  refine wpIn_of_run (by rw [ho]; intro c hc; cases hc) ?_
  have post : ∀ e w', CPost P σ s w K X e w' → (match e, w' with
      | .returned v, w'' => next ((act σ s).put o.dst v) w''
      | .panicked chain, w'' => Q (.panic chain) (act σ s) w''
      | .outgrown, _ => LetsOut Q) := by
    rintro e w' ⟨σ', s', hok', hst, hact, he⟩
    cases e with
    | returned v =>
      obtain ⟨v', hKv, rfl⟩ := he
      have := hK v' σ' s' w' hKv hok' hst hact
      show next ((act σ s).put o.dst (den σ' v')) w'
      rw [← hact, act_put]; exact this
    | panicked ch =>
      obtain ⟨v', hXv, rfl⟩ := he
      exact hX v' σ' s' w' hXv hok' hst hact
    | outgrown => exact he.elim
  cases hv : ev s f' <;> simp only [hv] at h
  case fn g cs =>
    have hr : (execOp (act σ s).eval o).run P w = .ok (.enter g (denL σ (xs.map (ev s) ++ cs)).toArray) w := by
      simp [execOp, ho, resolve, ev_den hf, hv, den, Deferred.ofValue, hargs, invoke, denL_append, h.go]
    rw [hr]
    simp only [Oper.uponIn]
    exact ⟨(fun hd => by cases hd), (h.out σ w hok).mono post⟩
  case yield l =>
    obtain ⟨fn, tmps, asg, body, hinv, hround⟩ := h.out σ w hok
    have hr : (execOp (act σ s).eval o).run P w = .ok (.round (((σ l).map (·.1)).getD 0) fn tmps asg body) w := by
      have e : ∀ (t : Value), t = .func (.yield (((σ l).map (·.1)).getD 0)) #[] #[] → (Deferred.ofValue t (denL σ (xs.map (ev s))).toArray).run P w = .ok { target := .fn (.yield (((σ l).map (·.1)).getD 0)) #[], args := (denL σ (xs.map (ev s))).toArray } w := by
        intro t ht; subst ht; simp [Deferred.ofValue]
      simp only [execOp, ho, resolve, ev_den hf, hv, hargs, Sem.run_bind]
      rw [e _ (by simp [den])]
      simp only [Result.andThen_ok]
      exact hinv
    rw [hr]
    simp only [Oper.uponIn]
    exact ⟨(fun hd => by cases hd), hround.mono post⟩
theorem op_sound {x : XOp} {next : Act → World → Prop} {Q : Exit → Act → World → Prop} (hok : Ok P σ s w) (hc : cOp P o = some x) (h : exOp std P x s K X)
    (hK : GoesOn P σ s w K o.dst next) (hX : Fails P σ s w X Q) : o.wpIn (FR (rOf σ s)) 0 P (act σ s) w next Q := by
  unfold cOp at hc
  split at hc
  · rename_i y hy
    simp only [Option.some.injEq] at hc; subst hc
    have hd : ∀ c, o.op ≠ .defer c := fun c hc => by unfold cPure at hy; rw [hc] at hy; cases hy
    have hcl : cls y = .pure := by
      unfold cPure at hy
      (repeat' split at hy) <;> first | (cases hy; done) | (cases hy; rfl) | (simp only [Option.map_eq_some_iff] at hy; obtain ⟨_, _, rfl⟩ := hy; rfl)
    simp only [exOp, hcl] at h
    obtain ⟨v, hKv, hr⟩ := pure_sound hok hy h
    exact wpIn_of_act hd ⟨v, σ, s, w, hKv, .inl (hr w), hok, Step.refl σ s w, rfl⟩ hK
  · split at hc
    · rename_i hp y hy
      simp only [Option.some.injEq] at hc; subst hc
      have hd : ∀ c, o.op ≠ .defer c := fun c hc => by unfold cLoad at hy; rw [hc] at hy; cases hy
      have hcl : cls y = .load := by
        unfold cLoad at hy
        (repeat' split at hy) <;> first | (cases hy; done) | (cases hy; rfl)
      simp only [exOp, hcl] at h
      obtain ⟨v, hKv, hr⟩ := load_sound hok hy h
      exact wpIn_of_act hd ⟨v, σ, s, w, hKv, .inl hr, hok, Step.refl σ s w, rfl⟩ hK
    · rename_i hp hl
      have hcl : cls x = .act := by
        unfold cAct at hc
        (repeat' split at hc) <;> first | (cases hc; done) | (cases hc; rfl) | (simp only [Option.map_eq_some_iff] at hc; obtain ⟨_, _, rfl⟩ := hc; rfl)
      simp only [exOp, hcl] at h
      unfold cAct at hc
      split at hc
      · rename_i t ho
        have hd : ∀ c, o.op ≠ .defer c := fun c hc => by rw [ho] at hc; cases hc
        split at hc
        · split at hc
          · rename_i n k ha hz
            simp only [Option.some.injEq] at hc; subst hc
            exact wpIn_of_act hd (act_newI hok ho hz h) hK
          · cases hc
        · simp only [Option.map_eq_some_iff] at hc
          obtain ⟨z, hz, rfl⟩ := hc
          exact wpIn_of_act hd (act_newR hok ho hz h) hK
      · rename_i t a ho
        have hd : ∀ c, o.op ≠ .defer c := fun c hc => by rw [ho] at hc; cases hc
        split at hc
        · rename_i a' ha
          simp only [Option.some.injEq] at hc; subst hc
          exact wpIn_of_act hd (act_box hok ho ha _ h) hK
        · cases hc
      · rename_i t n parts ho
        have hd : ∀ c, o.op ≠ .defer c := fun c hc => by rw [ho] at hc; cases hc
        split at hc
        rotate_left
        · cases hc
        rename_i e he
        split at hc
        rotate_left
        · cases hc
        rename_i sz hs
        split at hc
        rotate_left
        · cases hc
        rename_i hn
        split at hc
        · rename_i k hk
          split at hc
          · rename_i hz
            obtain ⟨rfl, hz⟩ := hz
            simp only [Option.map_eq_some_iff] at hc
            obtain ⟨ps, hps, rfl⟩ := hc
            exact wpIn_of_act hd (act_bsliceI hok ho he hs hz hn hps h) hK
          · cases hc
        · (repeat' split at hc) <;> first | (cases hc; done) | skip
          simp only [Option.map_eq_some_iff] at hc
          obtain ⟨ps, hps, rfl⟩ := hc
          exact h.elim
      · rename_i t a v ho
        have hd : ∀ c, o.op ≠ .defer c := fun c hc => by rw [ho] at hc; cases hc
        split at hc
        · rename_i a' v' ha hv hag
          simp only [Option.map_eq_some_iff] at hc
          obtain ⟨n, hn, rfl⟩ := hc
          exact wpIn_of_act hd (act_storeA hok ho hn ha hv h) hK
        · rename_i a' v' ha hv hag
          split at hc
          · rename_i hs
            simp only [Option.some.injEq] at hc; subst hc
            exact wpIn_of_act hd (act_store1 hok ho hs ha hv h) hK
          · cases hc
        · cases hc
      · rename_i t l c ho
        have hd : ∀ c, o.op ≠ .defer c := fun c hc => by rw [ho] at hc; cases hc
        split at hc
        · rename_i l' c' e hl' hc' he
          split at hc
          · rename_i k i hk hi
            split at hc
            · rename_i hs
              obtain ⟨h1, h2, h3⟩ := hs
              simp only [Option.some.injEq] at hc; subst hc
              exact wpIn_of_act hd (act_mkslI hok ho he hi h1 h2 h3 hl' hc' h) hK
            · cases hc
          · cases hc
        · cases hc
      · rename_i args tys ho
        have hd : ∀ c, o.op ≠ .defer c := fun c hc => by rw [ho] at hc; cases hc
        split at hc
        rotate_left
        · cases hc
        rename_i a b t u ha ht
        split at hc
        rotate_left
        · cases hc
        rename_i a' b' e d h1 h2 h3 h4
        split at hc
        rotate_left
        · cases hc
        rename_i k i hk hi
        split at hc
        rotate_left
        · cases hc
        rename_i hs
        obtain ⟨g1, g2, g3⟩ := hs
        split at hc
        · simp only [Option.some.injEq] at hc; subst hc
          exact h.elim
        · simp only [Option.some.injEq] at hc; subst hc
          exact wpIn_of_act hd (act_appI hok ho ha ht h3 h4 hi g1 g2 g3 h1 h2 h) hK
        · cases hc
      · (repeat' split at hc) <;> first | (cases hc; done) | (cases hc; exact h.elim)
      · rename_i f args tys ho
        split at hc
        · rename_i f' xs hf hx
          simp only [Option.some.injEq] at hc; subst hc
          exact call_sound hok ho hf hx h hK hX
        · cases hc
      · rename_i a ho
        simp only [Option.map_eq_some_iff] at hc
        obtain ⟨a', ha, rfl⟩ := hc
        simp only [exAct] at h
        cases hv : ev s a' <;> simp only [hv] at h
        rename_i t v
        refine wpIn_of_run (by rw [ho]; intro c hc; cases hc) ?_
        have hr : (execOp (act σ s).eval o).run P w = .halt (.panic (.iface t (den σ v))) w := by
          simp [execOp, ho, ev_den ha, hv, den, Instr.panic, goPanic, Sem.run]
        rw [hr]
        exact hX _ σ s w h hok (Step.refl σ s w) rfl
      · cases hc

/-! ### Rows of operations, in order -/
theorem guard_sound {ops : Array Oper} {g : Option (Nat × Bool)} {A B : Unit → Prop} (hg : cGuard ops o.guard = some g) (h : guardP s g A B) :
    (Region.wanted o (yielded ops (act σ s).tmps) = true ∧ A ()) ∨ (Region.wanted o (yielded ops (act σ s).tmps) = false ∧ B ()) := by
  unfold cGuard at hg
  split at hg
  · rename_i h0
    simp only [Option.some.injEq] at hg; subst hg
    exact .inl ⟨by simp [Region.wanted, h0], h⟩
  · rename_i j b h0
    split at hg
    rotate_left
    · cases hg
    rename_i d hd
    simp only [Option.some.injEq] at hg; subst hg
    have hy : yielded ops (act σ s).tmps j = (match (s.t[d]?).map (den σ) with | some (.bool c) => some c | _ => none) := by
      unfold yielded
      rw [hd]
      simp [act, denL_get]
      cases (s.t[d]?).map (den σ) with
      | none => rfl
      | some v => cases v <;> rfl
    simp only [guardP] at h
    cases ht : s.t[d]? with
    | none =>
      simp only [List.getD, ht, Option.getD_none] at h
      exact .inr ⟨by simp [Region.wanted, h0, hy, ht], h⟩
    | some v =>
      simp only [List.getD, ht, Option.getD_some] at h
      cases v <;> simp only at h
      case undef => exact .inr ⟨by simp [Region.wanted, h0, hy, ht, den, undef], h⟩
      case bool c =>
        cases b <;> cases c <;> simp only at h
        · exact .inl ⟨by simp [Region.wanted, h0, hy, ht, den], h⟩
        · exact .inr ⟨by simp [Region.wanted, h0, hy, ht, den], h⟩
        · exact .inr ⟨by simp [Region.wanted, h0, hy, ht, den], h⟩
        · exact .inl ⟨by simp [Region.wanted, h0, hy, ht, den], h⟩
end
end Go.Sx
