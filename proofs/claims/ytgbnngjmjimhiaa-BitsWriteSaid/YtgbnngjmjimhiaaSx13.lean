/-
  The engine, part 13: a region that draws its order.
-/
import Derived.Test.YtgbnngjmjimhiaaSx12
namespace Go.Sx
open Go
section
variable {P : Program} {ops : Array Oper} {Q : Exit → Act → World → Prop} {r : Option Nat}

theorem cOp_plain {o : Oper} {x : XOp} (h : cOp P o = some x) : (∀ c, o.op ≠ .defer c) ∧ (∀ cs b, o.op ≠ .select cs b) := by
  constructor
  · intro c hc
    unfold cOp cPure cLoad cAct at h
    simp [hc] at h
  · intro cs b hc
    unfold cOp cPure cLoad cAct at h
    simp [hc] at h
/-- Operation p, read again, gives what it gave. -/
def Hold (P : Program) (ops : Array Oper) (pv : Nat × Value) (a : Act) (w : World) : Prop :=
  ∀ o, ops[pv.1]? = some o → Region.wanted o (yielded ops a.tmps) = true → (execOp a.eval o).run P w = .ok (.value pv.2) w
def wpL (P : Program) (r : Option Nat) (ops : Array Oper) (Q : Exit → Act → World → Prop) : Nat → List (Nat × Value) → Array Bool → Act → World → Prop
  | 0, _, listed, a, w => Region.ready .any ops listed = [] ∧ Q .normal a w
  | f + 1, L, listed, a, w => (Region.ready .any ops listed = [] → Q .normal a w) ∧
    ∀ j ∈ Region.ready .any ops listed, wpOpIn (FR r) 0 P ops Q j (fun a' w' => (∀ p ∈ L, waits ops j p.1 = false → Hold P ops p a' w') ∧
      wpL P r ops Q f (L.filter fun p => !waits ops j p.1) (listed.setIfInBounds j true) a' w') a w
theorem wpL_any : ∀ (f : Nat) (L : List (Nat × Value)) (listed : Array Bool) (a : Act) (w : World), wpL P r ops Q f L listed a w → wpAnyIn (FR r) 0 P .any ops Q f listed a w
  | 0, _, _, _, _, h => h
  | f + 1, _, _, _, _, h => ⟨h.1, fun j hj => wpOpIn_mono (fun a' w' h' => wpL_any f _ _ a' w' h'.2) (h.2 j hj)⟩
theorem wpL_anti : ∀ (f : Nat) (L L' : List (Nat × Value)) (listed : Array Bool) (a : Act) (w : World), (∀ p, p ∈ L' → p ∈ L) → wpL P r ops Q f L listed a w → wpL P r ops Q f L' listed a w
  | 0, _, _, _, _, _, _, h => h
  | f + 1, L, L', _, _, _, hs, h => ⟨h.1, fun j hj => wpOpIn_mono (fun a' w' h' => ⟨fun p hp hn => h'.1 p (hs p hp) hn, wpL_anti f _ _ _ a' w' (fun p hp => by
      simp only [List.mem_filter] at hp ⊢; exact ⟨hs p hp.1, hp.2⟩) h'.2⟩) (h.2 j hj)⟩
/-- oi looks the same in both. -/
def Same (ops : Array Oper) (oi : Oper) (a a' : Act) : Prop := execOp a'.eval oi = execOp a.eval oi ∧ Region.wanted oi (yielded ops a'.tmps) = Region.wanted oi (yielded ops a.tmps)
theorem wpOpIn_swap {j : Nat} {oi oj : Oper} {v : Value} {K : Act → World → Prop} {a : Act} {w : World} (hj : ops[j]? = some oj) (hap : oi.apart ops oj = true) (hdj : ∀ c, oj.op ≠ .defer c)
    (hsi : ∀ cs b, oi.op ≠ .select cs b) (hsj : ∀ cs b, oj.op ≠ .select cs b) (hQ : ∀ c a w, Q (.panic c) (a.put oi.dst v) w → Q (.panic c) a w)
    (h : wpOpIn (FR r) 0 P ops Q j K (a.put oi.dst v) w) : wpOpIn (FR r) 0 P ops Q j (fun a' w' => K (a'.put oi.dst v) w' ∧ Same ops oi a a') a w := by
  obtain ⟨h1, h2, h3⟩ := Oper.apart_spec hap
  have keep : ∀ u, Same ops oi a (a.put oj.dst u) := fun u => ⟨execOp_put oi hsi a oj.dst u h3, wanted_put oi a oj.dst u h3⟩
  unfold wpOpIn at *
  simp only [hj] at *
  rw [wanted_put oj a oi.dst v h1] at h
  split
  · rename_i hw
    simp only [hw, if_true] at h
    unfold Oper.wpIn at *
    refine ⟨fun f _ => fn_FR _ f, ?_⟩
    have h := h.2
    rw [Oper.semAt_eq _ _ _ hdj, execOp_put oj hsj a oi.dst v h1] at h
    rw [Oper.semAt_eq _ _ _ hdj]
    generalize (execOp a.eval oj).run P w = res at *
    cases res with
    | ok x w' =>
      cases x <;> simp only [Oper.uponIn] at h ⊢
      case value u => exact ⟨by rw [← Act.put_comm a v u h2]; exact h, keep u⟩
      case skip => exact ⟨by rw [← Act.put_comm a v undef h2]; exact h, keep undef⟩
      case defer d =>
        refine ⟨?_, ?_⟩
        · rw [← Act.put_comm _ v undef h2, ← Act.put_defers]; exact h
        · exact ⟨execOp_put oi hsi { a with defers := d :: a.defers } oj.dst undef h3, wanted_put oi { a with defers := d :: a.defers } oj.dst undef h3⟩
      case enter f args =>
        refine ⟨h.1, CallsIn.mono h.2 fun e w'' he => ?_⟩
        cases e with
        | returned u => exact ⟨by rw [← Act.put_comm a v u h2]; exact he, keep u⟩
        | panicked c => exact hQ _ _ _ he
        | outgrown => exact he
      case row row args => exact ⟨h.1, RowsIn.mono h.2 fun u w'' he => ⟨by rw [← Act.put_comm a v u h2]; exact he, keep u⟩⟩
      case round l f tmps assign body =>
        refine ⟨h.1, RoundIn.mono h.2 fun e w'' he => ?_⟩
        cases e with
        | returned u => exact ⟨by rw [← Act.put_comm a v u h2]; exact he, keep u⟩
        | panicked c => exact hQ _ _ _ he
        | outgrown => exact he
    | halt x w' =>
      cases x <;> simp only [Oper.uponIn] at h ⊢
      case panic u => exact hQ _ _ _ h
  · rename_i hw
    simp only [hw] at h
    exact ⟨fun f _ => fn_FR _ f, by rw [← Act.put_comm a v undef h2]; exact h.2, keep undef⟩
/-- In state a and world w operation oi gives v. -/
def Yld (P : Program) (ops : Array Oper) (oi : Oper) (v : Value) (a : Act) (w : World) : Prop :=
  (Region.wanted oi (yielded ops a.tmps) = true ∧ (execOp a.eval oi).run P w = .ok (.value v) w) ∨ (Region.wanted oi (yielded ops a.tmps) = false ∧ v = undef)
theorem Yld.same {oi : Oper} {v : Value} {a a' : Act} {w : World} (h : Yld P ops oi v a w) (hs : Same ops oi a a') : Yld P ops oi v a' w := by
  unfold Yld at *
  rw [hs.1, hs.2]; exact h
/-- i leaves alone what p looks at, and its place. -/
def keeps (ops : Array Oper) (oi : Oper) (p : Nat) : Prop := ∀ o, ops[p]? = some o → (∀ d, oi.dst = some d → d ∉ o.looksAt ops) ∧ (∀ cs b, o.op ≠ .select cs b)
theorem Hold.put_iff {oi : Oper} {pv : Nat × Value} {a : Act} {w : World} {v : Value} (hk : keeps ops oi pv.1) : Hold P ops pv (a.put oi.dst v) w ↔ Hold P ops pv a w := by
  unfold Hold
  constructor
  · intro h o ho hw
    obtain ⟨h1, h2⟩ := hk o ho
    have := h o ho (by rw [wanted_put o a oi.dst v h1]; exact hw)
    rwa [execOp_put o h2 a oi.dst v h1] at this
  · intro h o ho hw
    obtain ⟨h1, h2⟩ := hk o ho
    rw [wanted_put o a oi.dst v h1] at hw
    rw [execOp_put o h2 a oi.dst v h1]
    exact h o ho hw
theorem not_waits {i j : Nat} {listed : Array Bool} (hi : i ∈ Region.ready .any ops listed) (hj : j ∈ Region.ready .any ops listed) : waits ops j i = false ∧ ∀ oj, ops[j]? = some oj → ∀ e ∈ oj.after, Region.binds .any e = true → e.on ≠ i := by
  obtain ⟨_, oj, hoj, hall⟩ := mem_ready.1 hj
  have hnot : ∀ e ∈ oj.after, Region.binds .any e = true → e.on ≠ i := fun e he hb heq => by
    have h1 := hall e he hb
    have h0 := (mem_ready.1 hi).1
    rw [heq] at h1
    rcases Nat.lt_or_ge i listed.size with h' | h'
    · simp [h'] at h0 h1; rw [h0] at h1; cases h1
    · simp [Array.getElem?_eq_none h'] at h1
  refine ⟨?_, fun o ho => by rw [hoj] at ho; cases ho; exact hnot⟩
  unfold waits
  rw [hoj]
  simp only [Array.any_eq_false, Bool.and_eq_true, beq_iff_eq, not_and]
  intro k hk hb
  exact hnot _ (Array.getElem_mem hk) hb
/-- **What only computes, or only reads what nobody turns ahead of its reader, may be taken first.** -/
theorem wpL_first {i : Nat} {oi : Oper} {v : Value} (hall : ∀ (j : Nat) (o : Oper), ops[j]? = some o → (∀ c, o.op ≠ .defer c) ∧ (∀ cs b, o.op ≠ .select cs b)) (hi : ops[i]? = some oi)
    (hQ : ∀ c a w, Q (.panic c) (a.put oi.dst v) w → Q (.panic c) a w) :
    ∀ (f : Nat) (L L2 : List (Nat × Value)) (listed : Array Bool) (a : Act) (w : World),
      (∀ j oj, ops[j]? = some oj → j ≠ i → listed.getD j true = false → (∀ e ∈ oj.after, Region.binds .any e = true → e.on ≠ i) → oi.apart ops oj = true) →
      i ∈ Region.ready .any ops listed → (∀ p ∈ L, keeps ops oi p.1) → (∀ p, p ∈ L → p ∈ L2) → ((∀ w', Yld P ops oi v a w') ∨ (Yld P ops oi v a w ∧ (i, v) ∈ L2 ∧ keeps ops oi i)) →
      (∀ p ∈ L, Hold P ops p a w) → wpL P r ops Q f L2 (listed.setIfInBounds i true) (a.put oi.dst v) w → wpL P r ops Q (f + 1) L listed a w := by
  intro f
  -- at i itself
  have hself : ∀ (f : Nat) (L L2 : List (Nat × Value)) (listed : Array Bool) (a : Act) (w : World), (∀ p ∈ L, keeps ops oi p.1) → (∀ p, p ∈ L → p ∈ L2) → Yld P ops oi v a w → (∀ p ∈ L, Hold P ops p a w) →
      wpL P r ops Q f L2 (listed.setIfInBounds i true) (a.put oi.dst v) w →
      wpOpIn (FR r) 0 P ops Q i (fun a' w' => (∀ p ∈ L, waits ops i p.1 = false → Hold P ops p a' w') ∧ wpL P r ops Q f (L.filter fun p => !waits ops i p.1) (listed.setIfInBounds i true) a' w') a w := by
    intro f L L2 listed a w hk hs hy hH H
    have post : (∀ p ∈ L, waits ops i p.1 = false → Hold P ops p (a.put oi.dst v) w) ∧ wpL P r ops Q f (L.filter fun p => !waits ops i p.1) (listed.setIfInBounds i true) (a.put oi.dst v) w :=
      ⟨fun p hp _ => (Hold.put_iff (hk p hp)).2 (hH p hp), wpL_anti f L2 _ _ _ _ (fun p hp => hs p (List.mem_filter.1 hp).1) H⟩
    unfold wpOpIn
    simp only [hi]
    rcases hy with ⟨hw, hv⟩ | ⟨hw, rfl⟩
    · rw [if_pos hw]
      exact wpIn_of_run (hall i oi hi).1 (by rw [hv]; exact post)
    · rw [if_neg (by rw [hw]; simp)]
      exact ⟨fun f _ => fn_FR _ f, post⟩
  induction f with
  | zero =>
    intro L L2 listed a w hfree hr hk hs hy hH H
    refine ⟨fun h => (by rw [h] at hr; cases hr), fun j hj => ?_⟩
    by_cases hji : j = i
    · subst hji
      exact hself 0 L L2 listed a w hk hs (hy.elim (fun h => h w) (fun h => h.1)) hH H
    · have := ready_mono hj hji
      rw [H.1] at this
      cases this
  | succ f ih =>
    intro L L2 listed a w hfree hr hk hs hy hH H
    refine ⟨fun h => (by rw [h] at hr; cases hr), fun j hj => ?_⟩
    by_cases hji : j = i
    · subst hji
      exact hself (f + 1) L L2 listed a w hk hs (hy.elim (fun h => h w) (fun h => h.1)) hH H
    · have h1 := H.2 j (ready_mono hj hji)
      obtain ⟨hjun, oj, hoj, _⟩ := mem_ready.1 hj
      obtain ⟨hnw, hnot⟩ := not_waits hr hj
      have h2 := wpOpIn_swap hoj (hfree j oj hoj hji hjun (hnot oj hoj)) (hall j oj hoj).1 (hall i oi hi).2 (hall j oj hoj).2 hQ h1
      refine wpOpIn_mono (fun a' w' h3 => ?_) h2
      obtain ⟨⟨hH', hrest⟩, hsame⟩ := h3
      have hHL : ∀ p ∈ L, waits ops j p.1 = false → Hold P ops p a' w' := fun p hp hn => (Hold.put_iff (hk p hp)).1 (hH' p (hs p hp) hn)
      refine ⟨hHL, ih _ (L2.filter fun p => !waits ops j p.1) _ a' w' ?_ (ready_mono hr (Ne.symm hji)) (fun p hp => hk p (List.mem_filter.1 hp).1) ?_ ?_ (fun p hp => ?_) ?_⟩
      · intro k ok hok hki hun hno
        refine hfree k ok hok hki ?_ hno
        by_cases hjk : j = k
        · subst hjk; exact hjun
        · rw [getD_set_ne true hjk] at hun; exact hun
      · intro p hp
        simp only [List.mem_filter] at hp ⊢
        exact ⟨hs p hp.1, hp.2⟩
      · rcases hy with hy | ⟨hy, hin, hkp⟩
        · exact .inl fun w'' => (hy w'').same hsame
        · refine .inr ⟨?_, by simp [List.mem_filter, hin, hnw], hkp⟩
          have hh := hH' (i, v) hin hnw
          rcases hy with ⟨hw, _⟩ | ⟨hw, hv⟩
          · have hw' : Region.wanted oi (yielded ops a'.tmps) = true := by rw [hsame.2]; exact hw
            exact .inl ⟨hw', (Hold.put_iff hkp).1 hh oi hi hw'⟩
          · exact .inr ⟨by rw [hsame.2]; exact hw, hv⟩
      · simp only [List.mem_filter] at hp
        exact hHL p hp.1 (by simpa using hp.2)
      · rw [Array.setIfInBounds_comm _ _ hji]; exact hrest

/-! ### The order that the translation takes -/
variable {σ0 : Names} {s0 : SS} {w0 : World} {K : XE → SS → Prop}
/-- What was taken first is there, and gives what it gave. -/
def Pend (P : Program) (ops : Array Oper) (pend : List Nat) (L : List (Nat × Value)) (a : Act) (w : World) : Prop :=
  L.map (·.1) = pend ∧ ∀ p ∈ L, Hold P ops p a w ∧ ∃ o d, ops[p.1]? = some o ∧ o.dst = some d ∧ (d < a.tmps.size → a.tmps[d]? = some p.2)
theorem apartAll_keeps {i : Nat} {oi : Oper} {pend : List Nat} (hall : ∀ (j : Nat) (o : Oper), ops[j]? = some o → (∀ c, o.op ≠ .defer c) ∧ (∀ cs b, o.op ≠ .select cs b)) (hi : ops[i]? = some oi)
    (h : apartAll ops i pend = true) : ∀ p ∈ pend, keeps ops oi p ∧ ∀ o, ops[p]? = some o → ∀ d, oi.dst = some d → o.dst ≠ some d := by
  intro p hp
  simp only [apartAll, List.all_eq_true] at h
  have := h p hp
  rw [hi] at this
  constructor
  · intro o ho
    refine ⟨fun d hd => ?_, (hall p o ho).2⟩
    rw [ho] at this
    simp [hd] at this
    exact this.1
  · intro o ho d hd
    rw [ho] at this
    simp [hd] at this
    exact this.2
theorem Pend.put {oi : Oper} {pend : List Nat} {L : List (Nat × Value)} {a : Act} {w : World} (hk : ∀ p ∈ pend, keeps ops oi p ∧ ∀ o, ops[p]? = some o → ∀ d, oi.dst = some d → o.dst ≠ some d)
    (h : Pend P ops pend L a w) (v : Value) : Pend P ops pend L (a.put oi.dst v) w := by
  refine ⟨h.1, fun p hp => ?_⟩
  obtain ⟨h1, o, d, ho, hd, hs⟩ := h.2 p hp
  have hk := hk p.1 (by rw [← h.1]; exact List.mem_map_of_mem hp)
  refine ⟨(Hold.put_iff hk.1).2 h1, o, d, ho, hd, fun hlt => ?_⟩
  cases hi : oi.dst with
  | none => rw [hi] at hlt; exact hs hlt
  | some e =>
    have hne : e ≠ d := fun he => hk.2 o ho e hi (by rw [he]; exact hd)
    rw [hi] at hlt
    simp only [Act.put, Array.size_setIfInBounds] at hlt ⊢
    rw [Array.getElem?_setIfInBounds_ne hne]
    exact hs hlt
theorem Pend.filter {pend : List Nat} {L : List (Nat × Value)} {a : Act} {w : World} (h : Pend P ops pend L a w) (f : Nat → Bool) : Pend P ops (pend.filter f) (L.filter fun p => f p.1) a w := by
  refine ⟨?_, fun p hp => h.2 p (List.mem_filter.1 hp).1⟩
  rw [← h.1, List.filter_map]; rfl
theorem slot_den {σ : Names} {s : SS} {d : Nat} {v : Value} (hlt : ltB d s.t.length = true) (h : d < (act σ s).tmps.size → (act σ s).tmps[d]? = some v) : den σ (s.t.getD d .undef) = v := by
  have hlt : d < s.t.length := by simpa [ltB] using hlt
  have h1 := h (by simp [act, denL_len, hlt])
  simp only [act, List.getElem?_toArray, denL_get, List.getElem?_eq_getElem hlt, Option.map_some, Option.some.injEq] at h1
  simpa [List.getD, List.getElem?_eq_getElem hlt] using h1
/-- What is looked at again gives what it gave. -/
theorem chk_sound {σ : Names} {s : SS} {w : World} {C : Prop} (hok : Ok P σ s w) : ∀ (pend : List Nat) (cs : List (XOp × Nat × Option (Nat × Bool))) (L : List (Nat × Value)), chkOf P ops pend = some cs → chkP std s cs C →
    L.map (·.1) = pend → (∀ p ∈ L, ∃ o d, ops[p.1]? = some o ∧ o.dst = some d ∧ (d < (act σ s).tmps.size → (act σ s).tmps[d]? = some p.2)) → C ∧ ∀ p ∈ L, Hold P ops p (act σ s) w
  | [], cs, L, hc, h, hL, _ => by
    simp only [chkOf, Option.some.injEq] at hc; subst hc
    have : L = [] := by simpa using hL
    subst this
    exact ⟨h, fun p hp => by cases hp⟩
  | q :: pend, cs, L, hc, h, hL, hs => by
    cases L with
    | nil => simp at hL
    | cons p L =>
      simp only [List.map_cons, List.cons.injEq] at hL
      obtain ⟨rfl, hL⟩ := hL
      simp only [chkOf] at hc
      split at hc
      rotate_left
      · cases hc
      rename_i o ho
      split at hc
      rotate_left
      · cases hc
      rename_i x d g cs' hx hd hg hcs
      simp only [Option.some.injEq] at hc; subst hc
      simp only [chkP] at h
      split at h
      rotate_left
      · exact h.elim
      rename_i hlt
      obtain ⟨h1, h2⟩ := h
      obtain ⟨hC, hrest⟩ := chk_sound hok pend cs' L hcs h2 hL fun p hp => hs p (List.mem_cons_of_mem _ hp)
      refine ⟨hC, fun p' hp' => ?_⟩
      rcases List.mem_cons.1 hp' with rfl | hp'
      · intro o' ho' hw
        rw [ho] at ho'; cases ho'
        obtain ⟨o', d', ho', hd', hsl⟩ := hs p' (List.mem_cons_self ..)
        rw [ho] at ho'; cases ho'
        rw [hd] at hd'; cases hd'
        rcases guard_sound (σ := σ) hg h1 with ⟨_, hA⟩ | ⟨hw', _⟩
        · obtain ⟨v, hv, hr⟩ := load_sound hok hx hA
          rw [hr, hv, slot_den hlt hsl]
        · rw [hw] at hw'; cases hw'
      · exact hrest p' hp'
theorem lin_sound (hall : ∀ (j : Nat) (o : Oper), ops[j]? = some o → (∀ c, o.op ≠ .defer c) ∧ (∀ cs b, o.op ≠ .select cs b)) : ∀ (fuel : Nat) (listed : Array Bool) (pend : List Nat) (steps : List XStep)
    (σ : Names) (s : SS) (w : World) (L : List (Nat × Value)), linS P ops fuel listed pend = some steps → exSteps std P steps s K → Ok P σ s w →
    Step σ0 s0 w0 σ s w → Pend P ops pend L (act σ s) w → wpL P (rOf σ s) ops (Post P σ0 s0 w0 K) fuel L listed (act σ s) w := by
  intro fuel
  have hQ : ∀ (oi : Oper) (v : Value) c a w, Post P σ0 s0 w0 K (.panic c) (a.put oi.dst v) w → Post P σ0 s0 w0 K (.panic c) a w := by
    rintro oi v c a w ⟨e', σ', s', h1, h2, h3, h4⟩
    refine ⟨e', σ', s', h1, h2, h3, ?_⟩
    cases e' <;> simp only [exitOk] at h4 ⊢
    have hd : (a.put oi.dst v).defers = a.defers := by cases oi.dst <;> rfl
    rw [hd] at h4
    exact h4
  induction fuel with
  | zero =>
    intro listed pend steps σ s w L hl h hok hst hp
    simp only [linS] at hl
    split at hl
    · rename_i hr
      simp only [Option.some.injEq] at hl; subst hl
      exact ⟨by simpa using hr, .normal, σ, s, h, hok, hst, rfl⟩
    · cases hl
  | succ fuel ih =>
    intro listed pend steps σ s w L hl h hok hst hp
    simp only [linS] at hl
    split at hl
    · rename_i hr
      simp only [Option.some.injEq] at hl; subst hl
      have hr : Region.ready .any ops listed = [] := by simpa using hr
      exact ⟨fun _ => ⟨.normal, σ, s, h, hok, hst, rfl⟩, fun j hj => by rw [hr] at hj; cases hj⟩
    rename_i hrne
    split at hl
    · -- taken first
      rename_i i hf
      split at hl
      rotate_left
      · cases hl
      rename_i oi hi
      split at hl
      rotate_left
      · cases hl
      rename_i st ss hs hss
      simp only [Option.some.injEq] at hl; subst hl
      have hmem := List.mem_of_find?_eq_some hf
      have hprop := List.find?_some hf
      simp only [Bool.and_eq_true, Bool.or_eq_true] at hprop
      obtain ⟨⟨hpl, hfree⟩, hap⟩ := hprop
      have hk := apartAll_keeps hall hi hap
      have hkL : ∀ p ∈ L, keeps ops oi p.1 := fun p hp' => (hk p.1 (by rw [← hp.1]; exact List.mem_map_of_mem hp')).1
      unfold cStep at hs
      split at hs
      rotate_left
      · cases hs
      rename_i x g hx hg
      simp only [Option.some.injEq] at hs; subst hs
      simp only [exSteps] at h
      have hr' : ∀ v, rOf σ (put oi.dst v s) = rOf σ s := fun v => rOf_eq hok (hok.put_ _ _) ((Step.refl σ s w).put_ _ _)
      by_cases hpure : isPure P ops i = true
      · rw [if_pos hpure] at hss
        have key : ∀ v, (∀ w', Yld P ops oi (den σ v) (act σ s) w') → exSteps std P ss (put oi.dst v s) K → wpL P (rOf σ s) ops (Post P σ0 s0 w0 K) (fuel + 1) L listed (act σ s) w := by
          intro v hy hex
          refine wpL_first hall hi (hQ oi (den σ v)) fuel L L listed (act σ s) w (Region.free_spec hi hfree) hmem hkL (fun _ h => h) (.inl hy) (fun p hp' => (hp.2 p hp').1) ?_
          have := ih _ pend ss σ (put oi.dst v s) w L hss hex (hok.put_ _ _) (hst.put_ _ _) (by have := hp.put hk (den σ v); rwa [act_put] at this)
          rw [hr', ← act_put] at this
          exact this
        unfold isPure at hpure
        rw [hi] at hpure
        obtain ⟨y, hy⟩ := Option.isSome_iff_exists.1 hpure
        have hxy : x = y := by unfold cOp at hx; rw [hy] at hx; simpa using hx.symm
        subst hxy
        have hcl : cls x = .pure := by
          unfold cPure at hy
          (repeat' split at hy) <;> first | (cases hy; done) | (cases hy; rfl) | (simp only [Option.map_eq_some_iff] at hy; obtain ⟨_, _, rfl⟩ := hy; rfl)
        rcases guard_sound (σ := σ) hg h with ⟨hw, h⟩ | ⟨hw, h⟩
        · simp only [exOp, hcl, chkP] at h
          obtain ⟨v, hKv, hr⟩ := pure_sound hok hy h
          exact key v (fun w' => .inl ⟨hw, hr w'⟩) hKv
        · exact key .undef (fun w' => .inr ⟨hw, rfl⟩) h
      · rw [if_neg hpure] at hss
        have hload : isLoad P ops i = true := hpl.resolve_left hpure
        unfold isLoad at hload
        rw [hi] at hload
        simp only [Bool.and_eq_true] at hload
        obtain ⟨⟨hn, hl⟩, hd⟩ := hload
        obtain ⟨y, hy⟩ := Option.isSome_iff_exists.1 hl
        have hxy : x = y := by
          unfold cOp at hx
          rw [Option.isNone_iff_eq_none.1 hn, hy] at hx; simpa using hx.symm
        subst hxy
        split at hd
        rotate_left
        · cases hd
        rename_i d hd'
        have hself : keeps ops oi i := fun o ho => by
          rw [hi] at ho; cases ho
          refine ⟨fun e he => ?_, (hall i oi hi).2⟩
          rw [hd'] at he; cases he
          simpa using hd
        have hcl : cls x = .load := by
          unfold cLoad at hy
          (repeat' split at hy) <;> first | (cases hy; done) | (cases hy; rfl)
        have key : ∀ v, Yld P ops oi (den σ v) (act σ s) w → exSteps std P ss (put oi.dst v s) K → wpL P (rOf σ s) ops (Post P σ0 s0 w0 K) (fuel + 1) L listed (act σ s) w := by
          intro v hy hex
          refine wpL_first hall hi (hQ oi (den σ v)) fuel L ((i, den σ v) :: L) listed (act σ s) w (Region.free_spec hi hfree) hmem hkL (fun _ h => List.mem_cons_of_mem _ h) (.inr ⟨hy, List.mem_cons_self .., hself⟩)
            (fun p hp' => (hp.2 p hp').1) ?_
          have := ih _ (i :: pend) ss σ (put oi.dst v s) w ((i, den σ v) :: L) hss hex (hok.put_ _ _) (hst.put_ _ _) (by
            have hp' := hp.put hk (den σ v)
            have hpp : Pend P ops (i :: pend) ((i, den σ v) :: L) ((act σ s).put oi.dst (den σ v)) w := ?_
            · rwa [act_put] at hpp
            refine ⟨by simp [hp.1], fun p hpm => ?_⟩
            rcases List.mem_cons.1 hpm with rfl | hpm
            · refine ⟨(Hold.put_iff hself).2 ?_, oi, d, hi, hd', fun hlt => ?_⟩
              · intro o ho hw
                rw [hi] at ho; cases ho
                rcases hy with ⟨_, hr⟩ | ⟨hw', _⟩
                · exact hr
                · rw [hw] at hw'; cases hw'
              · rw [hd'] at hlt ⊢
                simp only [Act.put, Array.size_setIfInBounds] at hlt ⊢
                simp [hlt]
            · exact hp'.2 p hpm)
          rw [hr', ← act_put] at this
          exact this
        rcases guard_sound (σ := σ) hg h with ⟨hw, h⟩ | ⟨hw, h⟩
        · simp only [exOp, hcl, chkP] at h
          obtain ⟨v, hKv, hr⟩ := load_sound hok hy h
          exact key v (.inl ⟨hw, hr⟩) hKv
        · exact key .undef (.inr ⟨hw, rfl⟩) h
    · -- comes up alone
      split at hl
      rotate_left
      · cases hl
      rename_i i hr
      split at hl
      rotate_left
      · cases hl
      rename_i oi hi
      split at hl
      rotate_left
      · cases hl
      rename_i hap
      split at hl
      rotate_left
      · cases hl
      rename_i st cs ss hs hcs hss
      simp only [Option.some.injEq] at hl; subst hl
      have hk := apartAll_keeps hall hi hap
      unfold cStep at hs
      split at hs
      rotate_left
      · cases hs
      rename_i x g hx hg
      simp only [Option.some.injEq] at hs; subst hs
      simp only [exSteps] at h
      refine ⟨fun he => (by rw [hr] at he; cases he), fun j hj => ?_⟩
      rw [hr] at hj
      have hji : j = i := by simpa using hj
      subst hji
      have hpf := hp.filter (fun p => !waits ops j p)
      unfold wpOpIn
      simp only [hi]
      rcases guard_sound (σ := σ) hg h with ⟨hw, h⟩ | ⟨hw, h⟩
      · rw [if_pos hw]
        refine op_sound hok hx h (fun v σ' s' w' hK hok' hst' hact => ?_) (fun v σ' s' w' hK hok' hst' hact => ?_)
        · have hok'' := hok'.put_ oi.dst v
          -- the slots are there
          have hslots : ∀ p ∈ L.filter (fun p => !waits ops j p.1), ∃ o d, ops[p.1]? = some o ∧ o.dst = some d ∧ (d < (act σ' (put oi.dst v s')).tmps.size → (act σ' (put oi.dst v s')).tmps[d]? = some p.2) := by
            intro p hpm
            obtain ⟨_, o, d, ho, hd, hsl⟩ := hpf.2 p hpm
            refine ⟨o, d, ho, hd, fun hlt => ?_⟩
            have hkp := hk p.1 (by rw [← hpf.1]; exact List.mem_map_of_mem hpm)
            rw [← act_put, hact] at hlt ⊢
            cases hid : oi.dst with
            | none => rw [hid] at hlt; exact hsl hlt
            | some e =>
              have hne : e ≠ d := fun he => hkp.2 o ho e hid (by rw [he]; exact hd)
              rw [hid] at hlt
              simp only [Act.put, Array.size_setIfInBounds] at hlt ⊢
              rw [Array.getElem?_setIfInBounds_ne hne]
              exact hsl hlt
          obtain ⟨hC, hHold⟩ := chk_sound hok'' _ cs _ hcs hK hpf.1 hslots
          refine ⟨fun p hpm hn => hHold p (List.mem_filter.2 ⟨hpm, by simp [hn]⟩), ?_⟩
          have := ih _ _ ss σ' (put oi.dst v s') w' _ hss hC hok'' (hst.trans (hst'.put_ _ _)) ⟨hpf.1, fun p hpm => ⟨hHold p hpm, hslots p hpm⟩⟩
          rwa [rOf_eq hok hok'' (hst'.put_ _ _)] at this
        · exact ⟨.panic v, σ', s', hK, hok', hst.trans hst', rfl, by rw [hact]⟩
      · rw [if_neg (by rw [hw]; simp)]
        refine ⟨fun f _ => fn_FR _ f, ?_⟩
        have hp' := hpf.put hk undef
        refine ⟨fun p hpm hn => (hp'.2 p (List.mem_filter.2 ⟨hpm, by simp [hn]⟩)).1, ?_⟩
        have hact := act_put σ s oi.dst .undef
        simp only [den] at hact
        have := ih _ _ ss σ (put oi.dst .undef s) w _ hss h (hok.put_ _ _) (hst.put_ _ _) (by rw [← hact]; exact hp')
        rw [rOf_eq hok (hok.put_ oi.dst .undef) ((Step.refl σ s w).put_ _ _), ← hact] at this
        exact this
theorem holds_drawn {σ : Names} {p : Option (Nat × Nat)} {w : World} (n : Nat) : ∀ {B : SB}, holds P σ p w B → holds P σ p { w with drawn := n } B := by
  intro B h
  cases B <;> exact h
theorem Ok.drawn {σ : Names} {s : SS} {w : World} (h : Ok P σ s w) (n : Nat) : Ok P σ s { w with drawn := n } :=
  ⟨h.lt, h.ne, fun i B hB => holds_drawn n (h.blk i B hB), h.marks, h.rnd⟩
theorem Step.drawn (σ : Names) (s : SS) (w : World) (n : Nat) : Step σ s w σ s { w with drawn := n } :=
  have h := Step.refl σ s w
  ⟨h.size, rfl, rfl, rfl, fun _ _ _ => rfl, h.len, h.names, h.red, h.own, h.rd⟩
theorem draw_law (hm : P.follows .mixedOrders = true) : DrawLaw P := by
  intro id ops x σ s w K Q hc h hok hQ
  simp only [compile] at hc
  split at hc
  rotate_left
  · cases hc
  rename_i hcomp
  simp only [Option.map_eq_some_iff] at hc
  obtain ⟨steps, hs, rfl⟩ := hc
  have hall : ∀ (j : Nat) (o : Oper), ops[j]? = some o → (∀ c, o.op ≠ .defer c) ∧ (∀ cs b, o.op ≠ .select cs b) := by
    intro j o ho
    have := Array.all_eq_true'.1 hcomp o (Array.mem_of_getElem? ho)
    obtain ⟨x, hx⟩ := Option.isSome_iff_exists.1 this
    exact cOp_plain hx
  have hp : Pend P ops [] [] (act σ s) { w with drawn := w.drawn + 1 } := ⟨rfl, fun p hp => by cases hp⟩
  have := lin_sound (K := K) (σ0 := σ) (s0 := s) (w0 := w) hall ops.size (Array.replicate ops.size false) [] steps σ s { w with drawn := w.drawn + 1 } [] hs h (hok.drawn _) (Step.drawn σ s w _) hp
  refine wpIn_mono (wpIn_region_any hm (wpL_any _ [] _ _ _ this)) (fun e a w' hp => ?_)
  obtain ⟨e', σ', s', hK, hok', hst, he⟩ := hp
  exact hQ e' e σ' s' a w' hK hok' hst he
end
end Go.Sx
