/-
  The engine, part 20: a range over a function (an outermost one).
-/
import Derived.Test.YtgbnngjmjimhiaaSx19
namespace Go.Sx
open Go

/-- Entering: the block for the rounds' deferred calls, the record. -/
def enterS (ps : List Nat) (asg body : XC) (s : SS) : SS := { s with h := s.h ++ [.defd, .loop .ready none s.t ps asg body], d := s.h.length :: s.d }
/-- Leaving: the record is forgotten. -/
def leaveS (l : Nat) (s : SS) (K : XE → SS → Prop) : Prop :=
  if memN l s.r then False else match s.h[l]? with
  | some (.loop .ready none _ _ _ _) => K .normal { s with h := s.h.set l .free }
  | some (.loop .done none _ _ _ _) => K .normal { s with h := s.h.set l .free }
  | some (.loop .done (some .ret) _ _ _ _) => K .ret { s with h := s.h.set l .free }
  | some (.loop .done (some (.exit id)) _ _ _ _) => K (.exit id) { s with h := s.h.set l .free }
  | _ => False
section
variable {P : Program} {s : SS}
theorem leaveS_spec {l : Nat} {K : XE → SS → Prop} (h : leaveS l s K) : l ∉ s.r ∧ ∃ st p t ps a b, s.h[l]? = some (.loop st p t ps a b) ∧ st ≠ .busy ∧
    ((p = none ∧ K .normal { s with h := s.h.set l .free }) ∨ (p = some .ret ∧ K .ret { s with h := s.h.set l .free }) ∨ (∃ id, p = some (.exit id) ∧ K (.exit id) { s with h := s.h.set l .free })) := by
  unfold leaveS at h
  split at h
  · exact h.elim
  rename_i hm
  refine ⟨fun hm' => hm (memN_iff.2 hm'), ?_⟩
  split at h
  · rename_i t ps a b hh; exact ⟨.ready, none, t, ps, a, b, hh, by simp, .inl ⟨rfl, h⟩⟩
  · rename_i t ps a b hh; exact ⟨.done, none, t, ps, a, b, hh, by simp, .inl ⟨rfl, h⟩⟩
  · rename_i t ps a b hh; exact ⟨.done, _, t, ps, a, b, hh, by simp, .inr (.inl ⟨rfl, h⟩)⟩
  · rename_i id t ps a b hh; exact ⟨.done, _, t, ps, a, b, hh, by simp, .inr (.inr ⟨id, rfl, h⟩)⟩
  · exact h.elim
theorem alloc_alloc (s : SS) (A B : SB) : alloc B (alloc A s) = { s with h := s.h ++ [A, B] } := by simp [alloc]
theorem range_rule {f : XO} {ps : List Nat} {asg body : XC} {K : XE → SS → Prop} {g : Nat} {cs : List SV} (hf : ev s f = .fn g cs) (hrd : s.rd = none) (hsc : scS s True) (hsc2 : scS { s with h := s.h ++ [.defd] } True) (hnr : memN s.h.length s.r = false)
    (h : CallX P g (.yield (s.h.length + 1) :: cs) (enterS ps asg body s) (fun _ s' => leaveS (s.h.length + 1) s' K) (fun _ _ => False)) : WX P (.range f ps asg body) s K := by
  refine ⟨fun c hc σ w hok => ?_⟩
  have hcl : ∃ f' ps' ca cb, c = .rangeFunc f' ps' ca cb ∧ cO f' = some f ∧ compile P ca = some asg ∧ compile P cb = some body ∧ ps'.toList = ps := by
    cases c
    case rangeFunc f' ps' ca cb =>
      simp only [compile] at hc
      split at hc
      · rename_i f1 a1 b1 h1 h2 h3
        simp only [Option.some.injEq, XC.range.injEq] at hc
        obtain ⟨rfl, rfl, rfl, rfl⟩ := hc
        exact ⟨f', ps', ca, cb, rfl, h1, h2, h3, rfl⟩
      · cases hc
    case region id ops d => cases d <;> simp only [compile] at hc <;> (repeat' split at hc) <;> simp at hc
    all_goals simp only [compile] at hc
    all_goals first | (cases hc; done) | ((repeat' split at hc) <;> simp at hc; done)
  obtain ⟨f', ps', ca, cb, rfl, hf', hca, hcb, hps⟩ := hcl
  have hr0 : rOf σ s = none := by simp [rOf, hrd]
  rw [hr0]
  refine wpIn_rangeFunc (fun fn _ => ?_)
  -- the two blocks
  obtain ⟨k1, k2, k3⟩ := hok.new (B := .defd) (p := some (w.heap.size, 0)) (w' := w.alloc (.deferred (some []))) hsc (Grew.alloc w _) (fun q hq => by cases hq; simp [World.size_alloc]) ⟨w.heap.size, rfl, World.alloc_heap_new w _⟩
  generalize hσ1 : more σ s.h.length (some (w.heap.size, 0)) = σ1 at *
  generalize hw1 : w.alloc (.deferred (some [])) = w1 at *
  have hsz1 : w1.heap.size = w.heap.size + 1 := by rw [← hw1]; simp [World.size_alloc]
  have hrec : holds P (more σ1 (alloc .defd s).h.length (some (w1.heap.size, 0))) (some (w1.heap.size, 0)) (w1.alloc (.loop { state := .ready, pending := none, fn := fn, tmps := (act σ s).tmps, params := ps', assign := ca, body := cb, defers := w.heap.size }))
      (.loop .ready none s.t ps asg body) := by
    refine ⟨w1.heap.size, fn, ca, cb, w.heap.size, rfl, hca, hcb, ?_⟩
    rw [World.alloc_heap_new]
    have ht : denL (more σ1 (alloc .defd s).h.length (some (w1.heap.size, 0))) s.t = denL σ s.t := by
      refine sc_denL (n := s.h.length) (fun i hi => ?_) s.t (scS_t hsc)
      rw [more_old (by simp [alloc]; omega), ← hσ1, more_old hi]
    simp only [ht, lst, Option.bind_none, act, ← hps]
  obtain ⟨m1, m2, m3⟩ := k1.new (B := .loop .ready none s.t ps asg body) (p := some (w1.heap.size, 0)) (by simpa [alloc] using hsc2) (Grew.alloc w1 _) (fun q hq => by cases hq; simp [World.size_alloc]) hrec
  rw [alloc_alloc] at m1 m2 m3
  generalize hσ2 : more σ1 (alloc .defd s).h.length (some (w1.heap.size, 0)) = σ2 at *
  generalize hw2 : w1.alloc (.loop { state := .ready, pending := none, fn := fn, tmps := (act σ s).tmps, params := ps', assign := ca, body := cb, defers := w.heap.size }) = w2 at *
  have hl1 : (alloc .defd s).h.length = s.h.length + 1 := by simp [alloc]
  have hσd : σ2 s.h.length = some (w.heap.size, 0) := by rw [← hσ2, more_old (by omega), ← hσ1, more_new]
  have hσl : σ2 (s.h.length + 1) = some (w.heap.size + 1, 0) := by rw [← hσ2, ← hl1, more_new, hsz1]
  have hokE : Ok P σ2 (enterS ps asg body s) w2 := by
    refine ⟨m1.lt, m1.ne, m1.blk, fun l hl => ?_, fun l hl => by simp only [enterS] at hl; rw [hrd] at hl; cases hl⟩
    rcases List.mem_cons.1 hl with rfl | hl
    · refine ⟨fun hm => ?_, by simp [enterS]⟩
      have := memN_iff.2 hm
      simp only [enterS] at this
      rw [hnr] at this; cases this
    · exact m1.marks l hl
  have hstE : Step σ s w σ2 (enterS ps asg body s) w2 := by
    have := k2.trans m2
    exact ⟨this.size, this.os, this.tape, this.output, this.far, this.len, this.names, this.red, this.own, this.rd⟩
  have hactE : act σ2 (enterS ps asg body s) = { (act σ s) with defers := [{ target := .collected w.heap.size, args := #[] }] ++ (act σ s).defers } := by
    have h0 := m3.trans k3
    have ht : (act σ2 { s with h := s.h ++ [.defd, .loop .ready none s.t ps asg body] }).tmps = (act σ s).tmps := by rw [h0]
    have hd : (act σ2 { s with h := s.h ++ [.defd, .loop .ready none s.t ps asg body] }).defers = (act σ s).defers := by rw [h0]
    have e1 : (act σ2 (enterS ps asg body s)).tmps = (act σ s).tmps := ht
    have e2 : (act σ2 (enterS ps asg body s)).defers = mark σ2 s.h.length :: (act σ s).defers := by rw [← hd]; rfl
    have e3 : mark σ2 s.h.length = { target := .collected w.heap.size, args := #[] } := by simp [mark, hσd]
    cases hE : act σ2 (enterS ps asg body s) with
    | mk tm df => rw [hE] at e1 e2; simp only at e1 e2; rw [e1, e2, e3]; rfl
  have hcs : denL σ cs = denL σ2 cs := by
    have hsv : scV s.h.length (ev s f) = true := sc_ev hf' hsc
    rw [hf] at hsv
    refine (sc_denL (n := s.h.length) (fun i hi => ?_) cs (by simpa [scV] using hsv)).symm
    rw [← hσ2, more_old (by omega), ← hσ1, more_old hi]
  have hevf : (act σ s).eval f' = .func (.func g) #[] (denL σ cs).toArray := by rw [ev_den hf', hf]; rfl
  have hargs : (denL σ2 (.yield (s.h.length + 1) :: cs)).toArray = #[.func (.yield (w.heap.size + 1)) #[] #[]] ++ (denL σ cs).toArray := by
    simp [denL, den, hσl, hcs]
  refine ⟨w.heap.size + 1, [{ target := .collected w.heap.size, args := #[] }], w2, { target := .fn (.func g) (denL σ cs).toArray, args := #[.func (.yield (w.heap.size + 1)) #[] #[]] }, w2, g, (denL σ2 (.yield (s.h.length + 1) :: cs)).toArray, w2, ?_, ?_, fun _ _ => trivial, ?_, (fun hd => by cases hd), ?_⟩
  · rw [← hw2, ← hw1]
    exact run_enterLoop_outer fn _ ps' ca cb
  · have hcst : (act σ s).eval (.const (.func (.yield (w.heap.size + 1)) #[] #[])) = .func (.yield (w.heap.size + 1)) #[] #[] := rfl
    simp only [resolve, rangeCall, hevf, Deferred.ofValue, List.map_toArray, List.map_cons, List.map_nil, hcst]
    simp
  · rw [hargs]
    simp [invoke, h.go]
  · have hc := h.out σ2 w2 hokE
    have hrE : rOf σ2 (enterS ps asg body s) = none := by rw [rOf_eq hok hokE hstE, hr0]
    rw [hrE] at hc
    refine hc.mono ?_
    rintro e w3 ⟨σ3, s3, q1, q2, q3, q4⟩
    cases e with
    | panicked ch => obtain ⟨v, hv, _⟩ := q4; exact hv.elim
    | outgrown => exact q4.elim
    | returned v =>
      obtain ⟨v', hK, rfl⟩ := q4
      obtain ⟨hnl, st, p, t, ps3, a3, b3, hl3, hst3, hK⟩ := leaveS_spec hK
      obtain ⟨b, fn3, ca3, cb3, d3, hσ3, _, _, hh3⟩ := q1.blk _ _ hl3
      have hσ3' : σ3 (s.h.length + 1) = some (w.heap.size + 1, 0) := by rw [q2.names _ (by simp [enterS]) hnl, hσl]
      rw [hσ3'] at hσ3
      obtain rfl : w.heap.size + 1 = b := by simpa using hσ3
      refine ⟨p.bind jump, _, run_endLoop hh3 (by cases st <;> simp [lst] at *), ?_⟩
      have hndl : ∀ l, l ∈ s3.d → l ∈ s3.d ∧ l ≠ s.h.length + 1 := fun l hl => ⟨hl, fun e => by
        have := (q1.marks l hl).2
        rw [e, hl3] at this; cases this⟩
      have hrd3 : s3.rd = none := by rw [(hstE.trans q2).rd, hrd]
      obtain ⟨f1, f2⟩ := q1.freed (w' := w3.putObj (w.heap.size + 1) (.loop { state := .exhausted, pending := p.bind jump, fn := fn3, tmps := (denL σ3 t).toArray, params := ps3.toArray, assign := ca3, body := cb3, defers := d3 })) (ds := s3.d) hl3 rfl hσ3' hndl (by rw [hrd3]; simp)
        (fun k hk => World.putObj_heap_other hk) World.putObj_size rfl rfl rfl
      have hfin := (hstE.trans q2).trans f2
      have hact : act σ3 { s3 with h := s3.h.set (s.h.length + 1) .free } = { (act σ s) with defers := [{ target := .collected w.heap.size, args := #[] }] ++ (act σ s).defers } := q3.trans hactE
      rcases hK with ⟨rfl, hK⟩ | ⟨rfl, hK⟩ | ⟨id, rfl, hK⟩
      · exact ⟨_, σ3, _, hK, f1, hfin, hact.symm⟩
      · exact wpIn_ret ⟨_, σ3, _, hK, f1, hfin, hact.symm⟩
      · exact wpIn_exit ⟨.exit id, σ3, _, hK, f1, hfin, rfl, hact.symm⟩
end
end Go.Sx
