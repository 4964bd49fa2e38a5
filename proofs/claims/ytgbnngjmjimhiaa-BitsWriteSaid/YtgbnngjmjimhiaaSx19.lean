/-
  The engine, part 19: a range over a function; a call of yield.
-/
import Derived.Test.YtgbnngjmjimhiaaSx18
namespace Go.Sx
open Go

def setP : List SV → List Nat → List SV → List SV
  | t, p :: ps, v :: vs => setP (t.set p v) ps vs
  | t, _, _ => t
/-- The record is as it is ahead of a round. -/
def ready (h : List SB) (l : Nat) (K : List SV → List Nat → XC → XC → Prop) : Prop :=
  match h[l]? with
  | some (.loop .ready none t ps a b) => K t ps a b
  | _ => False
/-- A round's end: the record, what yield hands back. -/
def endR (l : Nat) (e : XE) (s2 : SS) (K : Bool → List SB → Prop) : Prop :=
  match s2.h[l]? with
  | some (.loop _ _ t ps a b) => (match e with
    | .normal => K true (s2.h.set l (.loop .ready none t ps a b))
    | .ret => K false (s2.h.set l (.loop .done (some .ret) t ps a b))
    | .exit id => K false (s2.h.set l (.loop .done (some (.exit id)) t ps a b))
    | .panic _ => False)
  | _ => False
def roundS (l : Nat) (t : List SV) (ps : List Nat) (args : List SV) (s : SS) : SS := { t := setP t ps args, h := s.h, r := [], d := [], rd := some l }
section
variable {P : Program} {σ : Names} {s : SS} {w : World}

/-- Back in a frame. -/
theorem back_sound {σ' : Names} {H' : List SB} {R : List Nat} {w' : World} (hok : Ok P σ s w) (hsc : scL s.h.length s.t = true) (hok' : Ok P σ' (small H' R) w') (hst : Step σ (small s.h []) w σ' (small H' R) w')
    (hkd : ∀ l ∈ s.d, l ∉ R ∧ H'[l]? = some .defd) (hkr : ∀ l, s.rd = some l → l ∉ R ∧ ∃ B, H'[l]? = some B ∧ isLoop B = true) :
    Ok P σ' (back H' R (fun i => den σ (s.t.getD i .undef)) s) w' ∧ Step σ s w σ' (back H' R (fun i => den σ (s.t.getD i .undef)) s) w' ∧ act σ' (back H' R (fun i => den σ (s.t.getD i .undef)) s) = act σ s := by
  have hlt : ∀ l, l ∈ s.d → l < s.h.length := fun l hl => (List.getElem?_eq_some_iff.1 (hok.marks l hl).2).1
  refine ⟨?_, ?_, ?_⟩
  · refine ⟨hok'.lt, hok'.ne, hok'.blk, fun l hl => ⟨?_, (hkd l hl).2⟩, fun l hl => ⟨?_, (hkr l hl).2⟩⟩
    · intro hm
      rcases mem_addAll.1 hm with hm | hm
      · exact (hkd l hl).1 hm
      · exact (hok.marks l hl).1 hm
    · intro hm
      rcases mem_addAll.1 hm with hm | hm
      · exact (hkr l hl).1 hm
      · exact (hok.rnd l hl).1 hm
  · exact ⟨hst.size, hst.os, hst.tape, hst.output, hst.far, hst.len, fun i hi hr => hst.names i hi (fun hm => hr (mem_addAll.2 (.inl hm))), fun i hi => mem_addAll.2 (.inr hi), hst.own, rfl⟩
  · unfold act
    simp only [back]
    rw [denL_back hsc (fun i hi hr => hst.names i hi hr)]
    congr 1
    apply List.map_congr_left
    intro l hl
    unfold mark
    rw [hst.names l (hlt l hl) (hkd l hl).1]
theorem setP_den (σ : Names) : ∀ (ps : List Nat) (args t : List SV), (List.zip ps (denL σ args)).foldl (fun (tmps : Array Value) (p : Nat × Value) => tmps.setIfInBounds p.1 p.2) (denL σ t).toArray = (denL σ (setP t ps args)).toArray
  | [], args, t => by cases args <;> rfl
  | p :: ps, [], t => rfl
  | p :: ps, v :: vs, t => by
    simp only [denL, List.zip_cons_cons, List.foldl_cons, setP]
    rw [← setP_den σ ps vs (t.set p v)]
    congr 1
    simp [denL_eq, List.map_set]
theorem ready_spec {h : List SB} {l : Nat} {K : List SV → List Nat → XC → XC → Prop} (hr : ready h l K) : ∃ t ps a b, h[l]? = some (.loop .ready none t ps a b) ∧ K t ps a b := by
  unfold ready at hr
  split at hr
  · rename_i t ps a b hh
    exact ⟨t, ps, a, b, hh, hr⟩
  · exact hr.elim
theorem endR_spec {l : Nat} {e : XE} {s2 : SS} {K : Bool → List SB → Prop} (h : endR l e s2 K) : ∃ st p t ps a b, s2.h[l]? = some (.loop st p t ps a b) ∧
    ((e = .normal ∧ K true (s2.h.set l (.loop .ready none t ps a b))) ∨ (e = .ret ∧ K false (s2.h.set l (.loop .done (some .ret) t ps a b))) ∨ (∃ id, e = .exit id ∧ K false (s2.h.set l (.loop .done (some (.exit id)) t ps a b)))) := by
  unfold endR at h
  split at h
  · rename_i st p t ps a b hh
    refine ⟨st, p, t, ps, a, b, hh, ?_⟩
    cases e with
    | normal => exact .inl ⟨rfl, h⟩
    | ret => exact .inr (.inl ⟨rfl, h⟩)
    | exit id => exact .inr (.inr ⟨id, rfl, h⟩)
    | panic v => exact h.elim
  · exact h.elim
theorem loop_update {l b : Nat} {st st' : LSt} {p p' : Option XE} {t : List SV} {ps : List Nat} {a c : XC} {fn : FuncId} {ca cb : Code} {d : Nat} (hok : Ok P σ s w) (hl : s.h[l]? = some (.loop st p t ps a c)) (hσ : σ l = some (b, 0))
    (ha : compile P ca = some a) (hc : compile P cb = some c) :
    Ok P σ { s with h := s.h.set l (.loop st' p' t ps a c) } (w.putObj b (.loop { state := lst st', pending := p'.bind jump, fn, tmps := (denL σ t).toArray, params := ps.toArray, assign := ca, body := cb, defers := d })) ∧
    Step σ s w σ { s with h := s.h.set l (.loop st' p' t ps a c) } (w.putObj b (.loop { state := lst st', pending := p'.bind jump, fn, tmps := (denL σ t).toArray, params := ps.toArray, assign := ca, body := cb, defers := d })) := by
  have hlt := hok.lt l _ (List.getElem?_eq_some_iff.1 hl).1 hσ
  exact hok.update hl rfl hσ rfl (fun e => by cases e) (fun _ => rfl) (fun k hk => World.putObj_heap_other hk) World.putObj_size rfl rfl rfl ⟨b, fn, ca, cb, d, rfl, ha, hc, World.putObj_heap_same hlt⟩
theorem yield_rule {l : Nat} {args : List SV} {K : SV → SS → Prop} {X : XE → SS → Prop} (hm : P.follows .mixedOrders = true) (hsc : scL s.h.length s.t = true)
    (h : ready s.h l (fun t ps asg body => args.length = ps.length ∧ ex std P asg (roundS l t ps args s) (fun e s1 => match e with
      | .normal => ready s1.h l (fun t1 ps1 a1 b1 => ex std P body { s1 with h := s1.h.set l (.loop .busy none t1 ps1 a1 b1) } (fun e2 s2 => endR l e2 s2 (fun v H => InlPost s K (.bool v) H s2.r)))
      | _ => False))) : YieldX P l args s K X := by
  refine ⟨fun σ w hok => ?_⟩
  obtain ⟨t, ps, asg, body, hl, hal, h⟩ := ready_spec h
  obtain ⟨b, fn, ca, cb, d, hσ, hca, hcb, hh⟩ := hok.blk l _ hl
  have hσb : ((σ l).map (·.1)).getD 0 = b := by rw [hσ]; rfl
  rw [hσb]
  refine ⟨fn, (ps.toArray.zip (denL σ args).toArray).foldl (fun tmps (t, a) => tmps.setIfInBounds t a) (denL σ t).toArray, ca, cb, ?_, ?_⟩
  · have hy := run_yield (P := P) (args := (denL σ args).toArray) hh (by simp [denL_len, hal])
    simp only [invoke]
    exact hy
  · have hok0 : Ok P σ (roundS l t ps args s) w := ⟨hok.lt, hok.ne, hok.blk, (fun l hl => by cases hl), fun l' hl' => ⟨(by simp [roundS]), by simp only [roundS, Option.some.injEq] at hl'; subst hl'; exact ⟨_, hl, rfl⟩⟩⟩
    have ha0 : act σ (roundS l t ps args s) = { tmps := (ps.toArray.zip (denL σ args).toArray).foldl (fun tmps (t, a) => tmps.setIfInBounds t a) (denL σ t).toArray, defers := [] } := by
      unfold act roundS
      simp only [List.map_nil]
      rw [← setP_den]
      congr 1
      simp [← Array.foldl_toList]
    have hr0 : rOf σ (roundS l t ps args s) = some b := by simp [rOf, roundS, hσ]
    refine roundIn_of_wpIn trivial ?_
    have hF : (FR (rOf σ s)).inRound b = FR (some b) := rfl
    rw [hF, ← hr0, ← ha0]
    refine ex_sound (draw_law hm) ca asg σ (roundS l t ps args s) w _ _ hca h hok0 (fun e' e σ1 s1 a1 w1 hK hok1 hst1 he => ?_)
    cases e' <;> cases e <;> simp only [exitOk] at he <;> simp only at hK
    subst he
    obtain ⟨t1, ps1, a1, b1, hl1, hK⟩ := ready_spec hK
    have hrd1 : s1.rd = some l := hst1.rd
    have hσ1 : σ1 l = some (b, 0) := by
      rw [hst1.names l (List.getElem?_eq_some_iff.1 hl).1 (hok1.rnd l hrd1).1]; exact hσ
    obtain ⟨b', fn1, ca1, cb1, d1, hσ1', hca1, hcb1, hh1⟩ := hok1.blk l _ hl1
    rw [hσ1] at hσ1'
    obtain rfl : b = b' := by simpa using hσ1'
    refine ⟨_, run_beginRound hh1 rfl, ?_⟩
    have hup := loop_update (st' := .busy) (p' := none) (fn := fn1) (d := d1) hok1 hl1 hσ1 hca1 hcb1
    have ha1 : act σ1 { s1 with h := s1.h.set l (.loop .busy none t1 ps1 a1 b1) } = act σ1 s1 := rfl
    have hr1 : rOf σ1 { s1 with h := s1.h.set l (.loop .busy none t1 ps1 a1 b1) } = some b := by simp [rOf, hrd1, hσ1]
    rw [hr0, ← hr1, ← ha1]
    refine ex_sound (draw_law hm) cb body σ1 _ _ _ _ hcb hK hup.1 (fun e' e σ2 s2 a2 w2 hK hok2 hst2 he => ?_)
    obtain ⟨st2, p2, t2, ps2, a2', b2', hl2, hE⟩ := endR_spec hK
    have hst02 : Step σ (roundS l t ps args s) w σ2 s2 w2 := (hst1.trans hup.2).trans hst2
    have hrd2 : s2.rd = some l := hst02.rd
    have hσ2 : σ2 l = some (b, 0) := by
      rw [hst02.names l (List.getElem?_eq_some_iff.1 hl).1 (hok2.rnd l hrd2).1]; exact hσ
    obtain ⟨b', fn2, ca2, cb2, d2, hσ2', hca2, hcb2, hh2⟩ := hok2.blk l _ hl2
    rw [hσ2] at hσ2'
    obtain rfl : b = b' := by simpa using hσ2'
    have fin : ∀ (st' : LSt) (p' : Option XE) (v : Bool), InlPost s K (.bool v) (s2.h.set l (.loop st' p' t2 ps2 a2' b2')) s2.r →
        CPost P σ s w K X (.returned (.bool v)) (w2.putObj b (.loop { state := lst st', pending := p'.bind jump, fn := fn2, tmps := (denL σ2 t2).toArray, params := ps2.toArray, assign := ca2, body := cb2, defers := d2 })) := by
      intro st' p' v hP
      have hup2 := loop_update (st' := st') (p' := p') (fn := fn2) (d := d2) hok2 hl2 hσ2 hca2 hcb2
      obtain ⟨hP, hkd⟩ := keepD_spec (hP (fun i => den σ (s.t.getD i .undef)))
      obtain ⟨hP, hkr⟩ := keepR_spec hP
      have hs := hst02.trans hup2.2
      obtain ⟨k1, k2, k3⟩ := back_sound (σ' := σ2) (H' := s2.h.set l (.loop st' p' t2 ps2 a2' b2')) (R := s2.r) hok hsc ⟨hup2.1.lt, hup2.1.ne, hup2.1.blk, (fun l hl => by cases hl), (fun l hl => by cases hl)⟩
        ⟨hs.size, hs.os, hs.tape, hs.output, hs.far, hs.len, hs.names, hs.red, hs.own, rfl⟩ hkd hkr
      exact ⟨σ2, _, k1, k2, k3, .bool v, hP, rfl⟩
    clear hK
    rcases hE with ⟨rfl, hE⟩ | ⟨rfl, hE⟩ | ⟨id, rfl, hE⟩
    · cases e <;> simp only [exitOk] at he
      exact ⟨_, _, run_endRound none hh2, fin .ready none true hE⟩
    · cases e <;> simp only [exitOk] at he
      exact ⟨_, _, run_endRound (some .ret) hh2, fin .done (some .ret) false hE⟩
    · cases e <;> simp only [exitOk] at he
      obtain ⟨rfl, he⟩ := he
      exact ⟨_, _, run_endRound (some (.exit id)) hh2, fin .done (some (.exit id)) false hE⟩
end
end Go.Sx
