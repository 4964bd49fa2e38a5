/-
  The engine, part 18: a state seen as another; loops.
-/
import Derived.Test.YtgbnngjmjimhiaaSx17
import Derived.LoopNIn
namespace Go.Sx
open Go

/-- The state s may be seen as a state of S. (n0: so many names stay.) -/
structure Cv (P : Program) (n0 : Nat) (s : SS) (S : SS → Prop) : Prop where
  out : ∀ σ0 s0 w0 σ w, s0.h.length ≤ n0 → Ok P σ s w → Step σ0 s0 w0 σ s w → ∃ σ2 s2, S s2 ∧ Ok P σ2 s2 w ∧ Step σ0 s0 w0 σ2 s2 w ∧ act σ2 s2 = act σ s ∧ (n0 ≤ s.h.length → ∀ i, i < n0 → σ2 i = σ i)
/-- Some temporaries are forgotten. -/
def havL (D : List Nat) (js : Nat → Value) : Nat → List SV → List SV
  | _, [] => []
  | i, v :: l => (if memN i D then .val (js i) else v) :: havL D js (i + 1) l
def hav (D : List Nat) (js : Nat → Value) (s : SS) : SS := { s with t := havL D js 0 s.t }
def cutH (m : Nat) (s : SS) : SS := { s with h := s.h.take m }
def subR : List Nat → List Nat → Bool
  | [], _ => true
  | n :: l, R => if memN n R then subR l R else false
def nilB (b j t : Nat) (k : IntKind) (s : SS) : SS :=
  { s with h := (match s.h[b]? with
    | some (.one ty row) => s.h.set b (.one ty (row.set j (.slice s.h.length .z 1 0 0)))
    | _ => s.h) ++ [.buf t k [] 0] }
def isNil (v : SV) : Bool :=
  match v with
  | .val (.slice none 0 0) => true
  | _ => false
def nilAt (b j : Nat) (s : SS) : Bool :=
  match s.h[b]? with
  | some (.one _ row) => (match row[j]? with
    | some v => isNil v
    | none => false)
  | _ => false
def nilT (j t : Nat) (k : IntKind) (s : SS) : SS := { s with t := s.t.set j (.slice s.h.length .z 1 0 0), h := s.h ++ [.buf t k [] 0] }
def nilTAt (j : Nat) (s : SS) : Bool :=
  match s.t[j]? with
  | some v => isNil v
  | none => false
section
variable {P : Program} {s : SS} {S : SS → Prop} {n0 : Nat}
theorem Cv.here (h : S s) : Cv P n0 s S := ⟨fun _ _ _ σ w _ hok hst => ⟨σ, s, h, hok, hst, rfl, fun _ _ _ => rfl⟩⟩
theorem Cv.mono {S' : SS → Prop} (h : Cv P n0 s S) (hS : ∀ s, S s → S' s) : Cv P n0 s S' :=
  ⟨fun σ0 s0 w0 σ w hn hok hst => let ⟨σ2, s2, h1, h2⟩ := h.out σ0 s0 w0 σ w hn hok hst; ⟨σ2, s2, hS _ h1, h2⟩⟩
theorem havL_den {D : List Nat} {σ : Names} {js : Nat → Value} : ∀ (l : List SV) (i : Nat), (∀ k v, l[k]? = some v → js (i + k) = den σ v) → denL σ (havL D js i l) = denL σ l
  | [], _, _ => rfl
  | v :: l, i, h => by
    simp only [havL, denL]
    rw [havL_den l (i + 1) (fun k u hk => by rw [← h (k + 1) u (by simpa using hk)]; congr 1; omega)]
    congr 1
    split
    · simpa [den] using h 0 v rfl
    · rfl
theorem Cv.hav (D : List Nat) (h : ∀ js, Cv P n0 (hav D js s) S) : Cv P n0 s S := by
  refine ⟨fun σ0 s0 w0 σ w hn hok hst => ?_⟩
  have ha : act σ (Sx.hav D (fun k => den σ (s.t.getD k .undef)) s) = act σ s := by
    unfold act
    simp only [Sx.hav]
    rw [havL_den s.t 0 (fun k v hv => by simp [List.getD, hv])]
  obtain ⟨σ2, s2, h1, h2, h3, h4, h5⟩ := (h (fun k => den σ (s.t.getD k .undef))).out σ0 s0 w0 σ w hn ⟨hok.lt, hok.ne, hok.blk, hok.marks, hok.rnd⟩
    ⟨hst.size, hst.os, hst.tape, hst.output, hst.far, hst.len, hst.names, hst.red, hst.own, hst.rd⟩
  exact ⟨σ2, s2, h1, h2, h3, h4.trans ha, h5⟩
theorem Cv.cut (m : Nat) (hm : n0 ≤ m) (hle : m ≤ s.h.length) (hd : keepD [] (s.h.take m) s.d (keepR [] (s.h.take m) s.rd True)) (h : Cv P n0 (cutH m s) S) : Cv P n0 s S := by
  refine ⟨fun σ0 s0 w0 σ w hn hok hst => ?_⟩
  obtain ⟨hd, h1⟩ := keepD_spec hd
  obtain ⟨_, h2⟩ := keepR_spec hd
  have hget : ∀ i B, (s.h.take m)[i]? = some B → s.h[i]? = some B := fun i B hB => by
    rw [List.getElem?_take] at hB
    split at hB
    · exact hB
    · cases hB
  obtain ⟨σ2, s2, k1, k2, k3, k4, k5⟩ := h.out σ0 s0 w0 σ w hn ⟨fun i p hi hp => hok.lt i p (by simp [cutH] at hi; omega) hp, fun i j B C p q hij hB hC => hok.ne i j B C p q hij (hget _ _ hB) (hget _ _ hC), fun i B hB => hok.blk i B (hget _ _ hB),
      fun l hl => ⟨(hok.marks l hl).1, (h1 l hl).2⟩, fun l hl => ⟨(hok.rnd l hl).1, (h2 l hl).2⟩⟩
    ⟨hst.size, hst.os, hst.tape, hst.output, hst.far, by simp [cutH]; omega, hst.names, hst.red, fun i B p hB => hst.own i B p (hget _ _ hB), hst.rd⟩
  exact ⟨σ2, s2, k1, k2, k3, k4, fun _ => k5 (by simp [cutH]; omega)⟩
theorem subR_spec : ∀ {l R : List Nat}, subR l R = true → ∀ i ∈ l, i ∈ R
  | [], R, _, i, hi => by cases hi
  | n :: l, R, h, i, hi => by
    simp only [subR] at h
    split at h
    · rename_i hn
      rcases List.mem_cons.1 hi with rfl | hi
      · exact memN_iff.1 hn
      · exact subR_spec h i hi
    · cases h
theorem Cv.red (R : List Nat) (hR : subR s.r R = true) (hd : keepD R s.h s.d (keepR R s.h s.rd True)) (h : Cv P n0 { s with r := R } S) : Cv P n0 s S := by
  refine ⟨fun σ0 s0 w0 σ w hn hok hst => ?_⟩
  obtain ⟨hd, h1⟩ := keepD_spec hd
  obtain ⟨_, h2⟩ := keepR_spec hd
  exact h.out σ0 s0 w0 σ w hn ⟨hok.lt, hok.ne, hok.blk, h1, h2⟩
    ⟨hst.size, hst.os, hst.tape, hst.output, hst.far, hst.len, fun i hi hr => hst.names i hi (fun h => hr (subR_spec hR i h)), fun i hi => subR_spec hR i (hst.red i hi), hst.own, hst.rd⟩
theorem denL_set {σ : Names} {j : Nat} {v u : SV} : ∀ {l : List SV}, l[j]? = some v → den σ u = den σ v → denL σ (l.set j u) = denL σ l := by
  intro l hl hd
  rw [denL_eq, denL_eq, List.map_set, hd]
  refine List.ext_getElem? fun i => ?_
  rw [List.getElem?_set]
  split
  · rename_i hi; subst hi
    split
    · rename_i hlt; simp [hl]
    · rename_i hlt; simp at hlt; simp [hlt]
  · rfl
theorem isNil_eq {v : SV} (h : isNil v = true) : v = .val (.slice none 0 0) := by
  unfold isNil at h
  split at h
  · rfl
  · cases h
theorem den_nil (σ : Names) (n : Nat) : den (more σ n none) (.slice n .z 1 0 0) = den (more σ n none) (.val (.slice none 0 0)) := by simp [den, more]
theorem Cv.nilB (b j t : Nat) (k : IntKind) (hat : nilAt b j s = true) (hsc : scS s True) (h : Cv P n0 (nilB b j t k s) S) : Cv P n0 s S := by
  refine ⟨fun σ0 s0 w0 σ w hn hok hst => ?_⟩
  obtain ⟨h1, h2, h3⟩ := hok.new (B := .buf t k [] 0) (p := none) hsc ⟨Nat.le_refl _, rfl, rfl, rfl, fun _ _ => rfl⟩ (fun q hq => by cases hq) (.inl ⟨rfl, rfl, rfl⟩)
  unfold nilAt at hat
  split at hat
  rotate_left
  · cases hat
  rename_i ty row hb
  split at hat
  rotate_left
  · cases hat
  rename_i v hv
  have hv' := isNil_eq hat
  subst hv'
  have hbl : b < s.h.length := (List.getElem?_eq_some_iff.1 hb).1
  have hb' : (alloc (.buf t k [] 0) s).h[b]? = some (.one ty row) := by simp only [alloc]; rw [List.getElem?_append_left hbl]; exact hb
  obtain ⟨g, hg, hh⟩ := h1.blk b _ hb'
  obtain ⟨h4, h5⟩ := h1.update (B' := .one ty (row.set j (.slice s.h.length .z 1 0 0))) hb' rfl hg rfl (fun e => by cases e) (fun e => by cases e) (fun _ _ => rfl) rfl rfl rfl rfl
    ⟨g, rfl, by rw [denL_set hv (den_nil σ s.h.length)]; exact hh⟩
  have he : ({ alloc (.buf t k [] 0) s with h := (alloc (.buf t k [] 0) s).h.set b (.one ty (row.set j (.slice s.h.length .z 1 0 0))) } : SS) = Sx.nilB b j t k s := by
    simp only [Sx.nilB, hb, alloc]
    rw [List.set_append_left _ _ hbl]
  rw [he] at h4 h5
  obtain ⟨σ2, s2, k1, k2, k3, k4, k5⟩ := h.out σ0 s0 w0 _ w hn h4 (hst.trans (h2.trans h5))
  refine ⟨σ2, s2, k1, k2, k3, k4.trans h3, fun hl i hi => (k5 (by rw [← he]; simp [alloc]; omega) i hi).trans (more_old (by omega))⟩
theorem Cv.nilT (j t : Nat) (k : IntKind) (hat : nilTAt j s = true) (hsc : scS s True) (h : Cv P n0 (nilT j t k s) S) : Cv P n0 s S := by
  refine ⟨fun σ0 s0 w0 σ w hn hok hst => ?_⟩
  obtain ⟨h1, h2, h3⟩ := hok.new (B := .buf t k [] 0) (p := none) hsc ⟨Nat.le_refl _, rfl, rfl, rfl, fun _ _ => rfl⟩ (fun q hq => by cases hq) (.inl ⟨rfl, rfl, rfl⟩)
  unfold nilTAt at hat
  split at hat
  rotate_left
  · cases hat
  rename_i v hv
  have hv' := isNil_eq hat
  subst hv'
  obtain ⟨σ2, s2, k1, k2, k3, k4, k5⟩ := h.out σ0 s0 w0 (more σ s.h.length none) w hn ⟨h1.lt, h1.ne, h1.blk, h1.marks, h1.rnd⟩
    (hst.trans ⟨h2.size, h2.os, h2.tape, h2.output, h2.far, h2.len, h2.names, h2.red, h2.own, h2.rd⟩)
  refine ⟨σ2, s2, k1, k2, k3, k4.trans ?_, fun hl i hi => (k5 (by simp [Sx.nilT]; omega) i hi).trans (more_old (by omega))⟩
  rw [← h3]
  unfold act
  simp only [Sx.nilT, alloc]
  rw [denL_set hv (den_nil σ s.h.length)]
theorem WX.cv {x : XC} {K : XE → SS → Prop} (h : Cv P s.h.length s (fun s2 => WX P x s2 K)) : WX P x s K := by
  refine ⟨fun c hc σ w hok => ?_⟩
  obtain ⟨σ2, s2, h1, h2, h3, h4, _⟩ := h.out σ s w σ w (Nat.le_refl _) hok (Step.refl σ s w)
  have := h1.out c hc σ2 w h2
  rw [rOf_eq hok h2 h3, h4] at this
  refine wpIn_mono this (fun e a w' hp => ?_)
  obtain ⟨e', σ', s', k1, k2, k3, k4⟩ := hp
  exact ⟨e', σ', s', k1, k2, h3.trans k3, k4⟩
theorem CallX.cv {f : Nat} {args : List SV} {K : SV → SS → Prop} {X : XE → SS → Prop} (hgo : ∀ (xs : Array Value) (w : World), (callFunc f xs).run P w = .ok (.enter f xs) w)
    (h : Cv P s.h.length s (fun s2 => CallX P f args s2 K X)) (hsc : scL s.h.length args = true) : CallX P f args s K X := by
  refine ⟨hgo, fun σ w hok => ?_⟩
  obtain ⟨σ2, s2, h1, h2, h3, h4, h5⟩ := h.out σ s w σ w (Nat.le_refl _) hok (Step.refl σ s w)
  have := h1.out σ2 w h2
  rw [rOf_eq hok h2 h3, sc_denL (h5 (Nat.le_refl _)) args hsc] at this
  refine this.mono ?_
  rintro e w' ⟨σ', s', k1, k2, k3, k4⟩
  exact ⟨σ', s', k1, h3.trans k2, k3.trans h4, k4⟩
/-- **A loop**: J holds ahead of each round, of the state seen so; n bounds the rounds that are left. -/
theorem loop_rule {b : XC} {K : XE → SS → Prop} (hm : P.follows .mixedOrders = true) (J : Nat → SS → Prop) (h0 : Cv P s.h.length s (fun s' => ∃ n, J n s'))
    (round : ∀ n s', J n s' → ex std P b s' (fun e s'' => match e with
      | .normal => Cv P s.h.length s'' (fun s3 => ∃ m, m < n ∧ J m s3)
      | .exit id => K (.exit id) s''
      | .ret => K .ret s''
      | .panic v => K (.panic v) s'')) : WX P (.loop b) s K := by
  refine ⟨fun c hc σ w hok => ?_⟩
  have hcl : ∃ cb, c = .loop cb ∧ compile P cb = some b := by
    cases c
    case loop cb =>
      simp only [compile, Option.map_eq_some_iff, XC.loop.injEq] at hc
      obtain ⟨x, hx, rfl⟩ := hc
      exact ⟨cb, rfl, hx⟩
    case region id ops d => cases d <;> simp only [compile] at hc <;> (repeat' split at hc) <;> simp at hc
    all_goals simp only [compile] at hc
    all_goals first | (cases hc; done) | ((repeat' split at hc) <;> simp at hc; done)
  obtain ⟨cb, rfl, hcb⟩ := hcl
  have key : ∀ (N n : Nat), n ≤ N → ∀ σ' s' w', J n s' → Ok P σ' s' w' → Step σ s w σ' s' w' → Code.roundsIn (FR (rOf σ s)) 0 P cb (Post P σ s w K) (N + 1) (act σ' s') w' := by
    intro N
    induction N with
    | zero =>
      intro n hn σ' s' w' hJ hok' hst
      rw [roundsIn_succ]
      have := ex_sound (draw_law hm) cb b σ' s' w' _ (Exit.then (Code.roundsIn (FR (rOf σ s)) 0 P cb (Post P σ s w K) 0) (Post P σ s w K)) hcb (round n s' hJ) hok' (fun e' e σ'' s'' a w'' hK hok'' hst'' he => ?_)
      · rwa [rOf_eq hok hok' hst] at this
      · cases e' <;> cases e <;> simp only [exitOk] at he <;> simp only at hK
        · obtain ⟨σ3, s3, ⟨m, hm', _⟩, _⟩ := hK.out σ s w σ'' w'' (Nat.le_refl _) hok'' (hst.trans hst'')
          omega
        · exact ⟨_, σ'', s'', hK, hok'', hst.trans hst'', he⟩
        · exact ⟨_, σ'', s'', hK, hok'', hst.trans hst'', he⟩
        · exact ⟨_, σ'', s'', hK, hok'', hst.trans hst'', he⟩
    | succ N ih =>
      intro n hn σ' s' w' hJ hok' hst
      rw [roundsIn_succ]
      have := ex_sound (draw_law hm) cb b σ' s' w' _ (Exit.then (Code.roundsIn (FR (rOf σ s)) 0 P cb (Post P σ s w K) (N + 1)) (Post P σ s w K)) hcb (round n s' hJ) hok' (fun e' e σ'' s'' a w'' hK hok'' hst'' he => ?_)
      · rwa [rOf_eq hok hok' hst] at this
      · cases e' <;> cases e <;> simp only [exitOk] at he <;> simp only at hK
        · subst he
          obtain ⟨σ3, s3, ⟨m, hm', hJ'⟩, hok3, hst3, ha, _⟩ := hK.out σ s w σ'' w'' (Nat.le_refl _) hok'' (hst.trans hst'')
          have := ih m (by omega) σ3 s3 w'' hJ' hok3 hst3
          rw [ha] at this
          exact this
        · exact ⟨_, σ'', s'', hK, hok'', hst.trans hst'', he⟩
        · exact ⟨_, σ'', s'', hK, hok'', hst.trans hst'', he⟩
        · exact ⟨_, σ'', s'', hK, hok'', hst.trans hst'', he⟩
  obtain ⟨σ1, s1, ⟨n, hJ⟩, hok1, hst1, ha, _⟩ := h0.out σ s w σ w (Nat.le_refl _) hok (Step.refl σ s w)
  have := wpIn_loop_rounds (n + 1) (key n n (Nat.le_refl _) σ1 s1 w hJ hok1 hst1)
  rwa [ha] at this
end
end Go.Sx
