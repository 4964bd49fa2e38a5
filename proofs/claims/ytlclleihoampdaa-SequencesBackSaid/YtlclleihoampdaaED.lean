import Derived.Test.YtlclleihoampdaaEC
import Derived.RecoverIn
set_option linter.unusedVariables false
set_option linter.unusedSimpArgs false
namespace Go.Sx
open Go
end Go.Sx
namespace Go.Sx
open Go
def picks (ks : List Nat) : List (Nat × Ix) := ks.map fun k => (k, .z)
def headIs : Nat → List Nat → Nat → Bool
 | 0, _, _ => true
 | n + 1, k :: ks, i => if k == i then headIs n ks (i + 1) else false
 | _ + 1, [], _ => false
theorem headIs_spec : ∀ {n : Nat} {ks : List Nat} {i : Nat}, headIs n ks i = true → ∀ j, j < n → ks[j]? = some (i + j)
 | 0, _, _, _, j, hj => by omega
 | n + 1, [], _, h, j, hj => by simp [headIs] at h
 | n + 1, k :: ks, i, h, j, hj => by
  simp only [headIs] at h
  split at h
  ·rename_i hk
   cases j with
   | zero => simp at hk; simp [hk]
   | succ j =>
    have := headIs_spec h j (by omega)
    simp only [List.getElem?_cons_succ, this, Option.some.injEq]; omega
  ·cases h
def noDupL : List Nat → Bool
 | [] => true
 | k :: ks => if memN k ks then false else noDupL ks
theorem memN_false {n : Nat} : ∀ {l : List Nat}, memN n l = false → n ∉ l
 | [], _ => by simp
 | m :: l, h => by
  simp only [memN] at h
  split at h
  ·cases h
  ·rename_i hne
   simp only [beq_iff_eq] at hne
   simp only [List.mem_cons, not_or]
   exact ⟨hne, memN_false h⟩
theorem noDupL_spec : ∀ {ks : List Nat}, noDupL ks = true → ∀ (i j : Nat) (a : Nat), ks[i]? = some a → ks[j]? = some a → i = j
 | [], _, i, j, a, hi, _ => by simp at hi
 | k :: ks, h, i, j, a, hi, hj => by
  simp only [noDupL] at h
  split at h
  ·cases h
  rename_i hm
  have hm := memN_false (by simpa using hm)
  cases i with
  | zero =>
   cases j with
   | zero => rfl
   | succ j =>
    simp at hi hj; subst hi
    exact (hm (List.mem_of_getElem? hj)).elim
  | succ i =>
   cases j with
   | zero =>
    simp at hi hj; subst hj
    exact (hm (List.mem_of_getElem? hi)).elim
   | succ j =>
    simp at hi hj
    rw [noDupL_spec h i j a hi hj]
def pickB (ks : List Nat) (H' : List SB) : List Nat → List SB → Prop
 | [], [] => True
 | k :: l, B :: H2 => H'[k]? = some (renB (picks ks) 0 B) ∧ okB (picks ks) 0 B (pickB ks H' l H2)
 | _, _ => False
theorem pickB_spec {ks : List Nat} {H' : List SB} : ∀ {l : List Nat} {H2 : List SB}, pickB ks H' l H2 → H2.length = l.length ∧ ∀ (i : Nat) (B : SB), H2[i]? = some B → ∃ k : Nat, l[i]? = some k ∧ H'[k]? = some (renB (picks ks) 0 B) ∧ okB (picks ks) 0 B True
 | [], [], _ => ⟨rfl, fun i B h => by simp at h⟩
 | k :: l, B :: H2, h => by
  obtain ⟨h1, h2⟩ := h
  obtain ⟨h3, h4⟩ := okB_iff h2
  obtain ⟨h5, h6⟩ := pickB_spec h3
  refine ⟨by simp [h5], fun i B' hB' => ?_⟩
  cases i with
  | zero => simp at hB'; subst hB'; exact ⟨k, rfl, h1, h4⟩
  | succ i => simp at hB'; obtain ⟨k', e1, e2⟩ := h6 i B' hB'; exact ⟨k', by simpa using e1, e2⟩
 | [], _ :: _, h => h.elim
 | _ :: _, [], h => h.elim
theorem con_pick {P : Program} {f : Nat} {args : List SV} {H : List SB} {Post : SV → List SB → List Nat → Prop} (ks : List Nat) (hk : headIs H.length ks 0 = true) (hd : noDupL ks = true)
  (h : Con P f args H (fun v H' R => ∃ v2 H2, v = ren (picks ks) 0 v2 ∧ okV (picks ks) 0 v2 = true ∧ pickB ks H' ks H2 ∧ Post v2 H2 R)) : Con P f args H Post := by
 refine ⟨h.go, fun σ w hok => (h.out σ w hok).mono ?_⟩
 rintro e w' ⟨σ', v, H', R, ⟨v2, H2, rfl, hv, hpk, hP⟩, k2, k3, k4⟩
 obtain ⟨hlen, hB2⟩ := pickB_spec hpk
 have hrn : ∀ i k, ks[i]? = some k → rn (picks ks) 0 i = (k, .z) := fun i k hi => by unfold rn picks; rw [List.getElem?_map, hi]; rfl
 have hσ : ∀ i k, ks[i]? = some k → cut (picks ks) 0 σ' i = σ' k := fun i k hi => by
  unfold cut; rw [hrn i k hi]
  show (σ' k).map (fun p => (p.1, p.2 + 0)) = σ' k
  cases σ' k <;> rfl
 refine ⟨cut (picks ks) 0 σ', v2, H2, R, hP, ?_, ⟨fun i p hi hp => ?_, fun i j B C p q hij hB hC ho hp hq => ?_, fun i B hB => ?_, (fun l hl => by cases hl), (fun l hl => by cases hl)⟩,
  ⟨k4.size, k4.os, k4.tape, k4.output, k4.far, ?_, fun i hi hR => ?_, k4.red, fun i B p hB ho hp hlt => ?_, rfl⟩⟩
 ·rw [k2, den_ren (picks ks) 0 σ' _ (fun _ => rfl) v2 hv]
 ·obtain ⟨B, hB⟩ : ∃ B, H2[i]? = some B := ⟨_, List.getElem?_eq_getElem hi⟩
  obtain ⟨k, e1, e2, _⟩ := hB2 i B hB
  rw [hσ i k e1] at hp
  exact k3.lt k p (by have := List.getElem?_eq_some_iff.1 e2; exact this.1) hp
 ·obtain ⟨k, e1, e2, _⟩ := hB2 i B hB
  obtain ⟨k', e1', e2', _⟩ := hB2 j C hC
  rw [hσ i k e1] at hp
  rw [hσ j k' e1'] at hq
  refine k3.ne k k' _ _ p q (fun e => hij ?_) e2 e2' (by rw [own_renB, own_renB]; exact ho) hp hq
  subst e
  exact noDupL_spec hd i j k e1 e1'
 ·obtain ⟨k, e1, e2, e3⟩ := hB2 i B hB
  rw [hσ i k e1]
  exact (holds_ren (fun _ => rfl) e3).1 (k3.blk k _ e2)
 ·have := headIs_spec hk
  show H.length ≤ H2.length
  rw [hlen]
  rcases Nat.lt_or_ge ks.length H.length with hlt | hge
  ·have := this ks.length hlt
   simp at this
  ·exact hge
 ·have hi : i < H.length := hi
  have h1 := headIs_spec hk i hi
  rw [Nat.zero_add] at h1
  rw [hσ i i h1]
  exact k4.names i hi hR
 ·obtain ⟨k, e1, e2, _⟩ := hB2 i B hB
  rw [hσ i k e1] at hp
  exact k4.own k _ p e2 (by rw [own_renB]; exact ho) hp hlt
end Go.Sx
namespace Go.Sx
open Go
theorem con_picks {P : Program} {f : Nat} {args : List SV} {H : List SB} {Post : SV → List SB → List Nat → Prop}
  (h : Con P f args H (fun v H' R => ∃ ks v2 H2, headIs H.length ks 0 = true ∧ noDupL ks = true ∧ v = ren (picks ks) 0 v2 ∧ okV (picks ks) 0 v2 = true ∧ pickB ks H' ks H2 ∧ Post v2 H2 R)) : Con P f args H Post := by
 refine ⟨h.go, fun σ w hok => (h.out σ w hok).mono ?_⟩
 rintro e w' ⟨σ', v, H', R, ⟨ks, v2, H2, hk, hd, rfl, hv, hpk, hP⟩, k2, k3, k4⟩
 obtain ⟨hlen, hB2⟩ := pickB_spec hpk
 have hrn : ∀ i k, ks[i]? = some k → rn (picks ks) 0 i = (k, .z) := fun i k hi => by unfold rn picks; rw [List.getElem?_map, hi]; rfl
 have hσ : ∀ i k, ks[i]? = some k → cut (picks ks) 0 σ' i = σ' k := fun i k hi => by
  unfold cut; rw [hrn i k hi]
  show (σ' k).map (fun p => (p.1, p.2 + 0)) = σ' k
  cases σ' k <;> rfl
 refine ⟨cut (picks ks) 0 σ', v2, H2, R, hP, ?_, ⟨fun i p hi hp => ?_, fun i j B C p q hij hB hC ho hp hq => ?_, fun i B hB => ?_, (fun l hl => by cases hl), (fun l hl => by cases hl)⟩,
  ⟨k4.size, k4.os, k4.tape, k4.output, k4.far, ?_, fun i hi hR => ?_, k4.red, fun i B p hB ho hp hlt => ?_, rfl⟩⟩
 ·rw [k2, den_ren (picks ks) 0 σ' _ (fun _ => rfl) v2 hv]
 ·obtain ⟨B, hB⟩ : ∃ B, H2[i]? = some B := ⟨_, List.getElem?_eq_getElem hi⟩
  obtain ⟨k, e1, e2, _⟩ := hB2 i B hB
  rw [hσ i k e1] at hp
  exact k3.lt k p (by have := List.getElem?_eq_some_iff.1 e2; exact this.1) hp
 ·obtain ⟨k, e1, e2, _⟩ := hB2 i B hB
  obtain ⟨k', e1', e2', _⟩ := hB2 j C hC
  rw [hσ i k e1] at hp
  rw [hσ j k' e1'] at hq
  refine k3.ne k k' _ _ p q (fun e => hij ?_) e2 e2' (by rw [own_renB, own_renB]; exact ho) hp hq
  subst e
  exact noDupL_spec hd i j k e1 e1'
 ·obtain ⟨k, e1, e2, e3⟩ := hB2 i B hB
  rw [hσ i k e1]
  exact (holds_ren (fun _ => rfl) e3).1 (k3.blk k _ e2)
 ·have := headIs_spec hk
  show H.length ≤ H2.length
  rw [hlen]
  rcases Nat.lt_or_ge ks.length H.length with hlt | hge
  ·have := this ks.length hlt
   simp at this
  ·exact hge
 ·have hi : i < H.length := hi
  have h1 := headIs_spec hk i hi
  rw [Nat.zero_add] at h1
  rw [hσ i i h1]
  exact k4.names i hi hR
 ·obtain ⟨k, e1, e2, _⟩ := hB2 i B hB
  rw [hσ i k e1] at hp
  exact k4.own k _ p e2 (by rw [own_renB]; exact ho) hp hlt
end Go.Sx
namespace Go.Sx
open Go
def chkD (P : Program) : Code → Option (XC × XC × XC × Nat × Nat × Nat × Nat)
 | .seq c0 (.seq c1 (.seq (.region _ ops false) (.seq c3 .ret))) =>
  match ops.toList with
  | [m, d] => match m.op, d.op with
   | .makeFunc (.func g) first cap, .defer c => match m.dst, m.guard, d.dst, d.guard, first.toList, cap.toList with
    | some j, none, none, none, [], [.tmp a, .tmp b] => match c.callee, c.args.toList with
     | .value (.tmp j'), [] => if j' == j then match compile P c0, compile P c1, compile P c3 with
      | some x0, some x1, some x3 => some (x0, x1, x3, g, j, a, b)
      | _, _, _ => none
      else none
     | _, _ => none
    | _, _, _, _, _, _ => none
   | _, _ => none
  | _ => none
 | _ => none
structure FnD (P : Program) (f : Nat) (x0 x1 x3 : XC) (g j a b n : Nat) (rs : List Nat) : Prop where
 go : ∀ (xs : Array Value) (w : World), (callFunc f xs).run P w = .ok (.enter f xs) w
 has : ∃ fn c, P.funcs[f]? = some fn ∧ fn.body = some c ∧ chkD P c = some (x0, x1, x3, g, j, a, b) ∧ fn.ntmps = n ∧ cRes P fn.results.toList = some rs
theorem FnD.of {P : Program} {f : Nat} {x0 x1 x3 : XC} {g j a b n : Nat} {rs : List Nat} {fn : Func} (go : ∀ (xs : Array Value) (w : World), (callFunc f xs).run P w = .ok (.enter f xs) w) (hf : P.funcs[f]? = some fn)
  (hc : fn.body.bind (chkD P) = some (x0, x1, x3, g, j, a, b)) (hn : fn.ntmps = n) (hr : cRes P fn.results.toList = some rs) : FnD P f x0 x1 x3 g j a b n rs := by
 refine ⟨go, ?_⟩
 cases hb : fn.body with
 | none => rw [hb] at hc; cases hc
 | some c => rw [hb] at hc; exact ⟨fn, c, hf, hb, hc, hn, hr⟩
end Go.Sx
namespace Go.Sx
open Go
def chkR : Code → Option Nat
 | .seq (.region _ r0 false) (.seq (.region _ r1 false) (.cond (.tmp e) _ .skip)) =>
  match r0.toList, r1.toList with
  | [o0, o1], [o2, o3] => match o0.op, o1.op, o2.op, o3.op with
   | .call c, .assign (.tmp a'), .move (.tmp b'), .binOp .neq ty (.tmp d') (.const .nilIface) _ => match c.callee, c.args.toList, o0.dst, o1.dst, o2.dst, o3.dst, o0.guard, o1.guard, o2.guard, o3.guard with
    | .builtin .recover, [], some a, some b, some d, some e', none, none, none, none => if a' == a && b' == b && d' == d && e' == e && (ltB a 10 && ltB b 10 && ltB d 10 && ltB e 10) then some ty else none
    | _, _, _, _, _, _, _, _, _, _ => none
   | _, _, _, _ => none
  | _, _ => none
 | _ => none
end Go.Sx
namespace Go.Sx
open Go Go.ChangeShapes Go.WideShapes Go.RowKit Go.Deep
variable {H : Type} {enc : TypeId × Value → H} {P : Program}
end Go.Sx
namespace Go.Sx
open Go
def COutX (P : Program) (σ : Names) (H : List SB) (w : World) (Post Pan : SV → List SB → List Nat → Prop) : Ending → World → Prop := fun e w' =>
 ∃ σ' v H' R, (Post v H' R ∧ e = .returned (den σ' v) ∨ Pan v H' R ∧ e = .panicked [{ v := den σ' v, recovered := false }]) ∧ Ok P σ' (small H' R) w' ∧ Step σ (small H []) w σ' (small H' R) w'
structure ConX (P : Program) (f : Nat) (args : List SV) (H : List SB) (Post Pan : SV → List SB → List Nat → Prop) : Prop where
 go : ∀ (xs : Array Value) (w : World), (callFunc f xs).run P w = .ok (.enter f xs) w
 out : ∀ σ w, Ok P σ (small H []) w → CallsIn (FR P none) 0 P f (denL σ args).toArray w (COutX P σ H w Post Pan)
theorem Con.x {P : Program} {f : Nat} {args : List SV} {H : List SB} {Post Pan : SV → List SB → List Nat → Prop} (c : Con P f args H Post) : ConX P f args H Post Pan :=
 ⟨c.go, fun σ w hok => (c.out σ w hok).mono fun _ _ ⟨σ', v, H', R, hP, he, h1, h2⟩ => ⟨σ', v, H', R, .inl ⟨hP, he⟩, h1, h2⟩⟩
theorem ConX.mono {P : Program} {f : Nat} {args : List SV} {H : List SB} {Post Post' Pan Pan' : SV → List SB → List Nat → Prop} (c : ConX P f args H Post Pan) (h : ∀ v H' R, Post v H' R → Post' v H' R) (h2 : ∀ v H' R, Pan v H' R → Pan' v H' R) : ConX P f args H Post' Pan' :=
 ⟨c.go, fun σ w hok => (c.out σ w hok).mono fun _ _ ⟨σ', v, H', R, hP, h3, h4⟩ => ⟨σ', v, H', R, hP.elim (fun k => .inl ⟨h _ _ _ k.1, k.2⟩) (fun k => .inr ⟨h2 _ _ _ k.1, k.2⟩), h3, h4⟩⟩
section
variable {P : Program} {s : SS}
end
end Go.Sx
namespace Go.Sx
open Go
def LandsS (P : Program) (σ : Names) (s : SS) (w : World) (K : XE → SS → Prop) (Q : Exit → Act → World → Prop) : Prop :=
 (∀ σ' s' w', K .normal s' → Ok P σ' s' w' → Step σ s w σ' s' w' → Q .normal (act σ' s') w') ∧
 ∀ v σ' s' w', K (.panic v) s' → Ok P σ' s' w' → Step σ s w σ' s' w' → Q (.panic [{ v := den σ' v, recovered := false }]) (act σ' s') w'
section
variable {P : Program} {σ : Names} {s : SS} {w : World} {K : XE → SS → Prop} {Q : Exit → Act → World → Prop}
theorem LandsS.later {σ' : Names} {s' : SS} {w' : World} (h : LandsS P σ s w K Q) (hst : Step σ s w σ' s' w') : LandsS P σ' s' w' K Q :=
 ⟨fun σ'' s'' w'' hK hok hst' => h.1 σ'' s'' w'' hK hok (hst.trans hst'), fun v σ'' s'' w'' hK hok hst' => h.2 v σ'' s'' w'' hK hok (hst.trans hst')⟩
end
def recA : Code → Option (Nat × Nat × Nat × Nat × Code)
 | .seq (.region _ r0 false) (.seq (.region _ r1 false) (.cond (.tmp e) x .skip)) =>
  match r0.toList, r1.toList with
  | [o0, o1], [o2, _] => match o0.dst, o1.dst, o2.dst with
   | some a, some b, some d => some (a, b, d, e, x)
   | _, _, _ => none
  | _, _ => none
 | _ => none
structure RecFn (P : Program) (g : Nat) (xA : XC) (ty a b d e n : Nat) : Prop where
 has : ∃ fn c x, P.funcs[g]? = some fn ∧ fn.body = some c ∧ chkR c = some ty ∧ recA c = some (a, b, d, e, x) ∧ compile P x = some xA ∧ fn.results = #[] ∧ fn.ntmps = n ∧ 10 ≤ n
 gd : ∀ t v dd w, (eqGuard .neq ty (.tmp dd) (.const .nilIface) (.iface t v) .nilIface).run P w = .ok () w
 ne : ∀ t v w, (binOp .neq ty (.iface t v) .nilIface).run P w = .ok (.bool true) w
theorem RecFn.of {P : Program} {g : Nat} {xA : XC} {ty a b d e n : Nat} {fn : Func} (hf : P.funcs[g]? = some fn) (hc : fn.body.bind chkR = some ty) (ha : (fn.body.bind recA).bind (fun q => (compile P q.2.2.2.2).map fun y => (q.1, q.2.1, q.2.2.1, q.2.2.2.1, y)) = some (a, b, d, e, xA))
  (hr : fn.results = #[]) (hn : fn.ntmps = n) (h10 : 10 ≤ n) (gd : ∀ t v dd w, (eqGuard .neq ty (.tmp dd) (.const .nilIface) (.iface t v) .nilIface).run P w = .ok () w)
  (ne : ∀ t v w, (binOp .neq ty (.iface t v) .nilIface).run P w = .ok (.bool true) w) : RecFn P g xA ty a b d e n := by
 refine ⟨?_, gd, ne⟩
 cases hb : fn.body with
 | none => rw [hb] at hc; cases hc
 | some c =>
  rw [hb] at hc ha
  simp only [Option.bind_some] at hc ha
  cases hq : recA c with
  | none => rw [hq] at ha; cases ha
  | some q =>
   obtain ⟨a', b', d', e', x⟩ := q
   rw [hq] at ha
   simp only [Option.bind_some, Option.map_eq_some_iff] at ha
   obtain ⟨y, hy, he⟩ := ha
   simp only [Prod.mk.injEq] at he
   obtain ⟨rfl, rfl, rfl, rfl, rfl⟩ := he
   exact ⟨fn, c, x, hf, hb, hc, hq, hy, hr, hn, h10⟩
end Go.Sx
namespace Go.Sx
open Go
def plainL : Code → Bool
 | .seq _ (.seq _ (.seq _ (.seq (.region _ _ false) .ret))) => true
 | _ => false
def LastPlain (P : Program) (f : Nat) : Prop := ∃ fn c, P.funcs[f]? = some fn ∧ fn.body = some c ∧ plainL c = true
theorem LastPlain.of {P : Program} {f : Nat} {fn : Func} (hf : P.funcs[f]? = some fn) (hc : fn.body.map plainL = some true) : LastPlain P f := by
 cases hb : fn.body with
 | none => rw [hb] at hc; cases hc
 | some c => rw [hb] at hc; exact ⟨fn, c, hf, hb, by simpa using hc⟩
end Go.Sx
namespace Go.Sx
open Go
end Go.Sx
namespace Go.Sx
open Go
theorem YieldX.mono {P : Program} {l : Nat} {args : List SV} {s : SS} {K K' : SV → SS → Prop} {X X' : XE → SS → Prop} (hK : ∀ v s', K v s' → K' v s') (hX : ∀ v s', X (.panic v) s' → X' (.panic v) s') (h : YieldX P l args s K X) : YieldX P l args s K' X' := by
 refine ⟨fun σ w hok => ?_⟩
 obtain ⟨fn, tmps, asg, body, h1, hF, h2⟩ := h.out σ w hok
 refine ⟨fn, tmps, asg, body, h1, hF, fun c cs hr => ?_⟩
 obtain ⟨e, w', hR, hs⟩ := h2 c cs hr
 refine ⟨e, w', ?_, hs⟩
 obtain ⟨σ', s', k1, k2, k3, k4⟩ := hR
 refine ⟨σ', s', k1, k2, k3, ?_⟩
 cases e with
 | returned v => obtain ⟨v', k5, k6⟩ := k4; exact ⟨v', hK _ _ k5, k6⟩
 | panicked ch => obtain ⟨v', k5, k6⟩ := k4; exact ⟨v', hX _ _ k5, k6⟩
 | outgrown => exact k4
theorem YieldX.gen {P : Program} {l : Nat} {args : List SV} {s : SS} {K : SV → SS → Prop} {X : XE → SS → Prop} (h : YieldX P l (genL args) s K X) : YieldX P l args s K X := by
 refine ⟨fun σ w hok => ?_⟩
 have := h.out σ w hok
 rwa [den_genL] at this
end Go.Sx
namespace Go.Sx
open Go
section
variable {O : Ops} {P : Program} {s : SS}
theorem WX.mono {x : XC} {K K' : XE → SS → Prop} (hK : ∀ e s', K e s' → K' e s') (h : WX P x s K) : WX P x s K' :=
 ⟨fun c hc σ w hok => wpIn_mono (h.out c hc σ w hok) fun _ _ _ ⟨e', σ', s', k1, k2⟩ => ⟨e', σ', s', hK _ _ k1, k2⟩⟩
theorem CallX.mono2 {g : Nat} {args : List SV} {K K' : SV → SS → Prop} {X X' : XE → SS → Prop} (hK : ∀ v s', K v s' → K' v s') (hX : ∀ v s', X (.panic v) s' → X' (.panic v) s') (h : CallX P g args s K X) : CallX P g args s K' X' := by
 refine ⟨h.go, fun σ w hok => (h.out σ w hok).mono ?_⟩
 rintro e w' ⟨σ', s', h1, h2, h3, h4⟩
 refine ⟨σ', s', h1, h2, h3, ?_⟩
 cases e with
 | returned v => obtain ⟨v', k1, k2⟩ := h4; exact ⟨v', hK _ _ k1, k2⟩
 | panicked ch => obtain ⟨v', k1, k2⟩ := h4; exact ⟨v', hX _ _ k1, k2⟩
 | outgrown => exact h4
theorem exAct_mono {o : XOp} {K K' : SV → SS → Prop} {X X' : XE → SS → Prop} (hK : ∀ v s', K v s' → K' v s') (hX : ∀ v s', X (.panic v) s' → X' (.panic v) s') (h : exAct O P o s K X) : exAct O P o s K' X' := by
 cases o
 case call f args =>
  simp only [exAct] at h ⊢
  split at h
  ·exact CallX.mono2 hK hX h
  ·exact YieldX.mono hK hX h
  ·exact h
 case pnc x =>
  simp only [exAct] at h ⊢
  split at h
  ·exact hX _ _ h
  ·exact h
 all_goals exact exActN_mono (X := X) hK h
theorem exOp_mono {o : XOp} {K K' : SV → SS → Prop} {X X' : XE → SS → Prop} (hK : ∀ v s', K v s' → K' v s') (hX : ∀ v s', X (.panic v) s' → X' (.panic v) s') (h : exOp O P o s K X) : exOp O P o s K' X' := by
 unfold exOp at h ⊢
 split at h
 ·exact exPure_mono (fun v => hK v _) h
 ·exact exLoad_mono (fun v => hK v _) h
 ·exact exAct_mono hK hX h
theorem exSteps_mono : ∀ {l : List XStep} {s : SS} {K K' : XE → SS → Prop}, (∀ e s', K e s' → K' e s') → exSteps O P l s K → exSteps O P l s K'
 | [], _, _, _, hK, h => hK _ _ h
 | st :: rest, s, K, K', hK, h => by
  unfold exSteps at h ⊢
  exact guardP_mono (exOp_mono (fun v s' => chkP_mono (exSteps_mono hK)) (fun v s' => hK _ _)) (exSteps_mono hK) h
theorem exT_mono : ∀ {t : XT} {s : SS} {K K' : XE → SS → Prop}, (∀ e s', K e s' → K' e s') → exT O P t s K → exT O P t s K'
 | .fin, _, _, _, hK, h => hK _ _ h
 | .step st t, s, K, K', hK, h => by
  unfold exT at h ⊢
  exact guardP_mono (exOp_mono (fun v s' => chkP_mono (exT_mono hK)) (fun v s' => hK _ _)) (exT_mono hK) h
 | .both a b, s, K, K', hK, h => by
  unfold exT at h ⊢
  exact ⟨exT_mono hK h.1, exT_mono hK h.2⟩
theorem ex_mono : ∀ {x : XC} {s : SS} {K K' : XE → SS → Prop}, (∀ e s', K e s' → K' e s') → ex O P x s K → ex O P x s K'
 | .skip, _, _, _, hK, h => hK _ _ h
 | .ops l, _, _, _, hK, h => exSteps_mono hK h
 | .tree t, _, _, _, hK, h => exT_mono hK h
 | .seq a b, s, K, K', hK, h => by
  unfold ex at h ⊢
  refine ex_mono (fun e s' h => ?_) h
  cases e with
  | normal => exact ex_mono hK h
  | _ => exact hK _ _ h
 | .cond c a b, s, K, K', hK, h => by
  unfold ex at h ⊢
  exact condP_mono (ex_mono hK) (ex_mono hK) h
 | .block id b, s, K, K', hK, h => by
  unfold ex at h ⊢
  refine ex_mono (fun e s' h => ?_) h
  cases e with
  | exit id' =>
   simp only [blockK] at h ⊢
   split at h
   ·rename_i he; rw [if_pos he]; exact hK _ _ h
   ·rename_i he; rw [if_neg he]; exact hK _ _ h
  | _ => exact hK _ _ h
 | .loop b, s, K, K', hK, h => WX.mono hK h
 | .scope b, s, K, K', hK, h => by
  unfold ex at h ⊢
  exact ex_mono hK h
 | .range f ps a b, s, K, K', hK, h => WX.mono hK h
 | .exit id, _, _, _, hK, h => hK _ _ h
 | .ret, _, _, _, hK, h => hK _ _ h
 | .bad, _, _, _, _, h => h
def unr (O : Ops) (P : Program) (b : XC) (K : XE → SS → Prop) : Nat → SS → Prop
 | 0, _ => False
 | n + 1, s => ex O P b s (roundK (unr O P b K n) K)
theorem WX.unr {b : XC} {K : XE → SS → Prop} (n : Nat) (hw : Words O) (hm : P.follows .mixedOrders = true) (h : unr O P b K n s) : WX P (.loop b) s K := by
 refine loop_walk hw hm (fun m s' => Sx.unr O P b K m s') (Cv.here ⟨n, h⟩) ?_
 intro m s' hJ
 cases m with
 | zero => exact hJ.elim
 | succ m =>
  refine ex_mono (fun e s'' h => ?_) hJ
  cases e with
  | normal => exact Cv.here ⟨m, Nat.lt_succ_self m, h⟩
  | _ => exact h
end
section
variable {P : Program} {s : SS} {S : SS → Prop} {n0 : Nat}
def nilTA (j sz t : Nat) (f : Nat → List SV) (s : SS) : SS := { s with t := s.t.set j (.slice s.h.length .z sz 0 0), h := s.h ++ [.bufA t sz 0 f 0] }
theorem den_nilA (σ : Names) (n sz : Nat) : den (more σ n none) (.slice n .z sz 0 0) = den (more σ n none) (.val (.slice none 0 0)) := by simp [den, more]
theorem Cv.nilTA (j sz t : Nat) (f : Nat → List SV) (hat : nilTAt j s = true) (hsc : scS s True) (h : Cv P n0 (nilTA j sz t f s) S) : Cv P n0 s S := by
 refine ⟨fun σ0 s0 w0 σ w hn hok hst => ?_⟩
 obtain ⟨h1, h2, h3⟩ := hok.new (B := .bufA t sz 0 f 0) (p := none) hsc ⟨Nat.le_refl _, rfl, rfl, rfl, fun _ _ => rfl⟩ (fun q hq => by cases hq) (.inl ⟨rfl, rfl, rfl⟩)
 unfold nilTAt at hat
 split at hat
 rotate_left
 ·cases hat
 rename_i v hv
 have hv' := isNil_eq hat
 subst hv'
 obtain ⟨σ2, s2, k1, k2, k3, k4, k5⟩ := h.out σ0 s0 w0 (more σ s.h.length none) w hn ⟨h1.lt, h1.ne, h1.blk, h1.marks, h1.rnd⟩
  (hst.trans ⟨h2.size, h2.os, h2.tape, h2.output, h2.far, h2.len, h2.names, h2.red, h2.own, h2.rd⟩)
 refine ⟨σ2, s2, k1, k2, k3, k4.trans ?_, fun hl i hi => (k5 (by simp [Sx.nilTA]; omega) i hi).trans (more_old (by omega))⟩
 rw [← h3]
 unfold act
 simp only [Sx.nilTA, alloc]
 rw [denL_set hv (den_nilA σ s.h.length sz)]
theorem holds_arrA {σ : Names} {p : Option (Nat × Nat)} {w : World} {t sz len : Nat} {f : Nat → List SV} (h : holds P σ p w (.arr t sz len f)) : holds P σ p w (.bufA t sz len f len) := by
 obtain ⟨b, cs, h1, h2, h3, h4⟩ := h
 exact .inr ⟨b, cs, h1, h2, Nat.le_of_eq h3.symm, Nat.le_of_eq h3.symm, h4⟩
theorem Cv.intsB (b n : Nat) {t : Nat} {k : IntKind} {l : List Int} (hb : s.h[b]? = some (.ints t k l)) (hn : l.length = n) (h : Cv P n0 { s with h := s.h.set b (.buf t k l n) } S) : Cv P n0 s S :=
 Cv.blockEq b (.ints t k l) (.buf t k l n) hb rfl rfl rfl (fun _ _ _ ⟨g, h1, h2⟩ => .inr ⟨g, [], h1, by simpa using h2, by simp [hn]⟩) h
theorem holds_bufRA {σ : Names} {p : Option (Nat × Nat)} {w : World} {t sz c : Nat} {row : List SV} (hl : row.length = sz) (h : holds P σ p w (.bufR t sz row c)) (hs : 1 ≤ sz) : holds P σ p w (.bufA t sz 1 (fun _ => row) c) := by
 rcases h with ⟨h1, h2, h3⟩ | ⟨b, rest, h1, h2, h3⟩
 ·subst h2; simp at hl; omega
 ·refine .inr ⟨b, _, h1, h2, ?_, by simpa using h3, fun i hi => ⟨hl, fun j v hv => ?_⟩⟩
  ·simp [denL_eq, hl]
  ·obtain rfl : i = 0 := by omega
   have hj := (List.getElem?_eq_some_iff.1 hv).1
   rw [Nat.zero_mul, Nat.zero_add, List.getElem?_toArray, List.getElem?_append_left (by rw [denL_eq, List.length_map]; exact hj), denL_get, hv]
   rfl
end
end Go.Sx
namespace Go.Sx
open Go
def moveIs : Nat → List Nat → List Nat → Nat → Bool
 | 0, _, _, _ => true
 | _ + 1, [], _, _ => false
 | n + 1, k :: ks, M, i => if memN i M then moveIs n ks M (i + 1) else (if k == i then moveIs n ks M (i + 1) else false)
theorem moveIs_spec : ∀ {n : Nat} {ks M : List Nat} {i : Nat}, moveIs n ks M i = true → n ≤ ks.length ∧ ∀ j, j < n → i + j ∉ M → ks[j]? = some (i + j)
 | 0, _, _, _, _ => ⟨by omega, fun j hj => by omega⟩
 | _ + 1, [], _, _, h => by simp [moveIs] at h
 | n + 1, k :: ks, M, i, h => by
  simp only [moveIs] at h
  have key : moveIs n ks M (i + 1) = true ∧ (i ∉ M → k = i) := by
   split at h
   ·rename_i hm
    exact ⟨h, fun hn => absurd (memN_iff.1 hm) hn⟩
   ·split at h
    ·rename_i hk
     exact ⟨h, fun _ => by simpa using hk⟩
    ·cases h
  obtain ⟨h1, h2⟩ := moveIs_spec key.1
  refine ⟨by simp; omega, fun j hj hM => ?_⟩
  cases j with
  | zero => simp; exact key.2 (by simpa using hM)
  | succ j =>
   have := h2 j (by omega) (by rwa [show i + 1 + j = i + (j + 1) by omega])
   simp only [List.getElem?_cons_succ, this]
   congr 1; omega
theorem con_moves {P : Program} {f : Nat} {args : List SV} {H : List SB} {Post : SV → List SB → List Nat → Prop}
  (h : Con P f args H (fun v H' R => ∃ M ks v2 H2, subR R M = true ∧ moveIs H.length ks M 0 = true ∧ noDupL ks = true ∧ v = ren (picks ks) 0 v2 ∧ okV (picks ks) 0 v2 = true ∧ pickB ks H' ks H2 ∧ Post v2 H2 M)) : Con P f args H Post := by
 refine ⟨h.go, fun σ w hok => (h.out σ w hok).mono ?_⟩
 rintro e w' ⟨σ', v, H', R, ⟨M, ks, v2, H2, hs, hk, hd, rfl, hv, hpk, hP⟩, k2, k3, k4⟩
 obtain ⟨hlen, hB2⟩ := pickB_spec hpk
 obtain ⟨hk1, hk2⟩ := moveIs_spec hk
 have hrn : ∀ i k, ks[i]? = some k → rn (picks ks) 0 i = (k, .z) := fun i k hi => by unfold rn picks; rw [List.getElem?_map, hi]; rfl
 have hσ : ∀ i k, ks[i]? = some k → cut (picks ks) 0 σ' i = σ' k := fun i k hi => by
  unfold cut; rw [hrn i k hi]
  show (σ' k).map (fun p => (p.1, p.2 + 0)) = σ' k
  cases σ' k <;> rfl
 refine ⟨cut (picks ks) 0 σ', v2, H2, M, hP, ?_, ⟨fun i p hi hp => ?_, fun i j B C p q hij hB hC ho hp hq => ?_, fun i B hB => ?_, (fun l hl => by cases hl), (fun l hl => by cases hl)⟩,
  ⟨k4.size, k4.os, k4.tape, k4.output, k4.far, ?_, fun i hi hR => ?_, (fun i hi => by cases hi), fun i B p hB ho hp hlt => ?_, rfl⟩⟩
 ·rw [k2, den_ren (picks ks) 0 σ' _ (fun _ => rfl) v2 hv]
 ·obtain ⟨B, hB⟩ : ∃ B, H2[i]? = some B := ⟨_, List.getElem?_eq_getElem hi⟩
  obtain ⟨k, e1, e2, _⟩ := hB2 i B hB
  rw [hσ i k e1] at hp
  exact k3.lt k p (by have := List.getElem?_eq_some_iff.1 e2; exact this.1) hp
 ·obtain ⟨k, e1, e2, _⟩ := hB2 i B hB
  obtain ⟨k', e1', e2', _⟩ := hB2 j C hC
  rw [hσ i k e1] at hp
  rw [hσ j k' e1'] at hq
  refine k3.ne k k' _ _ p q (fun e => hij ?_) e2 e2' (by rw [own_renB, own_renB]; exact ho) hp hq
  subst e
  exact noDupL_spec hd i j k e1 e1'
 ·obtain ⟨k, e1, e2, e3⟩ := hB2 i B hB
  rw [hσ i k e1]
  exact (holds_ren (fun _ => rfl) e3).1 (k3.blk k _ e2)
 ·show H.length ≤ H2.length
  rw [hlen]
  exact hk1
 ·have hi : i < H.length := hi
  have h1 := hk2 i hi (fun hm => hR (by simpa using hm))
  rw [Nat.zero_add] at h1
  rw [hσ i i h1]
  exact k4.names i hi (fun hr => hR (subR_spec hs i hr))
 ·obtain ⟨k, e1, e2, _⟩ := hB2 i B hB
  rw [hσ i k e1] at hp
  exact k4.own k _ p e2 (by rw [own_renB]; exact ho) hp hlt
theorem Cv.slotEq {P : Program} {n0 : Nat} {s : SS} {S : SS → Prop} (j : Nat) {v : SV} (v' : SV) (hv : s.t[j]? = some v) (he : ∀ σ, den σ v' = den σ v) (h : Cv P n0 { s with t := s.t.set j v' } S) : Cv P n0 s S := by
 refine ⟨fun σ0 s0 w0 σ w hn hok hst => ?_⟩
 have ha : act σ { s with t := s.t.set j v' } = act σ s := by
  unfold act
  rw [denL_set hv (he σ)]
 obtain ⟨σ2, s2, h1, h2, h3, h4, h5⟩ := h.out σ0 s0 w0 σ w hn ⟨hok.lt, hok.ne, hok.blk, hok.marks, hok.rnd⟩
  ⟨hst.size, hst.os, hst.tape, hst.output, hst.far, hst.len, hst.names, hst.red, hst.own, hst.rd⟩
 exact ⟨σ2, s2, h1, h2, h3, h4.trans ha, h5⟩
def rowsB (B : SB) : SB :=
 match B with
 | .arr t sz len f => .bufA t sz len f len
 | .bufR t sz row c => if row.length == sz then (match sz with | 0 => .bufR t sz row c | n + 1 => .bufA t (n + 1) 1 (fun _ => row) c) else .bufR t sz row c
 | B => B
def rowsH : List SB → List SB
 | [] => []
 | B :: l => rowsB B :: rowsH l
theorem rowsH_get : ∀ (l : List SB) (i : Nat), (rowsH l)[i]? = (l[i]?).map rowsB
 | [], i => by simp [rowsH]
 | B :: l, 0 => by simp [rowsH]
 | B :: l, i + 1 => by simp [rowsH, rowsH_get l i]
theorem rowsH_len : ∀ (l : List SB), (rowsH l).length = l.length
 | [] => rfl
 | B :: l => by simp [rowsH, rowsH_len l]
theorem own_rowsB (B : SB) : own (rowsB B) = own B := by
 unfold rowsB
 split
 ·rfl
 ·split
  ·split <;> rfl
  ·rfl
 ·rfl
theorem holds_rowsB {P : Program} {σ : Names} {p : Option (Nat × Nat)} {w : World} {B : SB} (h : holds P σ p w B) : holds P σ p w (rowsB B) := by
 unfold rowsB
 split
 ·exact holds_arrA h
 ·split
  ·rename_i hl
   split
   ·exact h
   ·exact holds_bufRA (by simpa using hl) h (by omega)
  ·exact h
 ·exact h
theorem con_rows {P : Program} {f : Nat} {args : List SV} {H : List SB} {Post : SV → List SB → List Nat → Prop} (h : Con P f args H (fun v H' R => Post v (rowsH H') R)) : Con P f args H Post := by
 refine ⟨h.go, fun σ w hok => (h.out σ w hok).mono ?_⟩
 rintro e w' ⟨σ', v, H', R, k1, k2, k3, k4⟩
 have hget : ∀ i B, (rowsH H')[i]? = some B → ∃ C, H'[i]? = some C ∧ B = rowsB C := fun i B hB => by
  rw [rowsH_get, Option.map_eq_some_iff] at hB
  obtain ⟨C, h1, h2⟩ := hB
  exact ⟨C, h1, h2.symm⟩
 refine ⟨σ', v, rowsH H', R, k1, k2, ⟨fun i p hi hp => k3.lt i p (by simpa [rowsH_len] using hi) hp, fun i j B C p q hij hB hC ho => ?_, fun i B hB => ?_, (fun l hl => by cases hl), (fun l hl => by cases hl)⟩,
  ⟨k4.size, k4.os, k4.tape, k4.output, k4.far, by simpa [rowsH_len] using k4.len, k4.names, k4.red, fun i B p hB hoB => ?_, rfl⟩⟩
 ·obtain ⟨B', hB', rfl⟩ := hget i B hB
  obtain ⟨C', hC', rfl⟩ := hget j C hC
  rw [own_rowsB, own_rowsB] at ho
  exact k3.ne i j B' C' p q hij hB' hC' ho
 ·obtain ⟨B', hB', rfl⟩ := hget i B hB
  exact holds_rowsB (k3.blk i B' hB')
 ·obtain ⟨B', hB', rfl⟩ := hget i B hB
  rw [own_rowsB] at hoB
  exact k4.own i B' p hB' hoB
end Go.Sx
namespace Go.Sx
open Go
theorem con_fresh {P : Program} {f : Nat} {args : List SV} {H : List SB} {Post : SV → List SB → List Nat → Prop} (t : Nat) (k : IntKind)
  (h : Con P f args H (fun v H' R => Post v H' R ∨ (∃ v2, scV H'.length v = true ∧ scH H'.length H' True ∧ (∀ σ : Names, σ H'.length = none → den σ v2 = den σ v) ∧ Post v2 (H' ++ [.buf t k [] 0]) R))) : Con P f args H Post := by
 refine ⟨h.go, fun σ w hok => (h.out σ w hok).mono ?_⟩
 rintro e w' ⟨σ', v, H', R, hP | ⟨v2, hv, hH, hd, hP⟩, k2, k3, k4⟩
 ·exact ⟨σ', v, H', R, hP, k2, k3, k4⟩
 ·have hsc : scS (small H' R) True := by
   unfold scS
   rw [if_pos (by rfl)]
   exact hH
  obtain ⟨h1, h2, h3⟩ := k3.new (B := .buf t k [] 0) (p := none) hsc ⟨Nat.le_refl _, rfl, rfl, rfl, fun _ _ => rfl⟩ (fun q hq => by cases hq) (.inl ⟨rfl, rfl, rfl⟩)
  refine ⟨_, v2, _, R, hP, ?_, h1, k4.trans h2⟩
  rw [k2, hd _ more_new, sc_den (n := H'.length) (fun i hi => more_old hi) v hv]
def oneBuf : Nat → List SB → List SB
 | _, [] => []
 | 0, B :: l => (match B with | .ints t k ls => .buf t k ls ls.length | B => B) :: l
 | n + 1, B :: l => B :: oneBuf n l
theorem oneBuf_get : ∀ (n : Nat) (l : List SB) (i : Nat) (B : SB), (oneBuf n l)[i]? = some B → ∃ C, l[i]? = some C ∧ (B = C ∨ ∃ t k ls, C = .ints t k ls ∧ B = .buf t k ls ls.length)
 | _, [], i, B, h => by simp [oneBuf] at h
 | 0, C :: l, 0, B, h => by
  simp only [oneBuf, List.getElem?_cons_zero, Option.some.injEq] at h ⊢
  refine ⟨C, rfl, ?_⟩
  split at h
  ·exact .inr ⟨_, _, _, rfl, h.symm⟩
  ·exact .inl h.symm
 | 0, C :: l, i + 1, B, h => by
  simp only [oneBuf, List.getElem?_cons_succ] at h ⊢
  exact ⟨B, h, .inl rfl⟩
 | n + 1, C :: l, 0, B, h => by
  simp only [oneBuf, List.getElem?_cons_zero, Option.some.injEq] at h ⊢
  exact ⟨C, rfl, .inl h.symm⟩
 | n + 1, C :: l, i + 1, B, h => by
  simp only [oneBuf, List.getElem?_cons_succ] at h ⊢
  exact oneBuf_get n l i B h
theorem oneBuf_len : ∀ (n : Nat) (l : List SB), (oneBuf n l).length = l.length
 | _, [] => by simp [oneBuf]
 | 0, B :: l => by simp [oneBuf]
 | n + 1, B :: l => by simp [oneBuf, oneBuf_len n l]
theorem con_bufs {P : Program} {f : Nat} {args : List SV} {H : List SB} {Post : SV → List SB → List Nat → Prop} (n : Nat) (h : Con P f args H (fun v H' R => Post v (oneBuf n H') R)) : Con P f args H Post := by
 refine ⟨h.go, fun σ w hok => (h.out σ w hok).mono ?_⟩
 rintro e w' ⟨σ', v, H', R, k1, k2, k3, k4⟩
 have hget := oneBuf_get n H'
 refine ⟨σ', v, oneBuf n H', R, k1, k2, ⟨fun i p hi hp => k3.lt i p (by simpa [oneBuf_len] using hi) hp, fun i j B C p q hij hB hC ho => ?_, fun i B hB => ?_, (fun l hl => by cases hl), (fun l hl => by cases hl)⟩,
  ⟨k4.size, k4.os, k4.tape, k4.output, k4.far, by simpa [oneBuf_len] using k4.len, k4.names, k4.red, fun i B p hB hoB => ?_, rfl⟩⟩
 ·obtain ⟨B', hB', e1⟩ := hget i B hB
  obtain ⟨C', hC', e2⟩ := hget j C hC
  have o1 : own B = own B' := by rcases e1 with rfl | ⟨t, k, ls, rfl, rfl⟩ <;> rfl
  have o2 : own C = own C' := by rcases e2 with rfl | ⟨t, k, ls, rfl, rfl⟩ <;> rfl
  rw [o1, o2] at ho
  exact k3.ne i j B' C' p q hij hB' hC' ho
 ·obtain ⟨B', hB', e1⟩ := hget i B hB
  rcases e1 with rfl | ⟨t, k, ls, rfl, rfl⟩
  ·exact k3.blk i B hB'
  ·obtain ⟨g, h1, h2⟩ := k3.blk i _ hB'
   exact .inr ⟨g, [], h1, by simpa using h2, by simp⟩
 ·obtain ⟨B', hB', e1⟩ := hget i B hB
  have o1 : own B = own B' := by rcases e1 with rfl | ⟨t, k, ls, rfl, rfl⟩ <;> rfl
  rw [o1] at hoB
  exact k4.own i B' p hB' hoB
end Go.Sx
namespace Go.Sx
open Go
theorem callX_row {P : Program} {f : Nat} {args : List SV} {s : SS} {K : SV → SS → Prop} {X : XE → SS → Prop} (args' : List SV) (t sz : Nat) (g : Nat → List SV) (hsc : scS s True) (hsa : scL s.h.length args = true)
  (he : ∀ σ, denL (more σ s.h.length none) args' = denL (more σ s.h.length none) args)
  (h : CallX P f args' (alloc (.bufA t sz 0 g 0) s) K X) : CallX P f args s K X := by
 refine ⟨h.go, fun σ w hok => ?_⟩
 obtain ⟨h1, h2, h3⟩ := hok.new (B := .bufA t sz 0 g 0) (p := none) hsc ⟨Nat.le_refl _, rfl, rfl, rfl, fun _ _ => rfl⟩ (fun q hq => by cases hq) (.inl ⟨rfl, rfl, rfl⟩)
 have := h.out _ w h1
 rw [rOf_eq hok h1 h2, he, sc_denL (fun i hi => more_old hi) args hsa] at this
 refine this.mono ?_
 rintro e w' ⟨σ', s', k1, k2, k3, k4⟩
 exact ⟨σ', s', k1, h2.trans k2, k3.trans h3, k4⟩
end Go.Sx
namespace Go.Sx
open Go Go.ChangeShapes Go.WideShapes Go.RowKit Go.Deep
section
variable {H : Type} {enc : TypeId × Value → H} {P : Program}
theorem arg_tripI {W : World} {base : Nat} {r : Reach} {t e : TypeId} {f0 f1 f2 : Field} {k0 k1 k2 : IntKind} {v : Value} {d : DataW H} {ps : List MemPlace} (ht : P.underlying t = some (.slice e)) (he : P.underlying e = some (.struct #[f0, f1, f2]))
  (ce : P.cellsOf e = 3) (o0 : f0.offset = 0) (o1 : f1.offset = 1) (o2 : f2.offset = 2) (c0 : P.cellsOf f0.type = 1) (c1 : P.cellsOf f1.type = 1) (c2 : P.cellsOf f2.type = 1)
  (h0 : P.underlying f0.type = some (.int k0)) (h1 : P.underlying f1.type = some (.int k1)) (h2 : P.underlying f2.type = some (.int k2))
  (hval : Value.okWide P W r base t v) (hd : DataW.Trod enc P W 0 (fun _ => true) true t v d ps) :
  ∃ (p0 : Option (Nat × Nat)) (xs ys zs : Nat → Int) (len cap : Nat), v = .slice (p0.map fun p => ⟨p.1, p.2, none⟩) len cap ∧ (∀ p, p0 = some p → p.1 < W.heap.size) ∧
   (∀ m, m ≤ len → ∀ σ, holds P σ p0 W (.roA 3 m (fun i => [.int k0 (xs i), .int k1 (ys i), .int k2 (zs i)]))) ∧
   (∀ i, (Lit.int k0 (xs i)).wf = true) ∧ (∀ i, (Lit.int k1 (ys i)).wf = true) ∧ (∀ i, (Lit.int k2 (zs i)).wf = true) ∧ len ≤ cap ∧ cap ≤ maxLen := by
 have z0 : ∀ k : IntKind, (Lit.int k 0).wf = true := fun k => by cases k <;> rfl
 obtain ⟨a1, len, cap, rfl⟩ := okWide_slice ht hval
 obtain ⟨fuel, hf⟩ := hd
 rcases open_slice ht hf with ⟨hcs, hx⟩ | ⟨a, len', cap', m, n, D, Pl, hcs, _, hl, hm, hmm, hx, hcell⟩
 ·simp [Value.cells] at hcs
  obtain ⟨rfl, rfl, rfl⟩ := hcs
  exact ⟨none, fun _ => 0, fun _ => 0, fun _ => 0, 0, 0, rfl, (fun p hp => by cases hp), (fun m hm σ => .inl ⟨rfl, Nat.le_zero.1 hm⟩), fun _ => z0 _, fun _ => z0 _, fun _ => z0 _, Nat.le_refl _, Nat.zero_le _⟩
 ·simp [Value.cells] at hcs
  obtain ⟨rfl, rfl, rfl⟩ := hcs
  simp only [if_true] at hmm
  obtain ⟨hspot, hlt⟩ := slice_in ht hval
  obtain ⟨b, o, sp⟩ := a
  simp only at hspot
  subst hspot
  have each : ∀ i, i < len → ∃ q : Int × Int × Int, W.cell? ⟨b, o + (i * 3 + 0), none⟩ = some (.int k0 q.1) ∧ W.cell? ⟨b, o + (i * 3 + 1), none⟩ = some (.int k1 q.2.1) ∧ W.cell? ⟨b, o + (i * 3 + 2), none⟩ = some (.int k2 q.2.2) ∧
    (Lit.int k0 q.1).wf = true ∧ (Lit.int k1 q.2.1).wf = true ∧ (Lit.int k2 q.2.2).wf = true := fun i hi => by
   obtain ⟨cs', g1, g2⟩ := hcell i (by omega)
   rw [ce] at g1
   obtain ⟨_, hlen, hc⟩ := World.cells?_some g1
   obtain ⟨xs, k, hk, hxy, _, hxl, hfs⟩ := DataW.trod_struct he g2
   match xs, hxl, cs', hlen with
   | [y0, y1, y2], _, [v0, v1, v2], _ =>
    have q0 := hfs 0 f0 rfl
    have q1 := hfs 1 f1 rfl
    have q2 := hfs 2 f2 rfl
    simp [o0, o1, o2, c0, c1, c2] at q0 q1 q2
    have e0 := hc 0 (by omega)
    have e1 := hc 1 (by omega)
    have e2 := hc 2 (by omega)
    rw [addr_add, addr_add] at e0 e1 e2
    obtain ⟨x, hx, _, hw⟩ := DataW.trod_int h0 q0
    obtain ⟨y, hy, _, hw'⟩ := DataW.trod_int h1 q1
    obtain ⟨z, hz, _, hw''⟩ := DataW.trod_int h2 q2
    simp only [List.cons.injEq, and_true] at hx hy hz
    subst hx hy hz
    exact ⟨(x, y, z), by simpa [Nat.add_assoc] using e0, by simpa [Nat.add_assoc] using e1, by simpa [Nat.add_assoc] using e2, hw, hw', hw''⟩
  obtain ⟨q, hq⟩ := choose_lt each
  refine ⟨some (b, o), fun i => if i < len then (q i).1 else 0, fun i => if i < len then (q i).2.1 else 0, fun i => if i < len then (q i).2.2 else 0, len, cap, rfl, (fun p hp => by cases hp; exact hlt), fun m hml σ => .inr ⟨b, o, rfl, fun i hi => ⟨rfl, fun j v hj => ?_⟩⟩, fun i => ?_, fun i => ?_, fun i => ?_, hl, hm⟩
  ·have hi : i < len := Nat.lt_of_lt_of_le hi hml
   obtain ⟨e0, e1, e2, _⟩ := hq i hi
   simp only [if_pos hi] at hj
   match j, hj with
   | 0, hj => cases hj; simp only [den]; exact e0
   | 1, hj => cases hj; simp only [den]; exact e1
   | 2, hj => cases hj; simp only [den]; exact e2
   | j + 3, hj => simp at hj
  ·dsimp only; split
   ·rename_i hi; exact (hq i hi).2.2.2.1
   ·exact z0 _
  ·dsimp only; split
   ·rename_i hi; exact (hq i hi).2.2.2.2.1
   ·exact z0 _
  ·dsimp only; split
   ·rename_i hi; exact (hq i hi).2.2.2.2.2
   ·exact z0 _
end
end Go.Sx
