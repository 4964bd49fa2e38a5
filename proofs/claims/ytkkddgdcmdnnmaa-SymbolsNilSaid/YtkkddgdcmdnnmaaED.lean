import Derived.Test.YtkkddgdcmdnnmaaEC
import Derived.RecoverIn
set_option linter.unusedVariables false
set_option linter.unusedSimpArgs false
/-
  The engine, part 32: blocks that a contract does not tell of; rows of two numbers.
-/
namespace Go.Sx
open Go
end Go.Sx
/-
  The engine, part 33: a contract that tells of some of its blocks only, by new names.
-/
namespace Go.Sx
open Go
end Go.Sx
/-
  The engine, part 34: as part 33, the blocks told of chosen by what comes out.
-/
namespace Go.Sx
open Go
end Go.Sx
/-
  The engine, part 35: a function that defers one closure of its own, which does nothing where nothing panics.
-/
namespace Go.Sx
open Go
/-- What a deferring body is made of: ahead of the statement (two parts), the statement (temporary j holds the closure of g over a and b), behind it. -/
def chkD (P : Program) : Code → Option (XC × XC × XC × Nat × Nat × Nat × Nat)
  | .seq c0 (.seq c1 (.seq (.region _ ops false) (.seq c3 .ret))) =>
    match ops.toList with
    | [m, d] => match m.op, d.op with
      | .makeFunc (.func g) first cap, .defer c => match m.dst, m.guard, d.dst, d.guard, first.toList, cap.toList with
        | some j, none, none, none, [], [.tmp a, .tmp b] => match c.callee, c.args.toList with
          | .value (.tmp j'), [] => if j' == j then match compile P c0, compile P c1, compile P c3 with
            | some x0, some x1, some x3 => some (x0, x1, x3, g, j, a, b)
            | _, _, _ => none
            else none
          | _, _ => none
        | _, _, _, _, _, _ => none
      | _, _ => none
    | _ => none
  | _ => none
theorem chkD_spec {P : Program} {c : Code} {x0 x1 x3 : XC} {g j a b : Nat} (h : chkD P c = some (x0, x1, x3, g, j, a, b)) :
    ∃ c0 c1 c3 id m d ca, c = .seq c0 (.seq c1 (.seq (.region id #[m, d] false) (.seq c3 .ret))) ∧ compile P c0 = some x0 ∧ compile P c1 = some x1 ∧ compile P c3 = some x3 ∧
      m.op = .makeFunc (.func g) #[] #[.tmp a, .tmp b] ∧ m.dst = some j ∧ m.guard = none ∧ d.op = .defer ca ∧ ca.callee = .value (.tmp j) ∧ ca.args = #[] ∧ d.dst = none ∧ d.guard = none := by
  unfold chkD at h
  split at h
  rotate_left
  · cases h
  rename_i c0 c1 id ops c3
  split at h
  rotate_left
  · cases h
  rename_i m d hops
  split at h
  rotate_left
  · cases h
  rename_i g' first cap ca hm hd
  split at h
  rotate_left
  · cases h
  rename_i j0 a0 b0 hmd hmg hdd hdg hf hc
  split at h
  rotate_left
  · cases h
  rename_i j1 hcal hargs
  split at h
  rotate_left
  · cases h
  rename_i hj
  split at h
  rotate_left
  · cases h
  rename_i y0 y1 y3 h0 h1 h3
  simp only [Option.some.injEq, Prod.mk.injEq] at h
  obtain ⟨rfl, rfl, rfl, rfl, rfl, rfl, rfl⟩ := h
  simp only [beq_iff_eq] at hj
  subst hj
  have e1 : ops = #[m, d] := by cases ops; simp only at hops; rw [hops]
  have e2 : first = #[] := by cases first; simp only at hf; rw [hf]
  have e3 : cap = #[.tmp a0, .tmp b0] := by cases cap; simp only at hc; rw [hc]
  have e4 : ca.args = #[] := by cases he : ca.args; rw [he] at hargs; simp only at hargs; rw [hargs]
  subst e1 e2 e3
  exact ⟨c0, c1, c3, id, m, d, ca, rfl, h0, h1, h3, hm, hmd, hmg, hd, hcal, e4, hdd, hdg⟩
/-- What the program's text says of a function that defers. -/
structure FnD (P : Program) (f : Nat) (x0 x1 x3 : XC) (g j a b n : Nat) (rs : List Nat) : Prop where
  go : ∀ (xs : Array Value) (w : World), (callFunc f xs).run P w = .ok (.enter f xs) w
  has : ∃ fn c, P.funcs[f]? = some fn ∧ fn.body = some c ∧ chkD P c = some (x0, x1, x3, g, j, a, b) ∧ fn.ntmps = n ∧ cRes P fn.results.toList = some rs
theorem FnD.of {P : Program} {f : Nat} {x0 x1 x3 : XC} {g j a b n : Nat} {rs : List Nat} {fn : Func} (go : ∀ (xs : Array Value) (w : World), (callFunc f xs).run P w = .ok (.enter f xs) w) (hf : P.funcs[f]? = some fn)
    (hc : fn.body.bind (chkD P) = some (x0, x1, x3, g, j, a, b)) (hn : fn.ntmps = n) (hr : cRes P fn.results.toList = some rs) : FnD P f x0 x1 x3 g j a b n rs := by
  refine ⟨go, ?_⟩
  cases hb : fn.body with
  | none => rw [hb] at hc; cases hc
  | some c => rw [hb] at hc; exact ⟨fn, c, hf, hb, hc, hn, hr⟩
theorem act_eval_tmp (σ : Names) (s : SS) (j : Nat) : (act σ s).eval (.tmp j) = den σ (s.t.getD j .undef) := by
  simp only [Act.eval, act]
  exact getD_den σ s.t j
/-- The statement: the closure, deferred. -/
theorem defer_ops {P : Program} {Q : Exit → Act → World → Prop} {m d : Oper} {ca : Go.Call} {g j a b : Nat} {σ : Names} {s : SS} {w : World} {id : Nat} (hr : s.rd = none)
    (hm : m.op = .makeFunc (.func g) #[] #[.tmp a, .tmp b]) (hmd : m.dst = some j) (hmg : m.guard = none) (hd : d.op = .defer ca) (hcal : ca.callee = .value (.tmp j)) (hargs : ca.args = #[]) (hdd : d.dst = none) (hdg : d.guard = none)
    (hj : j < s.t.length)
    (h : Q .normal (act σ { s with t := s.t.set j (.fn g [ev s (.t a), ev s (.t b)]), x := { target := .fn (.func g) #[den σ (ev s (.t a)), den σ (ev s (.t b))], args := #[] } :: s.x }) w) (hxd : s.d = []) :
    (Code.region id #[m, d] false).wpIn (FR (rOf σ s)) 0 P Q (act σ s) w := by
  have hro : rOf σ s = none := by simp [rOf, hr]
  rw [hro]
  refine wpIn_region ?_
  have e1 : (act σ s).put m.dst (.func (.func g) #[] #[den σ (ev s (.t a)), den σ (ev s (.t b))]) = act σ { s with t := s.t.set j (.fn g [ev s (.t a), ev s (.t b)]) } := by
    rw [hmd]
    have := act_put σ s (some j) (.fn g [ev s (.t a), ev s (.t b)])
    simpa [put, den, denL] using this
  have hw1 : Region.wanted m (yielded #[m, d] (act σ s).tmps) = true := by simp [Region.wanted, hmg]
  have hrun : (execOp (act σ s).eval m).run P w = .ok (.value (.func (.func g) #[] #[den σ (ev s (.t a)), den σ (ev s (.t b))])) w := by
    simp only [execOp, hm, Instr.makeFunc, List.map_toArray, List.map_cons, List.map_nil, act_eval_tmp, ev]
    rfl
  have hlist : List.range (#[m, d] : Array Oper).size = [0, 1] := rfl
  rw [hlist]
  have hw2 : ∀ t, Region.wanted d (yielded #[m, d] t) = true := fun t => by simp [Region.wanted, hdg]
  have h0 : (#[m, d] : Array Oper)[0]? = some m := rfl
  have h1 : (#[m, d] : Array Oper)[1]? = some d := rfl
  have hsem : ∀ t, Oper.semAt (FR none).round t d = execOp t d := fun t => Oper.semAt_none t d
  simp only [wpOpsIn, h0, h1]
  rw [if_pos hw1]
  refine wpIn_of_run (by rw [hm]; intro c hc; cases hc) ?_
  rw [hrun]
  simp only [Oper.uponIn, e1]
  rw [if_pos (hw2 _)]
  have hrun2 : (execOp (act σ { s with t := s.t.set j (.fn g [ev s (.t a), ev s (.t b)]) }).eval d).run P w = .ok (.defer { target := .fn (.func g) #[den σ (ev s (.t a)), den σ (ev s (.t b))], args := #[] }) w := by
    have e2 : (act σ { s with t := s.t.set j (.fn g [ev s (.t a), ev s (.t b)]) }).eval (.tmp j) = .func (.func g) #[] #[den σ (ev s (.t a)), den σ (ev s (.t b))] := by
      rw [act_eval_tmp]
      simp [hj, den, denL]
    simp only [execOp, hd, resolve, hcal, hargs, e2, Deferred.ofValue]
    simp
  refine ⟨fun _ _ => trivial, ?_⟩
  rw [hsem, hrun2]
  simp only [Oper.uponIn, hdd]
  have e3 : ({ (act σ { s with t := s.t.set j (.fn g [ev s (.t a), ev s (.t b)]) }) with defers := { target := .fn (.func g) #[den σ (ev s (.t a)), den σ (ev s (.t b))], args := #[] } :: (act σ { s with t := s.t.set j (.fn g [ev s (.t a), ev s (.t b)]) }).defers } : Act) =
      act σ { s with t := s.t.set j (.fn g [ev s (.t a), ev s (.t b)]), x := { target := .fn (.func g) #[den σ (ev s (.t a)), den σ (ev s (.t b))], args := #[] } :: s.x } := by
    simp [act, hxd]
  show Q .normal (Act.put _ none _) w
  rw [show ∀ (A : Act) (v : Value), A.put none v = A from fun _ _ => rfl, e3]
  exact h
/-- Behind the statement: D is what is deferred. -/
def finD (D : Deferred) (rs : List Nat) (Post : SV → List SB → List Nat → Prop) : XE → SS → Prop := fun e s =>
  match e with
  | .normal => s.x = [D] ∧ s.d = [] ∧ resOk s rs = true ∧ Post (retV s rs) s.h s.r
  | _ => False
/-- Ahead of the statement. -/
def deferK (O : Ops) (P : Program) (x3 : XC) (g j a b : Nat) (rs : List Nat) (Post : SV → List SB → List Nat → Prop) : XE → SS → Prop := fun e s =>
  match e with
  | .normal => s.d = [] ∧ s.x = [] ∧ ltB j s.t.length = true ∧ ∀ D, ex O P x3 { s with t := s.t.set j (.fn g [ev s (.t a), ev s (.t b)]), x := [D] } (finD D rs Post)
  | _ => False
theorem con_of_defer {P : Program} {f : Nat} {x0 x1 x3 : XC} {g j a b n : Nat} {rs : List Nat} {args : List SV} {H : List SB} {Post : SV → List SB → List Nat → Prop} (hm : P.follows .mixedOrders = true) (hf : FnD P f x0 x1 x3 g j a b n rs)
    (hg : ∀ (xs : Array Value) (w : World), (callFunc g xs).run P w = .ok (.enter g xs) w)
    (hD : ∀ caps w, CallsDIn (FR none) 0 P g caps .returning w fun e u' w' => (∃ v, e = .returned v) ∧ u' = .returning ∧ w' = w)
    (h : ex std P (.seq x0 x1) { t := args ++ List.replicate (n - args.length) .undef, h := H, r := [], d := [], rd := none } (deferK std P x3 g j a b rs Post)) : Con P f args H Post := by
  obtain ⟨fn, c, h1, h2, h3, h4, h5⟩ := hf.has
  obtain ⟨c0, c1, c3, id, m, d, ca, rfl, hc0, hc1, hc3, hmo, hmd, hmg, hdo, hcal, hargs, hdd, hdg⟩ := chkD_spec h3
  refine ⟨hf.go, fun σ w hok => ?_⟩
  refine callsIn_of_wp_defers h1 h2 trivial ?_
  have hok' : Ok P σ { t := args ++ List.replicate (n - args.length) .undef, h := H, r := [], d := [], rd := none } w := ⟨hok.lt, hok.ne, hok.blk, hok.marks, hok.rnd⟩
  have ha : act σ { t := args ++ List.replicate (n - args.length) .undef, h := H, r := [], d := [], rd := none } = { tmps := (denL σ args).toArray ++ Array.replicate (fn.ntmps - (denL σ args).toArray.size) undef, defers := [] } := by
    simp only [act, denL_append, List.map_nil, List.append_nil, h4, List.size_toArray, denL_len]
    congr 1
    simp only [denL_eq, List.map_replicate, den]
    rw [← List.toArray_replicate]
    simp
  rw [← ha]
  simp only [ex] at h
  refine wpIn_seq (ex_sound (draw_law hm) c0 x0 σ _ w _ _ hc0 h hok' (fun e' e σ' s' a' w' hK hok1 hst1 he => ?_))
  have hrd1 : s'.rd = none := hst1.rd
  cases e' <;> cases e <;> simp only [exitOk] at he <;> simp only [seqK, deferK] at hK
  subst he
  have hf1 : rOf σ' s' = none := by simp [rOf, hrd1]
  show (Code.seq c1 (.seq (.region id #[m, d] false) (.seq c3 .ret))).wpIn (FR none) 0 P _ (act σ' s') w'
  have w1 := ex_sound (draw_law hm) c1 x1 σ' s' w' _ (Exit.then ((Code.seq (.region id #[m, d] false) (.seq c3 .ret)).wpIn (FR none) 0 P (bodyPostDIn (FR none) 0 P fn (COut P σ H w Post))) (bodyPostDIn (FR none) 0 P fn (COut P σ H w Post))) hc1 hK hok1 (fun e' e σ2 s2 a2 w2 hK hok2 hst2 he => by
    have hrd2 : s2.rd = none := by rw [hst2.rd, hrd1]
    cases e' <;> cases e <;> simp only [exitOk] at he <;> simp only [deferK] at hK
    subst he
    obtain ⟨hd2, hx2, hj, hK⟩ := hK
    have hj : j < s2.t.length := by simpa [ltB] using hj
    have hf2 : rOf σ2 s2 = none := by simp [rOf, hrd2]
    show (Code.seq (.region id #[m, d] false) (.seq c3 .ret)).wpIn (FR none) 0 P _ (act σ2 s2) w2
    refine wpIn_seq ?_
    have h3 := defer_ops (P := P) (Q := Exit.then ((Code.seq c3 .ret).wpIn (FR none) 0 P (bodyPostDIn (FR none) 0 P fn (COut P σ H w Post))) (bodyPostDIn (FR none) 0 P fn (COut P σ H w Post))) (σ := σ2) (s := s2) (w := w2) (id := id) hrd2 hmo hmd hmg hdo hcal hargs hdd hdg hj ?_ hd2
    · rw [hf2] at h3; exact h3
    generalize hD0 : ({ target := .fn (.func g) #[den σ2 (ev s2 (.t a)), den σ2 (ev s2 (.t b))], args := #[] } : Deferred) = D
    rw [hx2]
    show (Code.seq c3 .ret).wpIn (FR none) 0 P _ (act σ2 { s2 with t := s2.t.set j (.fn g [ev s2 (.t a), ev s2 (.t b)]), x := [D] }) w2
    have hok3 : Ok P σ2 { s2 with t := s2.t.set j (.fn g [ev s2 (.t a), ev s2 (.t b)]), x := [D] } w2 := ⟨hok2.lt, hok2.ne, hok2.blk, hok2.marks, hok2.rnd⟩
    have hf3 : rOf σ2 { s2 with t := s2.t.set j (.fn g [ev s2 (.t a), ev s2 (.t b)]), x := [D] } = none := by simp [rOf, hrd2]
    have w3 := ex_sound (draw_law hm) c3 x3 σ2 _ w2 _ (Exit.then (Code.ret.wpIn (FR none) 0 P (bodyPostDIn (FR none) 0 P fn (COut P σ H w Post))) (bodyPostDIn (FR none) 0 P fn (COut P σ H w Post))) hc3 (hK D) hok3 (fun e' e σ3 s3 a3 w3 hK hok4 hst4 he => by
      have hrd3 : s3.rd = none := by rw [hst4.rd]; exact hrd2
      cases e' <;> cases e <;> simp only [exitOk] at he <;> simp only [finD] at hK
      subst he
      obtain ⟨hx3, hd3, hres, hP⟩ := hK
      show Code.ret.wpIn (FR none) 0 P _ (act σ3 s3) w3
      refine wpIn_ret ?_
      show LeavesIn (FR none) 0 P fn (act σ3 s3).tmps (COut P σ H w Post) (act σ3 s3).defers .returning w3
      rw [show (act σ3 s3).defers = [D] by simp only [act, hx3, hd3, List.map_nil, List.nil_append]]
      have hu : unm s3 = { s3 with d := [] } := by unfold unm; rw [hd3]; rfl
      have hok5 : Ok P σ3 (unm s3) w3 := by rw [hu]; exact ⟨hok4.lt, hok4.ne, hok4.blk, (fun l hl => by cases hl), hok4.rnd⟩
      subst hD0
      refine ⟨by simp, fun h => by simp [FR, Fence.wide] at h, .func g, #[den σ2 (ev s2 (.t a)), den σ2 (ev s2 (.t b))], g, #[den σ2 (ev s2 (.t a)), den σ2 (ev s2 (.t b))], rfl, ?_, fun _ _ => trivial, ?_⟩
      · simp only [invoke]
        exact hg _ _
      · refine (hD _ _).mono ?_
        rintro e u' w4 ⟨⟨v, rfl⟩, rfl, rfl⟩
        refine ⟨_, run_results hok4 hok5 h5 hres, σ3, retV s3 rs, s3.h, s3.r, hP, rfl, ⟨hok4.lt, hok4.ne, hok4.blk, (fun l hl => by cases hl), (fun l hl => by cases hl)⟩, ?_⟩
        have hst := ((hst1.trans hst2).trans (show Step σ2 s2 w2 σ2 { s2 with t := s2.t.set j (.fn g [ev s2 (.t a), ev s2 (.t b)]), x := [{ target := .fn (.func g) #[den σ2 (ev s2 (.t a)), den σ2 (ev s2 (.t b))], args := #[] }] } w2 from ⟨(Step.refl σ2 s2 w2).size, rfl, rfl, rfl, (Step.refl σ2 s2 w2).far, (Step.refl σ2 s2 w2).len, (Step.refl σ2 s2 w2).names, (Step.refl σ2 s2 w2).red, (Step.refl σ2 s2 w2).own, rfl⟩)).trans hst4
        exact ⟨hst.size, hst.os, hst.tape, hst.output, hst.far, hst.len, hst.names, hst.red, hst.own, rfl⟩)
    rw [hf3] at w3
    exact wpIn_seq w3)
  rw [hf1] at w1
  exact wpIn_seq w1
end Go.Sx
namespace Go.Sx
open Go
/-- A deferred closure that asks what it recovers, and does nothing where that is nothing. -/
def chkR : Code → Option Nat
  | .seq (.region _ r0 false) (.seq (.region _ r1 false) (.cond (.tmp e) _ .skip)) =>
    match r0.toList, r1.toList with
    | [o0, o1], [o2, o3] => match o0.op, o1.op, o2.op, o3.op with
      | .call c, .assign (.tmp a'), .move (.tmp b'), .binOp .neq ty (.tmp d') (.const .nilIface) _ => match c.callee, c.args.toList, o0.dst, o1.dst, o2.dst, o3.dst, o0.guard, o1.guard, o2.guard, o3.guard with
        | .builtin .recover, [], some a, some b, some d, some e', none, none, none, none => if a' == a && b' == b && d' == d && e' == e && (ltB a 10 && ltB b 10 && ltB d 10 && ltB e 10) then some ty else none
        | _, _, _, _, _, _, _, _, _, _ => none
      | _, _, _, _ => none
    | _, _ => none
  | _ => none
theorem chkR_spec {c : Code} {ty : Nat} (h : chkR c = some ty) : ∃ i0 i1 o0 o1 o2 o3 x a b d e c0 yt, c = .seq (.region i0 #[o0, o1] false) (.seq (.region i1 #[o2, o3] false) (.cond (.tmp e) x .skip)) ∧
    o0.op = .call c0 ∧ c0.callee = .builtin .recover ∧ c0.args = #[] ∧ o0.dst = some a ∧ o1.op = .assign (.tmp a) ∧ o1.dst = some b ∧ o2.op = .move (.tmp b) ∧ o2.dst = some d ∧ o3.op = .binOp .neq ty (.tmp d) (.const .nilIface) yt ∧ o3.dst = some e ∧
    o0.guard = none ∧ o1.guard = none ∧ o2.guard = none ∧ o3.guard = none ∧ a < 10 ∧ b < 10 ∧ d < 10 ∧ e < 10 := by
  unfold chkR at h
  split at h
  rotate_left
  · cases h
  rename_i i0 r0 i1 r1 e x
  split at h
  rotate_left
  · cases h
  rename_i o0 o1 o2 o3 h0 h1
  split at h
  rotate_left
  · cases h
  rename_i c0 a' b' ty' d' yt q0 q1 q2 q3
  split at h
  rotate_left
  · cases h
  rename_i a b d e' g0 g1 g2 g3 g4 g5 g6 g7 g8 g9
  split at h
  rotate_left
  · cases h
  rename_i hh
  simp only [Bool.and_eq_true, beq_iff_eq] at hh
  obtain ⟨⟨⟨⟨rfl, rfl⟩, rfl⟩, rfl⟩, ⟨⟨l1, l2⟩, l3⟩, l4⟩ := hh
  simp only [ltB, decide_eq_true_eq] at l1 l2 l3 l4
  simp only [Option.some.injEq] at h
  subst h
  have e0 : r0 = #[o0, o1] := by cases r0; simp only at h0; rw [h0]
  have e1 : r1 = #[o2, o3] := by cases r1; simp only at h1; rw [h1]
  have e2 : c0.args = #[] := by cases he : c0.args; rw [he] at g1; simp only at g1; rw [g1]
  subst e0 e1
  exact ⟨i0, i1, o0, o1, o2, o3, x, _, _, _, _, c0, yt, rfl, q0, g0, e2, g2, q1, g3, q2, g4, q3, g5, g6, g7, g8, g9, l1, l2, l3, l4⟩
theorem eval_put (A : Act) (j : Nat) (v : Value) (h : j < A.tmps.size) : (A.put (some j) v).eval (.tmp j) = v := by
  simp [Act.put, Act.eval, Array.getD, h]
theorem size_put (A : Act) (j : Nat) (v : Value) : (A.put (some j) v).tmps.size = A.tmps.size := by simp [Act.put]
theorem callsD_quiet {P : Program} {g : Nat} {fn : Func} {ty : Nat} (hf : P.funcs[g]? = some fn) (hc : fn.body.bind chkR = some ty) (hr : fn.results = #[]) (hn : 10 ≤ fn.ntmps)
    (hgd : ∀ d w, (eqGuard .neq ty (.tmp d) (.const .nilIface) .nilIface .nilIface).run P w = .ok () w) (hnil : ∀ w, (binOp .neq ty .nilIface .nilIface).run P w = .ok (.bool false) w) (caps : Array Value) (w : World) :
    CallsDIn (FR none) 0 P g caps .returning w fun e u' w' => (∃ v, e = .returned v) ∧ u' = .returning ∧ w' = w := by
  cases hb : fn.body with
  | none => rw [hb] at hc; cases hc
  | some c =>
  rw [hb] at hc
  obtain ⟨i0, i1, o0, o1, o2, o3, x, a, b, d, e, c0, yt, rfl, q0, q1, q2, q3, q4, q5, q6, q7, q8, q9, g0, g1, g2, g3, la, lb, ld, le⟩ := chkR_spec hc
  refine callsDIn_of_wpSIn hf hb trivial (fun c₀ cs hmode => ?_)
  have hrec : recoverD (c₀ :: cs) = none := by simp [recoverD, hmode]
  generalize hA : ({ tmps := caps ++ Array.replicate (fn.ntmps - caps.size) undef, defers := [] } : Act) = A
  have hsz : 10 ≤ A.tmps.size := by rw [← hA]; simp; omega
  have hdf : A.defers = [] := by rw [← hA]
  have hw : ∀ (o : Oper) (ops : Array Oper) (T : Array Value), o.guard = none → Region.wanted o (yielded ops T) = true := fun o ops T h => by simp [Region.wanted, h]
  have r0 : (execOp A.eval o0).run P w = .ok .recover w := by
    simp only [execOp, q0, resolve, q1, q2]
    rfl
  have r1 : (execOp (A.put (some a) .nilIface).eval o1).run P w = .ok (.value .nilIface) w := by simp [execOp, q4, eval_put A a .nilIface (Nat.lt_of_lt_of_le la hsz)]
  refine wpSIn_seq (wpSIn_region ?_)
  rw [show List.range (#[o0, o1] : Array Oper).size = [0, 1] from rfl]
  simp only [wpOpsSIn, show (#[o0, o1] : Array Oper)[0]? = some o0 from rfl, show (#[o0, o1] : Array Oper)[1]? = some o1 from rfl, hw o0 _ _ g0, hw o1 _ _ g1, if_true, r0, hrec, q3, r1, q5]
  refine ⟨fun _ _ => trivial, fun _ _ => trivial, ?_⟩
  generalize hB : (A.put (some a) .nilIface).put (some b) .nilIface = B
  have hBs : 10 ≤ B.tmps.size := by rw [← hB, size_put, size_put]; exact hsz
  have hBd : B.defers = [] := by rw [← hB]; exact hdf
  have hBe : B.eval (.tmp b) = .nilIface := by rw [← hB]; exact eval_put _ b _ (by rw [size_put]; exact Nat.lt_of_lt_of_le lb hsz)
  have r2 : (execOp B.eval o2).run P w = .ok (.value .nilIface) w := by simp [execOp, q6, hBe]
  have hd : (B.put (some d) .nilIface).eval (.tmp d) = .nilIface := eval_put B d _ (Nat.lt_of_lt_of_le ld hBs)
  have hk : (B.put (some d) .nilIface).eval (.const .nilIface) = .nilIface := rfl
  have r3 : (execOp (B.put (some d) .nilIface).eval o3).run P w = .ok (.value (.bool false)) w := by
    simp only [execOp, q8, hd, hk]
    simp [hgd d w, hnil w]
  show (Code.seq (.region i1 #[o2, o3] false) (.cond (.tmp e) x .skip)).wpSIn (FR none) 0 P _ B (c₀ :: cs) w
  refine wpSIn_seq (wpSIn_region ?_)
  rw [show List.range (#[o2, o3] : Array Oper).size = [0, 1] from rfl]
  simp only [wpOpsSIn, show (#[o2, o3] : Array Oper)[0]? = some o2 from rfl, show (#[o2, o3] : Array Oper)[1]? = some o3 from rfl, hw o2 _ _ g2, hw o3 _ _ g3, if_true, r2, q7, r3, q9]
  refine ⟨fun _ _ => trivial, fun _ _ => trivial, ?_⟩
  have he : ((B.put (some d) .nilIface).put (some e) (.bool false)).eval (.tmp e) = .bool false := eval_put _ e _ (by rw [size_put]; exact Nat.lt_of_lt_of_le le hBs)
  show (Code.cond (.tmp e) x .skip).wpSIn (FR none) 0 P _ _ (c₀ :: cs) w
  refine wpSIn_cond he ?_
  refine wpSIn_of_wpIn rfl (wpIn_skip ?_)
  refine ⟨hBd, .returning, by rw [← hmode], .tuple #[], ?_, ⟨_, rfl⟩, rfl, rfl⟩
  simp [results, hr]
end Go.Sx
/-
  The engine, part 36: a struct of a row of numbers and a number that comes in as an argument.
-/
namespace Go.Sx
open Go Go.ChangeShapes Go.WideShapes Go.RowKit Go.Deep
variable {H : Type} {enc : TypeId × Value → H} {P : Program}
/-- A row of numbers in one cell. -/
theorem ints_cell {W : World} {base : Nat} {r : Reach} {t e : TypeId} {k : IntKind} {x : Value} {m : Nat} {y : DataW H × List MemPlace} (ht : P.underlying t = some (.slice e)) (he : P.underlying e = some (.int k)) (hc : P.cellsOf e = 1)
    (hval : Cell.okWide P W r base t x) (hf : DataW.trod enc P W 0 (fun _ => true) true m t [x] = some y) :
    ∃ (p0 : Option (Nat × Nat)) (l : List Int) (cap : Nat), x = .slice (p0.map fun p => ⟨p.1, p.2, none⟩) l.length cap ∧ (∀ p, p0 = some p → p.1 < W.heap.size) ∧ (∀ σ, holds P σ p0 W (.ro k l)) ∧ (∀ x ∈ l, (Lit.int k x).wf = true) ∧
      l.length ≤ cap ∧ cap ≤ maxLen := by
  rcases open_ints ht he hc hf with ⟨hcs, hx⟩ | ⟨a, len, cap, zs, hcs, _, hl, hm, hz, hx, hcell, hwz⟩
  · simp only [List.cons.injEq, and_true] at hcs
    subst hcs
    exact ⟨none, [], 0, rfl, (fun p hp => by cases hp), (fun σ => .inl ⟨rfl, rfl⟩), (by simp), Nat.le_refl _, Nat.zero_le _⟩
  · simp only [List.cons.injEq, and_true] at hcs
    subst hcs
    simp only [if_true] at hz
    have hk : Cell.ok P W r base t (.slice (some a) len cap) := by
      simp only [Cell.okWide, ht] at hval
      exact hval
    simp only [Cell.ok, ht] at hk
    obtain ⟨_, _, _, hspot, row, cells, hsh, _⟩ := hk
    have hlt : a.block < W.heap.size := by
      unfold World.shape? at hsh
      cases hg : W.heap[a.block]? with
      | none => rw [hg] at hsh; cases hsh
      | some o => exact (Array.getElem?_eq_some_iff.1 hg).1
    have hlen : (zs.take len).length = len := by simp; omega
    refine ⟨some (a.block, a.off), zs.take len, cap, ?_, (fun p hp => by cases hp; exact hlt), fun σ => .inr ⟨a.block, a.off, rfl, fun i hi => ?_⟩, fun x hx => hwz x (List.mem_of_mem_take hx), (by rw [hlen]; exact hl), hm⟩
    · rw [hlen]
      obtain ⟨b, o, sp⟩ := a
      simp only at hspot
      subst hspot
      rfl
    · have hi' : i < zs.length := by simp at hi; omega
      have := hcell i hi'
      obtain ⟨b, o, sp⟩ := a
      simp only at hspot
      subst hspot
      have e : (zs.take len).getD i 0 = zs.getD i 0 := by
        rw [hlen] at hi
        simp [List.getD_eq_getElem?_getD, List.getElem?_take, hi]
      rw [e]
      have ea : (⟨b, o, none⟩ : Addr).add i = ⟨b, o + i, none⟩ := by
        unfold Addr.add
        split
        · rename_i h; subst h; rfl
        · rfl
      rw [ea] at this
      exact this
/-- A struct of a row of numbers and a number that came in. -/
theorem arg_code {W : World} {base : Nat} {r : Reach} {t ts ti e : TypeId} {f0 f1 : Field} {k k2 : IntKind} {v : Value} {d : DataW H} {ps : List MemPlace} (ht : P.underlying t = some (.struct #[f0, f1]))
    (ht0 : f0.type = ts) (ho0 : f0.offset = 0) (ht1 : f1.type = ti) (ho1 : f1.offset = 1)
    (hs : P.cellsOf t = 2) (h1 : P.cellsOf ts = 1) (h2 : P.cellsOf ti = 1) (hct : P.cellTypes P.depth t = some [ts, ti]) (hts : P.underlying ts = some (.slice e)) (he : P.underlying e = some (.int k)) (hc : P.cellsOf e = 1) (hti : P.underlying ti = some (.int k2))
    (hval : Value.okWide P W r base t v) (hd : DataW.Trod enc P W 0 (fun _ => true) true t v d ps) :
    ∃ (p0 : Option (Nat × Nat)) (l : List Int) (cap : Nat) (a : Int), v = .agg #[.slice (p0.map fun p => ⟨p.1, p.2, none⟩) l.length cap, .int k2 a] ∧ (∀ p, p0 = some p → p.1 < W.heap.size) ∧ (∀ σ, holds P σ p0 W (.ro k l)) ∧ (∀ x ∈ l, (Lit.int k x).wf = true) ∧
      l.length ≤ cap ∧ cap ≤ maxLen ∧ (Lit.int k2 a).wf = true := by
  simp only [Value.okWide, ht] at hval
  obtain ⟨cs, rfl, hsz, ts', hct', _, hcell⟩ := hval
  rw [hct, Option.some.injEq] at hct'
  subst hct'
  rw [hs] at hsz
  obtain ⟨fuel, hf⟩ := hd
  cases fuel with
  | zero => simp [DataW.trod] at hf
  | succ m =>
    rw [DataW.trod_step] at hf
    unfold DataW.trodStep at hf
    simp only [ht, Value.cells] at hf
    rw [if_pos (by rw [hs]; simpa using hsz)] at hf
    simp only [Option.map_eq_some_iff] at hf
    obtain ⟨ys, hy, _⟩ := hf
    obtain ⟨l⟩ := cs
    match l, hsz with
    | [x, z], _ =>
      simp [bind, pure, Option.bind_eq_some_iff, List.mapM_cons, ht0, ho0, ht1, ho1, h1, h2] at hy
      obtain ⟨_, _, h3, _, ⟨_, _, h4, _⟩, _⟩ := hy
      have c0 : Cell.okWide P W r base ts x := by
        obtain ⟨u, hu, hk⟩ := hcell 0 x (by simp)
        simp at hu
        rw [hu]; exact hk
      obtain ⟨p0, l0, cap, rfl, e1, e2, e3, e4, e5⟩ := ints_cell hts he hc c0 h3
      obtain ⟨a, ea, _, wa⟩ := DataW.trod_int hti h4
      simp only [List.cons.injEq, and_true] at ea
      subst ea
      exact ⟨p0, l0, cap, a, rfl, e1, e2, e3, e4, e5, wa⟩
    | [], h => simp at h
    | [_], h => simp at h
    | _ :: _ :: _ :: _, h => simp at h
end Go.Sx
