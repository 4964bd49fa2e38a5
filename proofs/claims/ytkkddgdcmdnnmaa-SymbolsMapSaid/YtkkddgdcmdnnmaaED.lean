import Derived.Test.YtkkddgdcmdnnmaaEC
import Derived.RecoverIn
set_option linter.unusedVariables false
set_option linter.unusedSimpArgs false
namespace Go.Sx
open Go
end Go.Sx
namespace Go.Sx
open Go
def picks (ks : List Nat) : List (Nat × Ix) := ks.map fun k => (k, .z)
def headIs : Nat → List Nat → Nat → Bool
  | 0, _, _ => true
  | n + 1, k :: ks, i => if k == i then headIs n ks (i + 1) else false
  | _ + 1, [], _ => false
theorem headIs_spec : ∀ {n : Nat} {ks : List Nat} {i : Nat}, headIs n ks i = true → ∀ j, j < n → ks[j]? = some (i + j)
  | 0, _, _, _, j, hj => by omega
  | n + 1, [], _, h, j, hj => by simp [headIs] at h
  | n + 1, k :: ks, i, h, j, hj => by
    simp only [headIs] at h
    split at h
    · rename_i hk
      cases j with
      | zero => simp at hk; simp [hk]
      | succ j =>
        have := headIs_spec h j (by omega)
        simp only [List.getElem?_cons_succ, this, Option.some.injEq]; omega
    · cases h
def noDupL : List Nat → Bool
  | [] => true
  | k :: ks => if memN k ks then false else noDupL ks
theorem memN_false {n : Nat} : ∀ {l : List Nat}, memN n l = false → n ∉ l
  | [], _ => by simp
  | m :: l, h => by
    simp only [memN] at h
    split at h
    · cases h
    · rename_i hne
      simp only [beq_iff_eq] at hne
      simp only [List.mem_cons, not_or]
      exact ⟨hne, memN_false h⟩
theorem noDupL_spec : ∀ {ks : List Nat}, noDupL ks = true → ∀ (i j : Nat) (a : Nat), ks[i]? = some a → ks[j]? = some a → i = j
  | [], _, i, j, a, hi, _ => by simp at hi
  | k :: ks, h, i, j, a, hi, hj => by
    simp only [noDupL] at h
    split at h
    · cases h
    rename_i hm
    have hm := memN_false (by simpa using hm)
    cases i with
    | zero =>
      cases j with
      | zero => rfl
      | succ j =>
        simp at hi hj; subst hi
        exact (hm (List.mem_of_getElem? hj)).elim
    | succ i =>
      cases j with
      | zero =>
        simp at hi hj; subst hj
        exact (hm (List.mem_of_getElem? hi)).elim
      | succ j =>
        simp at hi hj
        rw [noDupL_spec h i j a hi hj]
def pickB (ks : List Nat) (H' : List SB) : List Nat → List SB → Prop
  | [], [] => True
  | k :: l, B :: H2 => H'[k]? = some (renB (picks ks) 0 B) ∧ okB (picks ks) 0 B (pickB ks H' l H2)
  | _, _ => False
theorem pickB_spec {ks : List Nat} {H' : List SB} : ∀ {l : List Nat} {H2 : List SB}, pickB ks H' l H2 → H2.length = l.length ∧ ∀ (i : Nat) (B : SB), H2[i]? = some B → ∃ k : Nat, l[i]? = some k ∧ H'[k]? = some (renB (picks ks) 0 B) ∧ okB (picks ks) 0 B True
  | [], [], _ => ⟨rfl, fun i B h => by simp at h⟩
  | k :: l, B :: H2, h => by
    obtain ⟨h1, h2⟩ := h
    obtain ⟨h3, h4⟩ := okB_iff h2
    obtain ⟨h5, h6⟩ := pickB_spec h3
    refine ⟨by simp [h5], fun i B' hB' => ?_⟩
    cases i with
    | zero => simp at hB'; subst hB'; exact ⟨k, rfl, h1, h4⟩
    | succ i => simp at hB'; obtain ⟨k', e1, e2⟩ := h6 i B' hB'; exact ⟨k', by simpa using e1, e2⟩
  | [], _ :: _, h => h.elim
  | _ :: _, [], h => h.elim
end Go.Sx
namespace Go.Sx
open Go
theorem con_picks {P : Program} {f : Nat} {args : List SV} {H : List SB} {Post : SV → List SB → List Nat → Prop}
    (h : Con P f args H (fun v H' R => ∃ ks v2 H2, headIs H.length ks 0 = true ∧ noDupL ks = true ∧ v = ren (picks ks) 0 v2 ∧ okV (picks ks) 0 v2 = true ∧ pickB ks H' ks H2 ∧ Post v2 H2 R)) : Con P f args H Post := by
  refine ⟨h.go, fun σ w hok => (h.out σ w hok).mono ?_⟩
  rintro e w' ⟨σ', v, H', R, ⟨ks, v2, H2, hk, hd, rfl, hv, hpk, hP⟩, k2, k3, k4⟩
  obtain ⟨hlen, hB2⟩ := pickB_spec hpk
  have hrn : ∀ i k, ks[i]? = some k → rn (picks ks) 0 i = (k, .z) := fun i k hi => by unfold rn picks; rw [List.getElem?_map, hi]; rfl
  have hσ : ∀ i k, ks[i]? = some k → cut (picks ks) 0 σ' i = σ' k := fun i k hi => by
    unfold cut; rw [hrn i k hi]
    show (σ' k).map (fun p => (p.1, p.2 + 0)) = σ' k
    cases σ' k <;> rfl
  refine ⟨cut (picks ks) 0 σ', v2, H2, R, hP, ?_, ⟨fun i p hi hp => ?_, fun i j B C p q hij hB hC ho hp hq => ?_, fun i B hB => ?_, (fun l hl => by cases hl), (fun l hl => by cases hl)⟩,
    ⟨k4.size, k4.os, k4.tape, k4.output, k4.far, ?_, fun i hi hR => ?_, k4.red, fun i B p hB ho hp hlt => ?_, rfl⟩⟩
  · rw [k2, den_ren (picks ks) 0 σ' _ (fun _ => rfl) v2 hv]
  · obtain ⟨B, hB⟩ : ∃ B, H2[i]? = some B := ⟨_, List.getElem?_eq_getElem hi⟩
    obtain ⟨k, e1, e2, _⟩ := hB2 i B hB
    rw [hσ i k e1] at hp
    exact k3.lt k p (by have := List.getElem?_eq_some_iff.1 e2; exact this.1) hp
  · obtain ⟨k, e1, e2, _⟩ := hB2 i B hB
    obtain ⟨k', e1', e2', _⟩ := hB2 j C hC
    rw [hσ i k e1] at hp
    rw [hσ j k' e1'] at hq
    refine k3.ne k k' _ _ p q (fun e => hij ?_) e2 e2' (by rw [own_renB, own_renB]; exact ho) hp hq
    subst e
    exact noDupL_spec hd i j k e1 e1'
  · obtain ⟨k, e1, e2, e3⟩ := hB2 i B hB
    rw [hσ i k e1]
    exact (holds_ren (fun _ => rfl) e3).1 (k3.blk k _ e2)
  · have := headIs_spec hk
    show H.length ≤ H2.length
    rw [hlen]
    rcases Nat.lt_or_ge ks.length H.length with hlt | hge
    · have := this ks.length hlt
      simp at this
    · exact hge
  · have hi : i < H.length := hi
    have h1 := headIs_spec hk i hi
    rw [Nat.zero_add] at h1
    rw [hσ i i h1]
    exact k4.names i hi hR
  · obtain ⟨k, e1, e2, _⟩ := hB2 i B hB
    rw [hσ i k e1] at hp
    exact k4.own k _ p e2 (by rw [own_renB]; exact ho) hp hlt
end Go.Sx
namespace Go.Sx
open Go
def chkD (P : Program) : Code → Option (XC × XC × XC × Nat × Nat × Nat × Nat)
  | .seq c0 (.seq c1 (.seq (.region _ ops false) (.seq c3 .ret))) =>
    match ops.toList with
    | [m, d] => match m.op, d.op with
      | .makeFunc (.func g) first cap, .defer c => match m.dst, m.guard, d.dst, d.guard, first.toList, cap.toList with
        | some j, none, none, none, [], [.tmp a, .tmp b] => match c.callee, c.args.toList with
          | .value (.tmp j'), [] => if j' == j then match compile P c0, compile P c1, compile P c3 with
            | some x0, some x1, some x3 => some (x0, x1, x3, g, j, a, b)
            | _, _, _ => none
            else none
          | _, _ => none
        | _, _, _, _, _, _ => none
      | _, _ => none
    | _ => none
  | _ => none
theorem chkD_spec {P : Program} {c : Code} {x0 x1 x3 : XC} {g j a b : Nat} (h : chkD P c = some (x0, x1, x3, g, j, a, b)) :
    ∃ c0 c1 c3 id m d ca, c = .seq c0 (.seq c1 (.seq (.region id #[m, d] false) (.seq c3 .ret))) ∧ compile P c0 = some x0 ∧ compile P c1 = some x1 ∧ compile P c3 = some x3 ∧
      m.op = .makeFunc (.func g) #[] #[.tmp a, .tmp b] ∧ m.dst = some j ∧ m.guard = none ∧ d.op = .defer ca ∧ ca.callee = .value (.tmp j) ∧ ca.args = #[] ∧ d.dst = none ∧ d.guard = none := by
  unfold chkD at h
  split at h
  rotate_left
  · cases h
  rename_i c0 c1 id ops c3
  split at h
  rotate_left
  · cases h
  rename_i m d hops
  split at h
  rotate_left
  · cases h
  rename_i g' first cap ca hm hd
  split at h
  rotate_left
  · cases h
  rename_i j0 a0 b0 hmd hmg hdd hdg hf hc
  split at h
  rotate_left
  · cases h
  rename_i j1 hcal hargs
  split at h
  rotate_left
  · cases h
  rename_i hj
  split at h
  rotate_left
  · cases h
  rename_i y0 y1 y3 h0 h1 h3
  simp only [Option.some.injEq, Prod.mk.injEq] at h
  obtain ⟨rfl, rfl, rfl, rfl, rfl, rfl, rfl⟩ := h
  simp only [beq_iff_eq] at hj
  subst hj
  have e1 : ops = #[m, d] := by cases ops; simp only at hops; rw [hops]
  have e2 : first = #[] := by cases first; simp only at hf; rw [hf]
  have e3 : cap = #[.tmp a0, .tmp b0] := by cases cap; simp only at hc; rw [hc]
  have e4 : ca.args = #[] := by cases he : ca.args; rw [he] at hargs; simp only at hargs; rw [hargs]
  subst e1 e2 e3
  exact ⟨c0, c1, c3, id, m, d, ca, rfl, h0, h1, h3, hm, hmd, hmg, hd, hcal, e4, hdd, hdg⟩
structure FnD (P : Program) (f : Nat) (x0 x1 x3 : XC) (g j a b n : Nat) (rs : List Nat) : Prop where
  go : ∀ (xs : Array Value) (w : World), (callFunc f xs).run P w = .ok (.enter f xs) w
  has : ∃ fn c, P.funcs[f]? = some fn ∧ fn.body = some c ∧ chkD P c = some (x0, x1, x3, g, j, a, b) ∧ fn.ntmps = n ∧ cRes P fn.results.toList = some rs
theorem FnD.of {P : Program} {f : Nat} {x0 x1 x3 : XC} {g j a b n : Nat} {rs : List Nat} {fn : Func} (go : ∀ (xs : Array Value) (w : World), (callFunc f xs).run P w = .ok (.enter f xs) w) (hf : P.funcs[f]? = some fn)
    (hc : fn.body.bind (chkD P) = some (x0, x1, x3, g, j, a, b)) (hn : fn.ntmps = n) (hr : cRes P fn.results.toList = some rs) : FnD P f x0 x1 x3 g j a b n rs := by
  refine ⟨go, ?_⟩
  cases hb : fn.body with
  | none => rw [hb] at hc; cases hc
  | some c => rw [hb] at hc; exact ⟨fn, c, hf, hb, hc, hn, hr⟩
theorem act_eval_tmp (σ : Names) (s : SS) (j : Nat) : (act σ s).eval (.tmp j) = den σ (s.t.getD j .undef) := by
  simp only [Act.eval, act]
  exact getD_den σ s.t j
theorem defer_ops {P : Program} {Q : Exit → Act → World → Prop} {m d : Oper} {ca : Go.Call} {g j a b : Nat} {σ : Names} {s : SS} {w : World} {id : Nat} (hr : s.rd = none)
    (hm : m.op = .makeFunc (.func g) #[] #[.tmp a, .tmp b]) (hmd : m.dst = some j) (hmg : m.guard = none) (hd : d.op = .defer ca) (hcal : ca.callee = .value (.tmp j)) (hargs : ca.args = #[]) (hdd : d.dst = none) (hdg : d.guard = none)
    (hj : j < s.t.length)
    (h : Q .normal (act σ { s with t := s.t.set j (.fn g [ev s (.t a), ev s (.t b)]), x := { target := .fn (.func g) #[den σ (ev s (.t a)), den σ (ev s (.t b))], args := #[] } :: s.x }) w) (hxd : s.d = []) :
    (Code.region id #[m, d] false).wpIn (FR P (rOf σ s)) 0 P Q (act σ s) w := by
  have hro : rOf σ s = none := by simp [rOf, hr]
  rw [hro]
  refine wpIn_region ?_
  have e1 : (act σ s).put m.dst (.func (.func g) #[] #[den σ (ev s (.t a)), den σ (ev s (.t b))]) = act σ { s with t := s.t.set j (.fn g [ev s (.t a), ev s (.t b)]) } := by
    rw [hmd]
    have := act_put σ s (some j) (.fn g [ev s (.t a), ev s (.t b)])
    simpa [put, den, denL] using this
  have hw1 : Region.wanted m (yielded #[m, d] (act σ s).tmps) = true := by simp [Region.wanted, hmg]
  have hrun : (execOp (act σ s).eval m).run P w = .ok (.value (.func (.func g) #[] #[den σ (ev s (.t a)), den σ (ev s (.t b))])) w := by
    simp only [execOp, hm, Instr.makeFunc, List.map_toArray, List.map_cons, List.map_nil, act_eval_tmp, ev]
    rfl
  have hlist : List.range (#[m, d] : Array Oper).size = [0, 1] := rfl
  rw [hlist]
  have hw2 : ∀ t, Region.wanted d (yielded #[m, d] t) = true := fun t => by simp [Region.wanted, hdg]
  have h0 : (#[m, d] : Array Oper)[0]? = some m := rfl
  have h1 : (#[m, d] : Array Oper)[1]? = some d := rfl
  have hsem : ∀ t, Oper.semAt (FR P none).round t d = execOp t d := fun t => Oper.semAt_none t d
  simp only [wpOpsIn, h0, h1]
  rw [if_pos hw1]
  refine wpIn_of_run (.of (fun c hc => by rw [hm] at hc; cases hc) (fun c hc => by rw [hm] at hc; cases hc)) ?_
  rw [hrun]
  simp only [Oper.uponIn, e1]
  rw [if_pos (hw2 _)]
  have hrun2 : (execOp (act σ { s with t := s.t.set j (.fn g [ev s (.t a), ev s (.t b)]) }).eval d).run P w = .ok (.defer { target := .fn (.func g) #[den σ (ev s (.t a)), den σ (ev s (.t b))], args := #[] }) w := by
    have e2 : (act σ { s with t := s.t.set j (.fn g [ev s (.t a), ev s (.t b)]) }).eval (.tmp j) = .func (.func g) #[] #[den σ (ev s (.t a)), den σ (ev s (.t b))] := by
      rw [act_eval_tmp]
      simp [hj, den, denL]
    simp only [execOp, hd, resolve, hcal, hargs, e2, Deferred.ofValue]
    simp
  refine ⟨fun f hf => (by rw [about_free (fun c hc => by rw [hd] at hc; cases hc)] at hf; cases hf), ?_⟩
  rw [hsem, hrun2]
  simp only [Oper.uponIn, hdd]
  have e3 : ({ (act σ { s with t := s.t.set j (.fn g [ev s (.t a), ev s (.t b)]) }) with defers := { target := .fn (.func g) #[den σ (ev s (.t a)), den σ (ev s (.t b))], args := #[] } :: (act σ { s with t := s.t.set j (.fn g [ev s (.t a), ev s (.t b)]) }).defers } : Act) =
      act σ { s with t := s.t.set j (.fn g [ev s (.t a), ev s (.t b)]), x := { target := .fn (.func g) #[den σ (ev s (.t a)), den σ (ev s (.t b))], args := #[] } :: s.x } := by
    simp [act, hxd]
  show Q .normal (Act.put _ none _) w
  rw [show ∀ (A : Act) (v : Value), A.put none v = A from fun _ _ => rfl, e3]
  exact h
def finD (D : Deferred) (rs : List Nat) (Post : SV → List SB → List Nat → Prop) : XE → SS → Prop := fun e s =>
  match e with
  | .normal => s.x = [D] ∧ s.d = [] ∧ resOk s rs = true ∧ Post (retV s rs) s.h s.r
  | _ => False
def deferK (O : Ops) (P : Program) (x3 : XC) (g j a b : Nat) (rs : List Nat) (Post : SV → List SB → List Nat → Prop) : XE → SS → Prop := fun e s =>
  match e with
  | .normal => s.d = [] ∧ s.x = [] ∧ ltB j s.t.length = true ∧ ∀ D, ex O P x3 { s with t := s.t.set j (.fn g [ev s (.t a), ev s (.t b)]), x := [D] } (finD D rs Post)
  | _ => False
theorem con_of_defer {P : Program} {f : Nat} {x0 x1 x3 : XC} {g j a b n : Nat} {rs : List Nat} {args : List SV} {H : List SB} {Post : SV → List SB → List Nat → Prop} (hm : P.follows .mixedOrders = true) (hf : FnD P f x0 x1 x3 g j a b n rs)
    (hg : ∀ (xs : Array Value) (w : World), (callFunc g xs).run P w = .ok (.enter g xs) w)
    (hD : ∀ caps w, CallsDIn (FR P none) 0 P g caps .returning w fun e u' w' => (∃ v, e = .returned v) ∧ u' = .returning ∧ w' = w)
    (h : ex std P (.seq x0 x1) { t := args ++ List.replicate (n - args.length) .undef, h := H, r := [], d := [], rd := none } (deferK std P x3 g j a b rs Post)) : Con P f args H Post := by
  obtain ⟨fn, c, h1, h2, h3, h4, h5⟩ := hf.has
  obtain ⟨c0, c1, c3, id, m, d, ca, rfl, hc0, hc1, hc3, hmo, hmd, hmg, hdo, hcal, hargs, hdd, hdg⟩ := chkD_spec h3
  refine ⟨hf.go, fun σ w hok => ?_⟩
  refine callsIn_of_wp_defers h1 h2 ⟨fn, h1⟩ ?_
  have hok' : Ok P σ { t := args ++ List.replicate (n - args.length) .undef, h := H, r := [], d := [], rd := none } w := ⟨hok.lt, hok.ne, hok.blk, hok.marks, hok.rnd⟩
  have ha : act σ { t := args ++ List.replicate (n - args.length) .undef, h := H, r := [], d := [], rd := none } = { tmps := (denL σ args).toArray ++ Array.replicate (fn.ntmps - (denL σ args).toArray.size) undef, defers := [] } := by
    simp only [act, denL_append, List.map_nil, List.append_nil, h4, List.size_toArray, denL_len]
    congr 1
    simp only [denL_eq, List.map_replicate, den]
    rw [← List.toArray_replicate]
    simp
  rw [← ha]
  simp only [ex] at h
  refine wpIn_seq (ex_sound (draw_law hm) c0 x0 σ _ w _ _ hc0 h hok' (fun e' e σ' s' a' w' hK hok1 hst1 he => ?_))
  have hrd1 : s'.rd = none := hst1.rd
  cases e' <;> cases e <;> simp only [exitOk] at he <;> simp only [seqK, deferK] at hK
  subst he
  have hf1 : rOf σ' s' = none := by simp [rOf, hrd1]
  show (Code.seq c1 (.seq (.region id #[m, d] false) (.seq c3 .ret))).wpIn (FR P none) 0 P _ (act σ' s') w'
  have w1 := ex_sound (draw_law hm) c1 x1 σ' s' w' _ (Exit.then ((Code.seq (.region id #[m, d] false) (.seq c3 .ret)).wpIn (FR P none) 0 P (bodyPostDIn (FR P none) 0 P fn (COut P σ H w Post))) (bodyPostDIn (FR P none) 0 P fn (COut P σ H w Post))) hc1 hK hok1 (fun e' e σ2 s2 a2 w2 hK hok2 hst2 he => by
    have hrd2 : s2.rd = none := by rw [hst2.rd, hrd1]
    cases e' <;> cases e <;> simp only [exitOk] at he <;> simp only [deferK] at hK
    subst he
    obtain ⟨hd2, hx2, hj, hK⟩ := hK
    have hj : j < s2.t.length := by simpa [ltB] using hj
    have hf2 : rOf σ2 s2 = none := by simp [rOf, hrd2]
    show (Code.seq (.region id #[m, d] false) (.seq c3 .ret)).wpIn (FR P none) 0 P _ (act σ2 s2) w2
    refine wpIn_seq ?_
    have h3 := defer_ops (P := P) (Q := Exit.then ((Code.seq c3 .ret).wpIn (FR P none) 0 P (bodyPostDIn (FR P none) 0 P fn (COut P σ H w Post))) (bodyPostDIn (FR P none) 0 P fn (COut P σ H w Post))) (σ := σ2) (s := s2) (w := w2) (id := id) hrd2 hmo hmd hmg hdo hcal hargs hdd hdg hj ?_ hd2
    · rw [hf2] at h3; exact h3
    generalize hD0 : ({ target := .fn (.func g) #[den σ2 (ev s2 (.t a)), den σ2 (ev s2 (.t b))], args := #[] } : Deferred) = D
    rw [hx2]
    show (Code.seq c3 .ret).wpIn (FR P none) 0 P _ (act σ2 { s2 with t := s2.t.set j (.fn g [ev s2 (.t a), ev s2 (.t b)]), x := [D] }) w2
    have hok3 : Ok P σ2 { s2 with t := s2.t.set j (.fn g [ev s2 (.t a), ev s2 (.t b)]), x := [D] } w2 := ⟨hok2.lt, hok2.ne, hok2.blk, hok2.marks, hok2.rnd⟩
    have hf3 : rOf σ2 { s2 with t := s2.t.set j (.fn g [ev s2 (.t a), ev s2 (.t b)]), x := [D] } = none := by simp [rOf, hrd2]
    have w3 := ex_sound (draw_law hm) c3 x3 σ2 _ w2 _ (Exit.then (Code.ret.wpIn (FR P none) 0 P (bodyPostDIn (FR P none) 0 P fn (COut P σ H w Post))) (bodyPostDIn (FR P none) 0 P fn (COut P σ H w Post))) hc3 (hK D) hok3 (fun e' e σ3 s3 a3 w3 hK hok4 hst4 he => by
      have hrd3 : s3.rd = none := by rw [hst4.rd]; exact hrd2
      cases e' <;> cases e <;> simp only [exitOk] at he <;> simp only [finD] at hK
      subst he
      obtain ⟨hx3, hd3, hres, hP⟩ := hK
      show Code.ret.wpIn (FR P none) 0 P _ (act σ3 s3) w3
      refine wpIn_ret ?_
      show LeavesIn (FR P none) 0 P fn (act σ3 s3).tmps (COut P σ H w Post) (act σ3 s3).defers .returning w3
      rw [show (act σ3 s3).defers = [D] by simp only [act, hx3, hd3, List.map_nil, List.nil_append]]
      have hu : unm s3 = { s3 with d := [] } := by unfold unm; rw [hd3]; rfl
      have hok5 : Ok P σ3 (unm s3) w3 := by rw [hu]; exact ⟨hok4.lt, hok4.ne, hok4.blk, (fun l hl => by cases hl), hok4.rnd⟩
      subst hD0
      refine ⟨by simp, fun h => by simp [FR, Fence.wide] at h, .func g, #[den σ2 (ev s2 (.t a)), den σ2 (ev s2 (.t b))], g, #[den σ2 (ev s2 (.t a)), den σ2 (ev s2 (.t b))], rfl, ?_, fun q hq => ?_, ?_⟩
      · simp only [invoke]
        exact hg _ _
      · simp only [Target.leads, Option.some.injEq] at hq
        rw [← hq]
        exact isFn_of_go hg w3
      · refine (hD _ _).mono ?_
        rintro e u' w4 ⟨⟨v, rfl⟩, rfl, rfl⟩
        refine ⟨_, run_results hok4 hok5 h5 hres, σ3, retV s3 rs, s3.h, s3.r, hP, rfl, ⟨hok4.lt, hok4.ne, hok4.blk, (fun l hl => by cases hl), (fun l hl => by cases hl)⟩, ?_⟩
        have hst := ((hst1.trans hst2).trans (show Step σ2 s2 w2 σ2 { s2 with t := s2.t.set j (.fn g [ev s2 (.t a), ev s2 (.t b)]), x := [{ target := .fn (.func g) #[den σ2 (ev s2 (.t a)), den σ2 (ev s2 (.t b))], args := #[] }] } w2 from ⟨(Step.refl σ2 s2 w2).size, rfl, rfl, rfl, (Step.refl σ2 s2 w2).far, (Step.refl σ2 s2 w2).len, (Step.refl σ2 s2 w2).names, (Step.refl σ2 s2 w2).red, (Step.refl σ2 s2 w2).own, rfl⟩)).trans hst4
        exact ⟨hst.size, hst.os, hst.tape, hst.output, hst.far, hst.len, hst.names, hst.red, hst.own, rfl⟩)
    rw [hf3] at w3
    exact wpIn_seq w3)
  rw [hf1] at w1
  exact wpIn_seq w1
end Go.Sx
namespace Go.Sx
open Go
def chkR : Code → Option Nat
  | .seq (.region _ r0 false) (.seq (.region _ r1 false) (.cond (.tmp e) _ .skip)) =>
    match r0.toList, r1.toList with
    | [o0, o1], [o2, o3] => match o0.op, o1.op, o2.op, o3.op with
      | .call c, .assign (.tmp a'), .move (.tmp b'), .binOp .neq ty (.tmp d') (.const .nilIface) _ => match c.callee, c.args.toList, o0.dst, o1.dst, o2.dst, o3.dst, o0.guard, o1.guard, o2.guard, o3.guard with
        | .builtin .recover, [], some a, some b, some d, some e', none, none, none, none => if a' == a && b' == b && d' == d && e' == e && (ltB a 10 && ltB b 10 && ltB d 10 && ltB e 10) then some ty else none
        | _, _, _, _, _, _, _, _, _, _ => none
      | _, _, _, _ => none
    | _, _ => none
  | _ => none
theorem chkR_spec {c : Code} {ty : Nat} (h : chkR c = some ty) : ∃ i0 i1 o0 o1 o2 o3 x a b d e c0 yt, c = .seq (.region i0 #[o0, o1] false) (.seq (.region i1 #[o2, o3] false) (.cond (.tmp e) x .skip)) ∧
    o0.op = .call c0 ∧ c0.callee = .builtin .recover ∧ c0.args = #[] ∧ o0.dst = some a ∧ o1.op = .assign (.tmp a) ∧ o1.dst = some b ∧ o2.op = .move (.tmp b) ∧ o2.dst = some d ∧ o3.op = .binOp .neq ty (.tmp d) (.const .nilIface) yt ∧ o3.dst = some e ∧
    o0.guard = none ∧ o1.guard = none ∧ o2.guard = none ∧ o3.guard = none ∧ a < 10 ∧ b < 10 ∧ d < 10 ∧ e < 10 := by
  unfold chkR at h
  split at h
  rotate_left
  · cases h
  rename_i i0 r0 i1 r1 e x
  split at h
  rotate_left
  · cases h
  rename_i o0 o1 o2 o3 h0 h1
  split at h
  rotate_left
  · cases h
  rename_i c0 a' b' ty' d' yt q0 q1 q2 q3
  split at h
  rotate_left
  · cases h
  rename_i a b d e' g0 g1 g2 g3 g4 g5 g6 g7 g8 g9
  split at h
  rotate_left
  · cases h
  rename_i hh
  simp only [Bool.and_eq_true, beq_iff_eq] at hh
  obtain ⟨⟨⟨⟨rfl, rfl⟩, rfl⟩, rfl⟩, ⟨⟨l1, l2⟩, l3⟩, l4⟩ := hh
  simp only [ltB, decide_eq_true_eq] at l1 l2 l3 l4
  simp only [Option.some.injEq] at h
  subst h
  have e0 : r0 = #[o0, o1] := by cases r0; simp only at h0; rw [h0]
  have e1 : r1 = #[o2, o3] := by cases r1; simp only at h1; rw [h1]
  have e2 : c0.args = #[] := by cases he : c0.args; rw [he] at g1; simp only at g1; rw [g1]
  subst e0 e1
  exact ⟨i0, i1, o0, o1, o2, o3, x, _, _, _, _, c0, yt, rfl, q0, g0, e2, g2, q1, g3, q2, g4, q3, g5, g6, g7, g8, g9, l1, l2, l3, l4⟩
theorem eval_put (A : Act) (j : Nat) (v : Value) (h : j < A.tmps.size) : (A.put (some j) v).eval (.tmp j) = v := by
  simp [Act.put, Act.eval, Array.getD, h]
theorem size_put (A : Act) (j : Nat) (v : Value) : (A.put (some j) v).tmps.size = A.tmps.size := by simp [Act.put]
theorem callsD_quiet {P : Program} {g : Nat} {fn : Func} {ty : Nat} (hf : P.funcs[g]? = some fn) (hc : fn.body.bind chkR = some ty) (hr : fn.results = #[]) (hn : 10 ≤ fn.ntmps)
    (hgd : ∀ d w, (eqGuard .neq ty (.tmp d) (.const .nilIface) .nilIface .nilIface).run P w = .ok () w) (hnil : ∀ w, (binOp .neq ty .nilIface .nilIface).run P w = .ok (.bool false) w) (caps : Array Value) (w : World) :
    CallsDIn (FR P none) 0 P g caps .returning w fun e u' w' => (∃ v, e = .returned v) ∧ u' = .returning ∧ w' = w := by
  cases hb : fn.body with
  | none => rw [hb] at hc; cases hc
  | some c =>
  rw [hb] at hc
  obtain ⟨i0, i1, o0, o1, o2, o3, x, a, b, d, e, c0, yt, rfl, q0, q1, q2, q3, q4, q5, q6, q7, q8, q9, g0, g1, g2, g3, la, lb, ld, le⟩ := chkR_spec hc
  refine callsDIn_of_wpSIn hf hb ⟨fn, hf⟩ (fun c₀ cs hmode => ?_)
  have hrec : recoverD (c₀ :: cs) = none := by simp [recoverD, hmode]
  generalize hA : ({ tmps := caps ++ Array.replicate (fn.ntmps - caps.size) undef, defers := [] } : Act) = A
  have hsz : 10 ≤ A.tmps.size := by rw [← hA]; simp; omega
  have hdf : A.defers = [] := by rw [← hA]
  have hw : ∀ (o : Oper) (ops : Array Oper) (T : Array Value), o.guard = none → Region.wanted o (yielded ops T) = true := fun o ops T h => by simp [Region.wanted, h]
  have r0 : (execOp A.eval o0).run P w = .ok .recover w := by
    simp only [execOp, q0, resolve, q1, q2]
    rfl
  have r1 : (execOp (A.put (some a) .nilIface).eval o1).run P w = .ok (.value .nilIface) w := by simp [execOp, q4, eval_put A a .nilIface (Nat.lt_of_lt_of_le la hsz)]
  refine wpSIn_seq (wpSIn_region ?_)
  rw [show List.range (#[o0, o1] : Array Oper).size = [0, 1] from rfl]
  simp only [wpOpsSIn, show (#[o0, o1] : Array Oper)[0]? = some o0 from rfl, show (#[o0, o1] : Array Oper)[1]? = some o1 from rfl, hw o0 _ _ g0, hw o1 _ _ g1, if_true, r0, hrec, q3, r1, q5]
  refine ⟨fun f hf => ?_, fun f hf => ?_, ?_⟩
  · rw [about_free (fun c hc => by rw [q0] at hc; cases hc; exact ⟨_, q1⟩)] at hf; cases hf
  · rw [about_free (fun c hc => by rw [q4] at hc; cases hc)] at hf; cases hf
  generalize hB : (A.put (some a) .nilIface).put (some b) .nilIface = B
  have hBs : 10 ≤ B.tmps.size := by rw [← hB, size_put, size_put]; exact hsz
  have hBd : B.defers = [] := by rw [← hB]; exact hdf
  have hBe : B.eval (.tmp b) = .nilIface := by rw [← hB]; exact eval_put _ b _ (by rw [size_put]; exact Nat.lt_of_lt_of_le lb hsz)
  have r2 : (execOp B.eval o2).run P w = .ok (.value .nilIface) w := by simp [execOp, q6, hBe]
  have hd : (B.put (some d) .nilIface).eval (.tmp d) = .nilIface := eval_put B d _ (Nat.lt_of_lt_of_le ld hBs)
  have hk : (B.put (some d) .nilIface).eval (.const .nilIface) = .nilIface := rfl
  have r3 : (execOp (B.put (some d) .nilIface).eval o3).run P w = .ok (.value (.bool false)) w := by
    simp only [execOp, q8, hd, hk]
    simp [hgd d w, hnil w]
  show (Code.seq (.region i1 #[o2, o3] false) (.cond (.tmp e) x .skip)).wpSIn (FR P none) 0 P _ B (c₀ :: cs) w
  refine wpSIn_seq (wpSIn_region ?_)
  rw [show List.range (#[o2, o3] : Array Oper).size = [0, 1] from rfl]
  simp only [wpOpsSIn, show (#[o2, o3] : Array Oper)[0]? = some o2 from rfl, show (#[o2, o3] : Array Oper)[1]? = some o3 from rfl, hw o2 _ _ g2, hw o3 _ _ g3, if_true, r2, q7, r3, q9]
  refine ⟨fun f hf => ?_, fun f hf => ?_, ?_⟩
  · rw [about_free (fun c hc => by rw [q6] at hc; cases hc)] at hf; cases hf
  · rw [about_free (fun c hc => by rw [q8] at hc; cases hc)] at hf; cases hf
  have he : ((B.put (some d) .nilIface).put (some e) (.bool false)).eval (.tmp e) = .bool false := eval_put _ e _ (by rw [size_put]; exact Nat.lt_of_lt_of_le le hBs)
  show (Code.cond (.tmp e) x .skip).wpSIn (FR P none) 0 P _ _ (c₀ :: cs) w
  refine wpSIn_cond he ?_
  refine wpSIn_of_wpIn rfl (wpIn_skip ?_)
  refine ⟨hBd, .returning, by rw [← hmode], .tuple #[], ?_, ⟨_, rfl⟩, rfl, rfl⟩
  simp [results, hr]
end Go.Sx
namespace Go.Sx
open Go Go.ChangeShapes Go.WideShapes Go.RowKit Go.Deep
variable {H : Type} {enc : TypeId × Value → H} {P : Program}
end Go.Sx
namespace Go.Sx
open Go
def finX (rs : List Nat) (Post Pan : SV → List SB → List Nat → Prop) : XE → SS → Prop := fun e s =>
  match e with
  | .normal => if noDupX s && resOk s rs then Post (retV s rs) (freeL s.d s.h) s.r else False
  | .ret => if noDupX s && resOk s rs then Post (retV s rs) (freeL s.d s.h) s.r else False
  | .panic v => if noDupX s then Pan v (freeL s.d s.h) s.r else False
  | _ => False
def COutX (P : Program) (σ : Names) (H : List SB) (w : World) (Post Pan : SV → List SB → List Nat → Prop) : Ending → World → Prop := fun e w' =>
  ∃ σ' v H' R, (Post v H' R ∧ e = .returned (den σ' v) ∨ Pan v H' R ∧ e = .panicked [{ v := den σ' v, recovered := false }]) ∧ Ok P σ' (small H' R) w' ∧ Step σ (small H []) w σ' (small H' R) w'
structure ConX (P : Program) (f : Nat) (args : List SV) (H : List SB) (Post Pan : SV → List SB → List Nat → Prop) : Prop where
  go : ∀ (xs : Array Value) (w : World), (callFunc f xs).run P w = .ok (.enter f xs) w
  out : ∀ σ w, Ok P σ (small H []) w → CallsIn (FR P none) 0 P f (denL σ args).toArray w (COutX P σ H w Post Pan)
theorem Con.x {P : Program} {f : Nat} {args : List SV} {H : List SB} {Post Pan : SV → List SB → List Nat → Prop} (c : Con P f args H Post) : ConX P f args H Post Pan :=
  ⟨c.go, fun σ w hok => (c.out σ w hok).mono fun _ _ ⟨σ', v, H', R, hP, he, h1, h2⟩ => ⟨σ', v, H', R, .inl ⟨hP, he⟩, h1, h2⟩⟩
theorem ConX.mono {P : Program} {f : Nat} {args : List SV} {H : List SB} {Post Post' Pan Pan' : SV → List SB → List Nat → Prop} (c : ConX P f args H Post Pan) (h : ∀ v H' R, Post v H' R → Post' v H' R) (h2 : ∀ v H' R, Pan v H' R → Pan' v H' R) : ConX P f args H Post' Pan' :=
  ⟨c.go, fun σ w hok => (c.out σ w hok).mono fun _ _ ⟨σ', v, H', R, hP, h3, h4⟩ => ⟨σ', v, H', R, hP.elim (fun k => .inl ⟨h _ _ _ k.1, k.2⟩) (fun k => .inr ⟨h2 _ _ _ k.1, k.2⟩), h3, h4⟩⟩
section
variable {P : Program} {s : SS}
theorem call_conX {f : Nat} {ρ : List (Nat × Ix)} {cargs args : List SV} {H : List SB} {Post Pan : SV → List SB → List Nat → Prop} {K : SV → SS → Prop} {X : XE → SS → Prop} (c : ConX P f cargs H Post Pan) (hm : Meets s ρ cargs args H)
    (hK : ∀ v H' R js, Post v H' R → Behind ρ H H' R js v s K) (hX : ∀ v H' R js, Pan v H' R → Behind ρ H H' R js v s (fun v s' => X (.panic v) s')) : CallX P f args s K X := by
  have hm0 := hm
  obtain ⟨ha, hav, hap, hsc⟩ := hm
  refine ⟨c.go, fun σ w hok => ?_⟩
  obtain ⟨hfits, hscS⟩ := scS_iff hsc
  obtain ⟨hlen, _, hfit⟩ := fits_spec hfits
  have hat : At P σ s w ρ H := ⟨hlen, hfit, apartR_spec hap⟩
  have hargs : denL σ args = denL (cut ρ s.h.length σ) cargs := by rw [← den_genL, ha, den_genL]; exact den_renL ρ _ σ _ (fun _ => rfl) cargs hav
  rw [hargs]
  have hcall : CallsIn (FR P (rOf σ s)) 0 P f (denL (cut ρ s.h.length σ) cargs).toArray w (COutX P (cut ρ s.h.length σ) H w Post Pan) := c.out _ w (hat.ok hok)
  refine hcall.mono ?_
  rintro e w' ⟨σc, v, H', R, ⟨hP, rfl⟩ | ⟨hP, rfl⟩, hok', hst⟩
  · obtain ⟨σ', s', h1, h2, h3, v', h4, h5⟩ := behind_core hm0 hok hok' hst (hK v H' R (jsOf σ s) hP)
    exact ⟨σ', s', h1, h2, h3, v', h4, h5⟩
  · obtain ⟨σ', s', h1, h2, h3, v', h4, h5⟩ := behind_core hm0 hok hok' hst (hX v H' R (jsOf σ s) hP)
    exact ⟨σ', s', h1, h2, h3, v', h4, by rw [h5]⟩
end
theorem conX_gen {P : Program} {f : Nat} {args : List SV} {H : List SB} {Post Pan : SV → List SB → List Nat → Prop} (h : ConX P f args H (fun v H' R => Post (gen v) (genH H') R) (fun v H' R => Pan (gen v) (genH H') R)) : ConX P f args H Post Pan := by
  refine ⟨h.go, fun σ w hok => (h.out σ w hok).mono ?_⟩
  rintro e w' ⟨σ', v, H', R, k1, k3, k4⟩
  have hget : ∀ i B, (genH H')[i]? = some B → ∃ C, H'[i]? = some C ∧ B = genB C := fun i B hB => by
    rw [genH_get, Option.map_eq_some_iff] at hB
    obtain ⟨C, h1, h2⟩ := hB
    exact ⟨C, h1, h2.symm⟩
  refine ⟨σ', gen v, genH H', R, by rw [den_gen]; exact k1, ⟨fun i p hi hp => k3.lt i p (by simpa [genH_len] using hi) hp, fun i j B C p q hij hB hC ho => ?_, fun i B hB => ?_, (fun l hl => by cases hl), (fun l hl => by cases hl)⟩,
    ⟨k4.size, k4.os, k4.tape, k4.output, k4.far, by simpa [genH_len] using k4.len, k4.names, k4.red, fun i B p hB hoB => ?_, rfl⟩⟩
  · obtain ⟨B', hB', rfl⟩ := hget i B hB
    obtain ⟨C', hC', rfl⟩ := hget j C hC
    rw [own_genB, own_genB] at ho
    exact k3.ne i j B' C' p q hij hB' hC' ho
  · obtain ⟨B', hB', rfl⟩ := hget i B hB
    exact holds_gen.2 (k3.blk i B' hB')
  · obtain ⟨B', hB', rfl⟩ := hget i B hB
    rw [own_genB] at hoB
    exact k4.own i B' p hB' hoB
theorem conX_cut {P : Program} {f : Nat} {args : List SV} {H : List SB} {Post Pan : SV → List SB → List Nat → Prop} (m : Nat) (hm : H.length ≤ m) (h : ConX P f args H (fun v H' R => m ≤ H'.length ∧ Post v (H'.take m) R) (fun v H' R => m ≤ H'.length ∧ Pan v (H'.take m) R)) : ConX P f args H Post Pan := by
  refine ⟨h.go, fun σ w hok => (h.out σ w hok).mono ?_⟩
  rintro e w' ⟨σ', v, H', R, k1, k3, k4⟩
  have hl : m ≤ H'.length := k1.elim (fun k => k.1.1) (fun k => k.1.1)
  have hget : ∀ i B, (H'.take m)[i]? = some B → H'[i]? = some B := fun i B hB => by
    rw [List.getElem?_take] at hB
    split at hB
    · exact hB
    · cases hB
  refine ⟨σ', v, H'.take m, R, k1.elim (fun k => .inl ⟨k.1.2, k.2⟩) (fun k => .inr ⟨k.1.2, k.2⟩), ⟨fun i p hi hp => k3.lt i p (by simp at hi; simp; omega) hp, fun i j B C p q hij hB hC => k3.ne i j B C p q hij (hget _ _ hB) (hget _ _ hC), fun i B hB => k3.blk i B (hget _ _ hB), (fun l hl => by cases hl), (fun l hl => by cases hl)⟩,
    ⟨k4.size, k4.os, k4.tape, k4.output, k4.far, by simp; omega, k4.names, k4.red, fun i B p hB => k4.own i B p (hget _ _ hB), rfl⟩⟩
theorem conX_drop {P : Program} {f : Nat} {args : List SV} {H : List SB} {Post Pan : SV → List SB → List Nat → Prop} (h : ConX P f args H (fun v H' R => Post v H' (dropN H.length R)) (fun v H' R => Pan v H' (dropN H.length R))) : ConX P f args H Post Pan := by
  refine ⟨h.go, fun σ w hok => (h.out σ w hok).mono ?_⟩
  rintro e w' ⟨σ', v, H', R, k1, k3, k4⟩
  exact ⟨σ', v, H', _, k1, ⟨k3.lt, k3.ne, k3.blk, (fun l hl => by cases hl), (fun l hl => by cases hl)⟩,
    ⟨k4.size, k4.os, k4.tape, k4.output, k4.far, k4.len, fun i hi hr => k4.names i hi (fun hm => hr (mem_dropN.2 ⟨hm, hi⟩)), (fun i hi => by cases hi), k4.own, rfl⟩⟩
theorem leaves_marksP {P : Program} {σ : Names} {fn : Func} {ch : List PanicEntry} {R : Ending → World → Prop} {tmps : Array Value} {σ0 : Names} {s0 : SS} {w0 : World} : ∀ (ds : List Nat) (s : SS) (w : World), s.d = ds → noDup ds = true → s.rd = none → Ok P σ s w → Step σ0 s0 w0 σ s w →
    (∀ w', Ok P σ (unm s) w' → Step σ0 s0 w0 σ (unm s) w' → R (.panicked ch) w') →
    LeavesInM (FR P none) 0 P fn tmps R (ds.map (mark σ)) (.panicking ch) w
  | [], s, w, hd, _, _, hok, hst, h => by
    have e : unm s = s := by unfold unm; rw [hd]; cases s; simp only at hd; subst hd; rfl
    show R (.panicked ch) w
    exact h w (by rw [e]; exact hok) (by rw [e]; exact hst)
  | l :: ds, s, w, hd, hnd, hrd, hok, hst, h => by
    obtain ⟨hl, hnd'⟩ := noDup_spec hnd
    obtain ⟨_, hB⟩ := hok.marks l (by rw [hd]; simp)
    obtain ⟨g, hσ, hh⟩ := hok.blk l _ hB
    have hlt := hok.lt l _ (List.getElem?_eq_some_iff.1 hB).1 hσ
    refine ⟨by simp, .inl ⟨g, w.putObj g (.deferred none), ?_, ?_, ?_⟩⟩
    · simp [mark, hσ]
    · exact run_takeDeferred hh
    · have hf := hok.freed (ds := ds) (w' := w.putObj g (.deferred none)) hB rfl hσ (fun k hk => ⟨by rw [hd]; exact List.mem_cons_of_mem _ hk, fun e => hl (e ▸ hk)⟩) (by rw [hrd]; simp)
        (fun k hk => by simp only [World.putObj]; rw [Array.getElem?_setIfInBounds_ne (Ne.symm hk)]) (by simp [World.putObj]) rfl rfl rfl
      have e : unm { s with h := s.h.set l .free, d := ds } = unm s := by unfold unm; simp only [hd, freeL]
      refine leaves_marksP ds { s with h := s.h.set l .free, d := ds } _ rfl hnd' hrd hf.1 (hst.trans hf.2) ?_
      intro w' h1 h2
      rw [e] at h1 h2
      exact h w' h1 h2
theorem conX_of_walk {P : Program} {f : Nat} {x : XC} {n : Nat} {rs : List Nat} {args : List SV} {H : List SB} {Post Pan : SV → List SB → List Nat → Prop} (hm : P.follows .mixedOrders = true) (hf : FnOk P f x n rs)
    (h : ex std P x { t := args ++ List.replicate (n - args.length) .undef, h := H, r := [], d := [], rd := none } (finX rs Post Pan)) : ConX P f args H Post Pan := by
  obtain ⟨fn, c, h1, h2, h3, h4, h5⟩ := hf.has
  refine ⟨hf.go, fun σ w hok => ?_⟩
  refine callsIn_of_wp_marks h1 h2 ⟨fn, h1⟩ ?_
  have hok' : Ok P σ { t := args ++ List.replicate (n - args.length) .undef, h := H, r := [], d := [], rd := none } w := ⟨hok.lt, hok.ne, hok.blk, hok.marks, hok.rnd⟩
  have ha : act σ { t := args ++ List.replicate (n - args.length) .undef, h := H, r := [], d := [], rd := none } = { tmps := (denL σ args).toArray ++ Array.replicate (fn.ntmps - (denL σ args).toArray.size) undef, defers := [] } := by
    simp only [act, denL_append, List.map_nil, List.append_nil, h4, List.size_toArray, denL_len]
    congr 1
    simp only [denL_eq, List.map_replicate, den]
    rw [← List.toArray_replicate]
    simp
  rw [← ha]
  refine ex_sound (draw_law hm) c x σ _ w _ _ h3 h hok' ?_
  intro e' e σ' s' a w' hK hok'' hst he
  have hrd : s'.rd = none := hst.rd
  have key : (if noDupX s' && resOk s' rs then Post (retV s' rs) (freeL s'.d s'.h) s'.r else False) → LeavesInM (FR P none) 0 P fn (act σ' s').tmps (COutX P σ H w Post Pan) (act σ' s').defers .returning w' := by
    intro hK
    split at hK
    rotate_left
    · exact hK.elim
    rename_i hnd
    simp only [Bool.and_eq_true] at hnd
    obtain ⟨hnd1, hx⟩ := noDupX_spec hnd.1
    rw [show (act σ' s').defers = s'.d.map (mark σ') by simp only [act, hx, List.append_nil]]
    refine leaves_marks s'.d s' w' (fun w'' h => run_results hok'' h h5 hnd.2) rfl hnd1 hrd hok'' hst ?_
    intro w'' ho hs
    refine ⟨σ', retV s' rs, freeL s'.d s'.h, s'.r, .inl ⟨hK, rfl⟩, ?_, ?_⟩
    · exact ⟨ho.lt, ho.ne, ho.blk, ho.marks, fun l hl => by cases hl⟩
    · exact ⟨hs.size, hs.os, hs.tape, hs.output, hs.far, hs.len, hs.names, hs.red, hs.own, rfl⟩
  cases e' <;> cases e <;> simp only [exitOk] at he <;> simp only [finX] at hK
  · subst he; exact key hK
  · subst he; exact key hK
  · rename_i v ch
    obtain ⟨rfl, he⟩ := he
    split at hK
    rotate_left
    · exact hK.elim
    rename_i hnd
    obtain ⟨hnd1, hx⟩ := noDupX_spec hnd
    show LeavesInM (FR P none) 0 P fn a.tmps (COutX P σ H w Post Pan) a.defers (.panicking [{ v := den σ' v, recovered := false }]) w'
    rw [he, show (act σ' s').defers = s'.d.map (mark σ') by simp only [act, hx, List.append_nil]]
    refine leaves_marksP s'.d s' w' rfl hnd1 hrd hok'' hst ?_
    intro w'' ho hs
    refine ⟨σ', v, freeL s'.d s'.h, s'.r, .inr ⟨hK, rfl⟩, ?_, ?_⟩
    · exact ⟨ho.lt, ho.ne, ho.blk, ho.marks, fun l hl => by cases hl⟩
    · exact ⟨hs.size, hs.os, hs.tape, hs.output, hs.far, hs.len, hs.names, hs.red, hs.own, rfl⟩
theorem conX_walk {P : Program} {f : Nat} {x : XC} {n : Nat} {rs : List Nat} {args : List SV} {H : List SB} {Post Pan : SV → List SB → List Nat → Prop} (hm : P.follows .mixedOrders = true) (hf : FnOk P f x n rs)
    (h : ∀ vb vc vw vtoN vofN vaddN vsubN vmaxI vminI vcutN vgd vst vln vrep vsub vonto vsplice vstrEq vbyteV vnotB veqB,
    Words ⟨vb, vc, vw, vtoN, vofN, vaddN, vsubN, vmaxI, vminI, vcutN, vgd, vst, vln, vrep, vsub, vonto, vsplice, vstrEq, vbyteV, vnotB, veqB⟩ →
    vb = bV → vc = cV → (vw = fun k x => k.wrap x) → (vtoN = fun n => n.toNat) → (vofN = fun (n : Nat) => (n : Int)) → (vaddN = fun a b => a + b) → (vsubN = fun a b => a - b) → (vmaxI = fun x y => if y > x then y else x) →
    (vminI = fun x y => if y < x then y else x) → (vcutN = fun i l m => if m = l then i else i + l) → (vgd = fun l n => l.getD n 0) → (vst = fun l n v => l.set n v) → (vln = fun l => l.length) → (vrep = fun n v => List.replicate n v) →
    (vsub = fun l i n => (l.drop i).take n) → (vonto = fun l n xs => l.take n ++ xs) → (vsplice = fun l i xs => l.take i ++ xs ++ l.drop (i + xs.length)) →
    (vstrEq = fun a b => a.map (fun n => UInt8.ofNat n.toNat) == b.map (fun n => UInt8.ofNat n.toNat)) → (vbyteV = fun n => ((UInt8.ofNat n.toNat).toNat : Int)) → (vnotB = fun b => !b) → (veqB = fun a b => a == b) →
    ex ⟨vb, vc, vw, vtoN, vofN, vaddN, vsubN, vmaxI, vminI, vcutN, vgd, vst, vln, vrep, vsub, vonto, vsplice, vstrEq, vbyteV, vnotB, veqB⟩ P x { t := args ++ List.replicate (n - args.length) .undef, h := H, r := [], d := [], rd := none } (finX rs Post Pan)) : ConX P f args H Post Pan :=
  conX_of_walk hm hf (walkW h)
end Go.Sx
namespace Go.Sx
open Go
theorem call_inlX {P : Program} {s : SS} {f : Nat} {args : List SV} {K : SV → SS → Prop} {X : XE → SS → Prop} (hsc : scL s.h.length s.t = true) (h : ConX P f args s.h (InlPost s K) (InlPost s (fun v s' => X (.panic v) s'))) : CallX P f args s K X := by
  refine ⟨h.go, fun σ w hok => ?_⟩
  have hok0 : Ok P σ (small s.h []) w := ⟨hok.lt, hok.ne, hok.blk, (fun l hl => by cases hl), (fun l hl => by cases hl)⟩
  have hc : CallsIn (FR P (rOf σ s)) 0 P f (denL σ args).toArray w (COutX P σ s.h w (InlPost s K) (InlPost s (fun v s' => X (.panic v) s'))) := h.out σ w hok0
  refine hc.mono ?_
  rintro e w' ⟨σ', v, H', R, hP, hok', hst⟩
  rcases hP with ⟨hP, rfl⟩ | ⟨hP, rfl⟩
  · obtain ⟨hP, hkd⟩ := keepD_spec (hP (fun i => den σ (s.t.getD i .undef)))
    obtain ⟨hP, hkr⟩ := keepR_spec hP
    obtain ⟨k1, k2, k3⟩ := back_sound hok hsc hok' hst hkd hkr
    exact ⟨σ', _, k1, k2, k3, v, hP, rfl⟩
  · obtain ⟨hP, hkd⟩ := keepD_spec (hP (fun i => den σ (s.t.getD i .undef)))
    obtain ⟨hP, hkr⟩ := keepR_spec hP
    obtain ⟨k1, k2, k3⟩ := back_sound hok hsc hok' hst hkd hkr
    exact ⟨σ', _, k1, k2, k3, v, hP, rfl⟩
theorem inl_walkX {O : Ops} {P : Program} {f : Nat} {x : XC} {n : Nat} {rs : List Nat} {args : List SV} {s : SS} {K : SV → SS → Prop} {X : XE → SS → Prop} (hw : Words O) (hm : P.follows .mixedOrders = true) (hf : FnOk P f x n rs)
    (hsc : scL s.h.length s.t = true) (h : ex O P x { t := args ++ List.replicate (n - args.length) .undef, h := s.h, r := [], d := [], rd := none } (finX rs (InlPost s K) (InlPost s (fun v s' => X (.panic v) s')))) : CallX P f args s K X := by
  rw [hw.eq] at h
  exact call_inlX hsc (conX_of_walk hm hf h)

def LandsS (P : Program) (σ : Names) (s : SS) (w : World) (K : XE → SS → Prop) (Q : Exit → Act → World → Prop) : Prop :=
  (∀ σ' s' w', K .normal s' → Ok P σ' s' w' → Step σ s w σ' s' w' → Q .normal (act σ' s') w') ∧
  ∀ v σ' s' w', K (.panic v) s' → Ok P σ' s' w' → Step σ s w σ' s' w' → Q (.panic [{ v := den σ' v, recovered := false }]) (act σ' s') w'
section
variable {P : Program} {σ : Names} {s : SS} {w : World} {K : XE → SS → Prop} {Q : Exit → Act → World → Prop}
theorem LandsS.later {σ' : Names} {s' : SS} {w' : World} (h : LandsS P σ s w K Q) (hst : Step σ s w σ' s' w') : LandsS P σ' s' w' K Q :=
  ⟨fun σ'' s'' w'' hK hok hst' => h.1 σ'' s'' w'' hK hok (hst.trans hst'), fun v σ'' s'' w'' hK hok hst' => h.2 v σ'' s'' w'' hK hok (hst.trans hst')⟩
end
theorem steps_plainS {P : Program} {K : XE → SS → Prop} {Q : Exit → Act → World → Prop} {ops : Array Oper} : ∀ (l : List Oper) (i : Nat) (steps : List XStep) (σ : Names) (s : SS) (w : World), (∀ k, k < l.length → ops[i + k]? = l[k]?) → cPlain P ops l = some steps →
    exSteps std P steps s K → Ok P σ s w → LandsS P σ s w K Q → wpOpsIn (FR P (rOf σ s)) 0 P ops Q (List.range' i l.length) (act σ s) w
  | [], i, steps, σ, s, w, _, hc, h, hok, hQ => by
    simp only [cPlain, Option.some.injEq] at hc; subst hc
    exact hQ.1 σ s _ h hok (Step.refl σ s w)
  | o :: l, i, steps, σ, s, w, hops, hc, h, hok, hQ => by
    simp only [cPlain] at hc
    split at hc
    rotate_left
    · cases hc
    rename_i st ss hst hss
    simp only [Option.some.injEq] at hc; subst hc
    unfold cStep at hst
    split at hst
    rotate_left
    · cases hst
    rename_i x g hx hg
    split at hst
    rotate_left
    · cases hst
    rename_i hog
    simp only [Option.some.injEq] at hst; subst hst
    have ho : ops[i]? = some o := by simpa using hops 0 (by simp)
    have hrest : ∀ k, k < l.length → ops[i + 1 + k]? = l[k]? := fun k hk => by
      have := hops (k + 1) (by simp; omega)
      rw [List.getElem?_cons_succ] at this
      rw [← this]; congr 1; omega
    simp only [List.length_cons, List.range'_succ, wpOpsIn, ho]
    simp only [exSteps] at h
    rcases guard_sound (σ := σ) hg h with ⟨hw, h⟩ | ⟨hw, h⟩
    · rw [if_pos hw]
      refine op_sound hok hx h (fun v σ' s' w' hK hok' hst hact => ?_) (fun v σ' s' w' hK hok' hst hact => ?_)
      · simp only [chkP] at hK
        have := steps_plainS l (i + 1) ss σ' (put o.dst v s') w' hrest hss hK (hok'.put_ _ _) (hQ.later (hst.put_ _ _))
        rwa [rOf_eq hok (hok'.put_ o.dst v) (hst.put_ _ _)] at this
      · rw [← hact]
        exact hQ.2 v σ' s' w' hK hok' hst
    · rw [if_neg (by rw [hw]; simp)]
      refine ⟨about_guard hg (by intro h0; rw [wanted_none h0] at hw; cases hw) hog, ?_⟩
      have := steps_plainS l (i + 1) ss σ (put o.dst .undef s) w hrest hss h (hok.put_ _ _) (hQ.later ((Step.refl σ s w).put_ _ _))
      rw [rOf_eq hok (hok.put_ o.dst .undef) ((Step.refl σ s w).put_ _ _)] at this
      rw [← act_put] at this
      exact this

def recA : Code → Option (Nat × Nat × Nat × Nat × Code)
  | .seq (.region _ r0 false) (.seq (.region _ r1 false) (.cond (.tmp e) x .skip)) =>
    match r0.toList, r1.toList with
    | [o0, o1], [o2, _] => match o0.dst, o1.dst, o2.dst with
      | some a, some b, some d => some (a, b, d, e, x)
      | _, _, _ => none
    | _, _ => none
  | _ => none
structure RecFn (P : Program) (g : Nat) (xA : XC) (ty a b d e n : Nat) : Prop where
  has : ∃ fn c x, P.funcs[g]? = some fn ∧ fn.body = some c ∧ chkR c = some ty ∧ recA c = some (a, b, d, e, x) ∧ compile P x = some xA ∧ fn.results = #[] ∧ fn.ntmps = n ∧ 10 ≤ n
  gd : ∀ t v dd w, (eqGuard .neq ty (.tmp dd) (.const .nilIface) (.iface t v) .nilIface).run P w = .ok () w
  ne : ∀ t v w, (binOp .neq ty (.iface t v) .nilIface).run P w = .ok (.bool true) w
theorem RecFn.of {P : Program} {g : Nat} {xA : XC} {ty a b d e n : Nat} {fn : Func} (hf : P.funcs[g]? = some fn) (hc : fn.body.bind chkR = some ty) (ha : (fn.body.bind recA).bind (fun q => (compile P q.2.2.2.2).map fun y => (q.1, q.2.1, q.2.2.1, q.2.2.2.1, y)) = some (a, b, d, e, xA))
    (hr : fn.results = #[]) (hn : fn.ntmps = n) (h10 : 10 ≤ n) (gd : ∀ t v dd w, (eqGuard .neq ty (.tmp dd) (.const .nilIface) (.iface t v) .nilIface).run P w = .ok () w)
    (ne : ∀ t v w, (binOp .neq ty (.iface t v) .nilIface).run P w = .ok (.bool true) w) : RecFn P g xA ty a b d e n := by
  refine ⟨?_, gd, ne⟩
  cases hb : fn.body with
  | none => rw [hb] at hc; cases hc
  | some c =>
    rw [hb] at hc ha
    simp only [Option.bind_some] at hc ha
    cases hq : recA c with
    | none => rw [hq] at ha; cases ha
    | some q =>
      obtain ⟨a', b', d', e', x⟩ := q
      rw [hq] at ha
      simp only [Option.bind_some, Option.map_eq_some_iff] at ha
      obtain ⟨y, hy, he⟩ := ha
      simp only [Prod.mk.injEq] at he
      obtain ⟨rfl, rfl, rfl, rfl, rfl⟩ := he
      exact ⟨fn, c, x, hf, hb, hc, hq, hy, hr, hn, h10⟩
def recK (Post : List SB → List Nat → Prop) : XE → SS → Prop := fun e s =>
  match e with
  | .normal => if noD s then Post s.h s.r else False
  | _ => False
def recT (a b d e n : Nat) (args : List SV) (v : SV) : List SV := ((((args ++ List.replicate (n - args.length) SV.undef).set a v).set b v).set d v).set e (.bool true)
theorem act_put' (σ : Names) (t : List SV) (h : List SB) (j : Nat) (v : SV) : (act σ { t := t, h := h, r := [], d := [], rd := none }).put (some j) (den σ v) = act σ { t := t.set j v, h := h, r := [], d := [], rd := none } := by
  have := act_put σ { t := t, h := h, r := [], d := [], rd := none } (some j) v
  simpa [put] using this
theorem callsD_rec {P : Program} {g : Nat} {xA : XC} {ty a b d e n : Nat} {σ : Names} {w : World} {H : List SB} {args : List SV} {v : SV} {t : Nat} {v0 : SV} {Post : List SB → List Nat → Prop} (hm : P.follows .mixedOrders = true) (hf : RecFn P g xA ty a b d e n)
    (hv : v = .iface t v0) (hok : Ok P σ (small H []) w) (h : ex std P xA { t := recT a b d e n args v, h := H, r := [], d := [], rd := none } (recK Post)) (harg : args.length = 2) :
    CallsDIn (FR P none) 0 P g (denL σ args).toArray (.panicking [{ v := den σ v, recovered := false }]) w fun e' u' w' => (∃ r, e' = .returned r) ∧ u' = .panicking [{ v := den σ v, recovered := true }] ∧
      ∃ σ' H' R, Post H' R ∧ Ok P σ' (small H' R) w' ∧ Step σ (small H []) w σ' (small H' R) w' := by
  obtain ⟨fn, c, x, hfn, hb, hc, hA, hxA, hr, hn, h10⟩ := hf.has
  obtain ⟨i0, i1, o0, o1, o2, o3, x', a', b', d', e', c0, yt, rfl, q0, q1, q2, q3, q4, q5, q6, q7, q8, q9, g0, g1, g2, g3, la, lb, ld, le⟩ := chkR_spec hc
  simp only [recA, q3, q5, q7, Option.some.injEq, Prod.mk.injEq] at hA
  obtain ⟨rfl, rfl, rfl, rfl, rfl⟩ := hA
  have hiv : ∃ y, den σ v = .iface t y := by subst hv; exact ⟨den σ v0, rfl⟩
  obtain ⟨y, hy⟩ := hiv
  refine callsDIn_of_wpSIn hfn hb ⟨fn, hfn⟩ (fun c₀ cs hmode => ?_)
  have hrec : recoverD (c₀ :: cs) = some (den σ v, { c₀ with mode := .panicking [{ v := den σ v, recovered := true }] } :: cs) := by simp [recoverD, hmode]
  have hA0 : ({ tmps := (denL σ args).toArray ++ Array.replicate (fn.ntmps - (denL σ args).toArray.size) undef, defers := [] } : Act) = act σ { t := args ++ List.replicate (n - args.length) .undef, h := H, r := [], d := [], rd := none } := by
    simp only [act, denL_append, List.map_nil, List.append_nil, hn, List.size_toArray, denL_len]
    congr 1
    simp only [denL_eq, List.map_replicate, den]
    rw [← List.toArray_replicate]
    simp
  rw [hA0]
  obtain ⟨T, hT⟩ : ∃ T, T = args ++ List.replicate (n - args.length) SV.undef := ⟨_, rfl⟩
  have hTl : T.length = n := by rw [hT]; simp; omega
  have hT10 : 10 ≤ T.length := by omega
  unfold recT at h
  rw [← hT] at h ⊢
  generalize hS0 : ({ t := T, h := H, r := [], d := [], rd := none } : SS) = S0
  have hw : ∀ (o : Oper) (ops : Array Oper) (T : Array Value), o.guard = none → Region.wanted o (yielded ops T) = true := fun o ops T h => by simp [Region.wanted, h]
  have r0 : (execOp (act σ S0).eval o0).run P w = .ok .recover w := by
    simp only [execOp, q0, resolve, q1, q2]
    rfl
  have ea : (act σ S0).put (some a') (den σ v) = act σ { t := T.set a' v, h := H, r := [], d := [], rd := none } := by rw [← hS0]; exact act_put' σ T H a' v
  have getT : ∀ (T' : List SV) (j : Nat) (u : SV), j < T'.length → (act σ { t := T'.set j u, h := H, r := [], d := [], rd := none }).eval (.tmp j) = den σ u := by
    intro T' j u hj
    rw [act_eval_tmp]
    simp [hj]
  have r1 : (execOp ((act σ S0).put (some a') (den σ v)).eval o1).run P w = .ok (.value (den σ v)) w := by
    rw [ea]; simp [execOp, q4, getT T a' v (Nat.lt_of_lt_of_le la hT10)]
  refine wpSIn_seq (wpSIn_region ?_)
  rw [show List.range (#[o0, o1] : Array Oper).size = [0, 1] from rfl]
  simp only [wpOpsSIn, show (#[o0, o1] : Array Oper)[0]? = some o0 from rfl, show (#[o0, o1] : Array Oper)[1]? = some o1 from rfl, hw o0 _ _ g0, hw o1 _ _ g1, if_true, r0, hrec, q3, r1, q5]
  refine ⟨fun f hf => ?_, fun f hf => ?_, ?_⟩
  · rw [about_free (fun c hc => by rw [q0] at hc; cases hc; exact ⟨_, q1⟩)] at hf; cases hf
  · rw [about_free (fun c hc => by rw [q4] at hc; cases hc)] at hf; cases hf
  rw [ea, act_put' σ _ H b' v]
  obtain ⟨T1, hT1⟩ : ∃ T1, T1 = (T.set a' v).set b' v := ⟨_, rfl⟩
  have hT1l : T1.length = n := by rw [hT1]; simp [hTl]
  have hT110 : 10 ≤ T1.length := by omega
  have eB : (act σ { t := T1, h := H, r := [], d := [], rd := none }).eval (.tmp b') = den σ v := by rw [hT1]; exact getT (T.set a' v) b' v (by rw [List.length_set]; exact Nat.lt_of_lt_of_le lb hT10)
  rw [← hT1] at h ⊢
  have r2 : (execOp (act σ { t := T1, h := H, r := [], d := [], rd := none }).eval o2).run P w = .ok (.value (den σ v)) w := by simp [execOp, q6, eB]
  have ed : (act σ { t := T1, h := H, r := [], d := [], rd := none }).put (some d') (den σ v) = act σ { t := T1.set d' v, h := H, r := [], d := [], rd := none } := act_put' σ T1 H d' v
  have r3 : (execOp ((act σ { t := T1, h := H, r := [], d := [], rd := none }).put (some d') (den σ v)).eval o3).run P w = .ok (.value (.bool true)) w := by
    rw [ed]
    have hd : (act σ { t := T1.set d' v, h := H, r := [], d := [], rd := none }).eval (.tmp d') = .iface t y := by rw [getT T1 d' v (Nat.lt_of_lt_of_le ld hT110), hy]
    have hk : (act σ { t := T1.set d' v, h := H, r := [], d := [], rd := none }).eval (.const .nilIface) = .nilIface := rfl
    simp only [execOp, q8, hd, hk]
    simp [hf.gd t y d' w, hf.ne t y w]
  show (Code.seq (.region i1 #[o2, o3] false) (.cond (.tmp e') x' .skip)).wpSIn (FR P none) 0 P _ _ _ w
  refine wpSIn_seq (wpSIn_region ?_)
  rw [show List.range (#[o2, o3] : Array Oper).size = [0, 1] from rfl]
  simp only [wpOpsSIn, show (#[o2, o3] : Array Oper)[0]? = some o2 from rfl, show (#[o2, o3] : Array Oper)[1]? = some o3 from rfl, hw o2 _ _ g2, hw o3 _ _ g3, if_true, r2, q7, r3, q9]
  refine ⟨fun f hf => ?_, fun f hf => ?_, ?_⟩
  · rw [about_free (fun c hc => by rw [q6] at hc; cases hc)] at hf; cases hf
  · rw [about_free (fun c hc => by rw [q8] at hc; cases hc)] at hf; cases hf
  rw [ed]
  have ee : (act σ { t := T1.set d' v, h := H, r := [], d := [], rd := none }).put (some e') (.bool true) = act σ { t := (T1.set d' v).set e' (.bool true), h := H, r := [], d := [], rd := none } := act_put' σ (T1.set d' v) H e' (.bool true)
  rw [ee]
  show (Code.cond (.tmp e') x' .skip).wpSIn (FR P none) 0 P _ _ _ w
  refine wpSIn_cond (t := true) (getT (T1.set d' v) e' (.bool true) (by rw [List.length_set]; exact Nat.lt_of_lt_of_le le hT110)) ?_
  have hok' : Ok P σ { t := (T1.set d' v).set e' (.bool true), h := H, r := [], d := [], rd := none } w := ⟨hok.lt, hok.ne, hok.blk, hok.marks, hok.rnd⟩
  refine wpSIn_of_wpIn rfl (ex_sound (draw_law hm) x' xA σ _ w _ _ hxA h hok' (fun e1 e2 σ' s' a1 w' hK hok1 hst1 he => ?_))
  cases e1 <;> cases e2 <;> simp only [exitOk] at he <;> simp only [recK] at hK
  subst he
  split at hK
  rotate_left
  · exact hK.elim
  rename_i hnd
  simp only [noD, Bool.and_eq_true, List.isEmpty_iff] at hnd
  refine ⟨by simp [act, hnd.1, hnd.2], _, rfl, .tuple #[], by simp [results, hr], ⟨_, rfl⟩, rfl, σ', s'.h, s'.r, hK, ⟨hok1.lt, hok1.ne, hok1.blk, (fun l hl => by cases hl), (fun l hl => by cases hl)⟩, ?_⟩
  exact ⟨hst1.size, hst1.os, hst1.tape, hst1.output, hst1.far, hst1.len, hst1.names, hst1.red, hst1.own, rfl⟩
end Go.Sx
namespace Go.Sx
open Go
def plainL : Code → Bool
  | .seq _ (.seq _ (.seq _ (.seq (.region _ _ false) .ret))) => true
  | _ => false
def LastPlain (P : Program) (f : Nat) : Prop := ∃ fn c, P.funcs[f]? = some fn ∧ fn.body = some c ∧ plainL c = true
theorem LastPlain.of {P : Program} {f : Nat} {fn : Func} (hf : P.funcs[f]? = some fn) (hc : fn.body.map plainL = some true) : LastPlain P f := by
  cases hb : fn.body with
  | none => rw [hb] at hc; cases hc
  | some c => rw [hb] at hc; exact ⟨fn, c, hf, hb, by simpa using hc⟩
def isIf : SV → Bool
  | .iface _ _ => true
  | _ => false
def finDX (O : Ops) (P : Program) (xA : XC) (ra rb rd re m : Nat) (D : Deferred) (pa pb : SV) (rs : List Nat) (Post : SV → List SB → List Nat → Prop) : XE → SS → Prop := fun e s =>
  match e with
  | .normal => s.x = [D] ∧ s.d = [] ∧ resOk s rs = true ∧ Post (retV s rs) s.h s.r
  | .panic v => s.x = [D] ∧ s.d = [] ∧ (isIf v && !men s.r pa && !men s.r pb && scL s.h.length s.t) = true ∧
      ex O P xA { t := recT ra rb rd re m [pa, pb] v, h := s.h, r := [], d := [], rd := none } (recK (fun H' R => ∀ js, resOk (back H' R js s) rs = true ∧ Post (retV (back H' R js s) rs) H' (addAll R s.r)))
  | _ => False
def deferKX (O : Ops) (P : Program) (x3 xA : XC) (ra rb rd re m g j a b : Nat) (rs : List Nat) (Post : SV → List SB → List Nat → Prop) : XE → SS → Prop := fun e s =>
  match e with
  | .normal => s.d = [] ∧ s.x = [] ∧ (ltB j s.t.length && scV s.h.length (ev s (.t a)) && scV s.h.length (ev s (.t b))) = true ∧
      ∀ D, ex O P x3 { s with t := s.t.set j (.fn g [ev s (.t a), ev s (.t b)]), x := [D] } (finDX O P xA ra rb rd re m D (ev s (.t a)) (ev s (.t b)) rs Post)
  | _ => False
theorem con_of_deferX {P : Program} {f : Nat} {x0 x1 x3 xA : XC} {g j a b n ty ra rb rd re m : Nat} {rs : List Nat} {args : List SV} {H : List SB} {Post : SV → List SB → List Nat → Prop} (hm : P.follows .mixedOrders = true) (hf : FnD P f x0 x1 x3 g j a b n rs)
    (hp : LastPlain P f) (hg : ∀ (xs : Array Value) (w : World), (callFunc g xs).run P w = .ok (.enter g xs) w) (hR : RecFn P g xA ty ra rb rd re m)
    (hD : ∀ caps w, CallsDIn (FR P none) 0 P g caps .returning w fun e u' w' => (∃ v, e = .returned v) ∧ u' = .returning ∧ w' = w)
    (h : ex std P (.seq x0 x1) { t := args ++ List.replicate (n - args.length) .undef, h := H, r := [], d := [], rd := none } (deferKX std P x3 xA ra rb rd re m g j a b rs Post)) : Con P f args H Post := by
  obtain ⟨fn, c, h1, h2, h3, h4, h5⟩ := hf.has
  obtain ⟨fn', c', hp1, hp2, hp3⟩ := hp
  obtain ⟨c0, c1, c3, id, md, d, ca, rfl, hc0, hc1, hc3, hmo, hmd, hmg, hdo, hcal, hargs, hdd, hdg⟩ := chkD_spec h3
  rw [h1, Option.some.injEq] at hp1
  subst hp1
  rw [h2, Option.some.injEq] at hp2
  subst hp2
  have hc3r : ∃ id' ops', c3 = .region id' ops' false := by
    unfold plainL at hp3
    split at hp3
    · rename_i heq
      simp only [Code.seq.injEq] at heq
      obtain ⟨_, _, _, heq, _⟩ := heq
      exact ⟨_, _, heq⟩
    · cases hp3
  obtain ⟨id', ops', rfl⟩ := hc3r
  simp only [compile] at hc3
  refine ⟨hf.go, fun σ w hok => ?_⟩
  refine callsIn_of_wp_defers h1 h2 ⟨fn, h1⟩ ?_
  have hok' : Ok P σ { t := args ++ List.replicate (n - args.length) .undef, h := H, r := [], d := [], rd := none } w := ⟨hok.lt, hok.ne, hok.blk, hok.marks, hok.rnd⟩
  have ha : act σ { t := args ++ List.replicate (n - args.length) .undef, h := H, r := [], d := [], rd := none } = { tmps := (denL σ args).toArray ++ Array.replicate (fn.ntmps - (denL σ args).toArray.size) undef, defers := [] } := by
    simp only [act, denL_append, List.map_nil, List.append_nil, h4, List.size_toArray, denL_len]
    congr 1
    simp only [denL_eq, List.map_replicate, den]
    rw [← List.toArray_replicate]
    simp
  rw [← ha]
  simp only [ex] at h
  refine wpIn_seq (ex_sound (draw_law hm) c0 x0 σ _ w _ _ hc0 h hok' (fun e' e σ' s' a' w' hK hok1 hst1 he => ?_))
  have hrd1 : s'.rd = none := hst1.rd
  cases e' <;> cases e <;> simp only [exitOk] at he <;> simp only [seqK, deferKX] at hK
  subst he
  have hf1 : rOf σ' s' = none := by simp [rOf, hrd1]
  show (Code.seq c1 (.seq (.region id #[md, d] false) (.seq (.region id' ops' false) .ret))).wpIn (FR P none) 0 P _ (act σ' s') w'
  have w1 := ex_sound (draw_law hm) c1 x1 σ' s' w' _ (Exit.then ((Code.seq (.region id #[md, d] false) (.seq (.region id' ops' false) .ret)).wpIn (FR P none) 0 P (bodyPostDIn (FR P none) 0 P fn (COut P σ H w Post))) (bodyPostDIn (FR P none) 0 P fn (COut P σ H w Post))) hc1 hK hok1 (fun e' e σ2 s2 a2 w2 hK hok2 hst2 he => by
    have hrd2 : s2.rd = none := by rw [hst2.rd, hrd1]
    cases e' <;> cases e <;> simp only [exitOk] at he <;> simp only [deferKX] at hK
    subst he
    obtain ⟨hd2, hx2, hj, hK⟩ := hK
    simp only [Bool.and_eq_true] at hj
    obtain ⟨⟨hj, hsa⟩, hsb⟩ := hj
    have hj : j < s2.t.length := by simpa [ltB] using hj
    have hf2 : rOf σ2 s2 = none := by simp [rOf, hrd2]
    show (Code.seq (.region id #[md, d] false) (.seq (.region id' ops' false) .ret)).wpIn (FR P none) 0 P _ (act σ2 s2) w2
    refine wpIn_seq ?_
    have h3 := defer_ops (P := P) (Q := Exit.then ((Code.seq (.region id' ops' false) .ret).wpIn (FR P none) 0 P (bodyPostDIn (FR P none) 0 P fn (COut P σ H w Post))) (bodyPostDIn (FR P none) 0 P fn (COut P σ H w Post))) (σ := σ2) (s := s2) (w := w2) (id := id) hrd2 hmo hmd hmg hdo hcal hargs hdd hdg hj ?_ hd2
    · rw [hf2] at h3; exact h3
    generalize hD0 : ({ target := .fn (.func g) #[den σ2 (ev s2 (.t a)), den σ2 (ev s2 (.t b))], args := #[] } : Deferred) = D
    rw [hx2]
    show (Code.seq (.region id' ops' false) .ret).wpIn (FR P none) 0 P _ (act σ2 { s2 with t := s2.t.set j (.fn g [ev s2 (.t a), ev s2 (.t b)]), x := [D] }) w2
    have hok3 : Ok P σ2 { s2 with t := s2.t.set j (.fn g [ev s2 (.t a), ev s2 (.t b)]), x := [D] } w2 := ⟨hok2.lt, hok2.ne, hok2.blk, hok2.marks, hok2.rnd⟩
    have hf3 : rOf σ2 { s2 with t := s2.t.set j (.fn g [ev s2 (.t a), ev s2 (.t b)]), x := [D] } = none := by simp [rOf, hrd2]
    have hK := hK D
    have hst3 : Step σ2 s2 w2 σ2 { s2 with t := s2.t.set j (.fn g [ev s2 (.t a), ev s2 (.t b)]), x := [D] } w2 := ⟨(Step.refl σ2 s2 w2).size, rfl, rfl, rfl, (Step.refl σ2 s2 w2).far, (Step.refl σ2 s2 w2).len, (Step.refl σ2 s2 w2).names, (Step.refl σ2 s2 w2).red, (Step.refl σ2 s2 w2).own, rfl⟩
    rcases orBad_some hc3 with rfl | hc3
    · exact hK.elim
    simp only [Option.map_eq_some_iff] at hc3
    obtain ⟨steps, hsteps, rfl⟩ := hc3
    refine wpIn_seq (wpIn_region ?_)
    have w3 := steps_plainS (P := P) (Q := Exit.then (Code.ret.wpIn (FR P none) 0 P (bodyPostDIn (FR P none) 0 P fn (COut P σ H w Post))) (bodyPostDIn (FR P none) 0 P fn (COut P σ H w Post))) (K := finDX std P xA ra rb rd re m D (ev s2 (.t a)) (ev s2 (.t b)) rs Post) (ops := ops') ops'.toList 0 steps σ2 { s2 with t := s2.t.set j (.fn g [ev s2 (.t a), ev s2 (.t b)]), x := [D] } w2 (fun k hk => by simp) hsteps hK hok3 ⟨fun σ3 s3 w3 hK hok4 hst4 => by
      have hrd3 : s3.rd = none := by rw [hst4.rd]; exact hrd2
      simp only [finDX] at hK
      obtain ⟨hx3, hd3, hres, hP⟩ := hK
      show Code.ret.wpIn (FR P none) 0 P _ (act σ3 s3) w3
      refine wpIn_ret ?_
      show LeavesIn (FR P none) 0 P fn (act σ3 s3).tmps (COut P σ H w Post) (act σ3 s3).defers .returning w3
      rw [show (act σ3 s3).defers = [D] by simp only [act, hx3, hd3, List.map_nil, List.nil_append]]
      have hu : unm s3 = { s3 with d := [] } := by unfold unm; rw [hd3]; rfl
      have hok5 : Ok P σ3 (unm s3) w3 := by rw [hu]; exact ⟨hok4.lt, hok4.ne, hok4.blk, (fun l hl => by cases hl), hok4.rnd⟩
      subst hD0
      refine ⟨by simp, fun h => by simp [FR, Fence.wide] at h, .func g, #[den σ2 (ev s2 (.t a)), den σ2 (ev s2 (.t b))], g, #[den σ2 (ev s2 (.t a)), den σ2 (ev s2 (.t b))], rfl, ?_, fun q hq => ?_, ?_⟩
      · simp only [invoke]
        exact hg _ _
      · simp only [Target.leads, Option.some.injEq] at hq
        rw [← hq]
        exact isFn_of_go hg w3
      · refine (hD _ _).mono ?_
        rintro e u' w4 ⟨⟨v, rfl⟩, rfl, rfl⟩
        refine ⟨_, run_results hok4 hok5 h5 hres, σ3, retV s3 rs, s3.h, s3.r, hP, rfl, ⟨hok4.lt, hok4.ne, hok4.blk, (fun l hl => by cases hl), (fun l hl => by cases hl)⟩, ?_⟩
        have hst := ((hst1.trans hst2).trans hst3).trans hst4
        exact ⟨hst.size, hst.os, hst.tape, hst.output, hst.far, hst.len, hst.names, hst.red, hst.own, rfl⟩,
      fun v σ3 s3 w3 hK hok4 hst4 => by
      have hrd3 : s3.rd = none := by rw [hst4.rd]; exact hrd2
      simp only [finDX] at hK
      obtain ⟨hx3, hd3, hcond, hA⟩ := hK
      simp only [Bool.and_eq_true, Bool.not_eq_true'] at hcond
      obtain ⟨⟨⟨hif, hma⟩, hmb⟩, hsc3⟩ := hcond
      show LeavesIn (FR P none) 0 P fn (act σ3 s3).tmps (COut P σ H w Post) (act σ3 s3).defers (.panicking [{ v := den σ3 v, recovered := false }]) w3
      rw [show (act σ3 s3).defers = [D] by simp only [act, hx3, hd3, List.map_nil, List.nil_append]]
      have hka : den σ3 (ev s2 (.t a)) = den σ2 (ev s2 (.t a)) := den_keep hst4.names hsa hma
      have hkb : den σ3 (ev s2 (.t b)) = den σ2 (ev s2 (.t b)) := den_keep hst4.names hsb hmb
      have hcaps : (denL σ3 [ev s2 (.t a), ev s2 (.t b)]).toArray = #[den σ2 (ev s2 (.t a)), den σ2 (ev s2 (.t b))] := by simp only [denL, hka, hkb]
      subst hD0
      refine ⟨by simp, fun h => by simp [FR, Fence.wide] at h, .func g, #[den σ2 (ev s2 (.t a)), den σ2 (ev s2 (.t b))], g, #[den σ2 (ev s2 (.t a)), den σ2 (ev s2 (.t b))], rfl, ?_, fun q hq => ?_, ?_⟩
      · simp only [invoke]
        exact hg _ _
      · simp only [Target.leads, Option.some.injEq] at hq
        rw [← hq]
        exact isFn_of_go hg w3
      · rw [← hcaps]
        obtain ⟨t, v0, hv⟩ : ∃ t v0, v = .iface t v0 := by cases v <;> first | exact ⟨_, _, rfl⟩ | cases hif
        have hok4s : Ok P σ3 (small s3.h []) w3 := ⟨hok4.lt, hok4.ne, hok4.blk, (fun l hl => by cases hl), (fun l hl => by cases hl)⟩
        refine (callsD_rec hm hR hv hok4s hA rfl).mono ?_
        rintro e u' w4 ⟨⟨r, rfl⟩, rfl, σ4, H', R, hPost, ok4, st4⟩
        show LeavesIn (FR P none) 0 P fn (act σ3 s3).tmps (COut P σ H w Post) [] .returning w4
        obtain ⟨k1, k2, k3⟩ := back_sound hok4 hsc3 ok4 st4 (fun l hl => by rw [hd3] at hl; cases hl) (fun l hl => by rw [hrd3] at hl; cases hl)
        obtain ⟨hres, hP⟩ := hPost (fun i => den σ3 (s3.t.getD i .undef))
        have hk1u : Ok P σ4 (unm (back H' R (fun i => den σ3 (s3.t.getD i .undef)) s3)) w4 := by
          unfold unm
          simp only [back, hd3, freeL]
          exact ⟨k1.lt, k1.ne, k1.blk, (fun l hl => by cases hl), k1.rnd⟩
        refine ⟨_, ?_, σ4, retV (back H' R (fun i => den σ3 (s3.t.getD i .undef)) s3) rs, H', addAll R s3.r, hP, rfl, ⟨k1.lt, k1.ne, k1.blk, (fun l hl => by cases hl), (fun l hl => by cases hl)⟩, ?_⟩
        · rw [← k3]; exact run_results k1 hk1u h5 hres
        have hst := (((hst1.trans hst2).trans hst3).trans hst4).trans k2
        exact ⟨hst.size, hst.os, hst.tape, hst.output, hst.far, hst.len, hst.names, hst.red, hst.own, rfl⟩⟩
    rw [hf3] at w3
    rw [List.range_eq_range']
    simpa using w3)
  rw [hf1] at w1
  exact wpIn_seq w1
end Go.Sx
namespace Go.Sx
open Go
def Picked (n : Nat) (v : SV) (H' : List SB) (Q : SV → List SB → Prop) : Prop :=
  ∃ ks v2 H2, headIs n ks 0 = true ∧ noDupL ks = true ∧ v = ren (picks ks) 0 v2 ∧ okV (picks ks) 0 v2 = true ∧ pickB ks H' ks H2 ∧ Q v2 H2
theorem picks_core {P : Program} {σ σ' : Names} {w w' : World} {H H' H2 : List SB} {R : List Nat} {ks : List Nat} {v2 : SV} (hk : headIs H.length ks 0 = true) (hd : noDupL ks = true) (hv : okV (picks ks) 0 v2 = true) (hpk : pickB ks H' ks H2)
    (k3 : Ok P σ' (small H' R) w') (k4 : Step σ (small H []) w σ' (small H' R) w') :
    den σ' (ren (picks ks) 0 v2) = den (cut (picks ks) 0 σ') v2 ∧ Ok P (cut (picks ks) 0 σ') (small H2 R) w' ∧ Step σ (small H []) w (cut (picks ks) 0 σ') (small H2 R) w' := by
  obtain ⟨hlen, hB2⟩ := pickB_spec hpk
  have hrn : ∀ i k, ks[i]? = some k → rn (picks ks) 0 i = (k, .z) := fun i k hi => by unfold rn picks; rw [List.getElem?_map, hi]; rfl
  have hσ : ∀ i k, ks[i]? = some k → cut (picks ks) 0 σ' i = σ' k := fun i k hi => by
    unfold cut; rw [hrn i k hi]
    show (σ' k).map (fun p => (p.1, p.2 + 0)) = σ' k
    cases σ' k <;> rfl
  refine ⟨?_, ⟨fun i p hi hp => ?_, fun i j B C p q hij hB hC ho hp hq => ?_, fun i B hB => ?_, (fun l hl => by cases hl), (fun l hl => by cases hl)⟩,
    ⟨k4.size, k4.os, k4.tape, k4.output, k4.far, ?_, fun i hi hR => ?_, k4.red, fun i B p hB ho hp hlt => ?_, rfl⟩⟩
  · rw [den_ren (picks ks) 0 σ' _ (fun _ => rfl) v2 hv]
  · obtain ⟨B, hB⟩ : ∃ B, H2[i]? = some B := ⟨_, List.getElem?_eq_getElem hi⟩
    obtain ⟨k, e1, e2, _⟩ := hB2 i B hB
    rw [hσ i k e1] at hp
    exact k3.lt k p (by have := List.getElem?_eq_some_iff.1 e2; exact this.1) hp
  · obtain ⟨k, e1, e2, _⟩ := hB2 i B hB
    obtain ⟨k', e1', e2', _⟩ := hB2 j C hC
    rw [hσ i k e1] at hp
    rw [hσ j k' e1'] at hq
    refine k3.ne k k' _ _ p q (fun e => hij ?_) e2 e2' (by rw [own_renB, own_renB]; exact ho) hp hq
    subst e
    exact noDupL_spec hd i j k e1 e1'
  · obtain ⟨k, e1, e2, e3⟩ := hB2 i B hB
    rw [hσ i k e1]
    exact (holds_ren (fun _ => rfl) e3).1 (k3.blk k _ e2)
  · have := headIs_spec hk
    show H.length ≤ H2.length
    rw [hlen]
    rcases Nat.lt_or_ge ks.length H.length with hlt | hge
    · have := this ks.length hlt
      simp at this
    · exact hge
  · have hi : i < H.length := hi
    have h1 := headIs_spec hk i hi
    rw [Nat.zero_add] at h1
    rw [hσ i i h1]
    exact k4.names i hi hR
  · obtain ⟨k, e1, e2, _⟩ := hB2 i B hB
    rw [hσ i k e1] at hp
    exact k4.own k _ p e2 (by rw [own_renB]; exact ho) hp hlt
theorem conX_picks {P : Program} {f : Nat} {args : List SV} {H : List SB} {Post Pan : SV → List SB → List Nat → Prop}
    (h : ConX P f args H (fun v H' R => Picked H.length v H' (fun v2 H2 => Post v2 H2 R)) (fun v H' R => Picked H.length v H' (fun v2 H2 => Pan v2 H2 R))) : ConX P f args H Post Pan := by
  refine ⟨h.go, fun σ w hok => (h.out σ w hok).mono ?_⟩
  rintro e w' ⟨σ', v, H', R, hP, k3, k4⟩
  rcases hP with ⟨⟨ks, v2, H2, hk, hd, rfl, hv, hpk, hP⟩, rfl⟩ | ⟨⟨ks, v2, H2, hk, hd, rfl, hv, hpk, hP⟩, rfl⟩
  · obtain ⟨e1, e2, e3⟩ := picks_core hk hd hv hpk k3 k4
    exact ⟨_, v2, H2, R, .inl ⟨hP, by rw [e1]⟩, e2, e3⟩
  · obtain ⟨e1, e2, e3⟩ := picks_core hk hd hv hpk k3 k4
    exact ⟨_, v2, H2, R, .inr ⟨hP, by rw [e1]⟩, e2, e3⟩
end Go.Sx
namespace Go.Sx
open Go
def bufB : SB → SB
  | .ints t k l => .buf t k l 0
  | b => b
def bufsH : List SB → List SB
  | [] => []
  | b :: H => bufB b :: bufsH H
theorem bufsH_get : ∀ (H : List SB) (i : Nat), (bufsH H)[i]? = H[i]?.map bufB
  | [], i => by simp [bufsH]
  | b :: H, 0 => by simp [bufsH]
  | b :: H, i + 1 => by simp only [bufsH, List.getElem?_cons_succ]; exact bufsH_get H i
theorem bufsH_len : ∀ (H : List SB), (bufsH H).length = H.length
  | [] => rfl
  | b :: H => by simp only [bufsH, List.length_cons, bufsH_len H]
theorem own_bufB (B : SB) : own (bufB B) = own B := by cases B <;> rfl
theorem holds_bufB {P : Program} {σ : Names} {p : Option (Nat × Nat)} {w : World} {B : SB} (h : holds P σ p w B) : holds P σ p w (bufB B) := by
  cases B <;> try exact h
  obtain ⟨b, h1, h2⟩ := h
  refine .inr ⟨b, [], h1, ?_, ?_⟩
  · rw [List.append_nil]; exact h2
  · exact Nat.zero_le _
theorem conX_bufs {P : Program} {f : Nat} {args : List SV} {H : List SB} {Post Pan : SV → List SB → List Nat → Prop} (h : ConX P f args H (fun v H' R => Post v (bufsH H') R) (fun v H' R => Pan v (bufsH H') R)) : ConX P f args H Post Pan := by
  refine ⟨h.go, fun σ w hok => (h.out σ w hok).mono ?_⟩
  rintro e w' ⟨σ', v, H', R, k1, k3, k4⟩
  have hget : ∀ i B, (bufsH H')[i]? = some B → ∃ C, H'[i]? = some C ∧ B = bufB C := fun i B hB => by
    rw [bufsH_get, Option.map_eq_some_iff] at hB
    obtain ⟨C, h1, h2⟩ := hB
    exact ⟨C, h1, h2.symm⟩
  refine ⟨σ', v, bufsH H', R, k1, ⟨fun i p hi hp => k3.lt i p (by simpa [bufsH_len] using hi) hp, fun i j B C p q hij hB hC ho => ?_, fun i B hB => ?_, (fun l hl => by cases hl), (fun l hl => by cases hl)⟩,
    ⟨k4.size, k4.os, k4.tape, k4.output, k4.far, by simpa [bufsH_len] using k4.len, k4.names, k4.red, fun i B p hB hoB => ?_, rfl⟩⟩
  · obtain ⟨B', hB', rfl⟩ := hget i B hB
    obtain ⟨C', hC', rfl⟩ := hget j C hC
    rw [own_bufB, own_bufB] at ho
    exact k3.ne i j B' C' p q hij hB' hC' ho
  · obtain ⟨B', hB', rfl⟩ := hget i B hB
    exact holds_bufB (k3.blk i B' hB')
  · obtain ⟨B', hB', rfl⟩ := hget i B hB
    rw [own_bufB] at hoB
    exact k4.own i B' p hB' hoB
theorem YieldX.mono {P : Program} {l : Nat} {args : List SV} {s : SS} {K K' : SV → SS → Prop} {X X' : XE → SS → Prop} (hK : ∀ v s', K v s' → K' v s') (hX : ∀ v s', X (.panic v) s' → X' (.panic v) s') (h : YieldX P l args s K X) : YieldX P l args s K' X' := by
  refine ⟨fun σ w hok => ?_⟩
  obtain ⟨fn, tmps, asg, body, h1, hF, h2⟩ := h.out σ w hok
  refine ⟨fn, tmps, asg, body, h1, hF, fun c cs hr => ?_⟩
  obtain ⟨e, w', hR, hs⟩ := h2 c cs hr
  refine ⟨e, w', ?_, hs⟩
  obtain ⟨σ', s', k1, k2, k3, k4⟩ := hR
  refine ⟨σ', s', k1, k2, k3, ?_⟩
  cases e with
  | returned v => obtain ⟨v', k5, k6⟩ := k4; exact ⟨v', hK _ _ k5, k6⟩
  | panicked ch => obtain ⟨v', k5, k6⟩ := k4; exact ⟨v', hX _ _ k5, k6⟩
  | outgrown => exact k4
theorem YieldX.gen {P : Program} {l : Nat} {args : List SV} {s : SS} {K : SV → SS → Prop} {X : XE → SS → Prop} (h : YieldX P l (genL args) s K X) : YieldX P l args s K X := by
  refine ⟨fun σ w hok => ?_⟩
  have := h.out σ w hok
  rwa [den_genL] at this
theorem keep0 {R R' : List Nat} {H H' : List SB} {K : Prop} (h : K) : keepD R H [] (keepR R' H' none K) := h
theorem holds_ints_buf {P : Program} {σ : Names} {p : Option (Nat × Nat)} {w : World} {t : Nat} {k : IntKind} {l : List Int} {S : Nat} (hS : S ≤ l.length) (h : holds P σ p w (.ints t k l)) : holds P σ p w (.buf t k [] S) := by
  obtain ⟨b, h1, h2⟩ := h
  exact .inr ⟨b, l, h1, h2, hS⟩
end Go.Sx
