/-
  The engine, part 4: the evaluation of the operations that only compute is sound.
-/
import Derived.Test.YtgbnngjmjimhiaaSx3
namespace Go.Sx
open Go

/-! ### Lists of values -/
theorem denL_eq (σ : Names) (l : List SV) : denL σ l = l.map (den σ) := by
  induction l with
  | nil => rfl
  | cons v l ih => simp [denL, ih]
theorem denL_get (σ : Names) (l : List SV) (i : Nat) : (denL σ l)[i]? = (l[i]?).map (den σ) := by rw [denL_eq]; simp
theorem denL_len (σ : Names) (l : List SV) : (denL σ l).length = l.length := by rw [denL_eq]; simp

theorem den_ofV (σ : Names) (v : Value) : den σ (ofV v) = v := by
  cases v <;> simp only [ofV, den]
  case string s =>
    congr 1
    unfold mkStr
    have h : (List.map (fun n : Int => UInt8.ofNat n.toNat) (List.map (fun b : UInt8 => (b.toNat : Int)) s.data.toList)) = s.data.toList := by
      rw [List.map_map]
      conv => rhs; rw [← List.map_id s.data.toList]
      apply List.map_congr_left
      intro b _
      simp
    rw [h]
theorem ev_den {σ : Names} {s : SS} {x : Operand} {y : XO} (h : cO x = some y) : (act σ s).eval x = den σ (ev s y) := by
  cases x <;> simp only [cO, Option.some.injEq, reduceCtorEq] at h <;> subst h
  case tmp t =>
    simp only [Act.eval, ev, act]
    rw [List.getD_eq_getElem?_getD, Array.getD_eq_getD_getElem?, List.getElem?_toArray, denL_get]
    cases s.t[t]? <;> simp [den]
  case const v => simp [Act.eval, ev, den_ofV]
  case func f => simp [Act.eval, ev, den, denL]
theorem evs_den {σ : Names} {s : SS} : ∀ {xs : List Operand} {ys : List XO}, cOs xs = some ys → xs.map (act σ s).eval = denL σ (ys.map (ev s))
  | [], ys, h => by simp only [cOs, Option.some.injEq] at h; subst h; rfl
  | x :: xs, ys, h => by
    simp only [cOs] at h
    split at h
    · rename_i y ys' hx hxs
      simp only [Option.some.injEq] at h
      subst h
      simp only [List.map_cons, denL, ev_den hx, evs_den hxs]
    · cases h
theorem act_put (σ : Names) (s : SS) (d : Option Nat) (v : SV) : (act σ s).put d (den σ v) = act σ (put d v s) := by
  cases d with
  | none => rfl
  | some d => simp [act, put, Act.put, denL_eq, List.map_set]

/-! ### The operations that only compute -/
theorem kEq_iff {a b : IntKind} : kEq a b = true ↔ a = b := by cases a <;> cases b <;> simp [kEq]

theorem run_binOp_int (P : Program) (w : World) (op : BinOp) (k k2 : IntKind) (t : TypeId) (x y : Int)
    (hk : isSh op = true ∨ k = k2) (hs : isSh op = true → 0 ≤ y) (hd : isDiv op = true → y ≠ 0)
    (hop : isCmp op = false) :
    (binOp op t (.int k x) (.int k2 y)).run P w = .ok (.int k (bV op k x y)) w := by
  cases op <;> simp only [isSh, isDiv, isCmp, Bool.false_eq_true, Bool.true_eq_false, false_or, true_or, forall_const, reduceCtorEq] at hk hs hd hop <;>
    (try subst hk) <;> simp [binOp, Op.intArith, Op.intDiv, Op.intBits, Op.shift, bV]
  · intro h; exact absurd h hd
  · intro h; exact absurd h hd
  · intro h; omega
  · intro h; omega
theorem run_cmp_int (P : Program) (w : World) (op : BinOp) (k : IntKind) (t : TypeId) (x y : Int)
    (hop : isCmp op = true) :
    (binOp op t (.int k x) (.int k y)).run P w = .ok (.bool (cV op x y)) w := by
  cases op <;> simp only [isCmp, Bool.false_eq_true, reduceCtorEq] at hop <;> simp [binOp, Op.intCmp, cV]


theorem asInt_den {σ : Names} {v : SV} {k : IntKind} {K : Int → Prop} (h : intOf k v K) : ∃ n, den σ v = .int k n ∧ K n := by
  cases v <;> simp only [intOf] at h
  all_goals
    split at h
    · rename_i he; rw [kEq_iff] at he; subst he; exact ⟨_, rfl, h⟩
    · exact h.elim
theorem binV_sound {op : BinOp} {k : IntKind} {x y : SV} {K : SV → Prop} (h : binV std op k x y K) (σ : Names) (P : Program) (t : TypeId)
    (hop : isCmp op = false) :
    ∃ v, K v ∧ ∀ w, (binOp op t (den σ x) (den σ y)).run P w = .ok (den σ v) w := by
  have key : ∀ (k1 k2 : IntKind) (a b : Int), (kEq k k1 && (isSh op || kEq k k2)) = true → (isSh op = true → 0 ≤ b) → (isDiv op = true → b ≠ 0) →
      ∀ w, (binOp op t (.int k1 a) (.int k2 b)).run P w = .ok (.int k (bV op k a b)) w := by
    intro k1 k2 a b hk hs hd w
    simp only [Bool.and_eq_true, Bool.or_eq_true, kEq_iff] at hk
    obtain ⟨rfl, hk⟩ := hk
    exact run_binOp_int P w op k k2 t a b hk hs hd hop
  cases x <;> cases y <;> simp only [binV] at h <;> (split at h; rotate_left; exact h.elim)
  all_goals rename_i hk
  · rename_i k1 a k2 b
    split at h
    · exact h.elim
    · rename_i h1
      split at h
      · exact h.elim
      · rename_i h2
        exact ⟨_, h, fun w => key k1 k2 a b hk (fun hs => by simp [hs] at h1; exact h1) (fun hd => by simpa [hd] using h2) w⟩
  · rename_i k1 a k2 b
    split at h
    · rename_i hs
      exact ⟨_, h.2, fun w => key k1 k2 a b hk (fun _ => h.1.out) (fun hd => by cases op <;> simp [isSh, isDiv] at hs hd) w⟩
    · rename_i hs
      split at h
      · exact ⟨_, h.2, fun w => key k1 k2 a b hk (fun h' => absurd h' hs) (fun _ => h.1.out) w⟩
      · rename_i hd
        exact ⟨_, h, fun w => key k1 k2 a b hk (fun h' => absurd h' hs) (fun h' => absurd h' hd) w⟩
  · rename_i k1 a k2 b
    split at h
    · exact h.elim
    · rename_i h1
      split at h
      · exact h.elim
      · rename_i h2
        exact ⟨_, h, fun w => key k1 k2 a b hk (fun hs => by simp [hs] at h1; exact h1) (fun hd => by simpa [hd] using h2) w⟩
  · rename_i k1 a k2 b
    split at h
    · rename_i hs
      exact ⟨_, h.2, fun w => key k1 k2 a b hk (fun _ => h.1.out) (fun hd => by cases op <;> simp [isSh, isDiv] at hs hd) w⟩
    · rename_i hs
      split at h
      · exact ⟨_, h.2, fun w => key k1 k2 a b hk (fun h' => absurd h' hs) (fun _ => h.1.out) w⟩
      · rename_i hd
        exact ⟨_, h, fun w => key k1 k2 a b hk (fun h' => absurd h' hs) (fun h' => absurd h' hd) w⟩
theorem cmpV_sound {op : BinOp} {x y : SV} {K : SV → Prop} (h : cmpV std op x y K) (σ : Names) (P : Program) (t : TypeId)
    (hop : isCmp op = true) :
    ∃ v, K v ∧ ∀ w, (binOp op t (den σ x) (den σ y)).run P w = .ok (den σ v) w := by
  cases x <;> cases y <;> simp only [cmpV] at h <;> (split at h; rotate_left; exact h.elim)
  all_goals (rename_i hk; rw [kEq_iff] at hk; subst hk; exact ⟨_, h, fun w => run_cmp_int P w op _ t _ _ hop⟩)
theorem mmV_sound {mx : Bool} {x y : SV} {K : SV → Prop} (h : mmV std mx x y K) (σ : Names) (P : Program) :
    ∃ v, K v ∧ ∀ w, (if mx then Builtin.max2 (den σ x) (den σ y) else Builtin.min2 (den σ x) (den σ y)).run P w = .ok (den σ v) w := by
  cases x <;> cases y <;> simp only [mmV] at h <;> (split at h; rotate_left; exact h.elim)
  all_goals (rename_i hk; rw [kEq_iff] at hk; subst hk; refine ⟨_, h, fun w => ?_⟩; cases mx <;> simp [Builtin.max2, Builtin.min2, den, std])
theorem idxP_den {i : SV} {n : Nat} {K : Nat → Prop} (h : idxP std i n K) (σ : Names) : ∃ k m, den σ i = .int k m ∧ (0 ≤ m ∧ m < (n : Int)) ∧ K m.toNat := by
  cases i <;> simp only [idxP] at h
  all_goals first | exact h.elim | exact ⟨_, _, rfl, h.1.out, h.2⟩
theorem rowAt_den {row : List SV} {j : Nat} {K : SV → Prop} (h : rowAt row j K) : ∃ v, row[j]? = some v ∧ K v := by
  unfold rowAt at h
  split at h
  · exact ⟨_, by assumption, h⟩
  · exact h.elim


/-! ### What is known of a type -/
theorem runU {P : Program} {t : TypeId} {d : TypeDesc} (h : P.underlying t = some d) (w : World) : (underlying t).run P w = .ok d w := run_underlying h w
theorem run_size {P : Program} {t : TypeId} {n : Nat} (h : sizeT P t = some n) (w : World) : (sizeOf t).run P w = .ok n w := by
  unfold sizeT at h
  cases hi : P.info? t with
  | none => simp [hi] at h
  | some i => simp [hi] at h; simp [sizeOf, typeInfo, hi, h]
theorem run_agg {P : Program} {t : TypeId} {b : Bool} (h : aggT P t = some b) (w : World) : (isAgg t).run P w = .ok b w := by
  unfold aggT at h
  unfold isAgg
  cases hu : P.underlying t with
  | none => simp [hu] at h
  | some d => simp only [hu] at h; simp only [Sem.run_bind, runU hu, Result.andThen_ok]; cases d <;> simp_all
theorem run_zero {P : Program} {t : TypeId} {z : List Value} (h : zeroT P t = some z) (w : World) : ∃ v, (zeroValue t).run P w = .ok v w ∧ v.cells = z.toArray := by
  unfold zeroT at h
  cases hi : P.info? t with
  | none => simp [hi] at h
  | some i =>
    cases hz : i.zero with
    | none => simp [hi, hz] at h
    | some v => simp [hi, hz] at h; exact ⟨v, by simp [zeroValue, typeInfo, hi, hz], by rw [← h]⟩

/-! ### Bounds of a slice -/
theorem bnd_den {v : Option SV} {dflt top : Nat} {K : Nat → Prop} (h : bnd std v dflt top K) (σ : Names) (P : Program) :
    ∃ n, K n ∧ (v = none → n = dflt) ∧ ∀ u, v = some u → ∀ code w, (Instr.sliceBound (den σ u) top code).run P w = .ok n w := by
  cases v with
  | none => exact ⟨dflt, h, fun _ => rfl, fun u hu => by cases hu⟩
  | some v =>
    cases v <;> simp only [bnd] at h
    all_goals
      refine ⟨_, h.2, (fun h0 => (Option.some_ne_none _ h0).elim), (fun u hu code w => ?_)⟩
      cases hu
      have := h.1.out
      simp only [Instr.sliceBound, den, asIntOf, Sem.run_bind, Sem.run_pure, Result.andThen_ok]
      rw [if_pos this]
      simp [std]

/-! ### Places in a built value -/
theorem cellsP_den {v : SV} {K : List SV → Prop} (h : cellsP v K) (σ : Names) : ∃ cs, K cs ∧ (den σ v).cells = (denL σ cs).toArray := by
  cases v <;> simp only [cellsP] at h
  case val u =>
    split at h
    · exact ⟨_, h, rfl⟩
    · exact ⟨_, h, rfl⟩
    · exact ⟨_, h, rfl⟩
    · exact ⟨_, h, rfl⟩
    · exact h.elim
  all_goals exact ⟨_, h, by simp [den, denL, Value.cells]⟩
theorem setN_len : ∀ (cs : List SV) (row : List SV) (off : Nat), (setN row off cs).length = row.length
  | [], _, _ => rfl
  | c :: cs, row, off => by simp [setN, setN_len cs]
theorem fold_setN' (σ : Names) (off : Nat) : ∀ (cs : List SV) (row : List SV) (j : Nat),
    (((denL σ cs).zipIdx j).foldl (fun (a : Array Value) (x : Value × Nat) => a.setIfInBounds (off + x.2) x.1) (denL σ row).toArray) = (denL σ (setN row (off + j) cs)).toArray
  | [], row, j => by simp [denL, setN]
  | c :: cs, row, j => by
    have ih := fold_setN' σ off cs (row.set (off + j) c) (j + 1)
    simp only [denL_eq] at ih ⊢
    simp only [List.map_cons, List.zipIdx_cons, setN, List.foldl_cons, List.setIfInBounds_toArray]
    rw [← List.map_set]
    exact ih
theorem fold_setN (σ : Names) (off : Nat) (cs row : List SV) :
    (((denL σ cs).toArray.zipIdx 0).foldl (fun (a : Array Value) (x : Value × Nat) => a.setIfInBounds (off + x.2) x.1) (denL σ row).toArray) = (denL σ (setN row off cs)).toArray := by
  rw [← Array.foldl_toList, Array.toList_zipIdx]
  exact fold_setN' σ off cs row 0
theorem fillP_sound {σ : Names} {s : SS} {place : Nat → Option (Nat × Nat)} : ∀ {parts : List (Nat × Operand)} {ps : List Part} {row : List SV} {K : List SV → Prop},
    cParts place parts = some ps → fillP s ps row K →
    ∃ row', K row' ∧ Instr.fill place (denL σ row).toArray (parts.map fun (i, x) => (i, (act σ s).eval x)) = some (denL σ row').toArray ∧ row'.length = row.length
  | [], ps, row, K, hp, h => by
    simp only [cParts, Option.some.injEq] at hp; subst hp
    exact ⟨row, h, by simp [Instr.fill], rfl⟩
  | (i, x) :: l, ps, row, K, hp, h => by
    simp only [cParts] at hp
    split at hp
    rotate_left
    · cases hp
    rename_i off sz y ps' hpl hx hl
    simp only [Option.some.injEq] at hp; subst hp
    simp only [fillP] at h
    obtain ⟨cs, h, hcs⟩ := cellsP_den h σ
    split at h
    rotate_left
    · exact h.elim
    rename_i hlen
    split at h
    rotate_left
    · exact h.elim
    rename_i hle
    obtain ⟨row', hK, hf, hr⟩ := fillP_sound hl h
    refine ⟨row', hK, ?_, by rw [hr, setN_len]⟩
    simp only [List.map_cons, Instr.fill, hpl, ev_den hx, hcs]
    have hl2 : cs.length = sz := by simpa using hlen
    rw [if_neg (by simp [denL_len, hl2]; omega)]
    rw [← hf]
    congr 1
    exact fold_setN σ off cs row


/-! ### All of them -/
theorem eqGuard_int (P : Program) (w : World) (op : BinOp) (t : TypeId) (x y : Operand) (k k2 : IntKind) (a b : Int) : (eqGuard op t x y (.int k a) (.int k2 b)).run P w = .ok () w := by
  cases op <;> simp [eqGuard]
theorem int_of_binV {O : Ops} {op : BinOp} {k : IntKind} {x y : SV} {K : SV → Prop} (h : binV O op k x y K) (σ : Names) : ∃ k1 k2 a b, den σ x = .int k1 a ∧ den σ y = .int k2 b := by
  cases x <;> cases y <;> simp only [binV] at h <;> exact ⟨_, _, _, _, rfl, rfl⟩
theorem int_of_cmpV {O : Ops} {op : BinOp} {x y : SV} {K : SV → Prop} (h : cmpV O op x y K) (σ : Names) : ∃ k1 k2 a b, den σ x = .int k1 a ∧ den σ y = .int k2 b := by
  cases x <;> cases y <;> simp only [cmpV] at h <;> exact ⟨_, _, _, _, rfl, rfl⟩
theorem Ok.one_some {P : Program} {σ : Names} {s : SS} {w : World} (hok : Ok P σ s w) {b : Nat} {t : Nat} {row : List SV} (h : s.h[b]? = some (.one t row)) : ∃ p, σ b = some p := by
  obtain ⟨b', hp, _⟩ := hok.blk b _ h; exact ⟨_, hp⟩
theorem Ok.ints_some {P : Program} {σ : Names} {s : SS} {w : World} (hok : Ok P σ s w) {b : Nat} {t : Nat} {k : IntKind} {l : List Int} (h : s.h[b]? = some (.ints t k l)) : ∃ p, σ b = some p := by
  obtain ⟨b', hp, _⟩ := hok.blk b _ h; exact ⟨_, hp⟩
theorem Ok.arr_some {P : Program} {σ : Names} {s : SS} {w : World} (hok : Ok P σ s w) {b : Nat} {t sz len : Nat} {f : Nat → List SV} (h : s.h[b]? = some (.arr t sz len f)) : ∃ p, σ b = some p := by
  obtain ⟨b', cs, hp, _⟩ := hok.blk b _ h; exact ⟨_, hp⟩

theorem add_mk (b o : Nat) (n : Nat) : (Addr.add ⟨b, o, none⟩ n) = ⟨b, o + n, none⟩ := by
  unfold Addr.add; split
  · rename_i h; subst h; rfl
  · rfl

/-- What a pure operation is owed: one value, in whatever world. -/
def PureOk (P : Program) (o : Oper) (σ : Names) (s : SS) (K : SV → Prop) : Prop := ∃ v, K v ∧ ∀ w, (execOp (act σ s).eval o).run P w = .ok (.value (den σ v)) w
section
variable {P : Program} {o : Oper} {σ : Names} {s : SS} {K : SV → Prop} {w0 : World}
theorem pure_mv {x : Operand} {y : XO} (ho : o.op = .move x ∨ o.op = .assign x) (hx : cO x = some y) (h : K (ev s y)) : PureOk P o σ s K :=
  ⟨_, h, fun w => by rcases ho with ho | ho <;> simp [execOp, ho, ev_den hx]⟩
theorem pure_pick {c a b : Operand} {c' a' b' : XO} (ho : o.op = .pick c a b) (hc : cO c = some c') (ha : cO a = some a') (hb : cO b = some b')
    (h : condP (ev s c') (fun _ => K (ev s a')) (fun _ => K (ev s b'))) : PureOk P o σ s K := by
  cases hv : ev s c' <;> simp only [hv, condP] at h
  rename_i t
  cases t
  · exact ⟨_, h, fun w => by simp [execOp, ho, ev_den hc, ev_den ha, ev_den hb, hv, den, asBool]⟩
  · exact ⟨_, h, fun w => by simp [execOp, ho, ev_den hc, ev_den ha, ev_den hb, hv, den, asBool]⟩
theorem pure_un {K' : SV → Prop} {v : SV} (h : K v) (hr : ∀ w, (execOp (act σ s).eval o).run P w = .ok (.value (den σ v)) w) : PureOk P o σ s K := ⟨v, h, hr⟩
theorem there_some (hok : Ok P σ s w0) {b : Nat} {Q : Prop} (h : there s b Q) : Q ∧ ∃ p, σ b = some p := by
  unfold there at h
  split at h
  · exact ⟨h, hok.one_some (by assumption)⟩
  · exact ⟨h, hok.ints_some (by assumption)⟩
  · exact ⟨h, hok.arr_some (by assumption)⟩
  · exact h.elim
theorem pure_nilchk (hok : Ok P σ s w0) {x : Operand} {y : XO} (ho : o.op = .nilCheck x) (hx : cO x = some y) (h : exPure std (.nilchk y) s K) : PureOk P o σ s K := by
  simp only [exPure] at h
  cases hv : ev s y <;> simp only [hv] at h
  case ptr b i sz j =>
    obtain ⟨h, p, hp⟩ := there_some hok h
    exact ⟨_, h, fun w => by simp [execOp, ho, ev_den hx, hv, den, hp]⟩
  case fn f cs => exact ⟨_, h, fun w => by simp [execOp, ho, ev_den hx, hv, den]⟩
  case yield l => exact ⟨_, h, fun w => by simp [execOp, ho, ev_den hx, hv, den]⟩
theorem pure_bin {op : BinOp} {xt yt : TypeId} {x y : Operand} {x' y' : XO} {k : IntKind} (ho : o.op = .binOp op xt x y yt) (hx : cO x = some x') (hy : cO y = some y')
    (hc : isCmp op = false) (h : binV std op k (ev s x') (ev s y') K) : PureOk P o σ s K := by
  obtain ⟨v, hK, hr⟩ := binV_sound h σ P xt hc
  obtain ⟨k1, k2, a, b, ha, hb⟩ := int_of_binV h σ
  refine ⟨v, hK, fun w => ?_⟩
  have := hr w
  rw [ha, hb] at this
  simp [execOp, ho, ev_den hx, ev_den hy, ha, hb, eqGuard_int, this]
theorem pure_cmp {op : BinOp} {xt yt : TypeId} {x y : Operand} {x' y' : XO} (ho : o.op = .binOp op xt x y yt) (hx : cO x = some x') (hy : cO y = some y')
    (hc : isCmp op = true) (h : cmpV std op (ev s x') (ev s y') K) : PureOk P o σ s K := by
  obtain ⟨v, hK, hr⟩ := cmpV_sound h σ P xt hc
  obtain ⟨k1, k2, a, b, ha, hb⟩ := int_of_cmpV h σ
  refine ⟨v, hK, fun w => ?_⟩
  have := hr w
  rw [ha, hb] at this
  simp [execOp, ho, ev_den hx, ev_den hy, ha, hb, eqGuard_int, this]
theorem equal_of (t : TypeId) (a b : Value) (r : Bool) (h : ∀ d w, (Op.equalIn (d + 1) t a b).run P w = .ok r w) (w : World) : (Op.equal t a b).run P w = .ok r w := h 9999 w
theorem mkStr_eq (a b : List Int) : ((mkStr a).toList == (mkStr b).toList) = std.strEq a b := by
  have e : ∀ l : List Int, (mkStr l).toList = l.map fun n => UInt8.ofNat n.toNat := by
    intro l
    simp [mkStr, ByteArray.toList_eq]
  rw [e, e]; rfl
end
end Go.Sx
