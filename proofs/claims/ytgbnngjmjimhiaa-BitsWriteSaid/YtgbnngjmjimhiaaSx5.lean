/-
  The engine, part 5: the evaluation of the operations that only compute is sound (the rest of them).
-/
import Derived.Test.YtgbnngjmjimhiaaSx4
namespace Go.Sx
open Go
section
variable {P : Program} {o : Oper} {σ : Names} {s : SS} {K : SV → Prop} {w0 : World}

theorem eqT_0 {t : TypeId} (h : eqT P t = some 0) : P.underlying t = some .bool := by
  unfold eqT at h; split at h <;> simp_all
theorem eqT_1 {t : TypeId} (h : eqT P t = some 1) : P.underlying t = some .string := by
  unfold eqT at h; split at h <;> simp_all
theorem eqT_2 {t : TypeId} (h : eqT P t = some 2) : ∃ e, P.underlying t = some (.pointer e) := by
  unfold eqT at h; split at h <;> simp_all
theorem eqT_3 {t : TypeId} (h : eqT P t = some 3) : ∃ a b c, P.underlying t = some (.func a b c) := by
  unfold eqT at h; split at h <;> simp_all
theorem pure_eqv {neg : Bool} {ty : Nat} {xt yt : TypeId} {x y : Operand} {x' y' : XO} (hok : Ok P σ s w0) (ho : o.op = .binOp (if neg then .neq else .eql) xt x y yt) (hx : cO x = some x') (hy : cO y = some y')
    (ht : eqT P xt = some ty) (h : eqSV std s neg ty (ev s x') (ev s y') (fun b => K (.bool b))) : PureOk P o σ s K := by
  -- the run, out of what 'equal' gives
  have key : ∀ (a b : Value) (r : Bool), den σ (ev s x') = a → den σ (ev s y') = b →
      (∀ w, (eqGuard (if neg then .neq else .eql) xt x y a b).run P w = .ok () w) →
      (∀ w, (binOp (if neg then .neq else .eql) xt a b).run P w = .ok (.bool (if neg then !r else r)) w) →
      K (.bool (if neg then !r else r)) → PureOk P o σ s K := by
    intro a b r ha hb hg hr hK
    exact ⟨_, hK, fun w => by simp [execOp, ho, ev_den hx, ev_den hy, ha, hb, hg w, hr w, den]⟩
  unfold eqSV at h
  split at h
  · rename_i a b hxa hyb
    refine key (.bool a) (.bool b) (a == b) (by rw [hxa]; rfl) (by rw [hyb]; rfl) (fun w => by cases neg <;> simp [eqGuard]) (fun w => ?_) ?_
    · have e := equal_of (P := P) xt (.bool a) (.bool b) (a == b) (fun d w => by simp [Op.equalIn, runU (eqT_0 ht)]) w
      cases neg <;> simp [binOp, e]
    · cases neg <;> simpa [std] using h
  · rename_i a b hxa hyb
    refine key (.string (mkStr a)) (.string (mkStr b)) (std.strEq a b) (by rw [hxa]; rfl) (by rw [hyb]; rfl) (fun w => by cases neg <;> simp [eqGuard]) (fun w => ?_) ?_
    · have e := mkStr_eq a b
      cases neg <;> simp [binOp, Op.stringOp, e]
    · cases neg <;> simpa [std] using h
  · rename_i b i sz j hxa hyb
    obtain ⟨h, p, hp⟩ := there_some hok h
    obtain ⟨e, hu⟩ := eqT_2 ht
    refine key (.pointer (some ⟨p.1, p.2 + (ixN i * sz + j), none⟩)) (.pointer none) false (by rw [hxa]; simp [den, hp]) (by rw [hyb]; rfl) (fun w => by cases neg <;> simp [eqGuard]) (fun w => ?_) ?_
    · have e := equal_of (P := P) xt (.pointer (some ⟨p.1, p.2 + (ixN i * sz + j), none⟩)) (.pointer none) false (fun d w => by simp [Op.equalIn, runU hu]) w
      cases neg <;> simp [binOp, e]
    · cases neg <;> simpa using h
  · rename_i b i sz j hxa hyb
    obtain ⟨h, p, hp⟩ := there_some hok h
    obtain ⟨e, hu⟩ := eqT_2 ht
    refine key (.pointer none) (.pointer (some ⟨p.1, p.2 + (ixN i * sz + j), none⟩)) false (by rw [hxa]; rfl) (by rw [hyb]; simp [den, hp]) (fun w => by cases neg <;> simp [eqGuard]) (fun w => ?_) ?_
    · have e := equal_of (P := P) xt (.pointer none) (.pointer (some ⟨p.1, p.2 + (ixN i * sz + j), none⟩)) false (fun d w => by simp [Op.equalIn, runU hu]) w
      cases neg <;> simp [binOp, e]
    · cases neg <;> simpa using h
  · rename_i hxa hyb
    obtain ⟨e, hu⟩ := eqT_2 ht
    refine key (.pointer none) (.pointer none) true (by rw [hxa]; rfl) (by rw [hyb]; rfl) (fun w => by cases neg <;> simp [eqGuard]) (fun w => ?_) ?_
    · have e := equal_of (P := P) xt (.pointer none) (.pointer none) true (fun d w => by simp [Op.equalIn, runU hu]) w
      cases neg <;> simp [binOp, e]
    · cases neg <;> simpa using h
  · rename_i f cs hxa hyb
    obtain ⟨a, b, c, hu⟩ := eqT_3 ht
    refine key (.func (.func f) #[] (denL σ cs).toArray) .nilFunc false (by rw [hxa]; rfl) (by rw [hyb]; rfl) (fun w => by cases neg <;> simp [eqGuard]) (fun w => ?_) ?_
    · have e := equal_of (P := P) xt (.func (.func f) #[] (denL σ cs).toArray) .nilFunc false (fun d w => by simp [Op.equalIn, runU hu]) w
      cases neg <;> simp [binOp, e]
    · cases neg <;> simpa using h
  · rename_i hxa hyb
    obtain ⟨a, b, c, hu⟩ := eqT_3 ht
    refine key .nilFunc .nilFunc true (by rw [hxa]; rfl) (by rw [hyb]; rfl) (fun w => by cases neg <;> simp [eqGuard]) (fun w => ?_) ?_
    · have e := equal_of (P := P) xt .nilFunc .nilFunc true (fun d w => by simp [Op.equalIn, runU hu]) w
      cases neg <;> simp [binOp, e]
    · cases neg <;> simpa using h
  · exact h.elim
theorem pure_not {xt : TypeId} {x : Operand} {y : XO} (ho : o.op = .unOp .not xt x) (hx : cO x = some y) (h : exPure std (.not y) s K) : PureOk P o σ s K := by
  simp only [exPure] at h
  cases hv : ev s y <;> simp only [hv] at h
  exact ⟨_, h, fun w => by simp [execOp, ho, ev_den hx, hv, den, Op.unary, std]⟩
theorem pure_neg {xt : TypeId} {x : Operand} {y : XO} {k : IntKind} (ho : o.op = .unOp .neg xt x) (hx : cO x = some y) (h : exPure std (.neg k y) s K) : PureOk P o σ s K := by
  simp only [exPure] at h
  obtain ⟨v, hK, hr⟩ := binV_sound h σ P 0 rfl
  cases hv : ev s y <;> simp only [hv, binV] at h
  all_goals
    split at h
    rotate_left
    · exact h.elim
    rename_i hk
    simp only [isSh, Bool.false_or, Bool.and_eq_true, kEq_iff] at hk
    refine ⟨v, hK, fun w => ?_⟩
    have := hr w
    rw [hv] at this
    simp only [den] at this
    simp only [execOp, ho, ev_den hx, hv, den, Op.unary, Sem.run_bind]
    obtain ⟨_, rfl⟩ := hk
    simp only [binOp, ne_eq, not_true, if_false] at this
    simp [this]
theorem pure_cpl {xt : TypeId} {x : Operand} {y : XO} {k : IntKind} (ho : o.op = .unOp .xor xt x) (hx : cO x = some y) (h : exPure std (.cpl k y) s K) : PureOk P o σ s K := by
  simp only [exPure] at h
  obtain ⟨n, hn, hK⟩ := asInt_den h (σ := σ)
  exact ⟨_, hK, fun w => by simp [execOp, ho, ev_den hx, hn, den, Op.unary, Op.intBits, std, bV]⟩
theorem pure_conv {src dst : TypeId} {x : Operand} {y : XO} {k k0 : IntKind} (ho : o.op = .convert src dst x) (hs : P.underlying src = some (.int k0)) (hd : P.underlying dst = some (.int k)) (hx : cO x = some y)
    (h : exPure std (.conv k y) s K) : PureOk P o σ s K := by
  simp only [exPure] at h
  cases hv : ev s y <;> simp only [hv] at h
  all_goals exact ⟨_, h, fun w => by simp [execOp, ho, ev_den hx, hv, den, convert, runU hs, runU hd, Conv.intToInt, std]⟩
theorem pure_convS {src dst : TypeId} {x : Operand} {y : XO} (ho : o.op = .convert src dst x) (hs : P.underlying src = some .string) (hd : P.underlying dst = some .string) (hx : cO x = some y)
    (h : exPure std (.mvS y) s K) : PureOk P o σ s K := by
  simp only [exPure] at h
  cases hv : ev s y <;> simp only [hv] at h
  exact ⟨_, h, fun w => by simp [execOp, ho, ev_den hx, hv, den, convert, runU hs, runU hd]⟩
theorem pure_fadr {t : TypeId} {x : Operand} {y : XO} {f n : Nat} {fs : Array Field} {g : Field} (ho : o.op = .fieldAddr t x f) (ht : P.underlying t = some (.struct fs)) (hf : fs[f]? = some g) (hn : sizeT P g.type = some (n + 1))
    (hx : cO x = some y) (hok : Ok P σ s w0) (h : exPure std (.fadr g.offset y) s K) : PureOk P o σ s K := by
  simp only [exPure] at h
  cases hv : ev s y <;> simp only [hv] at h
  rename_i b i sz j
  obtain ⟨h, p, hp⟩ := there_some hok h
  exact ⟨_, h, fun w => by simp [execOp, ho, ev_den hx, hv, den, hp, Instr.fieldAt, runU ht, hf, Instr.sureAddr, fieldPlace, run_size hn, add_mk, Nat.add_assoc]⟩
end
end Go.Sx
