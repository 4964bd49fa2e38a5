/-
  The engine, part 6: the evaluation of the operations that only compute is sound (the last of them, and all).
-/
import Derived.Test.YtgbnngjmjimhiaaSx5
namespace Go.Sx
open Go
section
variable {P : Program} {o : Oper} {σ : Names} {s : SS} {K : SV → Prop} {w0 : World}

theorem pure_fld {t : TypeId} {x : Operand} {y : XO} {f : Nat} {fs : Array Field} {g : Field} {ag : Option Nat} (ho : o.op = .field t x f) (ht : P.underlying t = some (.struct fs)) (hf : fs[f]? = some g)
    (hg : (aggT P g.type = some true ∧ ∃ n, sizeT P g.type = some n ∧ ag = some n) ∨ (aggT P g.type = some false ∧ ag = none))
    (hx : cO x = some y) (h : exPure std (.fld g.offset ag y) s K) : PureOk P o σ s K := by
  simp only [exPure] at h
  cases hv : ev s y <;> simp only [hv] at h
  rename_i cs
  rcases hg with ⟨ha, n, hn, rfl⟩ | ⟨ha, rfl⟩
  · simp only at h
    split at h
    rotate_left
    · exact h.elim
    refine ⟨_, h, fun w => ?_⟩
    simp [execOp, ho, ev_den hx, hv, den, Instr.field, runU ht, hf, asAgg, part, run_agg ha, run_size hn, denL_eq, List.map_take, List.map_drop]
  · simp only at h
    obtain ⟨v, hv2, hK⟩ := rowAt_den h
    refine ⟨v, hK, fun w => ?_⟩
    simp [execOp, ho, ev_den hx, hv, den, Instr.field, runU ht, hf, asAgg, part, run_agg ha, denL_eq, hv2]
theorem pure_idxS {t : TypeId} {x i : Operand} {y j : XO} (ho : o.op = .index t x i) (ht : P.underlying t = some .string) (hx : cO x = some y) (hi : cO i = some j)
    (h : exPure std (.idxS y j) s K) : PureOk P o σ s K := by
  simp only [exPure] at h
  cases hv : ev s y <;> simp only [hv] at h
  rename_i l
  obtain ⟨k, m, hm, hb, hK⟩ := idxP_den h σ
  refine ⟨_, hK, fun w => ?_⟩
  have hlt : m.toNat < l.length := by have := hb.2; simp only [std] at this; omega
  have hget : (mkStr l)[m.toNat]? = some (UInt8.ofNat ((l.getD m.toNat 0).toNat)) := by
    have : (mkStr l).size = l.length := by simp [mkStr, ByteArray.size]
    rw [getElem?_pos (mkStr l) m.toNat (by rw [this]; exact hlt)]
    simp [mkStr, ByteArray.getElem_eq_getElem_data, List.getD, hlt]
  simp only [execOp, ho, ev_den hx, ev_den hi, hv, hm, den, Instr.index, asIntOf, Sem.run_bind, Sem.run_pure, Result.andThen_ok, runU ht]
  rw [if_pos hb.1, hget]
  simp [std]
theorem ixN_add (ix : Ix) (n : Nat) : ixN (addIx std ix n) = ixN ix + n := by cases ix <;> simp [addIx, ixN, std]
theorem pure_iadr {t e : TypeId} {x i : Operand} {y j : XO} {sz : Nat} (hok : Ok P σ s w0) (ho : o.op = .indexAddr t x i) (ht : P.underlying t = some (.slice e)) (hs : sizeT P e = some sz) (hx : cO x = some y) (hi : cO i = some j)
    (h : exPure std (.iadr sz y j) s K) : PureOk P o σ s K := by
  simp only [exPure] at h
  cases hv : ev s y <;> simp only [hv] at h
  rename_i b ix sz' len cap
  split at h
  rotate_left
  · exact h.elim
  rename_i hsz
  obtain rfl : sz = sz' := by simpa using hsz
  obtain ⟨k, m, hm, hb, h⟩ := idxP_den h σ
  have key : (∃ p, σ b = some p) → K (.ptr b (addIx std ix m.toNat) sz 0) → PureOk P o σ s K := by
    rintro ⟨p, hp⟩ hK
    refine ⟨_, hK, fun w => ?_⟩
    simp only [execOp, ho, ev_den hx, ev_den hi, hv, hm, den, Instr.indexAt, asIntOf, Sem.run_bind, Sem.run_pure, Result.andThen_ok, runU ht, hp, Option.map_some]
    rw [if_pos hb]
    simp [run_size hs, add_mk, ixN_add, Nat.add_mul, Nat.add_assoc]
  split at h
  · rename_i l hB
    refine key ?_ h.2
    rcases hok.blk b _ hB with ⟨_, rfl⟩ | ⟨b', o', hp, _⟩
    · have := h.1.out; simp [std] at this
    · exact ⟨_, hp⟩
  · rename_i sz2 n f hB
    refine key ?_ h.2
    rcases hok.blk b _ hB with ⟨_, rfl⟩ | ⟨b', o', hp, _⟩
    · have := h.1.out; omega
    · exact ⟨_, hp⟩
  · rename_i tt kk l c hB
    refine key ?_ h.2
    rcases hok.blk b _ hB with ⟨_, rfl, _⟩ | ⟨b', l', hp, _⟩
    · have := h.1.out; simp [std] at this
    · exact ⟨_, hp⟩
  · exact key (hok.ints_some (by assumption)) h
  · exact key (hok.one_some (by assumption)) h
  · exact key (hok.arr_some (by assumption)) h
  · exact h.elim
theorem pure_iadrA {t e : TypeId} {x i : Operand} {y j : XO} {m sz : Nat} (hok : Ok P σ s w0) (ho : o.op = .indexAddr t x i) (ht : P.underlying t = some (.array m e)) (hs : sizeT P e = some sz) (hx : cO x = some y) (hi : cO i = some j)
    (h : exPure std (.iadrA m sz y j) s K) : PureOk P o σ s K := by
  simp only [exPure] at h
  cases hv : ev s y <;> simp only [hv] at h
  rename_i b ix sz' jj
  split at h
  rotate_left
  · exact h.elim
  obtain ⟨k, n, hn, hb, h⟩ := idxP_den h σ
  obtain ⟨h, p, hp⟩ := there_some hok h
  refine ⟨_, h, fun w => ?_⟩
  simp only [execOp, ho, ev_den hx, ev_den hi, hv, hn, den, Instr.indexAt, asIntOf, Sem.run_bind, Sem.run_pure, Result.andThen_ok, runU ht, hp, Option.map_some, Instr.sureAddr]
  rw [if_pos hb]
  simp [run_size hs, add_mk, ixN]
theorem map_ev (s : SS) (σ : Names) {a : Option Operand} {b : Option XO} (h : cOO a = some b) : a.map (act σ s).eval = (b.map (ev s)).map (den σ) := by
  cases a with
  | none => simp only [cOO, Option.some.injEq] at h; subst h; rfl
  | some x =>
    simp only [cOO] at h
    split at h
    · rename_i y hy; simp only [Option.some.injEq] at h; subst h; simp [ev_den hy]
    · cases h
theorem bounds_run {isSlice : Bool} {len cap : Nat} {lo hi mx : Option SV} {K : Nat → Nat → Nat → Prop} (σ : Names) (P : Program) (hmx : mx.isNone = true ∨ hi.isSome = true)
    (h : bnd std mx cap cap (fun m => bnd std hi len m (fun h => bnd std lo 0 h (fun l => K l h m)))) :
    ∃ l h m, K l h m ∧ (lo = none → l = 0) ∧ ∀ w, (Instr.sliceBounds isSlice len cap (lo.map (den σ)) (hi.map (den σ)) (mx.map (den σ))).run P w = .ok (l, h, m) w := by
  obtain ⟨m, h, hm0, hm⟩ := bnd_den h σ P
  obtain ⟨hh, h, hh0, hh1⟩ := bnd_den h σ P
  obtain ⟨l, h, hl0, hl⟩ := bnd_den h σ P
  refine ⟨l, hh, m, h, hl0, fun w => ?_⟩
  cases mx with
  | none =>
    obtain rfl := hm0 rfl
    cases hi with
    | none =>
      obtain rfl := hh0 rfl
      cases lo with
      | none => obtain rfl := hl0 rfl; simp [Instr.sliceBounds]
      | some lo => simp [Instr.sliceBounds, hl lo rfl]
    | some hi =>
      cases lo with
      | none => obtain rfl := hl0 rfl; simp [Instr.sliceBounds, hh1 hi rfl]
      | some lo => simp [Instr.sliceBounds, hh1 hi rfl, hl lo rfl]
  | some mx =>
    cases hi with
    | none => simp at hmx
    | some hi =>
      cases lo with
      | none => obtain rfl := hl0 rfl; simp [Instr.sliceBounds, hm mx rfl, hh1 hi rfl]
      | some lo => simp [Instr.sliceBounds, hm mx rfl, hh1 hi rfl, hl lo rfl]
theorem pure_slc {t e : TypeId} {x : Operand} {y : XO} {sz : Nat} {lo hi mx : Option Operand} {lo' hi' mx' : Option XO} (ho : o.op = .slice t x lo hi mx) (ht : P.underlying t = some (.slice e)) (hs : sizeT P e = some sz) (hx : cO x = some y)
    (hlo : cOO lo = some lo') (hhi : cOO hi = some hi') (hmx : cOO mx = some mx') (h : exPure std (.slc sz y lo' hi' mx') s K) : PureOk P o σ s K := by
  simp only [exPure] at h
  cases hv : ev s y <;> simp only [hv] at h
  rename_i b ix sz' len cap
  split at h
  rotate_left
  · exact h.elim
  rename_i hsz
  simp only [Bool.and_eq_true, Bool.or_eq_true, beq_iff_eq] at hsz
  obtain ⟨rfl, hmh⟩ := hsz
  obtain ⟨l, hh, m, hK, hl0, hr⟩ := bounds_run (isSlice := true) σ P (by simpa using hmh) h
  refine ⟨_, hK, fun w => ?_⟩
  simp only [execOp, ho, ev_den hx, hv, den, map_ev s σ hlo, map_ev s σ hhi, map_ev s σ hmx, Instr.sliceAt, Sem.run_bind, runU ht, Result.andThen_ok, Instr.slice, hr w, run_size hs, Sem.run_pure]
  cases lo' with
  | none =>
    obtain rfl := hl0 rfl
    cases σ b <;> simp [Addr.add]
  | some lo' =>
    simp only [std, ixN]
    by_cases hml : m = l
    · simp [hml]
    · simp only [if_neg hml]
      cases σ b with
      | none => rfl
      | some p => simp [add_mk, Nat.add_mul, Nat.add_assoc]
theorem pure_slcA {t e : TypeId} {x : Operand} {y : XO} {n sz : Nat} {lo hi mx : Option Operand} {lo' hi' mx' : Option XO} (hok : Ok P σ s w0) (ho : o.op = .slice t x lo hi mx) (ht : P.underlying t = some (.array n e)) (hs : sizeT P e = some sz) (hx : cO x = some y)
    (hlo : cOO lo = some lo') (hhi : cOO hi = some hi') (hmx : cOO mx = some mx') (h : exPure std (.slcA n sz y lo' hi' mx') s K) : PureOk P o σ s K := by
  simp only [exPure] at h
  cases hv : ev s y <;> simp only [hv] at h
  rename_i b ix sz' j
  split at h
  rotate_left
  · exact h.elim
  obtain ⟨h, p, hp⟩ := there_some hok h
  split at h
  · exact h.elim
  rename_i hmh
  obtain ⟨l, hh, m, hK, hl0, hr⟩ := bounds_run (isSlice := false) σ P (by cases mx' <;> cases hi' <;> simp at hmh ⊢) h
  refine ⟨_, hK, fun w => ?_⟩
  simp only [execOp, ho, ev_den hx, hv, den, hp, Option.map_some, map_ev s σ hlo, map_ev s σ hhi, map_ev s σ hmx, Instr.sliceAt, Sem.run_bind, runU ht, Result.andThen_ok, hr w, run_size hs, Sem.run_pure, Instr.sureAddr]
  cases lo' with
  | none =>
    obtain rfl := hl0 rfl
    simp [Addr.add, ixN]
  | some lo' =>
    simp only [std, ixN]
    by_cases hml : m = l
    · simp [hml]
    · simp [hml, add_mk]
theorem pure_len {x : Operand} {t e : TypeId} {y : XO} {args : Array Operand} {tys : Array TypeId} (ho : o.op = .call { callee := .builtin .len, args := args, argTypes := tys }) (ha : args.toList = [x]) (hty : tys.toList = [t])
    (ht : P.underlying t = some (.slice e)) (hx : cO x = some y) (h : exPure std (.len y) s K) : PureOk P o σ s K := by
  obtain ⟨args⟩ := args
  obtain ⟨tys⟩ := tys
  simp only at ha hty
  subst ha hty
  simp only [exPure] at h
  split at h
  · rename_i hv
    exact ⟨_, h, fun w => by simp [execOp, ho, resolve, invoke, builtin, Builtin.len_, runU ht, ev_den hx, hv, den, goInt, std]⟩
  · rename_i hv
    exact ⟨_, h, fun w => by simp [execOp, ho, resolve, invoke, builtin, Builtin.len_, runU ht, ev_den hx, hv, den, goInt]⟩
  · exact h.elim
theorem pure_lenS {x : Operand} {t : TypeId} {y : XO} {args : Array Operand} {tys : Array TypeId} (ho : o.op = .call { callee := .builtin .len, args := args, argTypes := tys }) (ha : args.toList = [x]) (hty : tys.toList = [t])
    (ht : P.underlying t = some .string) (hx : cO x = some y) (h : exPure std (.lenS y) s K) : PureOk P o σ s K := by
  obtain ⟨args⟩ := args
  obtain ⟨tys⟩ := tys
  simp only at ha hty
  subst ha hty
  simp only [exPure] at h
  cases hv : ev s y <;> simp only [hv] at h
  rename_i l
  have e : (mkStr l).size = l.length := by simp [mkStr, ByteArray.size]
  exact ⟨_, h, fun w => by simp [execOp, ho, resolve, invoke, builtin, Builtin.len_, runU ht, ev_den hx, hv, den, goInt, std, e]⟩
theorem pure_mm {mx : Bool} {x y : Operand} {x' y' : XO} {args : Array Operand} {tys : Array TypeId} (ho : o.op = .call { callee := .builtin (if mx then .max else .min), args := args, argTypes := tys }) (ha : args.toList = [x, y])
    (hx : cO x = some x') (hy : cO y = some y') (h : mmV std mx (ev s x') (ev s y') K) : PureOk P o σ s K := by
  obtain ⟨args⟩ := args
  simp only at ha
  subst ha
  obtain ⟨v, hK, hr⟩ := mmV_sound h σ P
  refine ⟨v, hK, fun w => ?_⟩
  have := hr w
  cases mx
  · rw [if_neg (by decide)] at this ho
    simp [execOp, ho, resolve, invoke, builtin, Builtin.min_, ev_den hx, ev_den hy, this]
  · rw [if_pos rfl] at this ho
    simp [execOp, ho, resolve, invoke, builtin, Builtin.max_, ev_den hx, ev_den hy, this]
theorem pure_mkfn {f : FuncId} {first cap : Array Operand} {cs : List XO} (ho : o.op = .makeFunc (.func f) first cap) (hf : first.isEmpty = true) (hc : cOs cap.toList = some cs) (h : K (.fn f (cs.map (ev s)))) : PureOk P o σ s K := by
  refine ⟨_, h, fun w => ?_⟩
  have hf' : first = #[] := by
    obtain ⟨first⟩ := first
    cases first with
    | nil => rfl
    | cons a l => cases hf
  have e : cap.map (act σ s).eval = (denL σ (cs.map (ev s))).toArray := by
    rw [← evs_den (σ := σ) (s := s) hc, ← Array.toList_map]
  simp [execOp, ho, Instr.makeFunc, den, hf', e]
theorem pure_extract {x : Operand} {y : XO} {i : Nat} (ho : o.op = .extract x i) (hx : cO x = some y) (h : exPure std (.extract y i) s K) : PureOk P o σ s K := by
  simp only [exPure] at h
  cases hv : ev s y <;> simp only [hv] at h
  obtain ⟨v, hv2, hK⟩ := rowAt_den h
  exact ⟨v, hK, fun w => by simp [execOp, ho, ev_den hx, hv, den, Instr.extract, denL_eq, hv2]⟩
theorem pure_mkif {t : TypeId} {x : Operand} {y : XO} {d : TypeDesc} (ho : o.op = .makeInterface t x) (ht : P.underlying t = some d) (hd : ∀ ms, d ≠ .interface ms) (hx : cO x = some y) (h : K (.iface t (ev s y))) : PureOk P o σ s K := by
  refine ⟨_, h, fun w => ?_⟩
  cases d <;> first | exact absurd rfl (hd _) | simp [execOp, ho, Instr.makeInterface, runU ht, ev_den hx, den]
theorem run_places (w : World) : ∀ (fs : List Field) (r : List (Nat × Nat)), placesT P fs = some r →
    (fs.mapM (m := Sem) (fun f => do let n ← sizeOf f.type; pure (f.offset, n))).run P w = .ok r w
  | [], r, h => by simp only [placesT, Option.some.injEq] at h; subst h; simp
  | f :: fs, r, h => by
    simp only [placesT] at h
    split at h
    rotate_left
    · cases h
    rename_i n r' hn hr
    simp only [Option.some.injEq] at h; subst h
    have ih := run_places w fs r' hr
    rw [List.mapM_cons]
    simp only [Sem.run_bind, run_size hn, Result.andThen_ok, Sem.run_pure, ih]
theorem pure_build {t : TypeId} {parts : Array (Nat × Operand)} {z : List Value} {ps : List Part} (ho : o.op = .build t parts) (hz : zeroT P t = some z)
    (hp : (∃ fs r, P.underlying t = some (.struct fs) ∧ placesT P fs.toList = some r ∧ cParts (fun i => r[i]?) parts.toList = some ps) ∨
      (∃ m e n, P.underlying t = some (.array m e) ∧ sizeT P e = some n ∧ cParts (fun i => some (i * n, n)) parts.toList = some ps))
    (h : exPure std (.build (z.map ofV) ps) s K) : PureOk P o σ s K := by
  simp only [exPure] at h
  obtain ⟨zv, hzv, hcells⟩ : ∃ v, (∀ w, (zeroValue t).run P w = .ok v w) ∧ v.cells = z.toArray := by
    obtain ⟨v, h1, h2⟩ := run_zero hz default
    refine ⟨v, fun w => ?_, h2⟩
    obtain ⟨v', h3, h4⟩ := run_zero hz w
    unfold zeroT at hz
    cases hi : P.info? t with
    | none => simp [hi] at hz
    | some i =>
      cases hz0 : i.zero with
      | none => simp [hi, hz0] at hz
      | some v0 => simp [zeroValue, typeInfo, hi, hz0] at h1 h3 ⊢; rw [h1]
  have hzd : denL σ (z.map ofV) = z := by
    rw [denL_eq, List.map_map]
    conv => rhs; rw [← List.map_id z]
    apply List.map_congr_left
    intro v _
    simp [den_ofV]
  have hmap : (parts.map fun x : Nat × Operand => (x.1, (act σ s).eval x.2)).toList = parts.toList.map fun x => (x.1, (act σ s).eval x.2) := by simp
  rcases hp with ⟨fs, r, hu, hr, hp⟩ | ⟨m, e, n, hu, hn, hp⟩
  · obtain ⟨row', hK, hf, _⟩ := fillP_sound (σ := σ) hp h
    refine ⟨_, hK, fun w => ?_⟩
    have hpl : (fs.mapM (m := Sem) (fun f => do let n ← sizeOf f.type; pure (f.offset, n))).run P w = .ok r.toArray w := by
      rw [Array.mapM_eq_mapM_toList]
      simp only [Sem.run_map, run_places w _ _ hr, Result.andThen_ok]
    rw [hzd] at hf
    simp only [execOp, ho, Instr.build, Sem.run_bind, hzv w, Result.andThen_ok, hcells, runU hu, hpl]
    have hf' : Instr.fill (fun x => r.toArray[x]?) z.toArray (Array.map (fun x => (x.fst, (act σ s).eval x.snd)) parts).toList = some (denL σ row').toArray := by
      rw [hmap, ← hf]; congr 1; funext i; simp
    rw [hf']
    simp [den]
  · obtain ⟨row', hK, hf, _⟩ := fillP_sound (σ := σ) hp h
    refine ⟨_, hK, fun w => ?_⟩
    rw [hzd] at hf
    simp only [execOp, ho, Instr.build, Sem.run_bind, hzv w, Result.andThen_ok, hcells, runU hu, run_size hn]
    have hf' : Instr.fill (fun i => some (i * n, n)) z.toArray (Array.map (fun x => (x.fst, (act σ s).eval x.snd)) parts).toList = some (denL σ row').toArray := by
      rw [hmap, ← hf]
    rw [hf']
    simp [den]

/-- **All operations that only compute.** -/
theorem pure_sound {x : XOp} (hok : Ok P σ s w0) (hc : cPure P o = some x) (h : exPure std x s K) : PureOk P o σ s K := by
  unfold cPure at hc
  split at hc
  · rename_i y ho
    simp only [Option.map_eq_some_iff] at hc
    obtain ⟨y', hy, rfl⟩ := hc
    exact pure_mv (.inl ho) hy h
  · rename_i y ho
    simp only [Option.map_eq_some_iff] at hc
    obtain ⟨y', hy, rfl⟩ := hc
    exact pure_mv (.inr ho) hy h
  · rename_i c a b ho
    split at hc
    · rename_i c' a' b' h1 h2 h3
      simp only [Option.some.injEq] at hc; subst hc
      exact pure_pick ho h1 h2 h3 h
    · cases hc
  · rename_i t parts ho
    split at hc
    · rename_i z fs hz hu
      split at hc
      · rename_i r hr
        simp only [Option.map_eq_some_iff] at hc
        obtain ⟨ps, hps, rfl⟩ := hc
        exact pure_build ho hz (.inl ⟨fs, r, hu, hr, hps⟩) h
      · cases hc
    · rename_i z m e hz hu
      split at hc
      · rename_i n hn
        simp only [Option.map_eq_some_iff] at hc
        obtain ⟨ps, hps, rfl⟩ := hc
        exact pure_build ho hz (.inr ⟨m, e, n, hu, hn, hps⟩) h
      · cases hc
    · cases hc
  · rename_i y ho
    simp only [Option.map_eq_some_iff] at hc
    obtain ⟨y', hy, rfl⟩ := hc
    exact pure_nilchk hok ho hy h
  · rename_i op xt a b yt ho
    split at hc
    · rename_i a' b' h1 h2
      split at hc
      · rename_i k hk
        split at hc
        · rename_i hcmp
          simp only [Option.some.injEq] at hc; subst hc
          exact pure_cmp ho h1 h2 hcmp h
        · rename_i hcmp
          simp only [Option.some.injEq] at hc; subst hc
          exact pure_bin ho h1 h2 (by simpa using hcmp) h
      · split at hc
        · rename_i ty hty
          simp only [Option.some.injEq] at hc; subst hc
          exact pure_eqv (neg := false) hok ho h1 h2 hty h
        · rename_i ty hty
          simp only [Option.some.injEq] at hc; subst hc
          exact pure_eqv (neg := true) hok ho h1 h2 hty h
        · cases hc
    · cases hc
  · rename_i op xt a ho
    split at hc
    · rename_i a' h1
      split at hc
      · simp only [Option.some.injEq] at hc; subst hc
        exact pure_not ho h1 h
      · simp only [Option.map_eq_some_iff] at hc
        obtain ⟨k, hk, rfl⟩ := hc
        exact pure_neg ho h1 h
      · simp only [Option.map_eq_some_iff] at hc
        obtain ⟨k, hk, rfl⟩ := hc
        exact pure_cpl ho h1 h
      · cases hc
    · cases hc
  · rename_i src dst a ho
    split at hc
    · rename_i a' h1
      split at hc
      · rename_i k0 k hs hd
        simp only [Option.some.injEq] at hc; subst hc
        exact pure_conv ho hs hd h1 h
      · rename_i hs hd
        simp only [Option.some.injEq] at hc; subst hc
        exact pure_convS ho hs hd h1 h
      · cases hc
    · cases hc
  · rename_i t a ho
    split at hc
    · cases hc
    · rename_i d a' hni hd h1
      simp only [Option.some.injEq] at hc; subst hc
      exact pure_mkif ho hd (fun ms e => hni ms e) h1 h
    · cases hc
  · rename_i f first cap ho
    split at hc
    · rename_i hf
      simp only [Option.map_eq_some_iff] at hc
      obtain ⟨cs, hcs, rfl⟩ := hc
      exact pure_mkfn ho hf hcs h
    · cases hc
  · rename_i t a lo hi mx ho
    split at hc
    · rename_i a' lo' hi' mx' h1 h2 h3 h4
      split at hc
      · rename_i e he
        simp only [Option.map_eq_some_iff] at hc
        obtain ⟨n, hn, rfl⟩ := hc
        exact pure_slc ho he hn h1 h2 h3 h4 h
      · rename_i m e he
        simp only [Option.map_eq_some_iff] at hc
        obtain ⟨n, hn, rfl⟩ := hc
        exact pure_slcA hok ho he hn h1 h2 h3 h4 h
      · cases hc
    · cases hc
  · rename_i t a f ho
    split at hc
    · rename_i a' fs h1 ht
      split at hc
      · rename_i g hg
        split at hc
        · rename_i n hn
          simp only [Option.some.injEq] at hc; subst hc
          exact pure_fadr ho ht hg hn h1 hok h
        · cases hc
      · cases hc
    · cases hc
  · rename_i t a f ho
    split at hc
    · rename_i a' fs h1 ht
      split at hc
      · rename_i g hg
        split at hc
        · rename_i ha
          simp only [Option.map_eq_some_iff] at hc
          obtain ⟨n, hn, rfl⟩ := hc
          exact pure_fld ho ht hg (.inl ⟨ha, n, hn, rfl⟩) h1 h
        · rename_i ha
          simp only [Option.some.injEq] at hc; subst hc
          exact pure_fld ho ht hg (.inr ⟨ha, rfl⟩) h1 h
        · cases hc
      · cases hc
    · cases hc
  · rename_i t a i ho
    split at hc
    · rename_i a' i' h1 h2 ht
      simp only [Option.some.injEq] at hc; subst hc
      exact pure_idxS ho ht h1 h2 h
    · cases hc
  · rename_i t a i ho
    split at hc
    · rename_i a' i' h1 h2
      split at hc
      · rename_i e he
        simp only [Option.map_eq_some_iff] at hc
        obtain ⟨n, hn, rfl⟩ := hc
        exact pure_iadr hok ho he hn h1 h2 h
      · rename_i m e he
        split at hc
        · cases hc
        · simp only [Option.map_eq_some_iff] at hc
          obtain ⟨n, hn, rfl⟩ := hc
          exact pure_iadrA hok ho he hn h1 h2 h
      · cases hc
    · cases hc
  · rename_i a i ho
    simp only [Option.map_eq_some_iff] at hc
    obtain ⟨y', hy, rfl⟩ := hc
    exact pure_extract ho hy h
  · rename_i args tys ho
    split at hc
    · rename_i a t ha ht
      split at hc
      · rename_i a' e h1 he
        simp only [Option.some.injEq] at hc; subst hc
        exact pure_len ho ha ht he h1 h
      · rename_i a' h1 he
        simp only [Option.some.injEq] at hc; subst hc
        exact pure_lenS ho ha ht he h1 h
      · cases hc
    · cases hc
  · rename_i args tys ho
    split at hc
    · rename_i a b ha
      split at hc
      · rename_i a' b' h1 h2
        simp only [Option.some.injEq] at hc; subst hc
        exact pure_mm (mx := true) ho ha h1 h2 h
      · cases hc
    · cases hc
  · rename_i args tys ho
    split at hc
    · rename_i a b ha
      split at hc
      · rename_i a' b' h1 h2
        simp only [Option.some.injEq] at hc; subst hc
        exact pure_mm (mx := false) ho ha h1 h2 h
      · cases hc
    · cases hc
  · cases hc
end
end Go.Sx
