/-
  The engine, part 10: append.
-/
import Derived.Test.YtgbnngjmjimhiaaSx9
import Derived.Laws.Append
namespace Go.Sx
open Go
section
variable {P : Program} {o : Oper} {σ : Names} {s : SS} {w : World} {K : SV → SS → Prop}

theorem run_askRoom (n : Nat) (w : World) : (askRoom n).run P w = .ok () w := by
  unfold askRoom; split <;> rfl
theorem cap_le {need old bytes : Nat} (h : old < need) (hb : need * bytes ≤ 140737488355328) : Builtin.nextslicecap need old * bytes ≤ 281474976710656 := by
  have h1 := nextslicecap_le h
  have h2 : Builtin.nextslicecap need old * bytes ≤ (2 * need) * bytes := Nat.mul_le_mul_right _ h1
  rw [Nat.mul_assoc] at h2
  omega
theorem cut_ge (need old : Nat) (e : TypeId) (t : Nat) : need ≤ (Question.appendCap need old e).cut t := by simp [Question.cut]
theorem len_small {n bytes : Nat} (hby : 1 ≤ bytes) (h : n * bytes ≤ 140737488355328) : n ≤ 140737488355328 := by
  have : n * 1 ≤ n * bytes := Nat.mul_le_mul_left _ hby
  omega
/-- In place. -/
theorem run_append_in {t u e e' ty : TypeId} {x : Value} {m n cap : Nat} {news : List Value} {base : Option Addr} {w' : World} (ht : P.underlying t = some (.slice e)) (hu : P.underlying u = some (.slice e')) (hs : sizeT P e = some 1)
    (hlen : (Builtin.lenOf x).run P w = .ok m w) (hfc : (Builtin.firstCells 1 m x).run P w = .ok news.toArray w) (hle : n + m ≤ cap)
    (hst : ∀ a, base = some a → (storeCells (a.add n) news).run P w = .ok () w') (hnone : base = none → w' = w) :
    (Builtin.append_ #[t, u] ty #[.slice base n cap, x]).run P w = .ok (.slice base (n + m) cap) w' := by
  cases base with
  | none =>
    obtain rfl := hnone rfl
    simp [Builtin.append_, runU ht, run_size hs, runU hu, hlen, hle, hfc]
  | some a =>
    have := hst a rfl
    simp [Builtin.append_, runU ht, run_size hs, runU hu, hlen, hle, hfc, this]
/-- Into a new block. -/
theorem run_append_new {t u e e' ty : TypeId} {i : TypeInfo} {z x : Value} {m n cap : Nat} {old news : List Value} {base : Option Addr} (ht : P.underlying t = some (.slice e)) (hu : P.underlying u = some (.slice e')) (hi : P.info? e = some i)
    (hs : i.size = 1) (hz : i.zero = some z) (hby : 1 ≤ i.bytes) (hlen : (Builtin.lenOf x).run P w = .ok m w) (hfc : (Builtin.firstCells 1 m x).run P w.drew = .ok news.toArray w.drew)
    (hold : (Builtin.firstCells 1 n (.slice base n cap)).run P w.drew = .ok old.toArray w.drew) (hlt : cap < n + m) (hfit : (n + m) * i.bytes ≤ 140737488355328) :
    ∃ c, n + m ≤ c ∧ (Builtin.append_ #[t, u] ty #[.slice base n cap, x]).run P w =
      .ok (.slice (some ⟨w.heap.size, 0, none⟩) (n + m) c) (w.drew.alloc (.cells ((old ++ news).toArray ++ Builtin.zeroCells z.cells (c - (n + m))) e)) := by
  have hcap := cap_le hlt hfit
  have hsm := len_small hby hfit
  refine ⟨(Question.appendCap (n + m) cap e).cut (w.tape w.drawn (.appendCap (n + m) cap e)), cut_ge _ _ _ _, ?_⟩
  have hs' : sizeT P e = some 1 := by simp [sizeT, hi, hs]
  have hti : ∀ w, (typeInfo e).run P w = .ok i w := fun w => by simp [typeInfo, hi]
  have hzv : ∀ w, (zeroValue e).run P w = .ok z w := fun w => by simp [zeroValue, typeInfo, hi, hz]
  have hb0 : ¬ i.bytes = 0 := by omega
  have hmx : ¬ (9223372036854775807 : Int) < (n : Int) + (m : Int) := by omega
  simp [Builtin.append_, runU ht, run_size hs', runU hu, hlen, show ¬ (n + m ≤ cap) by omega, hti, hb0, IntKind.max, IntKind.bits, show ¬ (281474976710656 < Builtin.nextslicecap (n + m) cap * i.bytes) by omega, Question.forced, run_askRoom, hold, hfc, hzv, newRow, choose, Sem.run]
  rw [← Array.append_assoc]; simp

theorem size_da (w : World) (ob : Obj) : (w.drew.alloc ob).heap.size = w.heap.size + 1 := by
  show (w.heap.push ob).size = _
  simp
theorem Grew.drewAlloc (w : World) (ob : Obj) : Grew w (w.drew.alloc ob) :=
  ⟨by rw [size_da]; omega, rfl, rfl, rfl, fun k hk => by
    show (w.heap.push ob)[k]? = _
    rw [Array.getElem?_push, if_neg (by omega)]⟩
theorem zeroCells_int (k : IntKind) (n : Nat) : Builtin.zeroCells #[Value.int k 0] n = ((List.replicate n 0).map (Value.int k)).toArray := by
  unfold Builtin.zeroCells
  apply Array.ext
  · simp
  · intro i h1 h2
    simp [Nat.mod_one]
/-- **An append, whatever it is that finds what to append.** -/
theorem appT_sound {e : TypeId} {k : IntKind} {bytes m : Nat} {dst : SV} {xs : List Int} (hok : Ok P σ s w) (hm : xs.length = m)
    (Hin : ∀ base n cap w', den σ dst = .slice base n cap → n + m ≤ cap → (∀ a, base = some a → (storeCells (a.add n) (xs.map (Value.int k))).run P w = .ok () w') → (base = none → w' = w) →
      (execOp (act σ s).eval o).run P w = .ok (.value (.slice base (n + m) cap)) w')
    (Hnew : ∀ base n cap (old : List Int), den σ dst = .slice base n cap → cap < n + m → (n + m) * bytes ≤ 140737488355328 →
      (Builtin.firstCells 1 n (.slice base n cap)).run P w.drew = .ok (old.map (Value.int k)).toArray w.drew →
      ∃ c, n + m ≤ c ∧ (execOp (act σ s).eval o).run P w = .ok (.value (.slice (some ⟨w.heap.size, 0, none⟩) (n + m) c)) (w.drew.alloc (.cells (((old ++ xs) ++ List.replicate (c - (n + m)) 0).map (Value.int k)).toArray e)))
    (h : appT std s e k bytes dst xs m K) : ActOk P o σ s w K := by
  -- the two ways, for a block that reads as 'full'
  have key : ∀ (b len cap cc : Nat) (l full : List Int) (B : SB), s.h[b]? = some B → own B = true → B ≠ .defd → isLoop B = false → dst = .slice b .z 1 len cap →
      len ≤ l.length → (∀ i, i < l.length → full[i]? = l[i]?) → cap ≤ full.length →
      ((σ b = none ∧ full = [] ∧ l = []) ∨ ∃ g, σ b = some (g, 0) ∧ w.heap[g]? = some (.cells (full.map (Value.int k)).toArray e (0, 0))) →
      (len + m) * bytes ≤ 140737488355328 → (∀ (i : Nat) (C : SB), s.h[i]? = some C → menB [b] C True) →
      (∀ c js, Le (std.addN len m) c → K (.slice b .z 1 (std.addN len m) c) (over b (.buf e k (std.onto l len xs) c) js s)) → ActOk P o σ s w K := by
    intro b len cap cc l full B hB ho hnd hrd hdst hlen hfull hcap hmem hfit hmen hK
    have hfl : l.length ≤ full.length := by
      rcases Nat.lt_or_ge full.length l.length with h | h
      · have := hfull full.length h
        rw [List.getElem?_eq_none (Nat.le_refl _), List.getElem?_eq_getElem h] at this
        cases this
      · exact h
    have htake : full.take len = l.take len := by
      apply List.ext_getElem?
      intro i
      rw [List.getElem?_take, List.getElem?_take]
      by_cases hi : i < len
      · rw [if_pos hi, if_pos hi, hfull i (by omega)]
      · rw [if_neg hi, if_neg hi]
    by_cases hle : len + m ≤ cap
    · -- in place
      rcases hmem with ⟨hn, hf, hl⟩ | ⟨g, hg, hh⟩
      · subst hf hl
        have hc0 : cap = 0 := by simpa using hcap
        have hm0 : m = 0 := by omega
        have hl0 : len = 0 := by omega
        subst hc0 hm0 hl0
        obtain rfl : xs = [] := List.eq_nil_of_length_eq_zero hm
        have hr := Hin none 0 0 w (by rw [hdst]; simp [den, hn]) (by omega) (fun a ha => by cases ha) (fun _ => rfl)
        obtain ⟨h1, h2, h3⟩ := hok.over (σ' := σ) (w' := w) (B' := .buf e k (std.onto [] 0 []) 0) hB ho rfl hnd hrd hmen (fun _ _ => rfl)
          (fun q hq => by rw [hn] at hq; cases hq) (Nat.le_refl _) rfl rfl rfl (fun _ _ _ => rfl) (fun q hq => by rw [hn] at hq; cases hq) (by rw [hn]; exact .inl ⟨rfl, rfl, rfl⟩)
        exact ⟨_, σ, _, w, hK 0 _ ⟨by simp [std]⟩, .inl (by rw [hr]; simp [den, hn, std]), h1, h2, h3⟩
      · have hst := run_storeCells_at (P := P) g len e (xs.map (Value.int k)) 0 (full.map (Value.int k)).toArray w hh (by simp; omega) (fun v hv => by
          obtain ⟨n, _, rfl⟩ := List.mem_map.1 hv; rfl)
        simp only [Nat.add_zero, List.length_map] at hst
        have hr := Hin (some ⟨g, 0, none⟩) len cap _ (by rw [hdst]; simp [den, hg, ixN]) hle (fun a ha => by cases ha; rw [add_mk, Nat.zero_add]; exact hst) (fun h => by cases h)
        have hnew : ((full.map (Value.int k)).toArray.toList.take len ++ xs.map (Value.int k) ++ (full.map (Value.int k)).toArray.toList.drop (len + xs.length)).toArray =
            ((std.onto l len xs ++ full.drop (len + m)).map (Value.int k)).toArray := by
          simp [std, ← htake, List.map_take, List.map_drop, hm]
        obtain ⟨h1, h2, h3⟩ := hok.over (σ' := σ) (w' := w.setRow g ((full.map (Value.int k)).toArray.toList.take len ++ xs.map (Value.int k) ++ (full.map (Value.int k)).toArray.toList.drop (len + xs.length)).toArray)
          (B' := .buf e k (std.onto l len xs) cap) hB ho rfl hnd hrd hmen (fun _ _ => rfl)
          (fun q hq => by rw [hg] at hq; cases hq; exact ⟨by simpa using hok.lt b (g, 0) (List.getElem?_eq_some_iff.1 hB).1 hg, .inr hg⟩) (by simp) rfl rfl rfl
          (fun k' hk' hne => setRow_other _ _ _ _ (fun e' => hne (by rw [e']; exact hg))) (fun q hq => by rw [hg] at hq; cases hq; rfl)
          (by
            rw [hg]
            refine .inr ⟨g, full.drop (len + m), rfl, ?_, ?_⟩
            · rw [setRow_heap _ _ _ _ _ _ hh, hnew]
            · simp [std]; omega)
        exact ⟨_, σ, _, _, hK cap _ ⟨by simp [std]; omega⟩, .inl (by rw [hr]; simp [den, hg, ixN, std]), h1, h2, h3⟩
    · -- into a new block
      have hfc : ∃ base, den σ dst = .slice base len cap ∧ (Builtin.firstCells 1 len (.slice base len cap)).run P w.drew = .ok ((l.take len).map (Value.int k)).toArray w.drew := by
        rcases hmem with ⟨hn, hf, hl⟩ | ⟨g, hg, hh⟩
        · subst hf hl
          have hl0 : len = 0 := by simpa using hlen
          subst hl0
          exact ⟨none, by rw [hdst]; simp [den, hn], by simp [Builtin.firstCells]⟩
        · refine ⟨some ⟨g, 0, none⟩, by rw [hdst]; simp [den, hg, ixN], ?_⟩
          have := run_loadCells_list (P := P) w.drew ⟨g, 0, none⟩ ((l.take len).map (Value.int k)) (fun j v hj => by
            rw [add_mk, Nat.zero_add]
            have hc : w.drew.cell? ⟨g, j, none⟩ = w.cell? ⟨g, j, none⟩ := rfl
            rw [hc, cell_cells hh]
            rw [← htake] at hj
            simp only [List.getElem?_map, List.getElem?_take] at hj
            split at hj
            · simpa using hj
            · simp at hj)
          simp only [List.length_map, List.length_take, Nat.min_eq_left hlen] at this
          simpa [Builtin.firstCells] using this
      obtain ⟨base, hden, hfc⟩ := hfc
      obtain ⟨c, hc, hr⟩ := Hnew base len cap (l.take len) hden (by omega) hfit hfc
      have hgr := Grew.drewAlloc w (.cells (((l.take len ++ xs) ++ List.replicate (c - (len + m)) 0).map (Value.int k)).toArray e)
      have hzero : ∀ q, σ b = some q → q.2 = 0 := by
        intro q hq
        rcases hmem with ⟨hn, _⟩ | ⟨g, hg, _⟩
        · rw [hn] at hq; cases hq
        · rw [hg] at hq; cases hq; rfl
      obtain ⟨h1, h2, h3⟩ := hok.over (σ' := fun i => if i = b then some (w.heap.size, 0) else σ i) (w' := w.drew.alloc (.cells (((l.take len ++ xs) ++ List.replicate (c - (len + m)) 0).map (Value.int k)).toArray e))
        (B' := .buf e k (std.onto l len xs) c) hB ho rfl hnd hrd hmen (fun i hi => by simp [hi])
        (fun q hq => by simp at hq; subst hq; exact ⟨by rw [size_da]; exact Nat.lt_succ_self _, .inl (Nat.le_refl _)⟩) hgr.size hgr.os hgr.tape hgr.output (fun k' hk' _ => hgr.old k' hk') hzero
        (by
          simp only [if_true]
          refine .inr ⟨w.heap.size, List.replicate (c - (len + m)) 0, rfl, ?_, ?_⟩
          · have := heap_new w.drew (.cells (((l.take len ++ xs) ++ List.replicate (c - (len + m)) 0).map (Value.int k)).toArray e)
            simpa [std] using this
          · simp [std, Nat.min_eq_left hlen]; omega)
      exact ⟨_, _, _, _, hK c _ ⟨by simpa [std] using hc⟩, .inl (by rw [hr]; simp [den, ixN, std]), h1, h2, h3⟩
  unfold appT at h
  split at h
  · rename_i b len cap
    split at h
    · rename_i e' k' l hB
      split at h
      rotate_left
      · exact h.elim
      rename_i he
      split at h
      rotate_left
      · exact h.elim
      rename_i hk
      rw [kEq_iff] at hk; subst hk
      obtain rfl : e = e' := by simpa using he
      obtain ⟨h1, h2, h3, h⟩ := h
      obtain ⟨hK, hmen⟩ := menH_get h
      obtain ⟨g, hg, hh⟩ := hok.blk b _ hB
      refine key b len cap 0 l l _ hB rfl (by simp) rfl rfl (by simpa [std] using h1.out) (fun i _ => rfl) (by simpa [std] using h2.out) (.inr ⟨g, hg, hh⟩) (by simpa [std] using h3.out) hmen hK
    · rename_i e' k' l cc hB
      split at h
      rotate_left
      · exact h.elim
      rename_i he
      split at h
      rotate_left
      · exact h.elim
      rename_i hk
      rw [kEq_iff] at hk; subst hk
      obtain rfl : e = e' := by simpa using he
      obtain ⟨h1, h2, h3, h⟩ := h
      obtain ⟨hK, hmen⟩ := menH_get h
      have h1' := h1.out
      have h2' := h2.out
      rcases hok.blk b _ hB with ⟨hn, hl, hc⟩ | ⟨g, l', hg, hh, hc⟩
      · refine key b len cap cc l l _ hB rfl (by simp) rfl rfl (by simpa [std] using h1') (fun i _ => rfl) (by subst hl; simp; omega) (.inl ⟨hn, hl, hl⟩) (by simpa [std] using h3.out) hmen hK
      · refine key b len cap cc l (l ++ l') _ hB rfl (by simp) rfl rfl (by simpa [std] using h1') (fun i hi => by rw [List.getElem?_append_left hi]) (by omega) (.inr ⟨g, hg, hh⟩) (by simpa [std] using h3.out) hmen hK
    · exact h.elim
  · obtain ⟨h1, h⟩ := h
    obtain ⟨h, hsc⟩ := scS_iff h
    have h1 := h1.out
    by_cases hm0 : m = 0
    · subst hm0
      obtain rfl : xs = [] := List.eq_nil_of_length_eq_zero hm
      have hr := Hin none 0 0 w rfl (by omega) (fun a ha => by cases ha) (fun _ => rfl)
      obtain ⟨g1, g2, g3⟩ := hok.new hsc (w' := w) (B := .buf e k [] 0) (p := none) ⟨Nat.le_refl _, rfl, rfl, rfl, fun _ _ => rfl⟩ (fun q hq => by cases hq) (.inl ⟨rfl, rfl, rfl⟩)
      exact ⟨_, _, _, w, h 0 ⟨Nat.le_refl _⟩, .inl (by rw [hr]; simp [den, more]), g1, g2, g3⟩
    · obtain ⟨c, hc, hr⟩ := Hnew none 0 0 [] rfl (by omega) (by simpa using h1) (by simp [Builtin.firstCells])
      simp only [Nat.zero_add, List.nil_append] at hr hc
      obtain ⟨g1, g2, g3⟩ := hok.new hsc (B := .buf e k xs c) (p := some (w.heap.size, 0)) (Grew.drewAlloc w (.cells ((xs ++ List.replicate (c - m) 0).map (Value.int k)).toArray e))
        (fun q hq => by cases hq; exact ⟨Nat.le_refl _, by rw [size_da]; exact Nat.lt_succ_self _⟩)
        (.inr ⟨w.heap.size, List.replicate (c - m) 0, rfl, heap_new w.drew _, by simp; omega⟩)
      exact ⟨_, _, _, _, h c ⟨hc⟩, .inl (by rw [hr]; simp [den, more, ixN]), g1, g2, g3⟩
  · exact h.elim
theorem act_appI {t u e e' : TypeId} {a b : Operand} {a' b' : XO} {k : IntKind} {i : TypeInfo} {args : Array Operand} {tys : Array TypeId} (hok : Ok P σ s w)
    (ho : o.op = .call { callee := .builtin .append, args := args, argTypes := tys }) (hargs : args.toList = [a, b]) (htys : tys.toList = [t, u]) (ht : P.underlying t = some (.slice e)) (hu : P.underlying u = some (.slice e')) (hi : P.info? e = some i)
    (hs : i.size = 1) (hz : zero1 P e k = true) (hby : 1 ≤ i.bytes) (ha : cO a = some a') (hb : cO b = some b') {X : XE → SS → Prop}
    (h : exAct std P (.appI e k i.bytes a' b') s K X) : ActOk P o σ s w K := by
  obtain ⟨args⟩ := args
  obtain ⟨tys⟩ := tys
  simp only at hargs htys
  subst hargs htys
  simp only [exAct] at h
  obtain ⟨xs, m, h, hm, ad, c, hden, hcell, h0⟩ := srcI_sound hok h
  have hz' := zero1_eq hz
  obtain ⟨z, hiz, hzc⟩ : ∃ z, i.zero = some z ∧ z.cells = #[.int k 0] := by
    unfold zeroT at hz'
    simp only [hi, Option.bind_some] at hz'
    cases hz0 : i.zero with
    | none => simp [hz0] at hz'
    | some z => simp [hz0] at hz'; exact ⟨z, rfl, by rw [← Array.toArray_toList (xs := z.cells), hz']⟩
  have hs' : sizeT P e = some 1 := by simp [sizeT, hi, hs]
  have hlen : (Builtin.lenOf (den σ (ev s b'))).run P w = .ok m w := by rw [hden]; simp [Builtin.lenOf]
  have hfc : ∀ w' : World, w'.heap = w.heap → (Builtin.firstCells 1 m (den σ (ev s b'))).run P w' = .ok (xs.map (Value.int k)).toArray w' := by
    intro w' hw'
    rw [hden]
    cases ad with
    | none =>
      obtain rfl := h0 rfl
      obtain rfl : xs = [] := List.eq_nil_of_length_eq_zero hm
      simp [Builtin.firstCells]
    | some ad =>
      have := run_loadCells_list (P := P) w' ad (xs.map (Value.int k)) (fun j v hj => by
        simp only [List.getElem?_map, Option.map_eq_some_iff] at hj
        obtain ⟨n, hn, rfl⟩ := hj
        have hlt := (List.getElem?_eq_some_iff.1 hn).1
        have e : w'.cell? (ad.add j) = w.cell? (ad.add j) := by simp [World.cell?, hw']
        rw [e, hcell ad rfl j (by omega)]
        simp [List.getD, hn])
      rw [List.length_map, hm] at this
      simp [Builtin.firstCells, this]
  have hop : ∀ (r : Value) (w' : World), (Builtin.append_ #[t, u] o.type #[den σ (ev s a'), den σ (ev s b')]).run P w = .ok r w' → (execOp (act σ s).eval o).run P w = .ok (.value r) w' := by
    intro r w' hr
    simp [execOp, ho, resolve, invoke, builtin, ev_den ha, ev_den hb, hr]
  refine appT_sound hok hm (fun base n cap w' hd hle hst hnone => ?_) (fun base n cap old hd hlt hfit hold => ?_) h
  · refine hop _ _ ?_
    rw [hd]
    exact run_append_in ht hu hs' hlen (by rw [hfc w rfl]) hle hst hnone
  · obtain ⟨c', hc', hr⟩ := run_append_new (ty := o.type) ht hu hi hs hiz hby hlen (hfc w.drew rfl) hold hlt hfit
    refine ⟨c', hc', hop _ _ ?_⟩
    rw [hd, hr, hzc, zeroCells_int]
    rw [List.map_append, List.map_append, List.append_toArray]
end
end Go.Sx
