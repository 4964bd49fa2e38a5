import Derived.Test.YtodobmkflimfkaaA2
set_option linter.unusedVariables false
set_option linter.unusedSimpArgs false
namespace Go.Proofs.Ytodobmkflimfkaa
open Go Go.Sx Go.Proofs
/-! What canon.Limit answers, plainly; the document's rows. -/
theorem nextIs {n D : Nat} {k0 : Nat → Int} {q : Nat → Nat} (h : RowQ n D k0 q) {c d : Nat} (hm : c + d < n + D) (hc : c ≤ n) (hd : d ≤ D) (e4 : ∀ y, (y < c ∨ (n ≤ y ∧ y < n + d)) ↔ ∃ i, i < c + d ∧ q i = y) :
    ((D ≤ d ∨ (c < n ∧ k0 c ≤ k0 (n + d))) → q (c + d) = c) ∧ (¬ (D ≤ d ∨ (c < n ∧ k0 c ≤ k0 (n + d))) → q (c + d) = n + d) := by
  have hq := h.lt (c + d) hm
  have hnot : ¬ (q (c + d) < c ∨ (n ≤ q (c + d) ∧ q (c + d) < n + d)) := fun hh => by
    obtain ⟨i, hi, e⟩ := (e4 _).1 hh
    have := h.inj i (c + d) (by omega) (by omega) e
    omega
  have later : ∀ y, y < n + D → ¬ (y < c ∨ (n ≤ y ∧ y < n + d)) → y ≠ q (c + d) → k0 (q (c + d)) ≤ k0 y ∧ (k0 (q (c + d)) = k0 y → q (c + d) < y) := fun y hy hno hne => by
    obtain ⟨i, hi, e⟩ := h.meet y hy
    have h1 : ¬ i < c + d := fun hlt => hno ((e4 y).2 ⟨i, hlt, e⟩)
    have h2 : i ≠ c + d := fun e' => hne (by rw [← e, e'])
    have h3 := h.srt (c + d) i (by omega) hi
    have h4 := h.st (c + d) i (by omega) hi
    rw [e] at h3 h4
    exact ⟨h3, h4⟩
  have hor : q (c + d) = c ∨ q (c + d) = n + d := by
    by_cases hcn : q (c + d) < n
    · refine .inl (Classical.byContradiction fun hne => ?_)
      have h1 := later c (by omega) (by omega) (by omega)
      have h2 := h.coins c (q (c + d)) (by omega) hcn
      have h3 := h1.2 (by omega)
      omega
    · refine .inr (Classical.byContradiction fun hne => ?_)
      have h1 := later (n + d) (by omega) (by omega) (by omega)
      have h2 := h.packs (n + d) (q (c + d)) (by omega) (by omega) hq
      have h3 := h1.2 (by omega)
      omega
  refine ⟨fun hh => ?_, fun hh => ?_⟩
  · rcases hor with e | e
    · exact e
    · rcases hh with hh | ⟨hh1, hh2⟩
      · omega
      · have h1 := later c (by omega) (by omega) (by omega)
        rw [e] at h1
        have h3 := h1.2 (by omega)
        omega
  · rcases hor with e | e
    · by_cases hcn : c < n
      · have h1 := later (n + d) (by omega) (by omega) (by omega)
        rw [e] at h1
        exact absurd (.inr ⟨hcn, h1.1⟩) hh
      · rw [e] at hnot ⊢; omega
    · exact e
/-- Two rising rows as one, as far as i of the one and j of the other. -/
inductive MG (A B : List Int) : Nat → Nat → List Int → Prop
  | start : MG A B 0 0 []
  | left {i j : Nat} {out : List Int} (h : MG A B i j out) (hi : i < A.length) (hc : B.length ≤ j ∨ (i < A.length ∧ A.getD i 0 ≤ B.getD j 0)) : MG A B (i + 1) j (out ++ [A.getD i 0])
  | right {i j : Nat} {out : List Int} (h : MG A B i j out) (hj : j < B.length) (hc : ¬ (B.length ≤ j ∨ (i < A.length ∧ A.getD i 0 ≤ B.getD j 0))) : MG A B i (j + 1) (out ++ [B.getD j 0])
theorem getD_snoc (a : List Int) (x : Int) (t : Nat) (ht : t < a.length + 1) : (a ++ [x]).getD t 0 = if t = a.length then x else a.getD t 0 := by
  rw [List.getD_eq_getElem?_getD, List.getD_eq_getElem?_getD]
  by_cases e : t = a.length
  · subst e; rw [if_pos rfl]; simp
  · rw [if_neg e, List.getElem?_append_left (by omega)]
theorem MG.len {A B : List Int} : ∀ {i j : Nat} {out : List Int}, MG A B i j out → i ≤ A.length ∧ j ≤ B.length ∧ out.length = i + j ∧ ∀ y ∈ out, y ∈ A ∨ y ∈ B := by
  intro i j out h
  induction h with
  | start => exact ⟨Nat.zero_le _, Nat.zero_le _, rfl, fun y hy => by cases hy⟩
  | @left i j out h hi hc ih =>
    obtain ⟨h1, h2, h3, h4⟩ := ih
    refine ⟨hi, h2, by simp [h3]; omega, fun y hy => ?_⟩
    rcases List.mem_append.1 hy with hy | hy
    · exact h4 y hy
    · left; simp at hy; subst hy; rw [List.getElem?_eq_getElem hi]; exact List.getElem_mem hi
  | @right i j out h hj hc ih =>
    obtain ⟨h1, h2, h3, h4⟩ := ih
    refine ⟨h1, hj, by simp [h3]; omega, fun y hy => ?_⟩
    rcases List.mem_append.1 hy with hy | hy
    · exact h4 y hy
    · right; simp at hy; subst hy; rw [List.getElem?_eq_getElem hj]; exact List.getElem_mem hj
theorem MG.row {n D : Nat} {k0 : Nat → Int} {q : Nat → Nat} (h : RowQ n D k0 q) {A B : List Int} (hA : A.length = n) (hB : B.length = D) (hA2 : ∀ i, i < n → A.getD i 0 = k0 i) (hB2 : ∀ e, e < D → B.getD e 0 = k0 (n + e)) :
    ∀ {i j : Nat} {out : List Int}, MG A B i j out → (∀ y, (y < i ∨ (n ≤ y ∧ y < n + j)) ↔ ∃ t, t < i + j ∧ q t = y) ∧ ∀ t, t < i + j → out.getD t 0 = k0 (q t) := by
  intro i j out hm
  induction hm with
  | start => exact ⟨fun y => ⟨fun hy => by omega, fun ⟨t, ht, _⟩ => by omega⟩, fun t ht => by omega⟩
  | @left i j out hm hi hc ih =>
    obtain ⟨h1, h2⟩ := ih
    obtain ⟨l1, l2, l3, _⟩ := hm.len
    have hnx := (nextIs h (by omega : i + j < n + D) (by omega) (by omega) h1).1 (by
      rcases hc with hc | ⟨hc1, hc2⟩
      · exact .inl (by omega)
      · by_cases hj : D ≤ j
        · exact .inl hj
        · exact .inr ⟨by omega, by rw [hA2 i (by omega), hB2 j (by omega)] at hc2; exact hc2⟩)
    refine ⟨fun y => ⟨fun hy => ?_, fun ⟨t, ht, e⟩ => ?_⟩, fun t ht => ?_⟩
    · by_cases hyi : y = i
      · exact ⟨i + j, by omega, by rw [hnx, hyi]⟩
      · obtain ⟨t, ht, e⟩ := (h1 y).1 (by omega)
        exact ⟨t, by omega, e⟩
    · by_cases hti : t = i + j
      · subst hti; omega
      · have := (h1 y).2 ⟨t, by omega, e⟩; omega
    · rw [getD_snoc _ _ _ (by omega), l3]
      by_cases hti : t = i + j
      · rw [if_pos hti, hti, hnx, hA2 i (by omega)]
      · rw [if_neg hti]; exact h2 t (by omega)
  | @right i j out hm hj hc ih =>
    obtain ⟨h1, h2⟩ := ih
    obtain ⟨l1, l2, l3, _⟩ := hm.len
    have hnx := (nextIs h (by omega : i + j < n + D) (by omega) (by omega) h1).2 (fun hh => hc (by
      rcases hh with hh | ⟨hc1, hc2⟩
      · exact .inl (by omega)
      · exact .inr ⟨by omega, by rw [hA2 i (by omega), hB2 j (by omega)]; exact hc2⟩))
    refine ⟨fun y => ⟨fun hy => ?_, fun ⟨t, ht, e⟩ => ?_⟩, fun t ht => ?_⟩
    · by_cases hyi : y = n + j
      · exact ⟨i + j, by omega, by rw [hnx, hyi]⟩
      · obtain ⟨t, ht, e⟩ := (h1 y).1 (by omega)
        exact ⟨t, by omega, e⟩
    · by_cases hti : t = i + j
      · subst hti; omega
      · have := (h1 y).2 ⟨t, by omega, e⟩; omega
    · rw [getD_snoc _ _ _ (by omega), l3]
      by_cases hti : t = i + j
      · rw [if_pos hti, hti, hnx, hB2 j (by omega)]
      · rw [if_neg hti]; exact h2 t (by omega)
/-- The document's rows. -/
inductive RW (A : List Int) : Nat → List Int → Prop
  | one : RW A 1 A
  | next {j : Nat} {R B R' : List Int} (h : RW A j R) (hB : B.length = R.length / 2) (hp : ∀ e, e < R.length / 2 → B.getD e 0 = R.getD (2 * e) 0 + R.getD (2 * e + 1) 0) (hm : MG A B A.length B.length R') : RW A (j + 1) R'
theorem RW.one_le {A : List Int} : ∀ {j : Nat} {R : List Int}, RW A j R → 1 ≤ j := by
  intro j R h; cases h <;> omega
theorem RW.row {n : Nat} {kc : Nat → Int} {sc : Nat → Nat} {C : Int} (hk : Coins n kc C) (hC : 0 ≤ C) {A : List Int} (hA : A.length = n) (hA2 : ∀ i, i < n → A.getD i 0 = kc i) : ∀ {j N : Nat} {K : Nat → Int} {S : Nat → List Int}, RowP n kc sc j N K S →
    ∀ R, RW A j R → R.length = N ∧ ∀ t, t < N → R.getD t 0 = K t := by
  intro j N K S h
  induction h with
  | one h =>
    intro R hR
    cases hR with
    | one => exact ⟨hA, fun t ht => by rw [hA2 t ht, (h t ht).1]⟩
    | next h' _ _ _ => have := h'.one_le; omega
  | @next j N N' K k0 K' S S0 S' q h hN hc hp h1 h2 h3 h4 hs ih =>
    intro R' hR
    obtain ⟨hj, hb⟩ := h.basic hk hC
    have hQ := RowQ.of hk hb hN (fun m hm => (hc m hm).1) (fun e he => (hp e he).1) h1 h2 h3 h4
    cases hR with
    | one => omega
    | @next _ R B _ h' hB hpr hm =>
      obtain ⟨r1, r2⟩ := ih R h'
      obtain ⟨_, m2⟩ := MG.row hQ hA (by rw [hB, r1]) (fun i hi => by rw [hA2 i hi, (hc i hi).1]) (fun e he => by rw [hpr e (by rw [r1]; exact he), r2 (2 * e) (by omega), r2 (2 * e + 1) (by omega), (hp e he).1]) hm
      obtain ⟨_, _, l3, _⟩ := hm.len
      refine ⟨by rw [l3, hA, hB, r1, hN], fun t ht => ?_⟩
      rw [m2 t (by rw [hA, hB, r1]; omega), (hs t ht).1]
end Go.Proofs.Ytodobmkflimfkaa
namespace Go.Proofs.Ytodobmkflimfkaa
open Go Go.Sx Go.Proofs
/-! Counts, lengths and sums. -/
theorem sumN_le_ind (g : Nat → Int) (c : Nat) : ∀ n, c ≤ n → sumN g c = sumN (fun i => if i < c then g i else 0) n
  | 0, h => by obtain rfl : c = 0 := by omega
               rfl
  | n + 1, h => by
    simp only [sumN]
    by_cases hc : c = n + 1
    · subst hc
      simp only [sumN]
      rw [if_pos (by omega)]
      congr 1
      exact sumN_ext n (fun i hi => by rw [if_pos (by omega)])
    · rw [if_neg (by omega), sumN_le_ind g c n (by omega)]; omega
theorem sumN_zero : ∀ n, sumN (fun _ => 0) n = 0
  | 0 => rfl
  | n + 1 => by simp only [sumN]; rw [sumN_zero n]; omega
theorem sumN_swap (f : Nat → Nat → Int) (m : Nat) : ∀ n, sumN (fun i => sumN (fun s => f i s) m) n = sumN (fun s => sumN (fun i => f i s) n) m
  | 0 => by simp only [sumN]; rw [sumN_zero]
  | n + 1 => by simp only [sumN]; rw [sumN_swap f m n, ← sumN_add]
/-- One of the first n, or none, is met. -/
theorem sumN_pick (x : Int) (a : Nat) : ∀ n, sumN (fun s => if s = a then x else 0) n = if a < n then x else 0
  | 0 => by simp [sumN]
  | n + 1 => by
    simp only [sumN]; rw [sumN_pick x a n]
    by_cases h : n = a
    · subst h; rw [if_neg (by omega), if_pos rfl, if_pos (by omega)]; omega
    · rw [if_neg h]
      by_cases h2 : a < n
      · rw [if_pos h2, if_pos (by omega)]; omega
      · rw [if_neg h2, if_neg (by omega)]; omega
theorem sumN_inj {sc : Nat → Nat} {n : Nat} (hinj : ∀ a b, a < n → b < n → sc a = sc b → a = b) (x : Int) (s : Nat) : (∀ i, i < n → sc i ≠ s) ∨ (∃ i, i < n ∧ sc i = s ∧ ∀ c, c ≤ n → sumN (fun j => if sc j = s then x else 0) c = if i < c then x else 0) := by
  by_cases h : ∃ i, i < n ∧ sc i = s
  · obtain ⟨i, hi, e⟩ := h
    refine .inr ⟨i, hi, e, fun c hc => ?_⟩
    rw [← sumN_pick x i c]
    refine sumN_ext c (fun j hj => ?_)
    by_cases hji : j = i
    · rw [if_pos (by rw [hji, e]), if_pos hji]
    · rw [if_neg (fun h => hji (hinj j i (by omega) hi (h.trans e.symm))), if_neg hji]
  · exact .inl (fun i hi e => h ⟨i, hi, e⟩)
/-- A sum over all symbols is one over the coins. -/
theorem sum_coins {sc : Nat → Nat} {n len : Nat} (hinj : ∀ a b, a < n → b < n → sc a = sc b → a = b) (hlt : ∀ i, i < n → sc i < len) (g : Nat → Int) (hz : ∀ s, s < len → (∀ i, i < n → sc i ≠ s) → g s = 0) : sumN g len = sumN (fun i => g (sc i)) n := by
  have h1 : sumN (fun i => g (sc i)) n = sumN (fun i => sumN (fun s => if s = sc i then g s else 0) len) n := sumN_ext n (fun i hi => by
    rw [sumN_ext (g := fun s => if s = sc i then g (sc i) else 0) len (fun s hs => by split <;> simp_all), sumN_pick, if_pos (hlt i hi)])
  rw [h1, sumN_swap]
  refine sumN_ext len (fun s hs => ?_)
  have e : sumN (fun i => if s = sc i then g s else 0) n = sumN (fun i => if sc i = s then g s else 0) n := sumN_ext n (fun i hi => by simp only [eq_comm])
  rw [e]
  rcases sumN_inj hinj (g s) s with h | ⟨i, hi, e2, h⟩
  · rw [sumN_ext (g := fun _ => 0) n (fun i hi => if_neg (h i hi)), sumN_zero]; exact hz s hs h
  · rw [h n (Nat.le_refl _), if_pos hi]
theorem sumL_ind {i : Nat} : ∀ {cs : List Nat} {f : Nat → Int}, (∀ c ∈ cs, sumN f c = if i < c then 1 else 0) → sumL f cs = (cntL i cs : Int)
  | [], _, _ => rfl
  | c :: r, f, h => by
    simp only [sumL]
    rw [sumL_ind (fun a ha => h a (by simp [ha])), h c (by simp)]
    unfold cntL
    rw [List.countP_cons]
    by_cases hc : i < c
    · simp [hc]; omega
    · simp [hc]
theorem sumL_cnt {n : Nat} (g : Nat → Int) : ∀ {cs : List Nat}, (∀ c ∈ cs, c ≤ n) → sumL g cs = sumN (fun i => g i * (cntL i cs : Int)) n
  | [], _ => by simp only [sumL]; rw [sumN_ext (g := fun _ => 0) n (fun i _ => by simp [cntL]), sumN_zero]
  | c :: r, h => by
    simp only [sumL]
    rw [sumL_cnt g (fun a ha => h a (by simp [ha])), sumN_le_ind g c n (h c (by simp)), ← sumN_add]
    refine sumN_ext n (fun i _ => ?_)
    unfold cntL
    rw [List.countP_cons]
    by_cases hc : i < c
    · rw [if_pos hc, if_pos (by simpa using hc)]; rw [Int.natCast_add, Int.mul_add]; omega
    · rw [if_neg hc, if_neg (by simpa using hc)]; simp
theorem sumK_cast (f : Nat → Nat) : ∀ n, ((sumK f n : Nat) : Int) = sumN (fun i => (f i : Int)) n
  | 0 => rfl
  | n + 1 => by simp only [sumK, sumN]; rw [← sumK_cast f n]; omega
/-- What Limit's lengths are. -/
structure LimF (l : List Int) (L : Nat) (o : List Int) : Prop where
  len : o.length = l.length
  le : ∀ s, s < l.length → 0 ≤ o.getD s 0 ∧ o.getD s 0 ≤ L
  zero : ∀ s, s < l.length → (o.getD s 0 = 0 ↔ ¬ 0 < l.getD s 0)
  two : 2 ≤ sumN (fun s => if 0 < o.getD s 0 then 1 else 0) l.length
  kraft : sumN (fun s => if 0 < o.getD s 0 then ((2 ^ (L - (o.getD s 0).toNat) : Nat) : Int) else 0) l.length = ((2 ^ L : Nat) : Int)
  sum : ∃ (n N : Nat) (kc : Nat → Int) (sc : Nat → Nat) (K : Nat → Int) (S : Nat → List Int), n = numP l ∧ Coins n kc 4294967295 ∧ (∀ i, i < n → kc i = l.getD (sc i) 0 ∧ sc i < l.length) ∧ (∀ a b, a < n → b < n → sc a = sc b → a = b) ∧ (∀ t, t < l.length → 0 < l.getD t 0 → ∃ m, m < n ∧ sc m = t) ∧
    RowP n kc sc L N K S ∧ 2 * n - 2 ≤ N ∧ sumN (fun s => l.getD s 0 * o.getD s 0) l.length = sumN K (2 * n - 2)
theorem LimP.facts {l : List Int} {most : Int} {o : List Int} (h : LimP l most o) (ha : Abl l most) : LimF l most.toNat o := by
  obtain ⟨n, N, kc, sc, K, S, h1, h2, h3, h4, h5, h6, h7, h8, h9⟩ := h
  obtain ⟨a1, a2, a3, a4, a5⟩ := ha
  rw [← h1] at a4 a5
  obtain ⟨L, hL⟩ : ∃ L, L = most.toNat := ⟨_, rfl⟩
  have hL15 : 1 ≤ L ∧ L ≤ 15 := by omega
  rw [← hL] at h6 a5 ⊢
  obtain ⟨cs, g⟩ := h6.cuts h2 (by decide) (2 * n - 2) h7
  have hhead : headN cs = n := g.top a4 rfl
  have hlen := g.len
  -- each length
  have hval : ∀ s : Nat, s < l.length → ((∀ i, i < n → sc i ≠ s) → o.getD s 0 = 0) ∧ ∀ i, i < n → sc i = s → o.getD s 0 = (cntL i cs : Int) ∧ 0 < cntL i cs := by
    intro s hs
    have e1 := h9 s hs
    rw [g.sum (indS s)] at e1
    have e2 : (fun i => indS (s : Int) ((sc i : Nat) : Int)) = fun i => if sc i = s then (1 : Int) else 0 := by
      funext i; unfold indS
      by_cases hh : sc i = s
      · rw [if_pos (by omega), if_pos hh]
      · rw [if_neg (by omega), if_neg hh]
    rw [e2] at e1
    refine ⟨fun hno => ?_, fun i hi hsi => ?_⟩
    · have e3 : sumL (fun i => if sc i = s then (1 : Int) else 0) cs = 0 := by
        have : ∀ c ∈ cs, sumN (fun i => if sc i = s then (1 : Int) else 0) c = 0 := fun c hc => by
          have hcn := g.le c hc
          rw [sumN_ext (g := fun _ => 0) c (fun i hi => if_neg (hno i (by omega))), sumN_zero]
        clear e1 e2
        revert this
        generalize (fun i => if sc i = s then (1 : Int) else 0) = f
        clear hhead g hlen
        induction cs with
        | nil => intro _; rfl
        | cons c r ih => intro h; simp only [sumL]; rw [h c (by simp), ih (fun a ha => h a (by simp [ha]))]; rfl
      rw [e1, e3]; rfl
    · rcases sumN_inj h4 1 s with h | ⟨i', hi', e3, h⟩
      · exact absurd hsi (h i hi)
      · obtain rfl : i = i' := h4 i i' hi hi' (hsi.trans e3.symm)
        rw [sumL_ind (i := i) (fun c hc => h c (g.le c hc))] at e1
        have hle := cntL_le i cs
        refine ⟨by rw [e1]; omega, ?_⟩
        cases cs with
        | nil => simp at hlen; omega
        | cons c r =>
          simp only [headN] at hhead
          unfold cntL
          rw [List.countP_cons, if_pos (by simp; omega)]
          omega
  have hcoin : ∀ s, s < l.length → 0 < l.getD s 0 → ∃ i, i < n ∧ sc i = s := h5
  have hnot : ∀ s, s < l.length → ¬ 0 < l.getD s 0 → ∀ i, i < n → sc i ≠ s := fun s hs hz i hi e => by
    have := (h3 i hi).1
    rw [e] at this
    have := h2.pos i hi
    omega
  have hz : ∀ s, s < l.length → (∀ i, i < n → sc i ≠ s) → o.getD s 0 = 0 := fun s hs => (hval s hs).1
  have hc : ∀ i, i < n → o.getD (sc i) 0 = (cntL i cs : Int) ∧ 0 < cntL i cs := fun i hi => (hval (sc i) (h3 i hi).2).2 i hi rfl
  refine ⟨h8, fun s hs => ?_, fun s hs => ?_, ?_, ?_, n, N, kc, sc, K, S, h1, h2, h3, h4, h5, h6, h7, ?_⟩
  · by_cases hp : 0 < l.getD s 0
    · obtain ⟨i, hi, e⟩ := hcoin s hs hp
      rw [← e, (hc i hi).1]
      have := cntL_le i cs
      omega
    · rw [hz s hs (hnot s hs hp)]; omega
  · by_cases hp : 0 < l.getD s 0
    · obtain ⟨i, hi, e⟩ := hcoin s hs hp
      rw [← e, (hc i hi).1, e]
      have := (hc i hi).2
      omega
    · exact ⟨fun _ => hp, fun _ => hz s hs (hnot s hs hp)⟩
  · rw [sum_coins h4 (fun i hi => (h3 i hi).2) (fun s => if 0 < o.getD s 0 then 1 else 0) (fun s hs hno => by rw [hz s hs hno]; rfl),
      sumN_ext (g := fun _ => 1) n (fun i hi => by rw [(hc i hi).1, if_pos (by have := (hc i hi).2; omega)])]
    have : ∀ n : Nat, sumN (fun _ => 1) n = n := fun n => by induction n with
      | zero => rfl
      | succ n ih => simp only [sumN]; rw [ih]; omega
    rw [this]; omega
  · rw [sum_coins h4 (fun i hi => (h3 i hi).2) (fun s => if 0 < o.getD s 0 then ((2 ^ (L - (o.getD s 0).toNat) : Nat) : Int) else 0) (fun s hs hno => by rw [hz s hs hno]; rfl),
      sumN_ext (g := fun i => ((2 ^ (L - cntL i cs) : Nat) : Int)) n (fun i hi => by rw [(hc i hi).1, if_pos (by have := (hc i hi).2; omega)]; rfl), ← sumK_cast, g.kraft a4 hL15.1]
  · rw [sum_coins h4 (fun i hi => (h3 i hi).2) (fun s => l.getD s 0 * o.getD s 0) (fun s hs hno => by rw [hz s hs hno]; simp), g.val, sumL_cnt kc g.le]
    exact sumN_ext n (fun i hi => by rw [(hc i hi).1, ← (h3 i hi).1])
end Go.Proofs.Ytodobmkflimfkaa
namespace Go.Proofs.Ytodobmkflimfkaa
open Go Go.Sx Go.Proofs
/-! The document's Able (16), and the sum of a law (19). -/
theorem numP_le (l : List Int) (i : Nat) : numP (l.take i) ≤ i := by
  unfold numP; exact Nat.le_trans List.countP_le_length (by rw [List.length_take]; omega)
theorem geq_nat {x y : Int} {i j : Nat} (h1 : x = i) (h2 : y = j) : cV .geq x y = decide (j ≤ i) := by
  show decide (x ≥ y) = _; rw [decide_eq_decide]; omega
theorem shl_pow {most : Int} (h1 : 1 ≤ most) (h2 : most ≤ 15) : bV .shl .i64 1 most = ((2 ^ most.toNat : Nat) : Int) := by
  have : most = 1 ∨ most = 2 ∨ most = 3 ∨ most = 4 ∨ most = 5 ∨ most = 6 ∨ most = 7 ∨ most = 8 ∨ most = 9 ∨ most = 10 ∨ most = 11 ∨ most = 12 ∨ most = 13 ∨ most = 14 ∨ most = 15 := by omega
  rcases this with h | h | h | h | h | h | h | h | h | h | h | h | h | h | h <;> subst h <;> decide
set_option maxRecDepth 100000 in
set_option maxHeartbeats 4000000 in
theorem able_con (l : List Int) (most : Int) (cap : Nat) (hl : ∀ c ∈ l, 0 ≤ c ∧ c < 4294967296) (hlen : l.length ≤ 1048576) (hmo : -9223372036854775808 ≤ most ∧ most ≤ 9223372036854775807) (z : Bool) (hz : z = true ↔ Abl l most) :
    Con Try.prog 16 [.slice 0 .z 1 l.length cap, .int .i64 most] [.ro .u32 l] (fun v H R => v = .bool z ∧ H = [.ro .u32 l] ∧ R = []) := by
  refine con_gen (con_cut 1 (by simp) (con_drop (con_walk hmix fn16 ?_)))
  intro vb vc vw vtoN vofN vaddN vsubN vmaxI vminI vcutN vgd vst vln vrep vsub vonto vsplice vstrEq vbyteV vnotB veqB hw qb qc qw qtoN qofN qaddN qsubN qmaxI qminI qcutN qgd qst qln qrep qsub qonto qsplice qstrEq qbyteV qnotB qeqB
  have hm := hmix; generalize Try.prog = P at *
  have hadd : ∀ (x y : Int) (i j : Nat), x = i → y = j → i + j < 100000000 → vb .add .i64 x y = ((i + j : Nat) : Int) := fun x y i j h1 h2 h => by rw [qb, add_i64 (by omega) (by omega)]; omega
  have hadd0 : ∀ i, vaddN 0 i = i := fun i => by simp only [qaddN, Nat.zero_add]
  have hlss : ∀ (x y : Int) (i j : Nat), x = i → y = j → vc .lss x y = decide (i < j) := fun x y i j h1 h2 => by rw [qc]; exact lss_nat h1 h2
  obtain ⟨L, hL⟩ : ∃ L, L = l.length := ⟨_, rfl⟩
  obtain ⟨LI, hLI⟩ : ∃ LI, LI = (L : Int) := ⟨_, rfl⟩
  have hlen' : Le L 1048576 := ⟨by rw [hL]; exact hlen⟩
  have hvgd : ∀ i, vgd l i = l.getD i 0 := fun i => by rw [qgd]
  have hvln : vln l = L := by rw [qln, hL]
  have hof : vofN L = LI := by rw [qofN, hLI]
  have hto : ∀ (x : Int) (i : Nat), x = i → vtoN x = i := fun x i h => by rw [qtoN, h]; rfl
  have hgt : ∀ v : Int, vc .gtr v 0 = decide (0 < v) := fun v => by rw [qc]; rfl
  have hA1 : vc .gtr LI 1024 = decide (1024 < L) := by rw [qc, hLI]; exact gtr_nat (j := 1024) rfl rfl
  have hA2 : vc .lss most 1 = decide (most < 1) := by rw [qc]; rfl
  have hA3 : vc .gtr most 15 = decide (15 < most) := by rw [qc]; rfl
  have htake : l.take L = l := by rw [hL, List.take_length]
  have hAbl : z = true ↔ ¬ 1024 < L ∧ ¬ most < 1 ∧ ¬ 15 < most ∧ 2 ≤ numP l ∧ numP l ≤ 2 ^ most.toNat := by
    rw [hz]; unfold Abl; rw [hL]; omega
  have hstp : ∀ i, i < L → numP (l.take (i + 1)) = numP (l.take i) + if 0 < l.getD i 0 then 1 else 0 := fun i hi => numP_take (by rw [← hL]; exact hi)
  have hpl := numP_le l
  have hinv0 : (0 : Int) = ((0 : Nat) : Int) ∧ (0 : Int) = ((numP (l.take 0) : Nat) : Int) ∧ 0 ≤ L := ⟨rfl, by simp [numP], Nat.zero_le _⟩
  generalize hpw : (2 ^ most.toNat : Nat) = pw at *
  have hsh : 1 ≤ most → most ≤ 15 → vw .u64 most = most ∧ NonNeg most ∧ vb .shl .i64 1 most = (pw : Int) := fun h1 h2 => ⟨by rw [qw]; exact wrap_u64 (by omega) (by omega), ⟨by omega⟩, by rw [qb, shl_pow h1 h2, hpw]⟩
  rw [← hL]
  clear hl hlen hL hz hpw
  generalize hNP : @numP = NP at *
  clear hNP
  by_cases c1 : 1024 < L
  · have hzf : z = false := by cases z with | false => rfl | true => exact absurd c1 (hAbl.1 rfl).1
    subst hzf
    clear hAbl hstp hpl hinv0
    cbv
    rw [hof, hA1, decide_eq_true c1]
    cbv
  by_cases c2 : most < 1
  · have hzf : z = false := by cases z with | false => rfl | true => exact absurd c2 (hAbl.1 rfl).2.1
    subst hzf
    clear hAbl hstp hpl hinv0
    cbv
    rw [hof, hA1, decide_eq_false c1]
    cbv
    rw [hA2, decide_eq_true c2]
    cbv
  by_cases c3 : 15 < most
  · have hzf : z = false := by cases z with | false => rfl | true => exact absurd c3 (hAbl.1 rfl).2.2.1
    subst hzf
    clear hAbl hstp hpl hinv0
    cbv
    rw [hof, hA1, decide_eq_false c1]
    cbv
    rw [hA2, decide_eq_false c2]
    cbv
    rw [hA3, decide_eq_true c3]
    cbv
  obtain ⟨s1, s2, s3⟩ := hsh (by omega) (by omega)
  have hz2 : z = true ↔ 2 ≤ NP l ∧ NP l ≤ pw := ⟨fun h => ⟨(hAbl.1 h).2.2.2.1, (hAbl.1 h).2.2.2.2⟩, fun h => hAbl.2 ⟨c1, c2, c3, h.1, h.2⟩⟩
  clear hAbl hsh
  cbv
  rw [hof, hA1, decide_eq_false c1]
  cbv
  rw [hA2, decide_eq_false c2]
  cbv
  rw [hA3, decide_eq_false c3]
  cbv
  refine loop_fam (α := Int × Int × Nat) [18, 19, 20, 21, 22, 23, 24, 25, 26, 27, 28, 29, 30] []
    (fun (iI, nI, i) => [(6, .int .i64 iI), (5, .int .i64 nI)])
    (fun _ => [])
    (fun (iI, nI, i) => iI = i ∧ nI = ((NP (l.take i) : Nat) : Int) ∧ i ≤ L)
    (fun (iI, nI, i) => L - i) hw hm ?_ ?_
  · refine Cv.genAt [5, 6] [] (Cv.fold [18, 19, 20, 21, 22, 23, 24, 25, 26, 27, 28, 29, 30] 1 [] (by exact Nat.le_refl _) (by exact Nat.le_of_ble_eq_true rfl) (by rfl) (by cbv) ?_)
    intro js
    exact ⟨(_, _, 0), hinv0, js, rfl⟩
  rintro ⟨iI, nI, i⟩ js ⟨g1, g2, g3⟩
  clear hinv0
  have hc' := hlss iI LI i L g1 hLI
  by_cases hi : i < L
  · have hc1 : vc .lss iI LI = true := by rw [hc']; exact decide_eq_true hi
    have hti := hto iI i g1
    have hr : InR iI L := ⟨by omega⟩
    obtain ⟨v, hv⟩ : ∃ v, v = l.getD i 0 := ⟨_, rfl⟩
    have hvi : vgd l i = v := by rw [hvgd, hv]
    obtain ⟨i1, hi1⟩ : ∃ i1, i1 = i + 1 := ⟨_, rfl⟩
    have hpi := hpl i
    have hst := hstp i hi
    rw [← hv, ← hi1] at hst
    have hnx : ∀ u : Int, u = vb .add .i64 iI 1 → u = (i1 : Int) ∧ i1 ≤ L := fun u hu => ⟨by rw [hu, hi1]; exact hadd iI 1 i 1 g1 rfl (by have := hlen'.out; omega), by omega⟩
    have hmu : L - i1 < L - i := by omega
    have hn2 : 0 < v → ∀ u : Int, u = vb .add .i64 nI 1 → u = ((NP (l.take i1) : Nat) : Int) := fun hp u hu => by
      rw [hu, hst, if_pos hp]; exact hadd nI 1 _ 1 g2 rfl (by have := hlen'.out; omega)
    have hn3 : ¬ 0 < v → nI = ((NP (l.take i1) : Nat) : Int) := fun hp => by rw [hst, if_neg hp]; exact g2
    obtain ⟨M1, hM1⟩ : ∃ M1, M1 = NP (l.take i1) := ⟨_, rfl⟩
    rw [← hM1] at hn2 hn3
    replace hM1 := fun (_ : Unit) => hM1
    clear hst hc' hstp hpl g2 hv hpi
    by_cases hp : 0 < v
    · have hgv : vc .gtr v 0 = true := by rw [hgt]; exact decide_eq_true hp
      cbv
      rw [hof, hc1]
      cbv
      rw [hti, hadd0, hvln, hvi, hgv]
      refine ⟨hr, ⟨hi⟩, ⟨hi⟩, ?_⟩
      cbv
      obtain ⟨u, hu⟩ : ∃ u, u = vb .add .i64 iI 1 := ⟨_, rfl⟩
      obtain ⟨w, hw1⟩ : ∃ u, u = vb .add .i64 nI 1 := ⟨_, rfl⟩
      rw [← hu, ← hw1]
      obtain ⟨f1, f2⟩ := hnx u hu
      have f3 := hn2 hp w hw1
      refine Cv.fold [18, 19, 20, 21, 22, 23, 24, 25, 26, 27, 28, 29, 30] 1 [] (by exact Nat.le_refl _) (by exact Nat.le_of_ble_eq_true rfl) (by rfl) (by cbv) ?_
      intro js2
      exact ⟨(_, _, i1), ⟨⟨f1, f3.trans (by rw [hM1 ()]), f2⟩, hmu⟩, js2, rfl⟩
    · have hgv : vc .gtr v 0 = false := by rw [hgt]; exact decide_eq_false hp
      cbv
      rw [hof, hc1]
      cbv
      rw [hti, hadd0, hvln, hvi, hgv]
      refine ⟨hr, ⟨hi⟩, ⟨hi⟩, ?_⟩
      cbv
      obtain ⟨u, hu⟩ : ∃ u, u = vb .add .i64 iI 1 := ⟨_, rfl⟩
      rw [← hu]
      obtain ⟨f1, f2⟩ := hnx u hu
      have f3 := hn3 hp
      refine Cv.fold [18, 19, 20, 21, 22, 23, 24, 25, 26, 27, 28, 29, 30] 1 [] (by exact Nat.le_refl _) (by exact Nat.le_of_ble_eq_true rfl) (by rfl) (by cbv) ?_
      intro js2
      exact ⟨(_, _, i1), ⟨⟨f1, f3.trans (by rw [hM1 ()]), f2⟩, hmu⟩, js2, rfl⟩
  · have hc1 : vc .lss iI LI = false := by rw [hc']; exact decide_eq_false hi
    have hiL : i = L := by omega
    rw [hiL, htake] at g2
    have hB1 : vc .geq nI 2 = decide (2 ≤ NP l) := by rw [qc]; exact geq_nat g2 rfl
    have hB2 : vc .leq nI (pw : Int) = decide (NP l ≤ pw) := by rw [qc]; exact leq_nat g2 rfl
    obtain ⟨pI, hpI⟩ : ∃ pI, pI = (pw : Int) := ⟨_, rfl⟩
    rw [← hpI] at hB2
    replace s3 : vb .shl .i64 1 most = pI := by rw [hpI]; exact s3
    generalize NP l = M at *
    clear hc' g2 hstp hpl hi htake
    by_cases d1 : 2 ≤ M
    · by_cases d2 : M ≤ pw
      · have hzt : z = true := hz2.2 ⟨d1, d2⟩
        subst hzt
        rw [decide_eq_true d1] at hB1
        rw [decide_eq_true d2] at hB2
        clear hz2 d1 d2
        cbv
        rw [hof, hc1]
        cbv
        rw [hB1]
        cbv
        rw [s1]
        refine ⟨s2, ?_⟩
        rw [s3, hB2]
        exact ⟨rfl, trivial⟩
      · have hzf : z = false := by cases z with | false => rfl | true => exact absurd (hz2.1 rfl).2 d2
        subst hzf
        rw [decide_eq_true d1] at hB1
        rw [decide_eq_false d2] at hB2
        clear hz2 d1 d2
        cbv
        rw [hof, hc1]
        cbv
        rw [hB1]
        cbv
        rw [s1]
        refine ⟨s2, ?_⟩
        rw [s3, hB2]
        exact ⟨rfl, trivial⟩
    · have hzf : z = false := by cases z with | false => rfl | true => exact absurd (hz2.1 rfl).1 d1
      subst hzf
      rw [decide_eq_false d1] at hB1
      clear hz2 d1
      cbv
      rw [hof, hc1]
      cbv
      rw [hB1]
      cbv
theorem sumN_bound {f : Nat → Int} {C : Int} : ∀ n, (∀ i, i < n → 0 ≤ f i ∧ f i ≤ C) → 0 ≤ sumN f n ∧ sumN f n ≤ C * n
  | 0, _ => by simp [sumN]
  | n + 1, h => by
    have h1 := sumN_bound n (fun i hi => h i (by omega))
    have h2 := h n (by omega)
    simp only [sumN]
    rw [Int.natCast_add, Int.mul_add]
    omega
set_option maxRecDepth 100000 in
set_option maxHeartbeats 4000000 in
theorem sum19_con (l o : List Int) (cap cap2 : Nat) (hl : ∀ c ∈ l, 0 ≤ c ∧ c < 4294967296) (ho : ∀ c ∈ o, 0 ≤ c ∧ c < 256) (hlen : l.length ≤ 1024) (hol : o.length = l.length) :
    Con Try.prog 19 [.slice 0 .z 1 l.length cap, .slice 1 .z 1 l.length cap2] [.ro .u32 l, .ro .u8 o] (fun v H R => v = .int .u64 (sumN (fun s => l.getD s 0 * o.getD s 0) l.length) ∧ H = [.ro .u32 l, .ro .u8 o] ∧ R = []) := by
  refine con_gen (con_cut 2 (by simp) (con_drop (con_walk hmix fn19 ?_)))
  intro vb vc vw vtoN vofN vaddN vsubN vmaxI vminI vcutN vgd vst vln vrep vsub vonto vsplice vstrEq vbyteV vnotB veqB hw qb qc qw qtoN qofN qaddN qsubN qmaxI qminI qcutN qgd qst qln qrep qsub qonto qsplice qstrEq qbyteV qnotB qeqB
  have hm := hmix; generalize Try.prog = P at *
  have hadd0 : ∀ i, vaddN 0 i = i := fun i => by simp only [qaddN, Nat.zero_add]
  have hlss : ∀ (x y : Int) (i j : Nat), x = i → y = j → vc .lss x y = decide (i < j) := fun x y i j h1 h2 => by rw [qc]; exact lss_nat h1 h2
  obtain ⟨L, hL⟩ : ∃ L, L = l.length := ⟨_, rfl⟩
  obtain ⟨LI, hLI⟩ : ∃ LI, LI = (L : Int) := ⟨_, rfl⟩
  have hlen' : Le L 1024 := ⟨by rw [hL]; exact hlen⟩
  have hvgd : ∀ l i, vgd l i = l.getD i 0 := fun l i => by rw [qgd]
  have hvln : vln l = L := by rw [qln, hL]
  have hvlo : vln o = L := by rw [qln, hL]; exact hol
  have hof : vofN L = LI := by rw [qofN, hLI]
  have hto : ∀ (x : Int) (i : Nat), x = i → vtoN x = i := fun x i h => by rw [qtoN, h]; rfl
  have hneq : vc .neq LI LI = false := by rw [qc, neq_false]; simp
  have hb : ∀ i, i < L → (0 ≤ l.getD i 0 ∧ l.getD i 0 < 4294967296) ∧ 0 ≤ o.getD i 0 ∧ o.getD i 0 < 256 := fun i hi =>
    ⟨hl _ (by rw [List.getD_eq_getElem?_getD, List.getElem?_eq_getElem (by omega)]; exact List.getElem_mem _), ho _ (by rw [List.getD_eq_getElem?_getD, List.getElem?_eq_getElem (by omega)]; exact List.getElem_mem _)⟩
  obtain ⟨f, hf⟩ : ∃ f : Nat → Int, f = fun s => l.getD s 0 * o.getD s 0 := ⟨_, rfl⟩
  rw [← hf]
  have hfb : ∀ i, i < L → 0 ≤ f i ∧ f i ≤ 1099511627776 := fun i hi => by
    obtain ⟨⟨b1, b2⟩, b3, b4⟩ := hb i hi
    rw [hf]
    have h1 : l.getD i 0 * o.getD i 0 ≤ 4294967296 * 256 := Int.mul_le_mul (by omega) (by omega) b3 (by decide)
    exact ⟨Int.mul_nonneg b1 b3, by simpa using h1⟩
  have hstep : ∀ (i : Nat) (a : Int), i < L → a = sumN f i → vb .add .u64 a (vb .mul .u64 (vw .u64 (vgd l i)) (vw .u64 (vgd o i))) = sumN f (i + 1) := fun i a hi ha => by
    obtain ⟨⟨b1, b2⟩, b3, b4⟩ := hb i hi
    have h1 := hfb i hi
    have h2 := sumN_bound (f := f) (C := 1099511627776) i (fun j hj => hfb j (by omega))
    have h3 := hlen'.out
    have e1 : f i = l.getD i 0 * o.getD i 0 := by rw [hf]
    rw [hvgd, hvgd, qw, qb]
    show IntKind.u64.wrap (a + IntKind.u64.wrap (IntKind.u64.wrap _ * IntKind.u64.wrap _)) = _
    rw [wrap_u64 b1 (by omega), wrap_u64 b3 (by omega), ← e1, wrap_u64 (x := f i) h1.1 (by omega), ha, wrap_u64 (by omega) (by omega)]
    rfl
  have hinv0 : (0 : Int) = ((0 : Nat) : Int) ∧ (0 : Int) = sumN f 0 ∧ 0 ≤ L := ⟨rfl, rfl, Nat.zero_le _⟩
  have hadd1 : ∀ (x : Int) (i : Nat), x = i → i < L → vb .add .i64 x 1 = ((i + 1 : Nat) : Int) := fun x i h1 h2 => by have := hlen'.out; rw [qb, add_i64 (by omega) (by omega)]; omega
  rw [← hL]
  clear hb hl ho hlen hol hL hfb hvgd hf
  generalize @sumN = SN at *
  cbv
  rw [hof, hneq]
  cbv
  rw [hof]
  refine loop_fam (α := Int × Int × Nat) ([6] ++ [16, 17, 18, 19, 20, 21, 22, 23, 24, 25, 26, 27, 28, 29, 30, 31]) []
    (fun (iI, a, i) => [(15, .int .i64 iI), (5, .int .u64 a)])
    (fun _ => [])
    (fun (iI, a, i) => iI = i ∧ a = SN f i ∧ i ≤ L)
    (fun (iI, a, i) => L - i) hw hm ?_ ?_
  · refine Cv.genAt [5, 15] [] (Cv.fold ([6] ++ [16, 17, 18, 19, 20, 21, 22, 23, 24, 25, 26, 27, 28, 29, 30, 31]) 2 [] (by exact Nat.le_refl _) (by exact Nat.le_of_ble_eq_true rfl) (by rfl) (by cbv) ?_)
    intro js
    exact ⟨(_, _, 0), hinv0, js, rfl⟩
  rintro ⟨iI, a, i⟩ js ⟨g1, g2, g3⟩
  clear hinv0
  have hc' := hlss iI LI i L g1 hLI
  by_cases hi : i < L
  · have hc1 : vc .lss iI LI = true := by rw [hc']; exact decide_eq_true hi
    have hti := hto iI i g1
    have hr : InR iI L := ⟨by omega⟩
    have hst := hstep i a hi g2
    obtain ⟨i1, hi1⟩ : ∃ i1, i1 = i + 1 := ⟨_, rfl⟩
    have hnx := hadd1 iI i g1 hi
    rw [← hi1] at hst hnx
    have hmu : i1 ≤ L ∧ L - i1 < L - i := by omega
    obtain ⟨u, hu⟩ : ∃ u, u = vb .add .i64 iI 1 := ⟨_, rfl⟩
    obtain ⟨w, hw1⟩ : ∃ w, w = vb .add .u64 a (vb .mul .u64 (vw .u64 (vgd l i)) (vw .u64 (vgd o i))) := ⟨_, rfl⟩
    rw [← hu] at hnx
    rw [← hw1] at hst
    clear hc' hstep hadd1 g1 g2 hi1
    cbv
    rw [hc1]
    cbv
    rw [hti, hadd0, hvln, hvlo]
    refine ⟨hr, ⟨hi⟩, ⟨hi⟩, hr, ⟨hi⟩, ⟨hi⟩, ?_⟩
    rw [← hw1, ← hu]
    refine Cv.fold ([6] ++ [16, 17, 18, 19, 20, 21, 22, 23, 24, 25, 26, 27, 28, 29, 30, 31]) 2 [] (by exact Nat.le_refl _) (by exact Nat.le_of_ble_eq_true rfl) (by rfl) (by cbv) ?_
    intro js2
    exact ⟨(_, _, i1), ⟨⟨hnx, hst, hmu.1⟩, hmu.2⟩, js2, rfl⟩
  · have hc1 : vc .lss iI LI = false := by rw [hc']; exact decide_eq_false hi
    have hiL : i = L := by omega
    rw [hiL] at g2
    clear hc' hstep hadd1
    cbv
    rw [hc1]
    cbv
    exact ⟨by rw [g2], trivial⟩
end Go.Proofs.Ytodobmkflimfkaa
namespace Go.Proofs.Ytodobmkflimfkaa
open Go Go.Sx Go.Proofs
/-! The document's merged rows (66). -/
set_option maxRecDepth 100000 in
set_option maxHeartbeats 8000000 in
theorem merged_con (A B : List Int) (cap cap2 : Nat) (hA : A.length ≤ 1000000) (hB : B.length ≤ 1000000) (hA0 : 0 < A.length) :
    Con Try.prog 66 [.slice 0 .z 1 A.length cap, .slice 1 .z 1 B.length cap2] [.ro .u64 A, .ro .u64 B]
    (fun v H R => R = [] ∧ ∃ out c, v = .slice 2 .z 1 out.length c ∧ out.length ≤ c ∧ H = [.ro .u64 A, .ro .u64 B, .buf 31 .u64 out c] ∧ MG A B A.length B.length out) := by
  refine con_gen (con_cut 3 (by simp) (con_drop (con_walk hmix fn66 ?_)))
  intro vb vc vw vtoN vofN vaddN vsubN vmaxI vminI vcutN vgd vst vln vrep vsub vonto vsplice vstrEq vbyteV vnotB veqB hw qb qc qw qtoN qofN qaddN qsubN qmaxI qminI qcutN qgd qst qln qrep qsub qonto qsplice qstrEq qbyteV qnotB qeqB
  have hm := hmix; generalize Try.prog = P at *
  have hadd : ∀ (x y : Int) (i j : Nat), x = i → y = j → i + j < 100000000 → vb .add .i64 x y = ((i + j : Nat) : Int) := fun x y i j h1 h2 h => by rw [qb, add_i64 (by omega) (by omega)]; omega
  have hadd0 : ∀ i, vaddN 0 i = i := fun i => by simp only [qaddN, Nat.zero_add]
  have hlss : ∀ (x y : Int) (i j : Nat), x = i → y = j → vc .lss x y = decide (i < j) := fun x y i j h1 h2 => by rw [qc]; exact lss_nat h1 h2
  have hgeq : ∀ (x y : Int) (i j : Nat), x = i → y = j → vc .geq x y = decide (j ≤ i) := fun x y i j h1 h2 => by rw [qc]; exact geq_nat h1 h2
  have hleq : ∀ x y : Int, vc .leq x y = decide (x ≤ y) := fun x y => by rw [qc]; rfl
  have hto : ∀ (x : Int) (i : Nat), x = i → vtoN x = i := fun x i h => by rw [qtoN, h]; rfl
  have hsub1 : ∀ x : Int, vsub [x] 0 1 = [x] := fun x => by rw [qsub]; rfl
  have hvl1 : ∀ x : Int, vln [x] = 1 := fun x => by rw [qln]; rfl
  have hon : ∀ (o : List Int) (x : Int), vonto o o.length [x] = o ++ [x] := fun o x => by rw [qonto]; simp
  have hvl : ∀ o : List Int, vln o = o.length := fun o => by rw [qln]
  obtain ⟨n, hn⟩ : ∃ n, n = A.length := ⟨_, rfl⟩
  obtain ⟨m, hmm⟩ : ∃ n, n = B.length := ⟨_, rfl⟩
  obtain ⟨nI, hnI⟩ : ∃ nI, nI = (n : Int) := ⟨_, rfl⟩
  obtain ⟨mI, hmI⟩ : ∃ nI, nI = (m : Int) := ⟨_, rfl⟩
  have hofn : vofN n = nI := by rw [qofN, hnI]
  have hofm : vofN m = mI := by rw [qofN, hmI]
  have hvgd : ∀ (l : List Int) i, vgd l i = l.getD i 0 := fun l i => by rw [qgd]
  have hvA : vln A = n := by rw [hvl, hn]
  have hvB : vln B = m := by rw [hvl, hmm]
  have hLL : Le n 1000000 ∧ Le m 1000000 := ⟨⟨by omega⟩, ⟨by omega⟩⟩
  rw [← hn] at hA0
  have hMl : ∀ {i j : Nat} {out : List Int}, MG A B i j out → out.length = i + j := fun h => h.len.2.2.1
  have hleft : ∀ {i j : Nat} {out : List Int}, MG A B i j out → i < n → (m ≤ j ∨ (i < n ∧ A.getD i 0 ≤ B.getD j 0)) → MG A B (i + 1) j (out ++ [A.getD i 0]) := fun h h1 h2 => .left h (by omega) (by rw [← hn, ← hmm]; exact h2)
  have hright : ∀ {i j : Nat} {out : List Int}, MG A B i j out → j < m → ¬ (m ≤ j ∨ (i < n ∧ A.getD i 0 ≤ B.getD j 0)) → MG A B i (j + 1) (out ++ [B.getD j 0]) := fun h h1 h2 => .right h (by omega) (by rw [← hn, ← hmm]; exact h2)
  have hinv0 : (0 : Int) = ((0 : Nat) : Int) ∧ (0 : Int) = ((0 : Nat) : Int) ∧ 0 = ([] : List Int).length ∧ 0 ≤ 0 ∧ MG A B 0 0 [] ∧ 0 ≤ n ∧ 0 ≤ m := ⟨rfl, rfl, rfl, Nat.le_refl _, .start, Nat.zero_le _, Nat.zero_le _⟩
  rw [← hn, ← hmm]
  clear hA hB hn hmm
  generalize @MG = MM at *
  cbv
  refine WX.cv (Cv.nilT 5 31 .u64 (by rfl) (by cbv) (Cv.here ?_))
  cbv
  refine loop_fam (α := Int × Int × Nat × Nat × List Int × Nat × Nat) [8, 9, 10, 11, 12, 13, 14, 15, 16, 17, 18, 19, 20, 21, 22, 23, 24, 25, 26, 27, 28, 29, 30, 31, 32, 33, 34, 35, 36, 37, 38, 39, 40, 41, 42, 43, 44, 45, 46, 47, 48, 49, 50, 51, 52, 53, 54, 55, 56, 57] [2]
    (fun (iI, jI, i, j, out, ol, c) => [(6, .int .i64 iI), (7, .int .i64 jI), (5, .slice 2 .z 1 ol c)])
    (fun (iI, jI, i, j, out, ol, c) => [(2, .buf 31 .u64 out c)])
    (fun (iI, jI, i, j, out, ol, c) => iI = i ∧ jI = j ∧ ol = out.length ∧ ol ≤ c ∧ MM A B i j out ∧ i ≤ n ∧ j ≤ m)
    (fun (iI, jI, i, j, out, ol, c) => n + m - (i + j)) hw hm ?_ ?_
  · refine Cv.genAt [6, 7] [] (Cv.fold [8, 9, 10, 11, 12, 13, 14, 15, 16, 17, 18, 19, 20, 21, 22, 23, 24, 25, 26, 27, 28, 29, 30, 31, 32, 33, 34, 35, 36, 37, 38, 39, 40, 41, 42, 43, 44, 45, 46, 47, 48, 49, 50, 51, 52, 53, 54, 55, 56, 57] 3 [2] (by exact Nat.le_refl _) (by exact Nat.le_of_ble_eq_true rfl) (by rfl) (by cbv) ?_)
    intro js
    exact ⟨(_, _, 0, 0, _, _, _), hinv0, js, rfl⟩
  rintro ⟨iI, jI, i, j, out, ol, c⟩ js ⟨g1, g2, g3, g4, g5, g6, g7⟩
  clear hinv0
  have hci := hlss iI nI i n g1 hnI
  have hcj := hlss jI mI j m g2 hmI
  have hcg := hgeq jI mI j m g2 hmI
  have hti := hto iI i g1
  have htj := hto jI j g2
  have hol := hMl g5
  have hfit : Fits (vaddN ol 1) 8 := ⟨by rw [qaddN]; show (ol + 1) * 8 ≤ _; have := hLL.1.out; have := hLL.2.out; omega⟩
  obtain ⟨ol1, hol1⟩ : ∃ ol1, ol1 = vaddN ol 1 := ⟨_, rfl⟩
  have hol2 : ∀ x : Int, ol1 = (out ++ [x]).length := fun x => by rw [hol1, qaddN, List.length_append, g3]; rfl
  rw [← hol1] at hfit
  have hon1 : ∀ x : Int, vonto out ol [x] = out ++ [x] := fun x => by rw [g3]; exact hon out x
  have hvo : ol ≤ vln out := by rw [hvl, g3]; exact Nat.le_refl _
  by_cases ci : i < n
  · have hi1 : vc .lss iI nI = true := by rw [hci]; exact decide_eq_true ci
    have hri : InR iI n := ⟨by omega⟩
    by_cases cj : j < m
    · have hg : vc .geq jI mI = false := by rw [hcg]; exact decide_eq_false (by omega)
      have hrj : InR jI m := ⟨by omega⟩
      have hq := hleq (vgd A i) (vgd B j)
      by_cases cq : A.getD i 0 ≤ B.getD j 0
      · have hq1 : vc .leq (vgd A i) (vgd B j) = true := by rw [hq, hvgd, hvgd]; exact decide_eq_true cq
        have hnx := hleft g5 ci (.inr ⟨ci, cq⟩)
        obtain ⟨x, hx⟩ : ∃ x, x = A.getD i 0 := ⟨_, rfl⟩
        have hgx : vgd A i = x := by rw [hvgd, hx]
        rw [← hx] at hnx
        obtain ⟨k1, hk1⟩ : ∃ k1, k1 = i + 1 := ⟨_, rfl⟩
        have hku : ∀ u : Int, u = vb .add .i64 iI 1 → u = (k1 : Int) := fun u hu => by rw [hu, hk1]; exact hadd iI 1 i 1 g1 rfl (by have := hLL.1.out; have := hLL.2.out; omega)
        have hmu : n + m - (k1 + j) < n + m - (i + j) ∧ k1 ≤ n := by omega
        rw [← hk1] at hnx
        have hol3 := hol2 x
        have hon3 := hon1 x
        obtain ⟨o3, ho3⟩ : ∃ o3, o3 = out ++ [x] := ⟨_, rfl⟩
        rw [← ho3] at hnx hol3 hon3
        clear hleft hright hMl hci hcj hcg hol2 hon1 hon hx hk1 ho3 hadd hlss hgeq hto g5 hol
        cbv
        rw [hofn, hi1]
        cbv
        rw [hofm, hg]
        cbv
        rw [hofn, hi1]
        cbv
        rw [hti, htj, hadd0, hadd0, hvA, hvB]
        refine ⟨hri, ⟨ci⟩, ⟨ci⟩, hrj, ⟨cj⟩, ⟨cj⟩, ?_⟩
        rw [hq1]
        cbv
        rw [hti, hadd0, hvA, hgx]
        refine ⟨hri, ⟨ci⟩, ⟨ci⟩, ?_⟩
        cbv
        rw [hsub1]
        refine ⟨⟨by rw [hadd0, hvl1]; exact Nat.le_refl 1⟩, ⟨hvo⟩, ⟨Nat.le_refl _⟩, by rw [← hol1]; exact hfit, ?_⟩
        intro cc jv hcc
        have hcc' : ol1 ≤ cc := by rw [hol1]; exact hcc.out
        clear hcc
        cbv
        rw [← hol1, hon3]
        obtain ⟨u, hu⟩ : ∃ u, u = vb .add .i64 iI 1 := ⟨_, rfl⟩
        rw [← hu]
        have hku' := hku u hu
        refine Cv.fold [8, 9, 10, 11, 12, 13, 14, 15, 16, 17, 18, 19, 20, 21, 22, 23, 24, 25, 26, 27, 28, 29, 30, 31, 32, 33, 34, 35, 36, 37, 38, 39, 40, 41, 42, 43, 44, 45, 46, 47, 48, 49, 50, 51, 52, 53, 54, 55, 56, 57] 3 [2] (by exact Nat.le_refl _) (by exact Nat.le_of_ble_eq_true rfl) (by rfl) (by cbv) ?_
        intro js2
        exact ⟨(_, _, k1, j, o3, ol1, cc), ⟨⟨hku', g2, hol3, hcc', hnx, hmu.2, g7⟩, hmu.1⟩, js2, rfl⟩
      · have hq1 : vc .leq (vgd A i) (vgd B j) = false := by rw [hq, hvgd, hvgd]; exact decide_eq_false cq
        have hnx := hright g5 cj (by rintro (h | h); · omega
                                     · exact cq h.2)
        obtain ⟨x, hx⟩ : ∃ x, x = B.getD j 0 := ⟨_, rfl⟩
        have hgx : vgd B j = x := by rw [hvgd, hx]
        rw [← hx] at hnx
        obtain ⟨k1, hk1⟩ : ∃ k1, k1 = j + 1 := ⟨_, rfl⟩
        have hku : ∀ u : Int, u = vb .add .i64 jI 1 → u = (k1 : Int) := fun u hu => by rw [hu, hk1]; exact hadd jI 1 j 1 g2 rfl (by have := hLL.1.out; have := hLL.2.out; omega)
        have hmu : n + m - (i + k1) < n + m - (i + j) ∧ k1 ≤ m := by omega
        rw [← hk1] at hnx
        have hol3 := hol2 x
        have hon3 := hon1 x
        obtain ⟨o3, ho3⟩ : ∃ o3, o3 = out ++ [x] := ⟨_, rfl⟩
        rw [← ho3] at hnx hol3 hon3
        clear hleft hright hMl hci hcj hcg hol2 hon1 hon hx hk1 ho3 hadd hlss hgeq hto g5 hol
        cbv
        rw [hofn, hi1]
        cbv
        rw [hofm, hg]
        cbv
        rw [hofn, hi1]
        cbv
        rw [hti, htj, hadd0, hadd0, hvA, hvB]
        refine ⟨hri, ⟨ci⟩, ⟨ci⟩, hrj, ⟨cj⟩, ⟨cj⟩, ?_⟩
        rw [hq1]
        cbv
        rw [htj, hadd0, hvB, hgx]
        refine ⟨hrj, ⟨cj⟩, ⟨cj⟩, ?_⟩
        cbv
        rw [hsub1]
        refine ⟨⟨by rw [hadd0, hvl1]; exact Nat.le_refl 1⟩, ⟨hvo⟩, ⟨Nat.le_refl _⟩, by rw [← hol1]; exact hfit, ?_⟩
        intro cc jv hcc
        have hcc' : ol1 ≤ cc := by rw [hol1]; exact hcc.out
        clear hcc
        cbv
        rw [← hol1, hon3]
        obtain ⟨u, hu⟩ : ∃ u, u = vb .add .i64 jI 1 := ⟨_, rfl⟩
        rw [← hu]
        have hku' := hku u hu
        refine Cv.fold [8, 9, 10, 11, 12, 13, 14, 15, 16, 17, 18, 19, 20, 21, 22, 23, 24, 25, 26, 27, 28, 29, 30, 31, 32, 33, 34, 35, 36, 37, 38, 39, 40, 41, 42, 43, 44, 45, 46, 47, 48, 49, 50, 51, 52, 53, 54, 55, 56, 57] 3 [2] (by exact Nat.le_refl _) (by exact Nat.le_of_ble_eq_true rfl) (by rfl) (by cbv) ?_
        intro js2
        exact ⟨(_, _, i, k1, o3, ol1, cc), ⟨⟨g1, hku', hol3, hcc', hnx, g6, hmu.2⟩, hmu.1⟩, js2, rfl⟩
    · have hg : vc .geq jI mI = true := by rw [hcg]; exact decide_eq_true (by omega)
      have hnx := hleft g5 ci (.inl (by omega))
      obtain ⟨x, hx⟩ : ∃ x, x = A.getD i 0 := ⟨_, rfl⟩
      have hgx : vgd A i = x := by rw [hvgd, hx]
      rw [← hx] at hnx
      obtain ⟨k1, hk1⟩ : ∃ k1, k1 = i + 1 := ⟨_, rfl⟩
      have hku : ∀ u : Int, u = vb .add .i64 iI 1 → u = (k1 : Int) := fun u hu => by rw [hu, hk1]; exact hadd iI 1 i 1 g1 rfl (by have := hLL.1.out; have := hLL.2.out; omega)
      have hmu : n + m - (k1 + j) < n + m - (i + j) ∧ k1 ≤ n := by omega
      rw [← hk1] at hnx
      have hol3 := hol2 x
      have hon3 := hon1 x
      obtain ⟨o3, ho3⟩ : ∃ o3, o3 = out ++ [x] := ⟨_, rfl⟩
      rw [← ho3] at hnx hol3 hon3
      clear hleft hright hMl hci hcj hcg hol2 hon1 hon hx hk1 ho3 hadd hlss hgeq hto g5 hol
      cbv
      rw [hofn, hi1]
      cbv
      rw [hofm, hg]
      cbv
      rw [hti, hadd0, hvA, hgx]
      refine ⟨hri, ⟨ci⟩, ⟨ci⟩, ?_⟩
      cbv
      rw [hsub1]
      refine ⟨⟨by rw [hadd0, hvl1]; exact Nat.le_refl 1⟩, ⟨hvo⟩, ⟨Nat.le_refl _⟩, by rw [← hol1]; exact hfit, ?_⟩
      intro cc jv hcc
      have hcc' : ol1 ≤ cc := by rw [hol1]; exact hcc.out
      clear hcc
      cbv
      rw [← hol1, hon3]
      obtain ⟨u, hu⟩ : ∃ u, u = vb .add .i64 iI 1 := ⟨_, rfl⟩
      rw [← hu]
      have hku' := hku u hu
      refine Cv.fold [8, 9, 10, 11, 12, 13, 14, 15, 16, 17, 18, 19, 20, 21, 22, 23, 24, 25, 26, 27, 28, 29, 30, 31, 32, 33, 34, 35, 36, 37, 38, 39, 40, 41, 42, 43, 44, 45, 46, 47, 48, 49, 50, 51, 52, 53, 54, 55, 56, 57] 3 [2] (by exact Nat.le_refl _) (by exact Nat.le_of_ble_eq_true rfl) (by rfl) (by cbv) ?_
      intro js2
      exact ⟨(_, _, k1, j, o3, ol1, cc), ⟨⟨hku', g2, hol3, hcc', hnx, hmu.2, g7⟩, hmu.1⟩, js2, rfl⟩
  · have hi1 : vc .lss iI nI = false := by rw [hci]; exact decide_eq_false ci
    by_cases cj : j < m
    · have hj1 : vc .lss jI mI = true := by rw [hcj]; exact decide_eq_true cj
      have hg : vc .geq jI mI = false := by rw [hcg]; exact decide_eq_false (by omega)
      have hrj : InR jI m := ⟨by omega⟩
      have hnx := hright g5 cj (by rintro (h | h) <;> omega)
      obtain ⟨x, hx⟩ : ∃ x, x = B.getD j 0 := ⟨_, rfl⟩
      have hgx : vgd B j = x := by rw [hvgd, hx]
      rw [← hx] at hnx
      obtain ⟨k1, hk1⟩ : ∃ k1, k1 = j + 1 := ⟨_, rfl⟩
      have hku : ∀ u : Int, u = vb .add .i64 jI 1 → u = (k1 : Int) := fun u hu => by rw [hu, hk1]; exact hadd jI 1 j 1 g2 rfl (by have := hLL.1.out; have := hLL.2.out; omega)
      have hmu : n + m - (i + k1) < n + m - (i + j) ∧ k1 ≤ m := by omega
      rw [← hk1] at hnx
      have hol3 := hol2 x
      have hon3 := hon1 x
      obtain ⟨o3, ho3⟩ : ∃ o3, o3 = out ++ [x] := ⟨_, rfl⟩
      rw [← ho3] at hnx hol3 hon3
      clear hleft hright hMl hci hcj hcg hol2 hon1 hon hx hk1 ho3 hadd hlss hgeq hto g5 hol
      cbv
      rw [hofn, hi1]
      cbv
      rw [hofm, hj1]
      cbv
      rw [hofm, hg]
      cbv
      rw [hofn, hi1]
      cbv
      rw [htj, hadd0, hvB, hgx]
      refine ⟨hrj, ⟨cj⟩, ⟨cj⟩, ?_⟩
      cbv
      rw [hsub1]
      refine ⟨⟨by rw [hadd0, hvl1]; exact Nat.le_refl 1⟩, ⟨hvo⟩, ⟨Nat.le_refl _⟩, by rw [← hol1]; exact hfit, ?_⟩
      intro cc jv hcc
      have hcc' : ol1 ≤ cc := by rw [hol1]; exact hcc.out
      clear hcc
      cbv
      rw [← hol1, hon3]
      obtain ⟨u, hu⟩ : ∃ u, u = vb .add .i64 jI 1 := ⟨_, rfl⟩
      rw [← hu]
      have hku' := hku u hu
      refine Cv.fold [8, 9, 10, 11, 12, 13, 14, 15, 16, 17, 18, 19, 20, 21, 22, 23, 24, 25, 26, 27, 28, 29, 30, 31, 32, 33, 34, 35, 36, 37, 38, 39, 40, 41, 42, 43, 44, 45, 46, 47, 48, 49, 50, 51, 52, 53, 54, 55, 56, 57] 3 [2] (by exact Nat.le_refl _) (by exact Nat.le_of_ble_eq_true rfl) (by rfl) (by cbv) ?_
      intro js2
      exact ⟨(_, _, i, k1, o3, ol1, cc), ⟨⟨g1, hku', hol3, hcc', hnx, g6, hmu.2⟩, hmu.1⟩, js2, rfl⟩
    · have hj1 : vc .lss jI mI = false := by rw [hcj]; exact decide_eq_false cj
      have hin : i = n := by omega
      have hjm : j = m := by omega
      have hfin : MM A B n m out := by rw [← hin, ← hjm]; exact g5
      clear hleft hright hMl hci hcj hcg hol2 g5
      cbv
      rw [hofn, hi1]
      cbv
      rw [hofm, hj1]
      cbv
      exact ⟨out, c, by rw [g3]; rfl, by rw [← g3]; exact g4, rfl, hfin⟩
end Go.Proofs.Ytodobmkflimfkaa
namespace Go.Proofs.Ytodobmkflimfkaa
open Go Go.Sx Go.Proofs
/-! The document's sorted counts (65). -/
theorem CoinsTo.congr {l : List Int} {i n : Nat} {k k' : Nat → Int} {s s' : Nat → Nat} (h : CoinsTo l i n k s) (h1 : ∀ x, x < n → k' x = k x) (h2 : ∀ x, x < n → s' x = s x) : CoinsTo l i n k' s' :=
  ⟨h.num, fun m hm => by rw [h1 m hm, h2 m hm]; exact h.pos m hm, fun a b ha hb e => h.inj a b ha hb (by rw [← h2 a ha, ← h2 b hb]; exact e), fun t ht hp => by
    obtain ⟨m, h3, h4⟩ := h.all t ht hp
    exact ⟨m, h3, by rw [h2 m h3]; exact h4⟩⟩
theorem CoinsTo.perm {l : List Int} {i n : Nat} {k : Nat → Int} {s : Nat → Nat} (h : CoinsTo l i n k s) {q : Nat → Nat} (hq : ∀ x, x < n → q x < n) (hinj : ∀ a b, a < n → b < n → q a = q b → a = b) : CoinsTo l i n (fun x => k (q x)) (fun x => s (q x)) :=
  ⟨h.num, fun m hm => h.pos (q m) (hq m hm), fun a b ha hb e => hinj a b ha hb (h.inj _ _ (hq a ha) (hq b hb) e), fun t ht hp => by
    obtain ⟨m, h3, h4⟩ := h.all t ht hp
    obtain ⟨m', h5, h6⟩ := inj_surj n q hq hinj m h3
    exact ⟨m', h5, by rw [h6]; exact h4⟩⟩
theorem swap2 {o : List Int} {j : Nat} (hj : j + 1 < o.length) (x : Nat) : ((o.set (j + 1) (o.getD j 0)).set j (o.getD (j + 1) 0)).getD x 0 = o.getD (swp (fun x => x) j (j + 1) x) 0 := by
  rw [swp_eq, List.getD_eq_getElem?_getD, List.getElem?_set, List.getElem?_set]
  by_cases h1 : x = j
  · subst h1; rw [if_pos rfl, if_pos rfl, if_pos (by simp; omega)]; rfl
  · rw [if_neg (Ne.symm h1), if_neg h1]
    by_cases h2 : x = j + 1
    · subst h2; rw [if_pos rfl, if_pos rfl, if_pos (by omega)]; rfl
    · rw [if_neg (Ne.symm h2), if_neg h2, List.getD_eq_getElem?_getD]
/-- The counts so far, sorted. -/
structure SrtIn (l : List Int) (i : Nat) (o : List Int) (p : Nat → Nat) : Prop where
  co : CoinsTo l i o.length (fun x => o.getD x 0) p
  srt : ∀ x y, x < y → y < o.length → o.getD x 0 ≤ o.getD y 0
/-- One more goes down to its place. -/
structure InsIn (l : List Int) (i j : Nat) (o : List Int) (p : Nat → Nat) : Prop where
  co : CoinsTo l i o.length (fun x => o.getD x 0) p
  lt : j < o.length
  ins : Ins (fun x => o.getD x 0) (fun x => x) 0 j (o.length - 1)
theorem SrtIn.nil (l : List Int) (p : Nat → Nat) : SrtIn l 0 [] p := ⟨(CoinsTo.nil l _ p), fun x y _ h => by simp at h⟩
theorem SrtIn.no {l : List Int} {i : Nat} {o : List Int} {p : Nat → Nat} (h : SrtIn l i o p) (hi : i < l.length) (hz : ¬ 0 < l.getD i 0) : SrtIn l (i + 1) o p := ⟨h.co.no hi hz, h.srt⟩
theorem SrtIn.add {l : List Int} {i : Nat} {o : List Int} {p : Nat → Nat} (h : SrtIn l i o p) (hi : i < l.length) (hz : 0 < l.getD i 0) : InsIn l (i + 1) o.length (o ++ [l.getD i 0]) (updN p o.length i) := by
  refine ⟨?_, by simp, fun x y h1 h2 h3 h4 => ?_⟩
  · have := h.co.yes hi hz
    rw [List.length_append]
    refine this.congr (fun x hx => ?_) (fun x hx => rfl)
    rw [updI_eq]
    show (o ++ [l.getD i 0]).getD x 0 = _
    rw [getD_snoc o _ x hx]
  · simp only [List.length_append, List.length_cons, List.length_nil] at h3
    show (o ++ [l.getD i 0]).getD x 0 ≤ (o ++ [l.getD i 0]).getD y 0
    rw [getD_snoc o _ x (by omega), getD_snoc o _ y (by omega), if_neg (by omega), if_neg h4]
    exact h.srt x y h2 (by omega)
theorem InsIn.next {l : List Int} {i j : Nat} {o : List Int} {p : Nat → Nat} (h : InsIn l i (j + 1) o p) (hk : o.getD (j + 1) 0 < o.getD j 0) : InsIn l i j ((o.set (j + 1) (o.getD j 0)).set j (o.getD (j + 1) 0)) (fun x => p (swp (fun x => x) j (j + 1) x)) := by
  have hlt := h.lt
  have hsw : ∀ x, x < o.length → swp (fun x => x) j (j + 1) x < o.length := fun x hx => by rw [swp_eq]; split <;> (try split) <;> omega
  have hin : ∀ a b, swp (fun x => x) j (j + 1) a = swp (fun x => x) j (j + 1) b → a = b := (swp_perm (p := fun x => x) (a := 0) (b := j + 2) (i := j) (j := j + 1) ⟨by omega, by omega⟩ ⟨by omega, by omega⟩).inj (fun i j h => h)
  refine ⟨?_, by simp; omega, ?_⟩
  · have := h.co.perm hsw (fun a b _ _ => hin a b)
    rw [List.length_set, List.length_set]
    exact this.congr (fun x hx => swap2 hlt x) (fun x hx => rfl)
  · rw [List.length_set, List.length_set]
    have h2 := Ins.next (k := fun x => o.getD x 0) (q := fun x => x) h.ins (Nat.zero_le _) (by omega) hk
    intro x y e1 e2 e3 e4
    show ((o.set (j + 1) (o.getD j 0)).set j (o.getD (j + 1) 0)).getD x 0 ≤ ((o.set (j + 1) (o.getD j 0)).set j (o.getD (j + 1) 0)).getD y 0
    rw [swap2 hlt, swap2 hlt]
    exact h2 x y e1 e2 e3 e4
theorem InsIn.done {l : List Int} {i j : Nat} {o : List Int} {p : Nat → Nat} (h : InsIn l i j o p) (hj : j = 0 ∨ (0 < j ∧ o.getD (j - 1) 0 ≤ o.getD j 0)) : SrtIn l i o p := by
  have hlt := h.lt
  have h2 := h.ins.done hj
  unfold Srt at h2
  exact ⟨h.co, fun x y e1 e2 => h2 x y (Nat.zero_le _) e1 (by omega)⟩
set_option maxRecDepth 100000 in
set_option maxHeartbeats 8000000 in
theorem sorted_con (l : List Int) (cap : Nat) (hl : ∀ c ∈ l, 0 ≤ c ∧ c < 4294967296) (hlen : l.length ≤ 1048576) :
    Con Try.prog 65 [.slice 0 .z 1 l.length cap] [.ro .u32 l]
    (fun v H R => R = [] ∧ ∃ o c p, v = .slice 1 .z 1 o.length c ∧ o.length ≤ c ∧ H = [.ro .u32 l, .buf 31 .u64 o c] ∧ SrtIn l l.length o p) := by
  refine con_gen (con_cut 2 (by simp) (con_drop (con_walk hmix fn65 ?_)))
  intro vb vc vw vtoN vofN vaddN vsubN vmaxI vminI vcutN vgd vst vln vrep vsub vonto vsplice vstrEq vbyteV vnotB veqB hw qb qc qw qtoN qofN qaddN qsubN qmaxI qminI qcutN qgd qst qln qrep qsub qonto qsplice qstrEq qbyteV qnotB qeqB
  have hm := hmix; generalize Try.prog = P at *
  have hadd : ∀ (x y : Int) (i j : Nat), x = i → y = j → i + j < 100000000 → vb .add .i64 x y = ((i + j : Nat) : Int) := fun x y i j h1 h2 h => by rw [qb, add_i64 (by omega) (by omega)]; omega
  have hsub : ∀ (x y : Int) (i j : Nat), x = i → y = j → j ≤ i → i < 100000000 → vb .sub .i64 x y = ((i - j : Nat) : Int) := fun x y i j h1 h2 h h' => by rw [qb, sub_i64 (by omega) (by omega)]; omega
  have hadd0 : ∀ i, vaddN 0 i = i := fun i => by simp only [qaddN, Nat.zero_add]
  have hlss : ∀ (x y : Int) (i j : Nat), x = i → y = j → vc .lss x y = decide (i < j) := fun x y i j h1 h2 => by rw [qc]; exact lss_nat h1 h2
  have hlsI : ∀ x y : Int, vc .lss x y = decide (x < y) := fun x y => by rw [qc]; rfl
  have hto : ∀ (x : Int) (i : Nat), x = i → vtoN x = i := fun x i h => by rw [qtoN, h]; rfl
  have hsub1 : ∀ x : Int, vsub [x] 0 1 = [x] := fun x => by rw [qsub]; rfl
  have hvl1 : ∀ x : Int, vln [x] = 1 := fun x => by rw [qln]; rfl
  have hon : ∀ (o : List Int) (x : Int), vonto o o.length [x] = o ++ [x] := fun o x => by rw [qonto]; simp
  have hvl : ∀ o : List Int, vln o = o.length := fun o => by rw [qln]
  obtain ⟨n, hn⟩ : ∃ n, n = l.length := ⟨_, rfl⟩
  obtain ⟨nI, hnI⟩ : ∃ nI, nI = (n : Int) := ⟨_, rfl⟩
  have hofn : vofN n = nI := by rw [qofN, hnI]
  have hvgd : ∀ (l : List Int) i, vgd l i = l.getD i 0 := fun l i => by rw [qgd]
  have hvA : vln l = n := by rw [hvl, hn]
  have hLL : Le n 1048576 := ⟨by omega⟩
  have hll : ∀ i, i < n → 0 ≤ l.getD i 0 ∧ l.getD i 0 < 4294967296 := fun i hi => hl _ (by rw [List.getD_eq_getElem?_getD, List.getElem?_eq_getElem (by omega)]; exact List.getElem_mem _)
  have hcon : ∀ v : Int, 0 ≤ v → v < 4294967296 → vw .u64 v = v := fun v h1 h2 => by rw [qw]; exact wrap_u64 h1 (by omega)
  have heq0 : ∀ v : Int, vc .eql v 0 = decide (v = 0) := fun v => by rw [qc]; exact eql_eq v 0
  have hgt0 : ∀ (x : Int) (j : Nat), x = j → vc .gtr x 0 = decide (0 < j) := fun x j h => by rw [qc]; exact gtr_nat h rfl
  have hno : ∀ {i : Nat} {o : List Int} {p : Nat → Nat}, SrtIn l i o p → i < n → ¬ 0 < l.getD i 0 → SrtIn l (i + 1) o p := fun h h1 h2 => h.no (by omega) h2
  have hyes : ∀ {i : Nat} {o : List Int} {p : Nat → Nat}, SrtIn l i o p → i < n → 0 < l.getD i 0 → InsIn l (i + 1) o.length (o ++ [l.getD i 0]) (updN p o.length i) := fun h h1 h2 => h.add (by omega) h2
  have hbd : ∀ {i : Nat} {o : List Int} {p : Nat → Nat}, SrtIn l i o p → o.length ≤ i := fun h => by rw [h.co.num]; exact numP_le l _
  have hinv0 : (0 : Int) = ((0 : Nat) : Int) ∧ 0 ≤ n ∧ 0 = ([] : List Int).length ∧ 0 ≤ 0 ∧ SrtIn l 0 [] (fun _ => 0) := ⟨rfl, Nat.zero_le _, rfl, Nat.le_refl _, .nil l _⟩
  rw [← hn]
  clear hl hlen hn
  generalize hSI : @SrtIn = SI at *
  cbv
  refine WX.cv (Cv.nilT 3 31 .u64 (by rfl) (by cbv) (Cv.here ?_))
  cbv
  refine loop_fam (α := Int × Nat × List Int × Nat × Nat × (Nat → Nat)) ([5, 6] ++ [7, 8, 9, 10, 11, 12, 13, 14, 15, 16, 17, 18, 19, 20, 21, 22, 23, 24, 25, 26, 27, 28, 29, 30, 31, 32, 33, 34, 35, 36, 37, 38, 39, 40, 41, 42, 43, 44, 45, 46, 47, 48, 49, 50, 51, 52, 53, 54, 55, 56, 57, 58, 59, 60, 61]) [1]
    (fun (iI, i, o, ol, c, p) => [(4, .int .i64 iI), (3, .slice 1 .z 1 ol c)])
    (fun (iI, i, o, ol, c, p) => [(1, .buf 31 .u64 o c)])
    (fun (iI, i, o, ol, c, p) => iI = i ∧ i ≤ n ∧ ol = o.length ∧ ol ≤ c ∧ SI l i o p)
    (fun (iI, i, o, ol, c, p) => n - i) hw hm ?_ ?_
  · refine Cv.genAt [4] [] (Cv.fold ([5, 6] ++ [7, 8, 9, 10, 11, 12, 13, 14, 15, 16, 17, 18, 19, 20, 21, 22, 23, 24, 25, 26, 27, 28, 29, 30, 31, 32, 33, 34, 35, 36, 37, 38, 39, 40, 41, 42, 43, 44, 45, 46, 47, 48, 49, 50, 51, 52, 53, 54, 55, 56, 57, 58, 59, 60, 61]) 2 [1] (by exact Nat.le_refl _) (by exact Nat.le_of_ble_eq_true rfl) (by rfl) (by cbv) ?_)
    intro js
    exact ⟨(_, 0, _, _, _, _), hinv0, js, rfl⟩
  rintro ⟨iI, i, o, ol, c, p⟩ js ⟨g1, g2, g3, g4, g5⟩
  clear hinv0
  have hci := hlss iI nI i n g1 hnI
  by_cases hi : i < n
  rotate_left
  · have hc1 : vc .lss iI nI = false := by rw [hci]; exact decide_eq_false hi
    have hin : i = n := Nat.le_antisymm g2 (Nat.le_of_not_lt hi)
    rw [hin] at g5
    clear hci hno hyes hbd hll
    cbv
    rw [hofn, hc1]
    cbv
    exact ⟨o, c, p, by rw [g3]; rfl, by rw [← g3]; exact g4, rfl, g5⟩
  have hc1 : vc .lss iI nI = true := by rw [hci]; exact decide_eq_true hi
  have hti := hto iI i g1
  have hr : InR iI n := ⟨by omega⟩
  obtain ⟨v, hv⟩ : ∃ v, v = l.getD i 0 := ⟨_, rfl⟩
  have hvi : vgd l i = v := by rw [hvgd, hv]
  have hvv := hll i hi
  rw [← hv] at hvv
  obtain ⟨i1, hi1⟩ : ∃ i1, i1 = i + 1 := ⟨_, rfl⟩
  have hnx : ∀ u : Int, u = vb .add .i64 iI 1 → u = (i1 : Int) := fun u hu => by rw [hu, hi1]; exact hadd iI 1 i 1 g1 rfl (by have := hLL.out; omega)
  have hmu : i1 ≤ n ∧ n - i1 < n - i := by omega
  by_cases hz : v = 0
  · have he : vc .eql v 0 = true := by rw [heq0]; exact decide_eq_true hz
    have h5 := hno g5 hi (by rw [← hv]; omega)
    rw [← hi1] at h5
    clear hci hno hyes hbd hll hv hvv hlss hadd hto hz
    cbv
    rw [hofn, hc1]
    cbv
    rw [hti, hadd0, hvA, hvi]
    refine ⟨hr, ⟨hi⟩, ⟨hi⟩, ?_⟩
    rw [he]
    cbv
    obtain ⟨u, hu⟩ : ∃ u, u = vb .add .i64 iI 1 := ⟨_, rfl⟩
    rw [← hu]
    have hnx' := hnx u hu
    refine Cv.fold ([5, 6] ++ [7, 8, 9, 10, 11, 12, 13, 14, 15, 16, 17, 18, 19, 20, 21, 22, 23, 24, 25, 26, 27, 28, 29, 30, 31, 32, 33, 34, 35, 36, 37, 38, 39, 40, 41, 42, 43, 44, 45, 46, 47, 48, 49, 50, 51, 52, 53, 54, 55, 56, 57, 58, 59, 60, 61]) 2 [1] (by exact Nat.le_refl _) (by exact Nat.le_of_ble_eq_true rfl) (by rfl) (by cbv) ?_
    intro js2
    exact ⟨(_, i1, _, _, _, _), ⟨⟨hnx', hmu.1, g3, g4, h5⟩, hmu.2⟩, js2, rfl⟩
  have he : vc .eql v 0 = false := by rw [heq0]; exact decide_eq_false hz
  have h5 := hyes g5 hi (by rw [← hv]; omega)
  rw [← hi1, ← hv] at h5
  have hob := hbd g5
  have hfit : Fits (vaddN ol 1) 8 := ⟨by rw [qaddN]; show (ol + 1) * 8 ≤ _; have := hLL.out; omega⟩
  obtain ⟨ol1, hol1⟩ : ∃ ol1, ol1 = vaddN ol 1 := ⟨_, rfl⟩
  have hol2 : ol1 = ol + 1 := by rw [hol1, qaddN]
  have holb : ol1 ≤ 1048577 := by have := hLL.out; omega
  rw [← hol1] at hfit
  obtain ⟨o1, ho1⟩ : ∃ o1, o1 = o ++ [v] := ⟨_, rfl⟩
  have hon1 : vonto o ol [v] = o1 := by rw [g3, ho1]; exact hon o v
  have hvo : ol ≤ vln o := by rw [hvl, g3]; exact Nat.le_refl _
  have hcv := hcon v hvv.1 hvv.2
  have hlo1 : o1.length = ol1 := by rw [ho1, List.length_append, ← g3, hol2]; rfl
  rw [← ho1, ← g3] at h5
  obtain ⟨olI, holI⟩ : ∃ x, x = vofN ol1 := ⟨_, rfl⟩
  have holI' : olI = (ol1 : Int) := by rw [holI, qofN]
  obtain ⟨jI0, hjI0⟩ : ∃ x, x = vb .sub .i64 olI 1 := ⟨_, rfl⟩
  have hjI0' : jI0 = (ol : Int) := by rw [hjI0, hsub olI 1 ol1 1 holI' rfl (by omega) (by omega), hol2]; rfl
  have hinv1 : jI0 = (ol : Int) ∧ o1.length = ol1 ∧ InsIn l i1 ol o1 (updN p ol i) := ⟨hjI0', hlo1, h5⟩
  clear hci hno hyes hbd hll hv hvv hlss hto hz g5 ho1 hlo1 h5 hon hcon heq0
  cbv
  rw [hofn, hc1]
  cbv
  rw [hti, hadd0, hvA, hvi]
  refine ⟨hr, ⟨hi⟩, ⟨hi⟩, ?_⟩
  rw [he]
  cbv
  rw [hti, hadd0, hvA, hvi, hcv]
  refine ⟨hr, ⟨hi⟩, ⟨hi⟩, ⟨by rw [hadd0, hvl1]; exact Nat.le_refl 1⟩, ⟨hvo⟩, ⟨Nat.le_refl _⟩, by rw [← hol1]; exact hfit, ?_⟩
  intro cc jv hcc
  have hcc' : ol1 ≤ cc := by rw [hol1]; exact hcc.out
  clear hcc
  cbv
  rw [hsub1, ← hol1, hon1, ← holI, ← hjI0]
  cbv
  refine loop_fam (α := Int × Nat × List Int × (Nat → Nat)) ([6] ++ [29, 30, 31, 32, 33, 34, 35, 36, 37, 38, 39, 40, 41, 42, 43, 44, 45, 46, 47, 48, 49, 50, 51, 52, 53, 54, 55, 56, 57, 58, 59, 60, 61]) [1]
    (fun (jI, j, o, p) => [(5, .int .i64 jI)])
    (fun (jI, j, o, p) => [(1, .buf 31 .u64 o cc)])
    (fun (jI, j, o, p) => jI = j ∧ o.length = ol1 ∧ InsIn l i1 j o p)
    (fun (jI, j, o, p) => j) hw hm ?_ ?_
  · refine Cv.genAt [5] [] (Cv.fold ([6] ++ [29, 30, 31, 32, 33, 34, 35, 36, 37, 38, 39, 40, 41, 42, 43, 44, 45, 46, 47, 48, 49, 50, 51, 52, 53, 54, 55, 56, 57, 58, 59, 60, 61]) 3 [1] (by exact Nat.le_refl _) (by exact Nat.le_of_ble_eq_true rfl) (by rfl) (by cbv) ?_)
    intro js2
    exact ⟨(_, _, _, _), hinv1, js2, rfl⟩
  clear hinv1 hon1 hvo hfit hjI0' hjI0 holI holI'
  rintro ⟨jI, j, o2, p2⟩ js2 ⟨f1, f2, f3⟩
  have hg0 := hgt0 jI j f1
  have hjo : j < ol1 := by rw [← f2]; exact f3.lt
  have hdone : (j = 0 ∨ (0 < j ∧ o2.getD (j - 1) 0 ≤ o2.getD j 0)) → SI l i1 o2 p2 := fun h => by rw [← hSI]; exact f3.done h
  by_cases hj : 0 < j
  rotate_left
  · have hg1 : vc .gtr jI 0 = false := by rw [hg0]; exact decide_eq_false hj
    have hd := hdone (.inl (Nat.eq_zero_of_not_pos hj))
    clear hdone hg0 hadd hsub hgt0 f3
    cbv
    rw [hg1]
    cbv
    obtain ⟨u, hu⟩ : ∃ u, u = vb .add .i64 iI 1 := ⟨_, rfl⟩
    rw [← hu]
    have hnx' := hnx u hu
    refine Cv.fold ([5, 6] ++ [7, 8, 9, 10, 11, 12, 13, 14, 15, 16, 17, 18, 19, 20, 21, 22, 23, 24, 25, 26, 27, 28, 29, 30, 31, 32, 33, 34, 35, 36, 37, 38, 39, 40, 41, 42, 43, 44, 45, 46, 47, 48, 49, 50, 51, 52, 53, 54, 55, 56, 57, 58, 59, 60, 61]) 2 [1] (by exact Nat.le_refl _) (by exact Nat.le_of_ble_eq_true rfl) (by rfl) (by cbv) ?_
    intro js3
    exact ⟨(_, i1, _, _, _, _), ⟨⟨hnx', hmu.1, f2.symm, hcc', hd⟩, hmu.2⟩, js3, rfl⟩
  · have hg1 : vc .gtr jI 0 = true := by rw [hg0]; exact decide_eq_true hj
    obtain ⟨j0, hj0⟩ : ∃ j0, j = j0 + 1 := ⟨j - 1, by omega⟩
    subst hj0
    have hd := fun h => hdone (.inr ⟨hj, h⟩)
    rw [Nat.add_sub_cancel] at hd
    have hnext := fun h => f3.next h
    obtain ⟨J, hJ⟩ : ∃ J, J = j0 + 1 := ⟨_, rfl⟩
    rw [← hJ] at hd hnext f1 hjo
    have htj : vtoN jI = J := by rw [qtoN, f1]; rfl
    obtain ⟨wI, hwI⟩ : ∃ w, w = vb .sub .i64 jI 1 := ⟨_, rfl⟩
    have hwI' : wI = (j0 : Int) := by rw [hwI, hsub jI 1 J 1 f1 rfl (by omega) (by omega), hJ]; rfl
    have htw : vtoN wI = j0 := by rw [qtoN, hwI']; rfl
    have hrj : InR jI ol1 := ⟨by omega⟩
    have hrw : InR wI ol1 := ⟨by omega⟩
    have hvo2 : vln o2 = ol1 := by rw [hvl, f2]
    have hj0o : j0 < ol1 := by omega
    have hg2 : vgd o2 J = o2.getD J 0 := hvgd o2 J
    have hg3 : vgd o2 j0 = o2.getD j0 0 := hvgd o2 j0
    have hg4 := hlsI (vgd o2 J) (vgd o2 j0)
    have hst1 : ∀ (o : List Int) (x : Nat) (y : Int), vst o x y = o.set x y := fun o x y => by rw [qst]
    have hvo3 : ∀ y, vln (o2.set J y) = ol1 := fun y => by rw [hvl, List.length_set, f2]
    by_cases hk : o2.getD J 0 < o2.getD j0 0
    · have hn2 := hnext hk
      have hg5 : vc .lss (vgd o2 J) (vgd o2 j0) = true := by rw [hg4, hg2, hg3]; exact decide_eq_true hk
      have hl3 : ((o2.set J (o2.getD j0 0)).set j0 (o2.getD J 0)).length = ol1 := by rw [List.length_set, List.length_set, f2]
      obtain ⟨o3, ho3⟩ : ∃ o3, o3 = (o2.set J (vgd o2 j0)).set j0 (vgd o2 J) := ⟨_, rfl⟩
      have ho3' : o3 = (o2.set J (o2.getD j0 0)).set j0 (o2.getD J 0) := by rw [ho3, hg2, hg3]
      rw [← ho3'] at hn2 hl3
      have hs2 : vst (vst o2 J (vgd o2 j0)) j0 (vgd o2 J) = o3 := by rw [hst1, hst1, ho3]
      have hl4 : J < vln o2 := by rw [hvo2]; exact hjo
      have hl5 : j0 < vln o2 := by rw [hvo2]; exact hj0o
      have hl6 : j0 < vln (vst o2 J (vgd o2 j0)) := by rw [hst1, hvo3]; exact hj0o
      have hmu2 : j0 < j0 + 1 := Nat.lt_succ_self _
      clear hdone hg0 hadd hsub hgt0 f3 hd hnext hg2 hg3 hg4 hk ho3 ho3' hst1 hvo3 hvo2 hlsI hvgd
      cbv
      rw [hg1]
      cbv
      rw [← hwI, htj, htw, hadd0, hadd0]
      refine ⟨hrj, ⟨hl4⟩, ⟨hl4⟩, hrw, ⟨hl5⟩, ⟨hl5⟩, ?_⟩
      rw [hg5]
      cbv
      rw [← hwI, htj, htw]
      repeat (refine And.intro (by first | exact hrj | exact hrw | exact ⟨hl4⟩ | exact ⟨hl5⟩ | exact ⟨hl6⟩ | (rw [hadd0]; first | exact ⟨hl4⟩ | exact ⟨hl5⟩ | exact ⟨hl6⟩)) ?_)
      rw [hs2]
      refine Cv.fold ([6] ++ [29, 30, 31, 32, 33, 34, 35, 36, 37, 38, 39, 40, 41, 42, 43, 44, 45, 46, 47, 48, 49, 50, 51, 52, 53, 54, 55, 56, 57, 58, 59, 60, 61]) 3 [1] (by exact Nat.le_refl _) (by exact Nat.le_of_ble_eq_true rfl) (by rfl) (by cbv) ?_
      intro js3
      exact ⟨(_, j0, o3, _), ⟨⟨hwI', hl3, hn2⟩, hmu2⟩, js3, rfl⟩
    · have hd2 := hd (Int.not_lt.1 hk)
      have hg5 : vc .lss (vgd o2 J) (vgd o2 j0) = false := by rw [hg4, hg2, hg3]; exact decide_eq_false hk
      have hl4 : J < vln o2 := by rw [hvo2]; exact hjo
      have hl5 : j0 < vln o2 := by rw [hvo2]; exact hj0o
      clear hdone hg0 hadd hsub hgt0 f3 hd hnext hg2 hg3 hg4 hk hst1 hvo3 hvo2 hlsI hvgd
      cbv
      rw [hg1]
      cbv
      rw [← hwI, htj, htw, hadd0, hadd0]
      refine ⟨hrj, ⟨hl4⟩, ⟨hl4⟩, hrw, ⟨hl5⟩, ⟨hl5⟩, ?_⟩
      rw [hg5]
      cbv
      obtain ⟨u, hu⟩ : ∃ u, u = vb .add .i64 iI 1 := ⟨_, rfl⟩
      rw [← hu]
      have hnx' := hnx u hu
      refine Cv.fold ([5, 6] ++ [7, 8, 9, 10, 11, 12, 13, 14, 15, 16, 17, 18, 19, 20, 21, 22, 23, 24, 25, 26, 27, 28, 29, 30, 31, 32, 33, 34, 35, 36, 37, 38, 39, 40, 41, 42, 43, 44, 45, 46, 47, 48, 49, 50, 51, 52, 53, 54, 55, 56, 57, 58, 59, 60, 61]) 2 [1] (by exact Nat.le_refl _) (by exact Nat.le_of_ble_eq_true rfl) (by rfl) (by cbv) ?_
      intro js3
      exact ⟨(_, i1, _, _, _, _), ⟨⟨hnx', hmu.1, f2.symm, hcc', hd2⟩, hmu.2⟩, js3, rfl⟩
end Go.Proofs.Ytodobmkflimfkaa
namespace Go.Proofs.Ytodobmkflimfkaa
open Go Go.Sx Go.Proofs
/-! The same coins, sorted: the same row; the rows ahead of a row. -/
theorem sorted_ge {l : List Int} {n : Nat} {k k' : Nat → Int} {s s' : Nat → Nat} (h : CoinsTo l l.length n k s) (h' : CoinsTo l l.length n k' s') (hs : ∀ x y, x < y → y < n → k x ≤ k y) (hs' : ∀ x y, x < y → y < n → k' x ≤ k' y) : ∀ i, i < n → k' i ≤ k i := by
  intro i hi
  refine Classical.byContradiction fun hno => ?_
  have key : ∀ t, ∃ m, t < n - i → (m < n ∧ s m = s' (i + t) ∧ i < m) := fun t => by
    by_cases ht : t < n - i
    · obtain ⟨p1, p2, p3⟩ := h'.pos (i + t) (by omega)
      obtain ⟨m, h1, h2⟩ := h.all (s' (i + t)) p3 (by rw [← p2]; exact p1)
      refine ⟨m, fun _ => ⟨h1, h2, Classical.byContradiction fun hm => ?_⟩⟩
      obtain ⟨_, q2, _⟩ := h.pos m h1
      rw [h2, ← p2] at q2
      have e1 : k' i ≤ k' (i + t) := le_of_srt hs' (by omega) (by omega)
      have e2 : k m ≤ k i := le_of_srt hs (by omega) hi
      omega
    · exact ⟨0, fun h => absurd h ht⟩
  obtain ⟨f, hf⟩ : ∃ f : Nat → Nat, ∀ t, t < n - i → (f t < n ∧ s (f t) = s' (i + t) ∧ i < f t) := ⟨fun t => Classical.choose (key t), fun t => Classical.choose_spec (key t)⟩
  obtain ⟨t, ht, e⟩ := inj_surj (n - i) (fun t => f t - (i + 1)) (fun t ht => by obtain ⟨a, _, c⟩ := hf t ht; show f t - (i + 1) < n - i; omega) (fun a b ha hb e => by
    obtain ⟨a1, a2, a3⟩ := hf a ha
    obtain ⟨b1, b2, b3⟩ := hf b hb
    have e' : f a - (i + 1) = f b - (i + 1) := e
    have : f a = f b := by omega
    rw [this, b2] at a2
    have := h'.inj (i + b) (i + a) (by omega) (by omega) a2
    omega) (n - i - 1) (by omega)
  obtain ⟨a, _, c⟩ := hf t ht
  have e' : f t - (i + 1) = n - i - 1 := e
  omega
theorem SrtIn.uniq {l : List Int} {o : List Int} {p : Nat → Nat} (h : SrtIn l l.length o p) {n : Nat} {kc : Nat → Int} {sc : Nat → Nat} (hc : CoinsTo l l.length n kc sc) (hs : ∀ x y, x < y → y < n → kc x ≤ kc y) : o.length = n ∧ ∀ i, i < n → o.getD i 0 = kc i := by
  have hn : o.length = n := by rw [h.co.num, hc.num]
  refine ⟨hn, fun i hi => ?_⟩
  have h1 := h.co
  have h2 := h.srt
  rw [hn] at h1 h2
  have a1 := sorted_ge h1 hc h2 hs i hi
  have a2 := sorted_ge hc h1 hs h2 i hi
  show o.getD i 0 = kc i
  omega
theorem RowP.under {n : Nat} {kc : Nat → Int} {sc : Nat → Nat} : ∀ {L N : Nat} {K : Nat → Int} {S : Nat → List Int}, RowP n kc sc L N K S → ∀ j, 1 ≤ j → j ≤ L → ∃ N' K' S', RowP n kc sc j N' K' S' := by
  intro L N K S h
  induction h with
  | one h => intro j h1 h2; obtain rfl : j = 1 := by omega
             exact ⟨_, _, _, .one h⟩
  | @next j0 N N' K k0 K' S S0 S' q h hN hc hp h1 h2 h3 h4 hs ih =>
    intro j e1 e2
    by_cases e : j = j0 + 1
    · subst e; exact ⟨_, _, _, .next h hN hc hp h1 h2 h3 h4 hs⟩
    · exact ih j e1 (by omega)
/-- The document's rows stay small. -/
theorem RW.small {n : Nat} {kc : Nat → Int} {sc : Nat → Nat} (hk : Coins n kc 4294967295) (hn : n ≤ 32768) {A : List Int} (hA : A.length = n) (hA2 : ∀ i, i < n → A.getD i 0 = kc i) {L N : Nat} (hL : L ≤ 15) {K : Nat → Int} {S : Nat → List Int} (hP : RowP n kc sc L N K S) {j : Nat} (hj : j ≤ L) {R : List Int} (hR : RW A j R) :
    n ≤ R.length ∧ R.length ≤ 65536 ∧ ∀ t, t < R.length → 0 ≤ R.getD t 0 ∧ R.getD t 0 ≤ 70368744161280 := by
  obtain ⟨N', K', S', hP'⟩ := hP.under j hR.one_le hj
  obtain ⟨_, hb⟩ := hP'.basic hk (by decide)
  obtain ⟨r1, r2⟩ := RW.row hk (by decide) hA hA2 hP' R hR
  have b1 := hb.n1
  have b2 := hb.n2
  refine ⟨by omega, by omega, fun t ht => ?_⟩
  have e1 := hb.pos t (by omega)
  have e2 := hb.le t (by omega)
  have e4 : (2 : Nat) ^ (j - 1) ≤ 2 ^ 14 := Nat.pow_le_pow_right (by omega) (by omega)
  have e5 : (4294967295 : Int) * ((2 ^ (j - 1) : Nat) : Int) ≤ 4294967295 * 16384 := Int.mul_le_mul_of_nonneg_left (by omega) (by decide)
  rw [r2 t (by omega)]
  omega
theorem viewRfl (l : List Int) : View 0 l l := ⟨⟨by omega, fun i _ => by rw [Nat.zero_add]⟩⟩
end Go.Proofs.Ytodobmkflimfkaa
namespace Go.Proofs.Ytodobmkflimfkaa
open Go Go.Sx Go.Proofs
/-! The document's Least (20). -/
set_option maxRecDepth 100000 in
set_option maxHeartbeats 8000000 in
theorem least_con (l : List Int) (most : Int) (cap : Nat) (hl : ∀ c ∈ l, 0 ≤ c ∧ c < 4294967296) (ha : Abl l most) {n N : Nat} {kc : Nat → Int} {sc : Nat → Nat} {K : Nat → Int} {S : Nat → List Int} (hk : Coins n kc 4294967295) (hco : CoinsTo l l.length n kc sc) (hP : RowP n kc sc most.toNat N K S) (hN : 2 * n - 2 ≤ N) :
    Con Try.prog 20 [.slice 0 .z 1 l.length cap, .int .i64 most] [.ro .u32 l] (fun v H R => v = .int .u64 (sumN K (2 * n - 2)) ∧ H = [.ro .u32 l] ∧ R = []) := by
  obtain ⟨a1, a2, a3, a4, a5⟩ := ha
  have hnum : n = numP l := by rw [hco.num, List.take_length]
  rw [← hnum] at a4 a5
  have hn15 : n ≤ 32768 := by have : 2 ^ most.toNat ≤ 2 ^ 15 := Nat.pow_le_pow_right (by omega) (by omega); omega
  have hsrt := (sorted_con l cap hl (by omega)).mono (Post' := fun v H R => R = [] ∧ ∃ o c p ol, v = .slice 1 .z 1 ol c ∧ ol = o.length ∧ ol ≤ c ∧ H = [.ro .u32 l, .buf 31 .u64 o c] ∧ SrtIn l l.length o p) (by
    rintro v H R ⟨rfl, o, c, p, rfl, h1, rfl, h2⟩; exact ⟨rfl, o, c, p, _, rfl, rfl, h1, rfl, h2⟩)
  obtain ⟨L, hL⟩ : ∃ L, L = most.toNat := ⟨_, rfl⟩
  have hLm : most = (L : Int) := by omega
  have hL15 : 1 ≤ L ∧ L ≤ 15 := by omega
  rw [← hL] at hP a5
  have huni : ∀ {o : List Int} {p : Nat → Nat}, SrtIn l l.length o p → o.length = n ∧ ∀ i, i < n → o.getD i 0 = kc i := fun h => h.uniq hco hk.srt
  have hsm : ∀ (A : List Int), A.length = n → (∀ i, i < n → A.getD i 0 = kc i) → ∀ (j : Nat) (R : List Int), j ≤ L → RW A j R → n ≤ R.length ∧ R.length ≤ 65536 ∧ ∀ t, t < R.length → 0 ≤ R.getD t 0 ∧ R.getD t 0 ≤ 70368744161280 := fun A h1 h2 j R h3 h4 => RW.small hk hn15 h1 h2 hL15.2 hP h3 h4
  have hfin : ∀ (A : List Int), A.length = n → (∀ i, i < n → A.getD i 0 = kc i) → ∀ (R : List Int), RW A L R → sumN (fun t => R.getD t 0) (2 * n - 2) = sumN K (2 * n - 2) ∧ 2 * n - 2 ≤ R.length := fun A h1 h2 R h3 => by
    obtain ⟨r1, r2⟩ := RW.row hk (by decide) h1 h2 hP R h3
    exact ⟨sumN_ext _ (fun t ht => r2 t (by omega)), by omega⟩
  have hmrg : ∀ (A B : List Int) (al bl c1 c2 : Nat), al = A.length → bl = B.length → al ≤ 1000000 → bl ≤ 1000000 → 0 < al → Con Try.prog 66 [.slice 0 .z 1 al c1, .slice 1 .z 1 bl c2] [.ro .u64 A, .ro .u64 B]
      (fun v H R => R = [] ∧ ∃ out c ol, v = .slice 2 .z 1 ol c ∧ ol = out.length ∧ ol ≤ c ∧ H = [.ro .u64 A, .ro .u64 B, .buf 31 .u64 out c] ∧ MG A B A.length B.length out) := fun A B al bl c1 c2 h1 h2 h3 h4 h5 => by
    subst h1 h2
    exact (merged_con A B c1 c2 h3 h4 h5).mono (by rintro v H R ⟨rfl, out, c, rfl, k1, rfl, k2⟩; exact ⟨rfl, out, c, _, rfl, rfl, k1, rfl, k2⟩)
  clear hco hP hk hN hnum hl a5
  refine con_gen (con_cut 1 (by simp) (con_drop (con_walk hmix fn20 ?_)))
  intro vb vc vw vtoN vofN vaddN vsubN vmaxI vminI vcutN vgd vst vln vrep vsub vonto vsplice vstrEq vbyteV vnotB veqB hw qb qc qw qtoN qofN qaddN qsubN qmaxI qminI qcutN qgd qst qln qrep qsub qonto qsplice qstrEq qbyteV qnotB qeqB
  have hm := hmix; generalize Try.prog = P at *
  have hadd : ∀ (x y : Int) (i j : Nat), x = i → y = j → i + j < 100000000 → vb .add .i64 x y = ((i + j : Nat) : Int) := fun x y i j h1 h2 h => by rw [qb, add_i64 (by omega) (by omega)]; omega
  have hadd0 : ∀ i, vaddN 0 i = i := fun i => by simp only [qaddN, Nat.zero_add]
  have hlss : ∀ (x y : Int) (i j : Nat), x = i → y = j → vc .lss x y = decide (i < j) := fun x y i j h1 h2 => by rw [qc]; exact lss_nat h1 h2
  have hto : ∀ (x : Int) (i : Nat), x = i → vtoN x = i := fun x i h => by rw [qtoN, h]; rfl
  have hsub1 : ∀ x : Int, vsub [x] 0 1 = [x] := fun x => by rw [qsub]; rfl
  have hvl1 : ∀ x : Int, vln [x] = 1 := fun x => by rw [qln]; rfl
  have hon : ∀ (o : List Int) (x : Int), vonto o o.length [x] = o ++ [x] := fun o x => by rw [qonto]; simp
  have hvl : ∀ o : List Int, vln o = o.length := fun o => by rw [qln]
  have hvgd : ∀ (l : List Int) i, vgd l i = l.getD i 0 := fun l i => by rw [qgd]
  have hofn : ∀ m : Nat, vofN m = (m : Int) := fun m => by rw [qofN]
  obtain ⟨T, hT⟩ : ∃ T, T = 2 * n - 2 := ⟨_, rfl⟩
  rw [← hT] at hfin
  rw [← hT]
  obtain ⟨ll, hll⟩ : ∃ ll, ll = l.length := ⟨_, rfl⟩
  rw [← hll] at hsrt huni
  rw [← hll]
  clear a1 a2 a3 hL
  generalize hSI : @SrtIn = SI at *
  generalize hRW : @RW = RWW at *
  generalize hMG : @MG = MM at *
  generalize hSN : @sumN = SN at *
  cbv
  refine call_con (ρ := [(0, .z)]) hsrt ⟨by rfl, by rfl, by rfl, by cbv; exact ⟨viewRfl _, trivial⟩⟩ ?_
  rintro v H R js ⟨rfl, A, ca, p, al, rfl, hal, hca, rfl, hA⟩
  obtain ⟨hA1, hA2⟩ := huni hA
  have hAp : 0 < A.length := by omega
  have han : al = n := by rw [hal, hA1]
  have hap : 0 < al := by omega
  have hsm1 := hsm A hA1 hA2
  have hfin1 := hfin A hA1 hA2
  have hmr1 := fun (B : List Int) (bl c1 c2 : Nat) (hbl : bl = B.length) (hB : bl ≤ 1000000) => hmrg A B al bl c1 c2 hal hbl (by omega) hB hap
  have hone : RWW A 1 A := by rw [← hRW]; exact .one
  have hnext : ∀ {j : Nat} {R B R' : List Int}, RWW A j R → B.length = R.length / 2 → (∀ e, e < R.length / 2 → B.getD e 0 = R.getD (2 * e) 0 + R.getD (2 * e + 1) 0) → MM A B A.length B.length R' → RWW A (j + 1) R' := fun h1 h2 h3 h4 => by rw [← hRW] at h1 ⊢; rw [← hMG] at h4; exact .next h1 h2 h3 h4
  clear hsm hfin huni hmrg hsrt hA hA2
  cbv
  refine WX.cv (Cv.frz1 (b := 1) (C := .ints .u64 A) (by rfl) rfl (by simp) rfl (fun σ w h => frz_buf hAp h) (fun id hid => ?_))
  refine Cv.warm 5 1 (id := id) (len := al) (cap := ca) (B := .ro .u64 A) (by rfl) (updC_new _ _ _) (fun σ w h => warm_ints h) rfl (by cbv) (Cv.here ?_)
  have hinv0 : (1 : Int) = ((1 : Nat) : Int) ∧ 1 ≤ 1 ∧ 1 ≤ L ∧ al = A.length ∧ updC (fun _ => none) id (.ints .u64 A) id = some (.ints .u64 A) ∧ RWW A 1 A := ⟨rfl, by omega, hL15.1, hal, updC_new _ _ _, hone⟩
  generalize updC (fun _ => none) id (.ints .u64 A) = c0 at *
  clear hone hid
  have hnL : 2 ≤ n ∧ n ≤ 32768 := ⟨a4, hn15⟩
  clear a4 hn15
  cbv
  refine loop_famC (α := Int × Nat × List Int × Nat × Nat × Nat × (Nat → Option CB)) ([8, 9] ++ [13, 14, 15, 16, 17, 18, 19, 20, 21, 22, 23, 24, 25, 26, 27, 28, 29, 30, 31, 32, 33, 34, 35, 36, 37, 38, 39, 40, 41, 42]) [3]
    (fun (jI, j, R, rl, idr, capr, c) => [(7, .int .i64 jI), (6, .val (.slice (some ⟨idr, 0, none⟩) rl capr))])
    (fun _ => [])
    (fun (jI, j, R, rl, idr, capr, c) => c)
    (fun (jI, j, R, rl, idr, capr, c) => jI = j ∧ 1 ≤ j ∧ j ≤ L ∧ rl = R.length ∧ c idr = some (.ints .u64 R) ∧ RWW A j R)
    (fun (jI, j, R, rl, idr, capr, c) => L - j) hw hm ?_ ?_
  · refine Cv.genAt [7] [] (Cv.fold ([8, 9] ++ [13, 14, 15, 16, 17, 18, 19, 20, 21, 22, 23, 24, 25, 26, 27, 28, 29, 30, 31, 32, 33, 34, 35, 36, 37, 38, 39, 40, 41, 42]) 3 [3] (by exact Nat.le_refl _) (by exact Nat.le_of_ble_eq_true rfl) (by rfl) (by cbv) ?_)
    intro js2
    exact ⟨(_, 1, _, _, _, _, _), hinv0, js2, rfl⟩
  clear hinv0
  rintro ⟨jI, j, R, rl, idr, capr, c⟩ js2 ⟨g1, g2, g3, g4, g5, g6⟩
  have hcj := hlss jI most j L g1 hLm
  obtain ⟨q1, q2, q3⟩ := hsm1 j R g3 g6
  obtain ⟨rI, hrI⟩ : ∃ rI, rI = vofN rl := ⟨_, rfl⟩
  have hrI' : rI = (rl : Int) := by rw [hrI, hofn]
  by_cases hj : j < L
  · have hc1 : vc .lss jI most = true := by rw [hcj]; exact decide_eq_true hj
    obtain ⟨j1, hj1⟩ : ∃ j1, j1 = j + 1 := ⟨_, rfl⟩
    have hnx : ∀ u : Int, u = vb .add .i64 jI 1 → (u = (j1 : Int) ∧ 1 ≤ j1 ∧ j1 ≤ L) ∧ L - j1 < L - j := fun u hu => ⟨⟨by rw [hu, hj1]; exact hadd jI 1 j 1 g1 rfl (by omega), by omega, by omega⟩, by omega⟩
    have hbnd : rl ≤ 65536 := by omega
    have hst : ∀ e, 2 * e + 1 < rl → vb .add .u64 (vgd R (2 * e)) (vgd R (2 * e + 1)) = R.getD (2 * e) 0 + R.getD (2 * e + 1) 0 := fun e he => by
      have e1 := q3 (2 * e) (by omega)
      have e2 := q3 (2 * e + 1) (by omega)
      rw [hvgd, hvgd, qb]; exact wrap_u64 (by omega) (by omega)
    have hnx2 : ∀ (B R' : List Int), B.length = rl / 2 → (∀ e, e < rl / 2 → B.getD e 0 = R.getD (2 * e) 0 + R.getD (2 * e + 1) 0) → MM A B A.length B.length R' → RWW A j1 R' ∧ 0 < R'.length := fun B R' h1 h2 h3 => by
      rw [g4] at h1 h2
      have h4 := hnext g6 h1 h2 h3
      rw [hj1]
      exact ⟨h4, by
        rw [← hMG] at h3
        have := h3.len.2.2.1
        omega⟩
    have hinv1 : (0 : Int) = ((0 : Nat) : Int) ∧ 0 ≤ rl / 2 ∧ 0 = 2 * 0 ∧ 0 = ([] : List Int).length ∧ ([] : List Int).length = 0 ∧ 0 ≤ 0 ∧ ∀ d, d < 0 → ([] : List Int).getD d 0 = R.getD (2 * d) 0 + R.getD (2 * d + 1) 0 := ⟨rfl, Nat.zero_le _, rfl, rfl, rfl, Nat.le_refl _, fun d hd => absurd hd (Nat.not_lt_zero d)⟩
    have hvr : vln R = rl := by rw [hvl, g4]
    clear hcj q1 q2 q3 hnext hfin1 hsm1 g6
    have hhf : ∀ e, e < rl / 2 ↔ 2 * e + 1 < rl := fun e => by omega
    have hfl : rl / 2 ≤ 40000 := by omega
    generalize rl / 2 = hf2 at *
    cbv
    rw [hc1]
    cbv
    refine WX.cv (Cv.nilT 8 31 .u64 (by rfl) (by cbv) (Cv.warm 6 1 (id := idr) (len := rl) (cap := capr) (B := .ro .u64 R) (by rfl) g5 (fun σ w h => warm_ints h) rfl (by cbv) (Cv.here ?_)))
    cbv
    refine loop_fam (α := Int × Nat × Nat × List Int × Nat × Nat) [20, 21, 22, 23, 24, 25, 26, 27, 28, 29, 30, 31, 32, 33, 34, 35, 36, 37, 38, 39] [3]
      (fun (kI, e, E, B, bl, cb) => [(9, .int .i64 kI), (8, .slice 3 .z 1 bl cb)])
      (fun (kI, e, E, B, bl, cb) => [(3, .buf 31 .u64 B cb)])
      (fun (kI, e, E, B, bl, cb) => kI = (E : Int) ∧ e ≤ hf2 ∧ E = 2 * e ∧ bl = B.length ∧ B.length = e ∧ bl ≤ cb ∧ ∀ d, d < e → B.getD d 0 = R.getD (2 * d) 0 + R.getD (2 * d + 1) 0)
      (fun (kI, e, E, B, bl, cb) => hf2 - e) hw hm ?_ ?_
    · refine Cv.genAt [9] [] (Cv.fold [20, 21, 22, 23, 24, 25, 26, 27, 28, 29, 30, 31, 32, 33, 34, 35, 36, 37, 38, 39] 5 [3] (by exact Nat.le_refl _) (by exact Nat.le_of_ble_eq_true rfl) (by rfl) (by cbv) ?_)
      intro js3
      exact ⟨(_, 0, 0, _, _, _), hinv1, js3, rfl⟩
    clear hinv1
    rintro ⟨kI, e, E, B, bl, cb⟩ js3 ⟨h1, h2, h3, h4, h5, h6, h7⟩
    obtain ⟨k1I, hk1⟩ : ∃ u, u = vb .add .i64 kI 1 := ⟨_, rfl⟩
    obtain ⟨E1, hE1⟩ : ∃ E1, E1 = E + 1 := ⟨_, rfl⟩
    have hk1' : k1I = (E1 : Int) := by rw [hk1, hE1]; exact hadd kI 1 E 1 h1 rfl (by omega)
    have hck := hlss k1I rI E1 rl hk1' hrI'
    by_cases he : e < hf2
    · have heR := (hhf e).1 he
      have hc2 : vc .lss k1I rI = true := by rw [hck]; exact decide_eq_true (by omega)
      have ht0 := hto kI E h1
      have ht1 := hto k1I E1 hk1'
      have hr0 : InR kI rl := ⟨by omega⟩
      have hr1 : InR k1I rl := ⟨by omega⟩
      have hl0 : E < rl := by omega
      have hl1 : E1 < rl := by omega
      have hsum := hst e heR
      rw [← h3, ← hE1] at hsum
      obtain ⟨x, hx⟩ : ∃ x, x = R.getD E 0 + R.getD E1 0 := ⟨_, rfl⟩
      rw [← hx] at hsum
      obtain ⟨bl1, hbl1⟩ : ∃ b, b = vaddN bl 1 := ⟨_, rfl⟩
      have hbl2 : bl1 = bl + 1 := by rw [hbl1, qaddN]
      obtain ⟨B1, hB1⟩ : ∃ B1, B1 = B ++ [x] := ⟨_, rfl⟩
      have hon1 : vonto B bl [x] = B1 := by rw [h4, hB1]; exact hon B x
      have hvo : bl ≤ vln B := by rw [hvl, h4]; exact Nat.le_refl _
      have hfit : Fits bl1 8 := ⟨by omega⟩
      obtain ⟨e1, he1⟩ : ∃ e1, e1 = e + 1 := ⟨_, rfl⟩
      obtain ⟨E2, hE2⟩ : ∃ E2, E2 = E + 2 := ⟨_, rfl⟩
      have hk2 : ∀ u : Int, u = vb .add .i64 kI 2 → u = (E2 : Int) := fun u hu => by rw [hu, hE2]; exact hadd kI 2 E 2 h1 rfl (by omega)
      have hB1l : B1.length = e1 := by rw [hB1, List.length_append, he1, h5]; rfl
      have hinv : e1 ≤ hf2 ∧ E2 = 2 * e1 ∧ bl1 = B1.length ∧ B1.length = e1 ∧ ∀ d, d < e1 → B1.getD d 0 = R.getD (2 * d) 0 + R.getD (2 * d + 1) 0 := ⟨by omega, by omega, by omega, hB1l, fun d hd => by
        rw [hB1, getD_snoc B x d (by omega)]
        by_cases hde : d = e
        · rw [if_pos (by omega), hx, hde, h3] at *; rw [hE1]
        · rw [if_neg (by omega)]; exact h7 d (by omega)⟩
      have hmu : hf2 - e1 < hf2 - e := by omega
      clear hck hst hnx2 h7 hx hB1 hB1l he1 hE2 hlss hto hadd hhf hnx hon
      cbv
      rw [← hk1, ← hrI, hc2]
      cbv
      rw [← hk1, ht0, ht1, hadd0, hadd0, hvr]
      refine ⟨hr0, ⟨hl0⟩, ⟨hl0⟩, hr1, ⟨hl1⟩, ⟨hl1⟩, ?_⟩
      rw [hsum]
      refine ⟨⟨⟨hl1⟩, trivial⟩, ⟨⟨hl0⟩, trivial⟩, ⟨by rw [hadd0, hvl1]; exact Nat.le_refl 1⟩, ⟨hvo⟩, ⟨Nat.le_refl _⟩, by rw [← hbl1]; exact hfit, ?_⟩
      intro cc jv hcc
      have hcc' : bl1 ≤ cc := by rw [hbl1]; exact hcc.out
      clear hcc
      cbv
      rw [hsub1, ← hbl1, hon1, hvr]
      refine ⟨⟨⟨hl1⟩, trivial⟩, ⟨⟨hl0⟩, trivial⟩, ?_⟩
      obtain ⟨k2I, hk2I⟩ : ∃ u, u = vb .add .i64 kI 2 := ⟨_, rfl⟩
      rw [← hk2I]
      have hk2' := hk2 k2I hk2I
      refine Cv.fold [20, 21, 22, 23, 24, 25, 26, 27, 28, 29, 30, 31, 32, 33, 34, 35, 36, 37, 38, 39] 5 [3] (by exact Nat.le_refl _) (by exact Nat.le_of_ble_eq_true rfl) (by rfl) (by cbv) ?_
      intro js4
      exact ⟨(_, e1, E2, B1, bl1, cc), ⟨⟨hk2', hinv.1, hinv.2.1, hinv.2.2.1, hinv.2.2.2.1, hcc', hinv.2.2.2.2⟩, hmu⟩, js4, rfl⟩
    · have hc2 : vc .lss k1I rI = false := by rw [hck]; exact decide_eq_false (by have := (hhf e).2; omega)
      have heh : e = hf2 := by omega
      have hcall := hmr1 B bl ca cb h4 (by omega)
      have hnx3 := fun R' => hnx2 B R' (by rw [h5, heh]) (fun d hd => h7 d (by omega))
      clear hck hst hnx2 h7 hlss hto hadd hhf hon he hmr1
      cbv
      rw [← hk1, ← hrI, hc2]
      cbv
      refine call_con (ρ := [(2, .z), (3, .z)]) hcall ⟨by rfl, by rfl, by rfl, by cbv; exact ⟨viewRfl _, viewRfl _, trivial⟩⟩ ?_
      rintro v H R2 js4 ⟨rfl, R', c2, rl2, rfl, hrl2, hc22, rfl, hMM⟩
      obtain ⟨hRW2, hpos⟩ := hnx3 R' hMM
      have hupd : ∀ id2 : Nat, updC c id2 (.ints .u64 R') id2 = some (.ints .u64 R') := fun id2 => updC_new _ _ _
      cbv
      obtain ⟨u, hu⟩ : ∃ u, u = vb .add .i64 jI 1 := ⟨_, rfl⟩
      rw [← hu]
      have hnx' := hnx u hu
      refine Cv.frz1 (b := 5) (C := .ints .u64 R') (by rfl) rfl (by simp) rfl (fun σ w h => frz_buf hpos h) (fun id2 hid2 => ?_)
      refine Cv.fold ([8, 9] ++ [13, 14, 15, 16, 17, 18, 19, 20, 21, 22, 23, 24, 25, 26, 27, 28, 29, 30, 31, 32, 33, 34, 35, 36, 37, 38, 39, 40, 41, 42]) 3 [3] (by exact Nat.le_refl _) (by exact Nat.le_of_ble_eq_true rfl) (by rfl) (by cbv) ?_
      intro js5
      exact ⟨(_, j1, R', rl2, id2, c2, _), ⟨⟨hnx'.1.1, hnx'.1.2.1, hnx'.1.2.2, hrl2, hupd id2, hRW2⟩, hnx'.2⟩, js5, rfl⟩
  · have hc1 : vc .lss jI most = false := by rw [hcj]; exact decide_eq_false hj
    have hjL : j = L := Nat.le_antisymm g3 (Nat.le_of_not_lt hj)
    rw [hjL] at g6
    obtain ⟨hfin2, hTl⟩ := hfin1 R g6
    obtain ⟨f, hf⟩ : ∃ f : Nat → Int, f = fun t => R.getD t 0 := ⟨_, rfl⟩
    rw [← hf] at hfin2
    have hvf : ∀ i, vgd R i = f i := fun i => by rw [hvgd, hf]
    have hvr : vln R = rl := by rw [hvl, g4]
    have hTrl : T ≤ rl := by omega
    have hstep : ∀ (t : Nat) (a : Int), t < T → a = SN f t → vb .add .u64 a (f t) = SN f (t + 1) := fun t a ht ha => by
      rw [← hSN] at ha ⊢
      have hb := fun i (hi : i < T) => q3 i (by omega)
      have e1 := sumN_bound (f := f) (C := 70368744161280) t (fun i hi => by rw [hf]; exact hb i (by omega))
      have e2 := hb t ht
      have e3 : f t = R.getD t 0 := by rw [hf]
      rw [qb]
      show IntKind.u64.wrap (a + f t) = sumN f t + f t
      rw [ha, e3]
      rw [e3] at *
      exact wrap_u64 (by omega) (by omega)
    obtain ⟨aI, haI⟩ : ∃ aI, aI = vofN al := ⟨_, rfl⟩
    obtain ⟨TI, hTI⟩ : ∃ TI, TI = vb .mul .i64 2 (vb .sub .i64 aI 1) := ⟨_, rfl⟩
    have hTI' : TI = (T : Int) := by
      have e1 : aI = (n : Int) := by rw [haI, hofn, han]
      rw [hTI, qb, e1, sub_i64 (by omega) (by omega), mul_i64 (by omega) (by omega)]; omega
    have hinv1 : (0 : Int) = ((0 : Nat) : Int) ∧ (0 : Int) = SN f 0 ∧ 0 ≤ T := ⟨rfl, by rw [← hSN]; rfl, Nat.zero_le _⟩
    have hbT : T ≤ 65536 := by omega
    clear hcj hf hfin1 hsm1 hmr1 hnext q3
    cbv
    rw [hc1]
    cbv
    refine WX.cv (Cv.warm 6 1 (id := idr) (len := rl) (cap := capr) (B := .ro .u64 R) (by rfl) g5 (fun σ w h => warm_ints h) rfl (by cbv) (Cv.here ?_))
    cbv
    refine loop_fam (α := Int × Int × Nat) [43, 44, 45, 46, 47, 48, 49, 50, 51, 52, 53, 54, 55, 56, 57] [3]
      (fun (kI, a, k) => [(11, .int .i64 kI), (10, .int .u64 a)])
      (fun _ => [])
      (fun (kI, a, k) => kI = k ∧ a = SN f k ∧ k ≤ T)
      (fun (kI, a, k) => T - k) hw hm ?_ ?_
    · refine Cv.genAt [10, 11] [] (Cv.fold [43, 44, 45, 46, 47, 48, 49, 50, 51, 52, 53, 54, 55, 56, 57] 4 [3] (by exact Nat.le_refl _) (by exact Nat.le_of_ble_eq_true rfl) (by rfl) (by cbv) ?_)
      intro js3
      exact ⟨(_, _, 0), hinv1, js3, rfl⟩
    clear hinv1
    rintro ⟨kI, a, k⟩ js3 ⟨h1, h2, h3⟩
    have hck := hlss kI TI k T h1 hTI'
    by_cases hk : k < T
    · have hc2 : vc .lss kI TI = true := by rw [hck]; exact decide_eq_true hk
      have htk := hto kI k h1
      have hkr : k < rl := by omega
      have hr : InR kI rl := ⟨by omega⟩
      have hst := hstep k a hk h2
      obtain ⟨k1, hk1⟩ : ∃ k1, k1 = k + 1 := ⟨_, rfl⟩
      rw [← hk1] at hst
      have hk2 : ∀ u : Int, u = vb .add .i64 kI 1 → u = (k1 : Int) := fun u hu => by rw [hu, hk1]; exact hadd kI 1 k 1 h1 rfl (by omega)
      have hmu : k1 ≤ T ∧ T - k1 < T - k := by omega
      have hvk := hvf k
      obtain ⟨w, hw1⟩ : ∃ w, w = vb .add .u64 a (f k) := ⟨_, rfl⟩
      rw [← hw1] at hst
      clear hck hstep hvf hadd hlss hto h2 hk1
      cbv
      rw [← haI, ← hTI, hc2]
      cbv
      rw [htk, hadd0, hvr, hvk]
      refine ⟨hr, ⟨hkr⟩, ⟨hkr⟩, ?_⟩
      obtain ⟨u, hu⟩ : ∃ u, u = vb .add .i64 kI 1 := ⟨_, rfl⟩
      rw [← hu, ← hw1]
      have hk2' := hk2 u hu
      refine Cv.fold [43, 44, 45, 46, 47, 48, 49, 50, 51, 52, 53, 54, 55, 56, 57] 4 [3] (by exact Nat.le_refl _) (by exact Nat.le_of_ble_eq_true rfl) (by rfl) (by cbv) ?_
      intro js4
      exact ⟨(_, _, k1), ⟨⟨hk2', hst, hmu.1⟩, hmu.2⟩, js4, rfl⟩
    · have hc2 : vc .lss kI TI = false := by rw [hck]; exact decide_eq_false hk
      have hkT : k = T := Nat.le_antisymm h3 (Nat.le_of_not_lt hk)
      rw [hkT, hfin2] at h2
      clear hck hstep hvf hadd hlss hto
      cbv
      rw [← haI, ← hTI, hc2]
      cbv
      exact ⟨by rw [h2], trivial⟩
end Go.Proofs.Ytodobmkflimfkaa
namespace Go.Proofs.Ytodobmkflimfkaa
open Go Go.Sx Go.Proofs
/-! Lengths make a code (balerref05.Right, 18). -/
def isU8 (x : Int) : Prop := 0 ≤ x ∧ x < 256
def nz (l : List Int) : Nat → Int
  | 0 => 0
  | i + 1 => nz l i + (if l.getD i 0 > 0 then 1 else 0)
def ks (l : List Int) : Nat → Int
  | 0 => 0
  | i + 1 => ks l i + (if l.getD i 0 > 0 then 2 ^ (15 - l.getD i 0).toNat else 0)
/-- Lengths make a code. -/
def Right5 (l : List Int) : Prop := l.length ≤ 1024 ∧ (∀ i, i < l.length → l.getD i 0 ≤ 15) ∧ 2 ≤ nz l l.length ∧ ks l l.length = 32768
theorem pow_up {a : Nat} : ∀ {b : Nat}, a ≤ b → (2 : Int) ^ a ≤ 2 ^ b
  | 0, h => by obtain rfl : a = 0 := by omega
               exact Int.le_refl _
  | b + 1, h => by
    by_cases e : a = b + 1
    · subst e; exact Int.le_refl _
    · have := pow_up (a := a) (b := b) (by omega)
      have hp : (0 : Int) < 2 ^ b := Int.pow_pos (by omega)
      rw [Int.pow_succ]; omega
theorem getD_mem_or5 {l : List Int} (i : Nat) : l.getD i 0 ∈ l ∨ l.getD i 0 = 0 := by
  by_cases h : i < l.length
  · left; simp [List.getD_eq_getElem?_getD, List.getElem?_eq_getElem h]
  · right; simp [List.getD_eq_getElem?_getD, List.getElem?_eq_none (by omega : l.length ≤ i)]
theorem nz_range (l : List Int) : ∀ i : Nat, 0 ≤ nz l i ∧ nz l i ≤ i
  | 0 => by simp [nz]
  | i + 1 => by have := nz_range l i; simp only [nz]; split <;> omega
theorem ks_range (l : List Int) (h0 : ∀ i, 0 ≤ l.getD i 0) : ∀ i : Nat, 0 ≤ ks l i ∧ ks l i ≤ 16384 * i
  | 0 => by simp [ks]
  | i + 1 => by
    have := ks_range l h0 i
    simp only [ks]
    split
    · rename_i h
      have hp : (0 : Int) < 2 ^ (15 - l.getD i 0).toNat := Int.pow_pos (by omega)
      have hq : (2 : Int) ^ (15 - l.getD i 0).toNat ≤ 2 ^ 14 := pow_up (by omega)
      omega
    · omega
theorem getD_u8 {l : List Int} (h : ∀ x ∈ l, isU8 x) (i : Nat) : 0 ≤ l.getD i 0 ∧ l.getD i 0 < 256 := by
  rcases getD_mem_or5 (l := l) i with hh | hh
  · exact h _ hh
  · omega
theorem shl1 {x : Int} (h0 : 0 ≤ x) (h1 : x ≤ 62) : bV .shl .i64 1 x = 2 ^ x.toNat := by
  obtain ⟨n, rfl⟩ : ∃ n : Nat, x = n := ⟨x.toNat, by omega⟩
  have hn : n ≤ 62 := by omega
  show IntKind.i64.wrap (1 * 2 ^ (min ((n : Int).toNat) IntKind.i64.bits)) = 2 ^ ((n : Int).toNat)
  have e : min ((n : Int).toNat) IntKind.i64.bits = n := by simp [IntKind.bits]; omega
  have hp : (2 : Int) ^ n ≤ 2 ^ 62 := pow_up hn
  have hp0 : (0 : Int) < 2 ^ n := Int.pow_pos (by omega)
  rw [e, Int.one_mul, Int.toNat_natCast]
  exact wrap_i64 (by omega) (by omega)
theorem wrap_u8x {x : Int} (h0 : 0 ≤ x) (h1 : x < 256) : IntKind.u8.wrap x = x := by
  simp only [IntKind.wrap, IntKind.bits, IntKind.signed]; simp; omega
theorem sub_u8 {x y : Int} (h0 : 0 ≤ x - y) (h1 : x - y < 256) : bV .sub .u8 x y = x - y := wrap_u8x h0 h1
set_option maxRecDepth 10000
set_option maxHeartbeats 40000000
theorem refright5_con (l : List Int) (cap : Nat) (hl : ∀ c ∈ l, isU8 c) (hlen : l.length ≤ 9223372036854775807) (z : Bool) (hz : z = true ↔ Right5 l) :
    Con Try.prog 18 [.slice 0 .z 1 l.length cap] [.ro .u8 l] (fun v H R => v = .bool z ∧ H = [.ro .u8 l] ∧ R = []) := by
  refine con_gen (con_cut 1 (by simp) (con_drop (con_walk hmix fn18 ?_)))
  intro vb vc vw vtoN vofN vaddN vsubN vmaxI vminI vcutN vgd vst vln vrep vsub vonto vsplice vstrEq vbyteV vnotB veqB hw qb qc qw qtoN qofN qaddN qsubN qmaxI qminI qcutN qgd qst qln qrep qsub qonto qsplice qstrEq qbyteV qnotB qeqB
  have hm := hmix; generalize Try.prog = P at *
  have hge := getD_u8 hl
  have hA : z = true ↔ (l.length ≤ 1024 ∧ (∀ i, i < l.length → l.getD i 0 ≤ 15) ∧ 2 ≤ nz l l.length ∧ ks l l.length = 32768) := hz
  clear hz
  have hzr := nz_range l
  have hkr := ks_range l (fun i => (hge i).1)
  have hz0 : nz l 0 = 0 := rfl
  have hk0 : ks l 0 = 0 := rfl
  have hzs : ∀ i, nz l (i + 1) = nz l i + (if l.getD i 0 > 0 then 1 else 0) := fun _ => rfl
  have hks : ∀ i, ks l (i + 1) = ks l i + (if l.getD i 0 > 0 then 2 ^ (15 - l.getD i 0).toNat else 0) := fun _ => rfl
  generalize nz l = NZ at *
  generalize ks l = KS at *
  generalize hn : l.length = n at *
  have hto : ∀ i : Nat, vtoN (i : Int) = i := fun i => by simp only [qtoN, Int.toNat_natCast]
  have hadd0 : ∀ i, vaddN 0 i = i := fun i => by simp only [qaddN, Nat.zero_add]
  have hvln : vln l = n := by simp only [qln, hn]
  have hvgd : ∀ i, vgd l i = l.getD i 0 := fun i => by simp only [qgd]
  cbv
  obtain ⟨z0, h0, b0⟩ : ∃ z0, vc .gtr (vofN (vln l)) 1024 = z0 ∧ (z0 = true ↔ 1024 < n) := ⟨_, rfl, by rw [hvln, qc, gtr_eq]; simp only [qofN, decide_eq_true_eq, nc]; omega⟩
  rw [hvln] at h0
  rw [h0]
  cases z0
  rotate_left
  · obtain rfl : z = false := by
      cases z
      · rfl
      · have := (hA.1 rfl).1; have := b0.1 rfl; omega
    cbv
  have hn1 : n ≤ 1024 := by
    by_cases h : n ≤ 1024
    · exact h
    · have := b0.2 (by omega); cases this
  cbv
  refine loop_fam (α := Int × Int × Int) [9, 10, 11, 12, 13, 14, 15, 16, 17, 18, 19, 20, 21, 22, 23, 24, 25, 26, 27, 28, 29, 30, 31, 32, 33, 34, 35] [] (fun (k, m, a) => [(5, .int .i64 k), (3, .int .i64 m), (4, .int .i64 a)]) (fun _ => [])
    (fun (k, m, a) => ∃ i : Nat, k = i ∧ i ≤ n ∧ m = NZ i ∧ (i ≤ 1024 → a = KS i) ∧ ∀ j, j < i → l.getD j 0 ≤ 15) (fun (k, _) => n - k.toNat) hw hm ?_ ?_
  · refine Cv.genAt [5, 3, 4] [] (Cv.fold [9, 10, 11, 12, 13, 14, 15, 16, 17, 18, 19, 20, 21, 22, 23, 24, 25, 26, 27, 28, 29, 30, 31, 32, 33, 34, 35] 1 [] (by exact Nat.le_refl _) (by exact Nat.le_of_ble_eq_true rfl) (by rfl) (by cbv) ?_)
    intro js
    refine ⟨(_, _, _), ?_, js, rfl⟩
    exact ⟨0, rfl, by omega, hz0.symm, fun _ => hk0.symm, fun j hj => by omega⟩
  · rintro ⟨k, m, a⟩ js ⟨i, hk, hi, hm1, ha, hj⟩
    have hsi := hzr i
    cbv
    split
    · rename_i hlt
      have hlt : i < n := by rw [qc, lss_true] at hlt; simp only [qofN] at hlt; simp only [nc] at *; omega
      have hti : vtoN k = i := by rw [hk]; exact hto i
      have hinR : 0 ≤ k ∧ k < (n : Int) := by simp only [nc] at *; omega
      obtain ⟨k1, hk1⟩ : ∃ k1 : Int, k1 = ((i + 1 : Nat) : Int) := ⟨_, rfl⟩
      have ek : vb .add .i64 k 1 = k1 := by simp only [nc] at *; rw [qb, add_i64 (by omega) (by omega)]; omega
      have em : vb .add .i64 m 1 = m + 1 := by simp only [nc] at *; rw [qb, add_i64 (by omega) (by omega)]
      have hmu : n - k1.toNat < n - k.toNat := by simp only [nc] at *; omega
      have hzi := hzs i
      have hki := hks i
      have hgi := hge i
      have hri := hkr i
      cbv
      rw [hti, hadd0, hvgd]
      refine ⟨⟨hinR⟩, ⟨by omega⟩, ⟨by omega⟩, ?_⟩
      have hlast : ∀ q, l.getD i 0 = q → (∀ j, j < i + 1 → l.getD j 0 ≤ 15) ∨ 15 < q := fun q hq => by
        by_cases h : q ≤ 15
        · exact .inl fun j h1 => by
            by_cases e : j = i
            · subst e; omega
            · exact hj j (by omega)
        · exact .inr (by omega)
      have hno : 15 < l.getD i 0 → z = false := fun h => by
        cases z
        · rfl
        · have := (hA.1 rfl).2.1 i (by omega); omega
      generalize hci : l.getD i 0 = ci at *
      have hlast := hlast ci rfl
      generalize h15 : vc .gtr ci 15 = z1
      cases z1
      rotate_left
      · rw [qc, gtr_true] at h15
        obtain rfl := hno h15
        cbv
      rw [qc, gtr_false] at h15
      have hlast := hlast.resolve_right (by omega)
      cbv
      rw [hti, hadd0, hvgd, hci]
      refine ⟨⟨hinR⟩, ⟨by omega⟩, ⟨by omega⟩, ?_⟩
      generalize hz : vc .gtr ci 0 = z2
      cases z2
      · rw [qc, gtr_false] at hz
        rw [if_neg (by omega)] at hzi hki
        cbv
        rw [ek]
        refine Cv.fold [9, 10, 11, 12, 13, 14, 15, 16, 17, 18, 19, 20, 21, 22, 23, 24, 25, 26, 27, 28, 29, 30, 31, 32, 33, 34, 35] 1 [] (by exact Nat.le_refl _) (by exact Nat.le_of_ble_eq_true rfl) (by rfl) (by cbv) ?_
        intro js
        refine ⟨(_, _, _), ?_, js, rfl⟩
        exact ⟨⟨i + 1, hk1, hlt, by omega, fun h => by have := ha (by omega); omega, hlast⟩, hmu⟩
      · rw [qc, gtr_true] at hz
        rw [if_pos (by omega)] at hzi hki
        have e1 : vb .sub .u8 15 ci = 15 - ci := by rw [qb]; exact sub_u8 (by omega) (by omega)
        have e2 : vw .u64 (15 - ci) = 15 - ci := by rw [qw]; exact wrap_u64 (by omega) (by omega)
        have e3 : vb .shl .i64 1 (15 - ci) = 2 ^ (15 - ci).toNat := by rw [qb]; exact shl1 (by omega) (by omega)
        have hp : (0 : Int) < 2 ^ (15 - ci).toNat := Int.pow_pos (by omega)
        have hq : (2 : Int) ^ (15 - ci).toNat ≤ 2 ^ 14 := pow_up (by omega)
        generalize (2 : Int) ^ (15 - ci).toNat = pw at *
        cbv
        rw [hti, hadd0, hvgd, hci]
        refine ⟨⟨hinR⟩, ⟨by omega⟩, ⟨by omega⟩, ?_⟩
        rw [ek, em, e1, e2, e3]
        refine ⟨⟨by omega⟩, ?_⟩
        refine Cv.fold [9, 10, 11, 12, 13, 14, 15, 16, 17, 18, 19, 20, 21, 22, 23, 24, 25, 26, 27, 28, 29, 30, 31, 32, 33, 34, 35] 1 [] (by exact Nat.le_refl _) (by exact Nat.le_of_ble_eq_true rfl) (by rfl) (by cbv) ?_
        intro js
        refine ⟨(_, _, _), ?_, js, rfl⟩
        refine ⟨⟨i + 1, hk1, hlt, by omega, fun h => ?_, hlast⟩, hmu⟩
        have := ha (by omega)
        simp only [nc] at *
        rw [qb, add_i64 (by omega) (by omega)]; omega
    · rename_i hge1
      have hin : i = n := by rw [qc, lss_false] at hge1; simp only [qofN] at hge1; simp only [nc] at *; omega
      subst hin
      have hand : ∀ z1 z2 z3 : Bool, (z1 = true ↔ i ≤ 1024) → (z2 = true ↔ 2 ≤ m) → (z3 = true ↔ a = 32768) → z = (if z1 then (if z2 then z3 else false) else false) := by
        intro z1 z2 z3 h1 h2 h3
        subst hm1
        cases z1
        · cases z
          · rfl
          · have := (hA.1 rfl).1; simp only [Bool.false_eq_true, false_iff] at h1; omega
        · cases z2
          · cases z
            · rfl
            · have := (hA.1 rfl).2.2.1; simp only [Bool.false_eq_true, false_iff] at h2; omega
          · have h4 := ha (h1.1 rfl)
            cases z3
            · cases z
              · rfl
              · have := (hA.1 rfl).2.2.2; simp only [Bool.false_eq_true, false_iff] at h3; omega
            · have := hA.2 ⟨h1.1 rfl, hj, h2.1 rfl, by rw [← h4]; exact h3.1 rfl⟩
              simp [this]
      obtain ⟨z1, h1, b1⟩ : ∃ z1, vc .leq (vofN i) 1024 = z1 ∧ (z1 = true ↔ i ≤ 1024) := ⟨_, rfl, by rw [qc, leq_eq]; simp only [qofN, decide_eq_true_eq, nc]; omega⟩
      obtain ⟨z2, h2, b2⟩ : ∃ z2, vc .geq m 2 = z2 ∧ (z2 = true ↔ 2 ≤ m) := ⟨_, rfl, by rw [qc, geq_eq]; simp only [decide_eq_true_eq, ge_iff_le]⟩
      obtain ⟨z3, h3, b3⟩ : ∃ z3, vc .eql a 32768 = z3 ∧ (z3 = true ↔ a = 32768) := ⟨_, rfl, by rw [qc, eql_eq]; simp only [decide_eq_true_eq]⟩
      have hand := hand z1 z2 z3 b1 b2 b3
      cbv
      rw [h2]
      obtain rfl : z1 = true := b1.2 hn1
      cases z2
      · obtain rfl : z = false := hand
        cbv
      · cbv
        rw [h3]
        obtain rfl : z = z3 := hand
        cbv
end Go.Proofs.Ytodobmkflimfkaa
namespace Go.Proofs.Ytodobmkflimfkaa
open Go Go.Sx Go.Proofs
/-! What Limit answers makes a code; balerlaw05.wakes. -/
theorem sumN_mul (c : Int) (f : Nat → Int) : ∀ n, sumN (fun i => c * f i) n = c * sumN f n
  | 0 => by simp [sumN]
  | n + 1 => by simp only [sumN]; rw [sumN_mul c f n, Int.mul_add]
theorem ks_sumN (o : List Int) : ∀ n, ks o n = sumN (fun s => if 0 < o.getD s 0 then (2 : Int) ^ (15 - o.getD s 0).toNat else 0) n
  | 0 => rfl
  | n + 1 => by simp only [ks, sumN]; rw [ks_sumN o n]
theorem nz_sumN (o : List Int) : ∀ n, nz o n = sumN (fun s => if 0 < o.getD s 0 then 1 else 0) n
  | 0 => rfl
  | n + 1 => by simp only [nz, sumN]; rw [nz_sumN o n]
theorem LimF.right {l : List Int} {L : Nat} {o : List Int} (h : LimF l L o) (hl : l.length ≤ 1024) (hL : L ≤ 15) : Right5 o := by
  refine ⟨by rw [h.len]; exact hl, fun i hi => by have := h.le i (by rw [← h.len]; exact hi); omega, by rw [nz_sumN, h.len]; exact h.two, ?_⟩
  rw [ks_sumN, h.len]
  have e : sumN (fun s => if 0 < o.getD s 0 then (2 : Int) ^ (15 - o.getD s 0).toNat else 0) l.length = sumN (fun s => (2 : Int) ^ (15 - L) * (if 0 < o.getD s 0 then ((2 ^ (L - (o.getD s 0).toNat) : Nat) : Int) else 0)) l.length := sumN_ext _ (fun s hs => by
    have hle := h.le s hs
    by_cases hp : 0 < o.getD s 0
    · rw [if_pos hp, if_pos hp]
      obtain ⟨v, hv⟩ : ∃ v : Nat, o.getD s 0 = v := ⟨(o.getD s 0).toNat, by omega⟩
      rw [hv, Int.toNat_natCast, show ((15 : Int) - (v : Int)).toNat = (15 - L) + (L - v) by omega, Int.pow_add]
      congr 1
    · rw [if_neg hp, if_neg hp]; simp)
  rw [e, sumN_mul, h.kraft, Int.natCast_pow, show ((2 : Nat) : Int) = 2 by rfl, ← Int.pow_add, show 15 - L + L = 15 by omega]
  rfl
theorem LimF.isU8 {l : List Int} {L : Nat} {o : List Int} (h : LimF l L o) (hL : L ≤ 15) : ∀ c ∈ o, 0 ≤ c ∧ c < 256 := fun c hc => by
  obtain ⟨i, hi, e⟩ := List.mem_iff_getElem.1 hc
  have := h.le i (by rw [← h.len]; exact hi)
  rw [List.getD_eq_getElem?_getD, List.getElem?_eq_getElem hi] at this
  simp only [Option.getD_some, e] at this
  omega
/-- A merge, carried out. -/
def mgF (A B : List Int) : Nat → Nat → Nat → List Int → List Int
  | 0, _, _, out => out
  | f + 1, i, j, out => if B.length ≤ j ∨ (i < A.length ∧ A.getD i 0 ≤ B.getD j 0) then mgF A B f (i + 1) j (out ++ [A.getD i 0]) else mgF A B f i (j + 1) (out ++ [B.getD j 0])
theorem mgF_ok (A B : List Int) : ∀ (f i j : Nat) (out : List Int), MG A B i j out → i + j + f = A.length + B.length → MG A B A.length B.length (mgF A B f i j out)
  | 0, i, j, out, h, e => by
    obtain ⟨h1, h2, _, _⟩ := h.len
    obtain rfl : i = A.length := by omega
    obtain rfl : j = B.length := by omega
    exact h
  | f + 1, i, j, out, h, e => by
    obtain ⟨h1, h2, _, _⟩ := h.len
    simp only [mgF]
    split
    · rename_i hc
      have hi : i < A.length := by
        rcases hc with hc | hc
        · omega
        · exact hc.1
      exact mgF_ok A B f (i + 1) j _ (.left h hi hc) (by omega)
    · rename_i hc
      exact mgF_ok A B f i (j + 1) _ (.right h (by omega) hc) (by omega)
theorem abl5 : Abl [8, 4, 2, 1, 1] 3 := ⟨by decide, by decide, by decide, by decide, by decide⟩
theorem srt5 : SrtIn [8, 4, 2, 1, 1] 5 [1, 1, 2, 4, 8] (fun m => [3, 4, 2, 1, 0].getD m 0) := by
  refine ⟨⟨by decide, ?_, ?_, ?_⟩, ?_⟩
  · decide
  · intro a b ha hb
    have h1 : a = 0 ∨ a = 1 ∨ a = 2 ∨ a = 3 ∨ a = 4 := by simp at ha; omega
    have h2 : b = 0 ∨ b = 1 ∨ b = 2 ∨ b = 3 ∨ b = 4 := by simp at hb; omega
    rcases h1 with rfl | rfl | rfl | rfl | rfl <;> rcases h2 with rfl | rfl | rfl | rfl | rfl <;> simp
  · intro t ht _
    have h1 : t = 0 ∨ t = 1 ∨ t = 2 ∨ t = 3 ∨ t = 4 := by omega
    rcases h1 with rfl | rfl | rfl | rfl | rfl
    · exact ⟨4, by decide, by decide⟩
    · exact ⟨3, by decide, by decide⟩
    · exact ⟨2, by decide, by decide⟩
    · exact ⟨0, by decide, by decide⟩
    · exact ⟨1, by decide, by decide⟩
  · intro x y hxy hy
    have h1 : x = 0 ∨ x = 1 ∨ x = 2 ∨ x = 3 ∨ x = 4 := by simp at hy; omega
    have h2 : y = 0 ∨ y = 1 ∨ y = 2 ∨ y = 3 ∨ y = 4 := by simp at hy; omega
    rcases h1 with rfl | rfl | rfl | rfl | rfl <;> rcases h2 with rfl | rfl | rfl | rfl | rfl <;> first | omega | decide
theorem rw5 : RW [1, 1, 2, 4, 8] 3 [1, 1, 2, 2, 4, 4, 8, 10] := by
  have h2 : RW [1, 1, 2, 4, 8] 2 [1, 1, 2, 2, 4, 6, 8] := .next (B := [2, 6]) .one rfl (by
    intro e he; have h1 : e = 0 ∨ e = 1 := by simp at he; omega
    rcases h1 with rfl | rfl <;> rfl) (mgF_ok _ _ 7 0 0 [] .start rfl)
  exact .next (B := [2, 4, 10]) h2 rfl (by
    intro e he; have h1 : e = 0 ∨ e = 1 ∨ e = 2 := by simp at he; omega
    rcases h1 with rfl | rfl | rfl <;> rfl) (mgF_ok _ _ 8 0 0 [] .start rfl)
theorem LimF.co {l : List Int} {n : Nat} {kc : Nat → Int} {sc : Nat → Nat} (h1 : n = numP l) (h2 : Coins n kc 4294967295) (h3 : ∀ i, i < n → kc i = l.getD (sc i) 0 ∧ sc i < l.length) (h4 : ∀ a b, a < n → b < n → sc a = sc b → a = b) (h5 : ∀ t, t < l.length → 0 < l.getD t 0 → ∃ m, m < n ∧ sc m = t) : CoinsTo l l.length n kc sc :=
  ⟨by rw [List.take_length]; exact h1, fun m hm => ⟨h2.pos m hm, (h3 m hm).1, (h3 m hm).2⟩, h4, h5⟩
theorem sum5 {o : List Int} (h : LimP [8, 4, 2, 1, 1] 3 o) : o.length = 5 ∧ (∀ c ∈ o, 0 ≤ c ∧ c < 256) ∧ sumN (fun s => [8, 4, 2, 1, 1].getD s 0 * o.getD s 0) 5 = 32 := by
  have hf := h.facts abl5
  obtain ⟨n, N, kc, sc, K, S, h1, h2, h3, h4, h5, h6, h7, h8⟩ := hf.sum
  have hn : n = 5 := by rw [h1]; decide
  have hco := LimF.co h1 h2 h3 h4 h5
  obtain ⟨a1, a2⟩ := SrtIn.uniq (l := [8, 4, 2, 1, 1]) srt5 hco h2.srt
  obtain ⟨r1, r2⟩ := RW.row h2 (by decide) a1 a2 h6 _ rw5
  refine ⟨hf.len, hf.isU8 (by decide), ?_⟩
  have e := h8
  rw [hn] at e
  rw [show ([8, 4, 2, 1, 1] : List Int).length = 5 by rfl] at e
  rw [e, sumN_ext (g := fun t => [1, 1, 2, 2, 4, 4, 8, 10].getD t 0) (2 * 5 - 2) (fun t ht => (r2 t (by omega)).symm)]
  rfl
def tbG5 : Tab := [(32, fun _ => x32, 22, [2, 3]), (78, fun _ => x78, 37, [2]), (79, fun _ => x79, 4, [2]), (118, fun _ => x118, 33, []), (51, fun _ => x51, 26, [4])]
theorem tbG5_ok : TabOk Try.prog tbG5 := ⟨fn32, fn78, fn79, fn118, fn51, trivial⟩
set_option maxRecDepth 100000 in
set_option maxHeartbeats 4000000 in
theorem wakesG_con : Con Try.prog 17 [] [] (fun v H R => v = .bool true ∧ H = [] ∧ R = []) := by
  have hT := tbG5_ok
  have hm := hmix
  have hlim : ∀ cap : Nat, Con Try.prog 15 [.slice 0 .z 1 5 cap, .int .i64 3] [.ro .u32 [8, 4, 2, 1, 1]] (fun v H R => ∃ o, LimP [8, 4, 2, 1, 1] 3 o ∧ v = .tup [.slice 1 .z 1 5 5, .int .i64 0] ∧ H = [.ro .u32 [8, 4, 2, 1, 1], .ints 5 .u8 o] ∧ R = []) := fun cap =>
    limit_con _ [8, 4, 2, 1, 1] 3 cap (by decide) (by decide) (by decide) (fun h => absurd abl5 h) (fun _ o ho => ⟨o, ho, rfl, rfl, rfl⟩)
  have hsum : ∀ (o : List Int) (cap cap2 : Nat), LimP [8, 4, 2, 1, 1] 3 o → Con Try.prog 19 [.slice 0 .z 1 5 cap, .slice 1 .z 1 5 cap2] [.ro .u32 [8, 4, 2, 1, 1], .ro .u8 o] (fun v H R => v = .int .u64 32 ∧ H = [.ro .u32 [8, 4, 2, 1, 1], .ro .u8 o] ∧ R = []) := fun o cap cap2 h => by
    obtain ⟨h1, h2, h3⟩ := sum5 h
    have := sum19_con [8, 4, 2, 1, 1] o cap cap2 (by decide) h2 (by decide) h1
    rw [show ([8, 4, 2, 1, 1] : List Int).length = 5 by rfl, h3] at this
    exact this
  refine con_gen (con_cut 0 (by simp) (con_drop (con_run 3000 tbG5 hmix hT fn17 ?_)))
  generalize hLP : LimP = LP at *
  clear hLP
  generalize Try.prog = P at *
  cbv
  repeat (first | refine And.intro ⟨by decide⟩ ?_ | refine And.intro ⟨Nat.le_refl _⟩ ?_ | ((intro _ _ _; skip); cbv; done) | ((intro _ _ _; skip); cbv) | ((intro _ _; skip); cbv) | (intro _; cbv))
  refine CallX.mono' (fun _ _ h => h) (call_con (ρ := [(7, .z)]) (hlim 5) ⟨by rfl, by rfl, by rfl, by cbv; exact ⟨viewRfl _, trivial⟩⟩ ?_)
  rintro v H R js ⟨o, ho, rfl, rfl, rfl⟩
  cbv
  repeat (first | refine And.intro ⟨by decide⟩ ?_ | refine And.intro ⟨Nat.le_refl _⟩ ?_ | ((intro _ _ _; skip); cbv; done) | ((intro _ _ _; skip); cbv) | ((intro _ _; skip); cbv) | (intro _; cbv))
  refine CallX.mono' (fun _ _ h => h) (call_con (ρ := [(10, .z), (8, .z)]) (hsum o 5 5 ho) ⟨by rfl, by rfl, by rfl, by cbv; exact ⟨viewRfl _, viewRfl _, trivial⟩⟩ ?_)
  rintro v H R js2 ⟨rfl, rfl, rfl⟩
  cbv
  try (repeat (first | refine And.intro ⟨by decide⟩ ?_ | refine And.intro ⟨Nat.le_refl _⟩ ?_ | ((intro _ _ _; skip); cbv; done) | ((intro _ _ _; skip); cbv) | ((intro _ _; skip); cbv) | (intro _; cbv)))
  try trivial
end Go.Proofs.Ytodobmkflimfkaa
