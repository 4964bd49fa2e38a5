import Derived.Test.YtaaklikigccdfaaEC
set_option linter.unusedVariables false
set_option linter.unusedSimpArgs false
/-
  The engine, part 32: blocks that a contract does not tell of; rows of two numbers.
-/
namespace Go.Sx
open Go
def hideH (ks : List Nat) : Nat → List SB → List SB
  | _, [] => []
  | i, B :: l => (if memN i ks then .free else B) :: hideH ks (i + 1) l
theorem hideH_get (ks : List Nat) : ∀ (l : List SB) (n i : Nat) (B : SB), (hideH ks n l)[i]? = some B → ∃ C, l[i]? = some C ∧ (B = C ∨ B = .free)
  | [], _, i, B, h => by simp [hideH] at h
  | C :: l, n, 0, B, h => by
    simp only [hideH, List.getElem?_cons_zero, Option.some.injEq] at h
    refine ⟨C, rfl, ?_⟩
    split at h
    · exact .inr h.symm
    · exact .inl h.symm
  | C :: l, n, i + 1, B, h => by
    simp only [hideH, List.getElem?_cons_succ] at h
    obtain ⟨D, h1, h2⟩ := hideH_get ks l (n + 1) i B h
    exact ⟨D, by simpa using h1, h2⟩
theorem hideH_len (ks : List Nat) : ∀ (l : List SB) (n : Nat), (hideH ks n l).length = l.length
  | [], _ => rfl
  | B :: l, n => by simp [hideH, hideH_len ks l]
/-- Some blocks are not told of. -/
theorem con_hide {P : Program} {f : Nat} {args : List SV} {H : List SB} {Post : SV → List SB → List Nat → Prop} (ks : List Nat) (h : Con P f args H (fun v H' R => Post v (hideH ks 0 H') R)) : Con P f args H Post := by
  refine ⟨h.go, fun σ w hok => (h.out σ w hok).mono ?_⟩
  rintro e w' ⟨σ', v, H', R, k1, k2, k3, k4⟩
  have hget := hideH_get ks H' 0
  have hown : ∀ {B C : SB}, (B = C ∨ B = .free) → own B = true → own C = true := by
    rintro B C (rfl | rfl) ho
    · exact ho
    · cases ho
  refine ⟨σ', v, hideH ks 0 H', R, k1, k2, ⟨fun i p hi hp => k3.lt i p (by rw [hideH_len] at hi; exact hi) hp, fun i j B C p q hij hB hC ho => ?_, fun i B hB => ?_, (fun l hl => by cases hl), (fun l hl => by cases hl)⟩,
    ⟨k4.size, k4.os, k4.tape, k4.output, k4.far, by rw [hideH_len]; exact k4.len, k4.names, k4.red, fun i B p hB ho => ?_, rfl⟩⟩
  · obtain ⟨B0, hB0, eB⟩ := hget i B hB
    obtain ⟨C0, hC0, eC⟩ := hget j C hC
    exact k3.ne i j B0 C0 p q hij hB0 hC0 (ho.imp (hown eB) (hown eC))
  · obtain ⟨B0, hB0, eB⟩ := hget i B hB
    rcases eB with rfl | rfl
    · exact k3.blk i B hB0
    · trivial
  · obtain ⟨B0, hB0, eB⟩ := hget i B hB
    exact k4.own i B0 p hB0 (hown eB ho)
theorem updF_2_0 (k : IntKind) (a : Nat → Int) (b : Nat → SV) (i : Nat) (n : Int) : updF (fun m => [.int k (a m), b m]) i 0 (.int k n) = fun m => [.int k (updI a i n m), b m] := by
  funext m; rw [updF_eq, updI_eq]; split <;> rfl
theorem updF_2_1 (k : IntKind) (b : Nat → Int) (a : Nat → SV) (i : Nat) (n : Int) : updF (fun m => [a m, .int k (b m)]) i 1 (.int k n) = fun m => [a m, .int k (updI b i n m)] := by
  funext m; rw [updF_eq, updI_eq]; split <;> rfl
end Go.Sx
/-
  The engine, part 33: a contract that tells of some of its blocks only, by new names.
-/
namespace Go.Sx
open Go
/-- The names that are kept, in their new order: the arguments' blocks first, as they were. -/
def picks (ks : List Nat) : List (Nat × Ix) := ks.map fun k => (k, .z)
def headIs : Nat → List Nat → Nat → Bool
  | 0, _, _ => true
  | n + 1, k :: ks, i => if k == i then headIs n ks (i + 1) else false
  | _ + 1, [], _ => false
theorem headIs_spec : ∀ {n : Nat} {ks : List Nat} {i : Nat}, headIs n ks i = true → ∀ j, j < n → ks[j]? = some (i + j)
  | 0, _, _, _, j, hj => by omega
  | n + 1, [], _, h, j, hj => by simp [headIs] at h
  | n + 1, k :: ks, i, h, j, hj => by
    simp only [headIs] at h
    split at h
    · rename_i hk
      cases j with
      | zero => simp at hk; simp [hk]
      | succ j =>
        have := headIs_spec h j (by omega)
        simp only [List.getElem?_cons_succ, this, Option.some.injEq]; omega
    · cases h
def noDupL : List Nat → Bool
  | [] => true
  | k :: ks => if memN k ks then false else noDupL ks
theorem memN_false {n : Nat} : ∀ {l : List Nat}, memN n l = false → n ∉ l
  | [], _ => by simp
  | m :: l, h => by
    simp only [memN] at h
    split at h
    · cases h
    · rename_i hne
      simp only [beq_iff_eq] at hne
      simp only [List.mem_cons, not_or]
      exact ⟨hne, memN_false h⟩
theorem noDupL_spec : ∀ {ks : List Nat}, noDupL ks = true → ∀ (i j : Nat) (a : Nat), ks[i]? = some a → ks[j]? = some a → i = j
  | [], _, i, j, a, hi, _ => by simp at hi
  | k :: ks, h, i, j, a, hi, hj => by
    simp only [noDupL] at h
    split at h
    · cases h
    rename_i hm
    have hm := memN_false (by simpa using hm)
    cases i with
    | zero =>
      cases j with
      | zero => rfl
      | succ j =>
        simp at hi hj; subst hi
        exact (hm (List.mem_of_getElem? hj)).elim
    | succ i =>
      cases j with
      | zero =>
        simp at hi hj; subst hj
        exact (hm (List.mem_of_getElem? hi)).elim
      | succ j =>
        simp at hi hj
        rw [noDupL_spec h i j a hi hj]
/-- The blocks that are kept are what the old ones are, by new names. -/
def pickB (ks : List Nat) (H' : List SB) : List Nat → List SB → Prop
  | [], [] => True
  | k :: l, B :: H2 => H'[k]? = some (renB (picks ks) 0 B) ∧ okB (picks ks) 0 B (pickB ks H' l H2)
  | _, _ => False
theorem pickB_spec {ks : List Nat} {H' : List SB} : ∀ {l : List Nat} {H2 : List SB}, pickB ks H' l H2 → H2.length = l.length ∧ ∀ (i : Nat) (B : SB), H2[i]? = some B → ∃ k : Nat, l[i]? = some k ∧ H'[k]? = some (renB (picks ks) 0 B) ∧ okB (picks ks) 0 B True
  | [], [], _ => ⟨rfl, fun i B h => by simp at h⟩
  | k :: l, B :: H2, h => by
    obtain ⟨h1, h2⟩ := h
    obtain ⟨h3, h4⟩ := okB_iff h2
    obtain ⟨h5, h6⟩ := pickB_spec h3
    refine ⟨by simp [h5], fun i B' hB' => ?_⟩
    cases i with
    | zero => simp at hB'; subst hB'; exact ⟨k, rfl, h1, h4⟩
    | succ i => simp at hB'; obtain ⟨k', e1, e2⟩ := h6 i B' hB'; exact ⟨k', by simpa using e1, e2⟩
  | [], _ :: _, h => h.elim
  | _ :: _, [], h => h.elim
/-- Only the blocks ks are told of, by the names 0, 1, 2 .. -/
theorem con_pick {P : Program} {f : Nat} {args : List SV} {H : List SB} {Post : SV → List SB → List Nat → Prop} (ks : List Nat) (hk : headIs H.length ks 0 = true) (hd : noDupL ks = true)
    (h : Con P f args H (fun v H' R => ∃ v2 H2, v = ren (picks ks) 0 v2 ∧ okV (picks ks) 0 v2 = true ∧ pickB ks H' ks H2 ∧ Post v2 H2 R)) : Con P f args H Post := by
  refine ⟨h.go, fun σ w hok => (h.out σ w hok).mono ?_⟩
  rintro e w' ⟨σ', v, H', R, ⟨v2, H2, rfl, hv, hpk, hP⟩, k2, k3, k4⟩
  obtain ⟨hlen, hB2⟩ := pickB_spec hpk
  have hrn : ∀ i k, ks[i]? = some k → rn (picks ks) 0 i = (k, .z) := fun i k hi => by unfold rn picks; rw [List.getElem?_map, hi]; rfl
  have hσ : ∀ i k, ks[i]? = some k → cut (picks ks) 0 σ' i = σ' k := fun i k hi => by
    unfold cut; rw [hrn i k hi]
    show (σ' k).map (fun p => (p.1, p.2 + 0)) = σ' k
    cases σ' k <;> rfl
  refine ⟨cut (picks ks) 0 σ', v2, H2, R, hP, ?_, ⟨fun i p hi hp => ?_, fun i j B C p q hij hB hC ho hp hq => ?_, fun i B hB => ?_, (fun l hl => by cases hl), (fun l hl => by cases hl)⟩,
    ⟨k4.size, k4.os, k4.tape, k4.output, k4.far, ?_, fun i hi hR => ?_, k4.red, fun i B p hB ho hp hlt => ?_, rfl⟩⟩
  · rw [k2, den_ren (picks ks) 0 σ' _ (fun _ => rfl) v2 hv]
  · obtain ⟨B, hB⟩ : ∃ B, H2[i]? = some B := ⟨_, List.getElem?_eq_getElem hi⟩
    obtain ⟨k, e1, e2, _⟩ := hB2 i B hB
    rw [hσ i k e1] at hp
    exact k3.lt k p (by have := List.getElem?_eq_some_iff.1 e2; exact this.1) hp
  · obtain ⟨k, e1, e2, _⟩ := hB2 i B hB
    obtain ⟨k', e1', e2', _⟩ := hB2 j C hC
    rw [hσ i k e1] at hp
    rw [hσ j k' e1'] at hq
    refine k3.ne k k' _ _ p q (fun e => hij ?_) e2 e2' (by rw [own_renB, own_renB]; exact ho) hp hq
    subst e
    exact noDupL_spec hd i j k e1 e1'
  · obtain ⟨k, e1, e2, e3⟩ := hB2 i B hB
    rw [hσ i k e1]
    exact (holds_ren (fun _ => rfl) e3).1 (k3.blk k _ e2)
  · have := headIs_spec hk
    show H.length ≤ H2.length
    rw [hlen]
    rcases Nat.lt_or_ge ks.length H.length with hlt | hge
    · have := this ks.length hlt
      simp at this
    · exact hge
  · have hi : i < H.length := hi
    have h1 := headIs_spec hk i hi
    rw [Nat.zero_add] at h1
    rw [hσ i i h1]
    exact k4.names i hi hR
  · obtain ⟨k, e1, e2, _⟩ := hB2 i B hB
    rw [hσ i k e1] at hp
    exact k4.own k _ p e2 (by rw [own_renB]; exact ho) hp hlt
end Go.Sx
/-
  The engine, part 34: as part 33, the blocks told of chosen by what comes out.
-/
namespace Go.Sx
open Go
/-- Only the blocks ks are told of, by the names 0, 1, 2 .. -/
theorem con_picks {P : Program} {f : Nat} {args : List SV} {H : List SB} {Post : SV → List SB → List Nat → Prop}
    (h : Con P f args H (fun v H' R => ∃ ks v2 H2, headIs H.length ks 0 = true ∧ noDupL ks = true ∧ v = ren (picks ks) 0 v2 ∧ okV (picks ks) 0 v2 = true ∧ pickB ks H' ks H2 ∧ Post v2 H2 R)) : Con P f args H Post := by
  refine ⟨h.go, fun σ w hok => (h.out σ w hok).mono ?_⟩
  rintro e w' ⟨σ', v, H', R, ⟨ks, v2, H2, hk, hd, rfl, hv, hpk, hP⟩, k2, k3, k4⟩
  obtain ⟨hlen, hB2⟩ := pickB_spec hpk
  have hrn : ∀ i k, ks[i]? = some k → rn (picks ks) 0 i = (k, .z) := fun i k hi => by unfold rn picks; rw [List.getElem?_map, hi]; rfl
  have hσ : ∀ i k, ks[i]? = some k → cut (picks ks) 0 σ' i = σ' k := fun i k hi => by
    unfold cut; rw [hrn i k hi]
    show (σ' k).map (fun p => (p.1, p.2 + 0)) = σ' k
    cases σ' k <;> rfl
  refine ⟨cut (picks ks) 0 σ', v2, H2, R, hP, ?_, ⟨fun i p hi hp => ?_, fun i j B C p q hij hB hC ho hp hq => ?_, fun i B hB => ?_, (fun l hl => by cases hl), (fun l hl => by cases hl)⟩,
    ⟨k4.size, k4.os, k4.tape, k4.output, k4.far, ?_, fun i hi hR => ?_, k4.red, fun i B p hB ho hp hlt => ?_, rfl⟩⟩
  · rw [k2, den_ren (picks ks) 0 σ' _ (fun _ => rfl) v2 hv]
  · obtain ⟨B, hB⟩ : ∃ B, H2[i]? = some B := ⟨_, List.getElem?_eq_getElem hi⟩
    obtain ⟨k, e1, e2, _⟩ := hB2 i B hB
    rw [hσ i k e1] at hp
    exact k3.lt k p (by have := List.getElem?_eq_some_iff.1 e2; exact this.1) hp
  · obtain ⟨k, e1, e2, _⟩ := hB2 i B hB
    obtain ⟨k', e1', e2', _⟩ := hB2 j C hC
    rw [hσ i k e1] at hp
    rw [hσ j k' e1'] at hq
    refine k3.ne k k' _ _ p q (fun e => hij ?_) e2 e2' (by rw [own_renB, own_renB]; exact ho) hp hq
    subst e
    exact noDupL_spec hd i j k e1 e1'
  · obtain ⟨k, e1, e2, e3⟩ := hB2 i B hB
    rw [hσ i k e1]
    exact (holds_ren (fun _ => rfl) e3).1 (k3.blk k _ e2)
  · have := headIs_spec hk
    show H.length ≤ H2.length
    rw [hlen]
    rcases Nat.lt_or_ge ks.length H.length with hlt | hge
    · have := this ks.length hlt
      simp at this
    · exact hge
  · have hi : i < H.length := hi
    have h1 := headIs_spec hk i hi
    rw [Nat.zero_add] at h1
    rw [hσ i i h1]
    exact k4.names i hi hR
  · obtain ⟨k, e1, e2, _⟩ := hB2 i B hB
    rw [hσ i k e1] at hp
    exact k4.own k _ p e2 (by rw [own_renB]; exact ho) hp hlt
end Go.Sx
