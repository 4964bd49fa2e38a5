import Derived.Test.YtaaklikigccdfaaA1
import Derived.Test.YtaaklikigccdfaaED
set_option linter.unusedVariables false
set_option linter.unusedSimpArgs false
namespace Go.Proofs.Ytaaklikigccdfaa
open Go Go.Sx Go.Proofs
/-! ### Sums -/
def sumI (f : Nat → Int) : Nat → Int
  | 0 => 0
  | n + 1 => sumI f n + f n
theorem sumI_congr {f g : Nat → Int} : ∀ {n : Nat}, (∀ i, i < n → f i = g i) → sumI f n = sumI g n
  | 0, _ => rfl
  | n + 1, h => by simp only [sumI]; rw [sumI_congr (fun i hi => h i (by omega)), h n (by omega)]
theorem sumI_upd {f : Nat → Int} {s : Nat} {v : Int} : ∀ {n : Nat}, s < n → sumI (fun i => if i = s then v else f i) n = sumI f n - f s + v
  | 0, h => by omega
  | n + 1, h => by
    simp only [sumI]
    by_cases hs : s = n
    · subst hs
      rw [if_pos rfl, sumI_congr (g := f) (fun i hi => by rw [if_neg (by omega)])]
      omega
    · rw [if_neg (by omega), sumI_upd (by omega)]
      omega
theorem sumI_mono {f : Nat → Int} {m : Nat} : ∀ {n : Nat}, (∀ i, i < n → 0 ≤ f i) → m ≤ n → sumI f m ≤ sumI f n
  | 0, _, h => by
    have : m = 0 := by omega
    subst this; exact Int.le_refl _
  | n + 1, h, hm => by
    by_cases hs : m = n + 1
    · subst hs; exact Int.le_refl _
    · have := sumI_mono (n := n) (m := m) (fun i hi => h i (by omega)) (by omega)
      have := h n (by omega)
      simp only [sumI]; omega
/-! ### Shares -/
def posI (l : List Int) (s : Nat) : Int := if l.getD s 0 > 0 then 1 else 0
def somN (l : List Int) : Nat → Int := sumI (posI l)
def Able (l : List Int) (log : Int) : Prop := l.length ≤ 256 ∧ 5 ≤ log ∧ log ≤ 12 ∧ 1 ≤ somN l l.length ∧ somN l l.length ≤ 2 ^ log.toNat
instance (l : List Int) (log : Int) : Decidable (Able l log) := by unfold Able; infer_instance
end Go.Proofs.Ytaaklikigccdfaa
namespace Go.Proofs.Ytaaklikigccdfaa
open Go Go.Sx Go.Proofs
set_option maxRecDepth 10000
set_option maxHeartbeats 40000000
theorem refright_con (l : List Int) (log : Int) (cap : Nat) (hl : ∀ c ∈ l, isI16 c) (hlog : -9223372036854775808 ≤ log ∧ log ≤ 9223372036854775807) :
    Con Try.prog 78 [.slice 0 .z 1 l.length cap, .int .i64 log] [.ro .i16 l] (fun v H R => v = .bool (decide (Right l log)) ∧ H = [.ro .i16 l] ∧ R = []) := by
  have hparts := refparts_con
  refine con_gen (con_walk hmix fn78 ?_)
  intro vb vc vw vtoN vofN vaddN vsubN vmaxI vminI vcutN vgd vst vln vrep vsub vonto vsplice vstrEq vbyteV vnotB veqB hw qb qc qw qtoN qofN qaddN qsubN qmaxI qminI qcutN qgd qst qln qrep qsub qonto qsplice qstrEq qbyteV qnotB qeqB
  have hm := hmix
  generalize Try.prog = P at *
  have hR : decide (Right l log) = true ↔ (5 ≤ log ∧ log ≤ 12 ∧ 1 ≤ l.length ∧ l.length ≤ 256 ∧ l.getD (l.length - 1) 0 ≠ 0 ∧ (∀ c ∈ l, -1 ≤ c) ∧ sumP l = 2 ^ log.toNat) := by
    rw [decide_eq_true_iff]; exact Iff.rfl
  generalize decide (Right l log) = rb at *
  have hRf : (rb = true → False) → rb = false := fun h => by cases rb with | false => rfl | true => exact (h rfl).elim
  have hl16 := hl
  have hsum : ∀ i, 0 ≤ sumP (l.take i) ∧ sumP (l.take i) ≤ 32767 * i := by
    intro i
    have h1 := sumP_le (l := l.take i) (fun c hc => hl c (List.mem_of_mem_take hc))
    have h2 : (l.take i).length ≤ i := by rw [List.length_take]; omega
    omega
  generalize hn : l.length = n at *
  have hto : ∀ i : Nat, vtoN (i : Int) = i := fun i => by simp only [qtoN, Int.toNat_natCast]
  have hadd0 : ∀ i, vaddN 0 i = i := fun i => by simp only [qaddN, Nat.zero_add]
  have hvln : vln l = n := by simp only [qln, hn]
  have hvgd : ∀ i, vgd l i = l.getD i 0 := fun i => by simp only [qgd]
  cbv
  generalize h1 : vc .lss log 5 = z1
  cases z1
  rotate_left
  · rw [qc, lss_true] at h1
    cbv
    rw [hRf (fun h => by have := (hR.1 h).1; omega)]
    exact ⟨rfl, trivial⟩
  rw [qc, lss_false] at h1
  cbv
  generalize h2 : vc .gtr log 12 = z2
  cases z2
  rotate_left
  · rw [qc, gtr_true] at h2
    cbv
    rw [hRf (fun h => by have := (hR.1 h).2.1; omega)]
    exact ⟨rfl, trivial⟩
  rw [qc, gtr_false] at h2
  cbv
  generalize h3 : vc .eql (vofN n) 0 = z3
  cases z3
  rotate_left
  · rw [qc, qofN, eql_true] at h3
    cbv
    rw [hRf (fun h => by have := (hR.1 h).2.2.1; simp only [nc] at *; omega)]
    exact ⟨rfl, trivial⟩
  rw [qc, qofN, eql_false] at h3
  cbv
  generalize h4 : vc .gtr (vofN n) 256 = z4
  cases z4
  rotate_left
  · rw [qc, qofN, gtr_true] at h4
    cbv
    rw [hRf (fun h => by have := (hR.1 h).2.2.2.1; simp only [nc] at *; omega)]
    exact ⟨rfl, trivial⟩
  rw [qc, qofN, gtr_false] at h4
  have hn1 : vb .sub .i64 (vofN n) 1 = ((n - 1 : Nat) : Int) := by simp only [nc] at *; simp only [qofN]; rw [qb, sub_i64 (by omega) (by omega)]; omega
  have hin1 : 0 ≤ vb .sub .i64 (vofN n) 1 ∧ vb .sub .i64 (vofN n) 1 < n := by rw [hn1]; simp only [nc] at *; omega
  have hto1 : vtoN (vb .sub .i64 (vofN n) 1) = n - 1 := by rw [hn1]; simp only [qtoN]; omega
  cbv
  rw [hto1, hadd0, hvgd]
  refine ⟨⟨hin1⟩, ⟨by simp only [nc] at *; omega⟩, ⟨by simp only [nc] at *; omega⟩, ?_⟩
  generalize h5 : vc .eql (l.getD (n - 1) 0) 0 = z5
  cases z5
  rotate_left
  · rw [qc, eql_true] at h5
    cbv
    rw [hRf (fun h => (hR.1 h).2.2.2.2.1 h5)]
    exact ⟨rfl, trivial⟩
  rw [qc, eql_false] at h5
  cbv
  refine loop_fam (α := Int × Int) [32, 33, 34, 35, 36, 37, 38, 39, 40, 41, 42, 43, 44, 45, 46, 47, 48, 49] []
    (fun (k, m) => [(6, .int .i64 k), (5, .int .i64 m)]) (fun (k, m) => [])
    (fun (k, m) => ∃ i : Nat, k = i ∧ i ≤ n ∧ m = sumP (l.take i) ∧ ∀ c ∈ l.take i, -1 ≤ c) (fun (k, _) => n - k.toNat) hw hm ?_ ?_
  · refine Cv.genAt [6, 5] [] (Cv.fold [32, 33, 34, 35, 36, 37, 38, 39, 40, 41, 42, 43, 44, 45, 46, 47, 48, 49] 1 [] (by exact Nat.le_refl _) (by exact Nat.le_of_ble_eq_true rfl) (by rfl) (by cbv) ?_)
    intro js
    refine ⟨(_, _), ?_, js, rfl⟩
    exact ⟨0, rfl, by omega, by simp [sumP], by simp⟩
  · rintro ⟨k, m⟩ js ⟨i, hk, hi, hs, hall⟩
    have hsi := hsum i
    cbv
    split
    · rename_i hlt
      have hlt : i < n := by rw [qc, lss_true] at hlt; simp only [qofN] at hlt; simp only [nc] at *; omega
      have hti : vtoN k = i := by rw [hk]; exact hto i
      have hinR : 0 ≤ k ∧ k < (n : Int) := by simp only [nc] at *; omega
      have hil : i < l.length := by omega
      have hmem : l.getD i 0 ∈ l := by rw [List.getD_eq_getElem?_getD, List.getElem?_eq_getElem hil]; exact List.getElem_mem hil
      have hc16 := hl16 _ hmem
      have hpl := partsN_le hc16
      have hsn : sumP (l.take (i + 1)) = m + partsN (l.getD i 0) := by rw [take_snoc hil, sumP_snoc, ← hs]
      have hpc := hparts _ hc16
      obtain ⟨k1, hk1⟩ : ∃ k1 : Int, k1 = ((i + 1 : Nat) : Int) := ⟨_, rfl⟩
      have ek : vb .add .i64 k 1 = k1 := by simp only [nc] at *; rw [qb, add_i64 (by omega) (by omega)]; omega
      have hmu : n - k1.toNat < n - k.toNat := by simp only [nc] at *; omega
      have htk : l.take (i + 1) = l.take i ++ [l.getD i 0] := take_snoc hil
      cbv
      rw [hti, hadd0, hvgd]
      generalize hcd : l.getD i 0 = cd at *
      generalize hpp : partsN cd = pc at *
      have hadd : vb .add .i64 m pc = m + pc := by simp only [nc] at *; rw [qb, add_i64 (by omega) (by omega)]
      refine ⟨⟨hinR⟩, ⟨by omega⟩, ⟨by omega⟩, ?_⟩
      generalize hz : vc .lss cd (-1) = z
      cases z
      rotate_left
      · rw [qc, lss_true] at hz
        cbv
        rw [hRf (fun h => by have := (hR.1 h).2.2.2.2.2.1 _ hmem; omega)]
        exact ⟨rfl, trivial⟩
      · rw [qc, lss_false] at hz
        have hpc := hpc (by omega)
        cbv
        rw [hti, hadd0, hvgd, hcd]
        refine ⟨⟨hinR⟩, ⟨by omega⟩, ⟨by omega⟩, ?_⟩
        refine call_con (ρ := []) hpc ⟨by rfl, by rfl, by rfl, by cbv⟩ ?_
        rintro v H R js ⟨rfl, rfl, rfl⟩
        cbv
        rw [hadd, ek]
        generalize hmp : m + pc = mp at *
        refine Cv.fold [32, 33, 34, 35, 36, 37, 38, 39, 40, 41, 42, 43, 44, 45, 46, 47, 48, 49] 1 [] (by exact Nat.le_refl _) (by exact Nat.le_of_ble_eq_true rfl) (by rfl) (by cbv) ?_
        intro js
        refine ⟨(_, _), ?_, js, rfl⟩
        refine ⟨⟨i + 1, hk1, hlt, hsn.symm, fun c hc => ?_⟩, hmu⟩
        rw [htk] at hc
        rcases List.mem_append.1 hc with hc | hc
        · exact hall c hc
        · rw [List.mem_singleton.1 hc]; omega
    · rename_i hge
      have hin : i = n := by rw [qc, lss_false] at hge; simp only [qofN] at hge; simp only [nc] at *; omega
      have hl0 : l.take i = l := List.take_of_length_le (by omega)
      rw [hl0] at hs hall
      have e2 : vw .u64 log = log := by rw [qw]; exact wrap_u64 (by omega) (by omega)
      have e3 : vb .shl .i64 1 log = 2 ^ log.toNat := by rw [qb, one_shl62 (by omega) (by omega)]
      generalize hpw : (2 : Int) ^ log.toNat = pw at *
      have hfin : vc .eql m pw = rb := by
        cases hrb : rb
        · rw [qc, eql_false]
          intro he
          have := hR.2 ⟨by omega, by omega, by simp only [nc] at *; omega, by simp only [nc] at *; omega, h5, hall, by rw [← hs]; exact he⟩
          rw [hrb] at this; cases this
        · rw [qc, eql_true]
          have := (hR.1 hrb).2.2.2.2.2.2
          rw [← hs] at this; exact this
      cbv
      rw [e2, e3, hfin]
      exact ⟨⟨by omega⟩, rfl, trivial⟩
end Go.Proofs.Ytaaklikigccdfaa
namespace Go.Proofs.Ytaaklikigccdfaa
open Go Go.Sx Go.Proofs
set_option maxRecDepth 10000
set_option maxHeartbeats 40000000
theorem blen_max {x : Int} (h0 : 2 ≤ x) (h : x ≤ 4097) : 2 ≤ blen x ∧ blen x ≤ 13 := by
  have h1 := blen_range (x := x) (n := 13) (by omega) (by omega)
  obtain ⟨k, h2, h3, h4⟩ := blen_spec (x := x) (by omega)
  refine ⟨?_, by omega⟩
  apply Classical.byContradiction
  intro hc
  have : k = 0 := by omega
  subst this
  omega
end Go.Proofs.Ytaaklikigccdfaa
namespace Go.Proofs.Ytaaklikigccdfaa
open Go Go.Sx Go.Proofs
theorem rowT_prefix (l : List Int) (s : Nat) : ∀ n, s ≤ n → ∃ rest, rowT l n = rowT l s ++ rest
  | 0, h => by
    have : s = 0 := by omega
    subst this; exact ⟨[], by simp⟩
  | n + 1, h => by
    by_cases hs : s = n + 1
    · subst hs; exact ⟨[], by simp⟩
    · obtain ⟨rest, hr⟩ := rowT_prefix l s n (by omega)
      exact ⟨rest ++ List.replicate (l.getD n 0).toNat (n : Int), by rw [rowT, hr, List.append_assoc]⟩
theorem rowT_get (l : List Int) {s n p : Nat} (hs : s < n) (hp : p < (l.getD s 0).toNat) : (rowT l n).getD ((rowT l s).length + p) 0 = s ∧ (rowT l s).length + p < (rowT l n).length := by
  obtain ⟨rest, hr⟩ := rowT_prefix l (s + 1) n hs
  rw [hr, rowT, List.append_assoc]
  constructor
  · rw [List.getD_eq_getElem?_getD, List.getElem?_append_right (by omega), show (rowT l s).length + p - (rowT l s).length = p by omega, List.getElem?_append_left (by rw [List.length_replicate]; exact hp), List.getElem?_replicate, if_pos hp]
    rfl
  · rw [List.length_append, List.length_append, List.length_replicate]; omega
def tabA (l : List Int) (size : Int) (i m : Nat) : Int := if m < i then symT l size m else 0
theorem tabA_step (l : List Int) (size : Int) (i : Nat) : updI (tabA l size i) i (symT l size i) = tabA l size (i + 1) := by
  funext m
  rw [updI_eq]
  unfold tabA
  by_cases h : m = i
  · subst h; rw [if_pos rfl, if_pos (by omega)]
  · rw [if_neg h]
    by_cases h2 : m < i
    · rw [if_pos h2, if_pos (by omega)]
    · rw [if_neg h2, if_neg (by omega)]
theorem set_eq {l : List Int} {f : Nat → Int} {N i : Nat} {v : Int} (hl : l.length = N) (hi : i < N) (h : ∀ m, m < N → l.getD m 0 = f m) : ∀ m, m < N → (l.set i v).getD m 0 = updI f i v m := by
  intro m hm
  rw [updI_eq, List.getD_eq_getElem?_getD, List.getElem?_set]
  by_cases he : i = m
  · subst he; rw [if_pos rfl, if_pos (by omega), if_pos rfl]; rfl
  · rw [if_neg he, if_neg (by omega), ← List.getD_eq_getElem?_getD, h m hm]
set_option maxRecDepth 10000
set_option maxHeartbeats 40000000
theorem reftable_ok (l : List Int) (log : Int) (cap : Nat) (hl : ∀ c ∈ l, isI16 c) (hlog : -9223372036854775808 ≤ log ∧ log ≤ 9223372036854775807) (hR : Right l log) :
    Con Try.prog 48 [.slice 0 .z 1 l.length cap, .int .i64 log] [.ro .i16 l] (fun v H R => R = [] ∧ ∃ syl, v = .tup [.slice 2 .z 3 (2 ^ log.toNat : Int).toNat (2 ^ log.toNat : Int).toNat, .int .i64 0] ∧
      H = [.ro .i16 l, .ints 3 .i64 syl, .arr 86 3 (2 ^ log.toNat : Int).toNat (fun m => [.int .u8 (tabA l (2 ^ log.toNat) (2 ^ log.toNat : Int).toNat m), .int .u8 (tabB l log (2 ^ log.toNat) (2 ^ log.toNat : Int).toNat m), .int .u16 (tabC l log (2 ^ log.toNat) (2 ^ log.toNat : Int).toNat m)])]) := by
  have hright := refright_con l log cap hl hlog
  rw [show decide (Right l log) = true by simp [hR]] at hright
  have hparts := refparts_con
  have hlen := width_con
  refine con_gen (con_cut 3 (by simp) (con_drop (con_walk hmix fn48 ?_)))
  intro vb vc vw vtoN vofN vaddN vsubN vmaxI vminI vcutN vgd vst vln vrep vsub vonto vsplice vstrEq vbyteV vnotB veqB hw qb qc qw qtoN qofN qaddN qsubN qmaxI qminI qcutN qgd qst qln qrep qsub qonto qsplice qstrEq qbyteV qnotB qeqB
  have hm := hmix; generalize Try.prog = P at *
  obtain ⟨g1, g2, g3, g4, g5, g6, g7⟩ := hR
  have hpl := pow_log ⟨g1, g2⟩
  obtain ⟨size, hsz, hszs⟩ := size_of ⟨g1, g2⟩
  rw [hsz] at hpl g7
  rw [hsz]
  obtain ⟨N, hN⟩ : ∃ N : Nat, size = N := ⟨size.toNat, by omega⟩
  have hNt : size.toNat = N := by omega
  rw [hNt]
  have hto : ∀ i : Nat, vtoN (i : Int) = i := fun i => by simp only [qtoN, Int.toNat_natCast]
  have htoN : vtoN size = N := by rw [qtoN]; exact hNt
  have hadd0 : ∀ i, vaddN 0 i = i := fun i => by simp only [qaddN, Nat.zero_add]
  have hvln : ∀ l, vln l = l.length := fun l => by simp only [qln]
  have hvgd : ∀ l i, vgd l i = l.getD i 0 := fun l i => by simp only [qgd]
  have hvst : ∀ l i v, vst l i v = l.set i v := fun l i v => by simp only [qst]
  have hmem : ∀ i, i < l.length → l.getD i 0 ∈ l := fun i hi => by rw [List.getD_eq_getElem?_getD, List.getElem?_eq_getElem (by omega)]; exact List.getElem_mem _
  have hsyd : symT l size = placeT size (size - negN l l.length) (rowT l l.length) (negS l size l.length) (size - negN l l.length).toNat := rfl
  have hsyr := symT_range (l := l) size (by omega)
  have hA0 : tabA l size 0 = fun _ => 0 := rfl
  have hB0 : tabB l log size 0 = fun _ => 0 := rfl
  have hC0 : tabC l log size 0 = fun _ => 0 := rfl
  have hAs := tabA_step l size
  have hBs := tabB_step l log size
  have hCs := tabC_step l log size
  generalize hsyT : symT l size = syT at *
  generalize tabA l size = tA at *
  generalize tabB l log size = tB at *
  generalize tabC l log size = tC at *
  have hx16 : ∀ i, i < l.length → isI16 (l.getD i 0) := fun i hi => hl _ (hmem i hi)
  have hgx : ∀ i, i < l.length → -1 ≤ l.getD i 0 := fun i hi => g6 _ (hmem i hi)
  have hneg := negN_range l
  have hrl := rowT_length l g6
  have hsn : sumP (l.take l.length) = size := by rw [List.take_length]; exact g7
  have htk := sumP_take_le g6
  have hrget := @rowT_get l
  have hnegs : ∀ i, negN l (i + 1) = negN l i + (if l.getD i 0 < 0 then 1 else 0) := fun _ => rfl
  have hnegS : ∀ i, negS l size (i + 1) = (if l.getD i 0 < 0 then updI (negS l size i) (size - negN l (i + 1)).toNat i else negS l size i) := fun _ => rfl
  have hneg0 : negN l 0 = 0 := rfl
  have hnegS0 : negS l size 0 = fun _ => 0 := rfl
  have hrow0 : rowT l 0 = [] := rfl
  have hrow1 : ∀ i, rowT l (i + 1) = rowT l i ++ List.replicate (l.getD i 0).toNat (i : Int) := fun _ => rfl
  have hpsum := fun s => partsN_le_sum g6 s
  rw [g7] at hpsum
  generalize hnl : l.length = n at *
  have hnb : vnotB true = false := by simp only [qnotB]; rfl
  have e2 : vw .u64 log = log := by rw [qw]; exact wrap_u64 (by omega) (by omega)
  have e3 : vb .shl .i64 1 log = size := by rw [qb, one_shl (by omega) (by omega), hsz]
  have e8 : vrep N 0 = List.replicate N 0 := by simp only [qrep]
  have e9 : vrep 256 0 = List.replicate 256 0 := by simp only [qrep]
  have hrep : ∀ M m : Nat, (List.replicate M (0 : Int)).getD m 0 = 0 := fun M m => by rw [List.getD_eq_getElem?_getD, List.getElem?_replicate]; split <;> rfl
  cbv
  refine call_con (ρ := [(0, .z)]) hright ⟨by rfl, by rfl, by rfl, by cbv; exact ⟨view_refl _, trivial⟩⟩ ?_
  rintro v H R js ⟨rfl, rfl, rfl⟩
  cbv
  rw [hnb]
  obtain ⟨sl0, hsl0⟩ : ∃ sl0 : List Int, sl0 = List.replicate N 0 := ⟨_, rfl⟩
  rw [← hsl0] at e8
  cbv
  rw [e2, e3, htoN, e8]
  refine ⟨⟨by omega⟩, ⟨by omega⟩, ⟨by omega⟩, ⟨by omega⟩, ⟨by omega⟩, ?_⟩
  refine loop_fam (α := Int × Int × List Int) [29, 30, 31, 32, 33, 34, 35, 36, 37, 38, 39, 40, 41, 42, 43, 44, 45] []
    (fun (k, high, syl) => [(9, .int .i64 k), (8, .int .i64 high)]) (fun (k, high, syl) => [(1, .ints 3 .i64 syl)])
    (fun (k, high, syl) => ∃ i : Nat, k = i ∧ i ≤ n ∧ high = size - negN l i ∧ syl.length = N ∧ ∀ m, m < N → syl.getD m 0 = negS l size i m)
    (fun (k, high, syl) => n - k.toNat) hw hm ?_ ?_
  · refine Cv.genAt [9] [] (Cv.fold [29, 30, 31, 32, 33, 34, 35, 36, 37, 38, 39, 40, 41, 42, 43, 44, 45] 2 [] (by exact Nat.le_refl _) (by exact Nat.le_of_ble_eq_true rfl) (by rfl) (by cbv) ?_)
    intro js
    refine ⟨(_, _, _), ?_, js, rfl⟩
    exact ⟨0, rfl, by omega, by omega, by rw [hsl0]; simp, fun m _ => by rw [hnegS0, hsl0]; exact hrep N m⟩
  · rintro ⟨k, high, syl⟩ js ⟨i, hk, hi, hhigh, hsyl, hsg⟩
    cbv
    split
    · rename_i hlt
      have hlt : i < n := by rw [qc, lss_true] at hlt; simp only [qofN] at hlt; simp only [nc] at *; omega
      have hti : vtoN k = i := by rw [hk]; exact hto i
      have hinR : 0 ≤ k ∧ k < (n : Int) := by simp only [nc] at *; omega
      obtain ⟨k1, hk1⟩ : ∃ k1 : Int, k1 = ((i + 1 : Nat) : Int) := ⟨_, rfl⟩
      have ek : vb .add .i64 k 1 = k1 := by simp only [nc] at *; rw [qb, add_i64 (by omega) (by omega)]; omega
      have hmu : n - k1.toNat < n - k.toNat := by simp only [nc] at *; omega
      have hgi := hgx i hlt
      have hni := hnegs i
      have hnS := hnegS i
      have hnr := hneg (i + 1)
      have hnr0 := hneg i
      have htki := htk (i + 1)
      have hrowl1 := hrl (i + 1) (by omega)
      cbv
      rw [hti, hadd0, hvgd]
      refine ⟨⟨hinR⟩, ⟨by rw [hvln]; omega⟩, ⟨by rw [hvln]; omega⟩, ?_⟩
      generalize hci : l.getD i 0 = ci at *
      generalize hz : vc .eql ci (-1) = z
      cases z
      · rw [qc, eql_false] at hz
        rw [if_neg (by omega)] at hni hnS
        cbv
        rw [ek]
        refine Cv.fold [29, 30, 31, 32, 33, 34, 35, 36, 37, 38, 39, 40, 41, 42, 43, 44, 45] 2 [] (by exact Nat.le_refl _) (by exact Nat.le_of_ble_eq_true rfl) (by rfl) (by cbv) ?_
        intro js
        refine ⟨(_, _, _), ?_, js, rfl⟩
        exact ⟨⟨i + 1, hk1, hlt, by omega, hsyl, by rw [hnS]; exact hsg⟩, hmu⟩
      · rw [qc, eql_true] at hz
        rw [if_pos (by omega)] at hni hnS
        obtain ⟨h2, hh2⟩ : ∃ h2 : Int, h2 = size - negN l (i + 1) := ⟨_, rfl⟩
        have eh : vb .sub .i64 high 1 = h2 := by rw [qb, sub_i64 (by omega) (by omega)]; omega
        have hin2 : 0 ≤ h2 ∧ h2 < (N : Int) := by simp only [nc] at *; omega
        have ht2 : vtoN h2 = h2.toNat := by simp only [qtoN]
        have hset := set_eq (v := k) hsyl (show h2.toNat < N by simp only [nc] at *; omega) hsg
        obtain ⟨sy2, hsy2⟩ : ∃ sy2, sy2 = syl.set h2.toNat k := ⟨_, rfl⟩
        have est : vst syl h2.toNat k = sy2 := by rw [hvst, hsy2]
        have hsl2 : sy2.length = N := by rw [hsy2, List.length_set]; exact hsyl
        rw [← hsy2] at hset
        generalize hh2n : h2.toNat = h2n at *
        have hlt2 : h2n < N := by simp only [nc] at *; omega
        cbv
        rw [eh, ht2, est, ek]
        refine ⟨⟨hin2⟩, ⟨by rw [hvln]; omega⟩, ?_⟩
        refine Cv.fold [29, 30, 31, 32, 33, 34, 35, 36, 37, 38, 39, 40, 41, 42, 43, 44, 45] 2 [] (by exact Nat.le_refl _) (by exact Nat.le_of_ble_eq_true rfl) (by rfl) (by cbv) ?_
        intro js
        refine ⟨(_, _, _), ?_, js, rfl⟩
        refine ⟨⟨i + 1, hk1, hlt, hh2, hsl2, fun m hm => ?_⟩, hmu⟩
        rw [hset m hm, hnS, ← hh2, hh2n, hk]
    · rename_i hge
      have hin : i = n := by rw [qc, lss_false] at hge; simp only [qofN] at hge; simp only [nc] at *; omega
      subst hin
      have hnr := hneg i
      have hrowl := hrl i (by omega)
      rw [hsn] at hrowl
      obtain ⟨row, hrow⟩ : ∃ row, row = rowT l i := ⟨_, rfl⟩
      rw [← hrow] at hrowl hsyd
      rw [← hhigh] at hrowl hsyd
      have hrg : ∀ s p, s < i → p < (l.getD s 0).toNat → row.getD ((rowT l s).length + p) 0 = s ∧ (rowT l s).length + p < row.length := fun s p h1 h2 => by rw [hrow]; exact hrget h1 h2
      obtain ⟨Hn, hHn⟩ : ∃ Hn : Nat, high = Hn := ⟨high.toNat, by simp only [nc] at *; omega⟩
      have hrl2 : row.length = Hn := by simp only [nc] at *; omega
      have hpos := fun h => posT_range (size := size) (high := high) hszs h
      have hp0 : posT size high 0 = 0 := rfl
      have hps : ∀ q, posT size high (q + 1) = skipT size high 5000 (stepT size (posT size high q)) := fun q => rfl
      have hpl0 : placeT size high row (negS l size i) 0 = negS l size i := rfl
      have hpls : ∀ q, placeT size high row (negS l size i) (q + 1) = updI (placeT size high row (negS l size i) q) (posT size high q).toNat (row.getD q 0) := fun q => rfl
      have hstd : ∀ a, stepT size a = (a + size / 2 + size / 8 + 3) % size := fun a => rfl
      have hsb := fun a => step_bound (size := size) (by omega) a
      have hhit := fun a h0 h1 => hit0 (size := size) hszs (a := a) h0 h1
      have hsk1 := @skipT_step size high
      have hsk2 := @skipT_here size high
      have hrowpre : ∀ s, s ≤ i → (rowT l s).length ≤ Hn := fun s hs => by obtain ⟨rest, hr⟩ := rowT_prefix l s i hs; rw [← hrow] at hr; have := congrArg List.length hr; rw [List.length_append] at this; omega
      generalize placeT size high row (negS l size i) = PL at *
      generalize posT size high = PO at *
      generalize stepT size = ST at *
      generalize skipT size high = SK at *
      have hNle : N ≤ 4096 := by simp only [nc] at *; omega
      have eS : ∀ x, 0 ≤ x → x < size → vb .rem .i64 (vb .add .i64 (vb .add .i64 (vb .add .i64 x (vb .quo .i64 size 2)) (vb .quo .i64 size 8)) 3) size = ST x := by
        intro x h0 h1
        have e1 : vb .quo .i64 size 2 = size / 2 := by rw [qb, quo_i64 (by omega) (by omega) (by omega)]
        have e2 : vb .quo .i64 size 8 = size / 8 := by rw [qb, quo_i64 (by omega) (by omega) (by omega)]
        have e3 : vb .add .i64 x (size / 2) = x + size / 2 := by rw [qb, add_i64 (by omega) (by omega)]
        have e4 : vb .add .i64 (x + size / 2) (size / 8) = x + size / 2 + size / 8 := by rw [qb, add_i64 (by omega) (by omega)]
        have e5 : vb .add .i64 (x + size / 2 + size / 8) 3 = x + size / 2 + size / 8 + 3 := by rw [qb, add_i64 (by omega) (by omega)]
        rw [e1, e2, hstd, e3, e4, e5, qb, rem_i64 (by omega)]
      clear hright hrl htk hneg hnegs hnegS hrget
      cbv
      refine loop_fam (α := Int × Int × List Int) ([12] ++ [46, 47, 48, 49, 50, 51, 52, 53, 54, 55, 56, 57, 58, 59, 60, 61, 62, 63, 64, 65, 66, 67, 68, 69, 70, 71, 72, 73, 74, 75, 76, 77, 78, 79, 80, 81, 82, 83, 84, 85, 86, 87, 88, 89, 90, 91]) []
        (fun (k, a, syl) => [(11, .int .i64 k), (10, .int .i64 a)]) (fun (k, a, syl) => [(1, .ints 3 .i64 syl)])
        (fun (k, a, syl) => ∃ s : Nat, k = s ∧ s ≤ i ∧ a = PO (rowT l s).length ∧ syl.length = N ∧ ∀ m, m < N → syl.getD m 0 = PL (rowT l s).length m)
        (fun (k, a, syl) => i - k.toNat) hw hm ?_ ?_
      · refine Cv.genAt [11, 10] [] (Cv.fold ([12] ++ [46, 47, 48, 49, 50, 51, 52, 53, 54, 55, 56, 57, 58, 59, 60, 61, 62, 63, 64, 65, 66, 67, 68, 69, 70, 71, 72, 73, 74, 75, 76, 77, 78, 79, 80, 81, 82, 83, 84, 85, 86, 87, 88, 89, 90, 91]) 2 [] (by exact Nat.le_refl _) (by exact Nat.le_of_ble_eq_true rfl) (by rfl) (by cbv) ?_)
        intro js
        refine ⟨(_, _, _), ?_, js, rfl⟩
        exact ⟨0, rfl, by omega, by rw [hrow0]; exact hp0.symm, hsyl, fun m hm => by rw [hrow0]; exact (hsg m hm).trans (congrFun hpl0.symm m)⟩
      · rintro ⟨k2, a2, syl2⟩ js ⟨s, hk2, hs, ha2, hsyl2, hsg2⟩
        cbv
        split
        · rename_i hlt
          have hlt : s < i := by rw [qc, lss_true] at hlt; simp only [qofN] at hlt; simp only [nc] at *; omega
          have hti : vtoN k2 = s := by rw [hk2]; exact hto s
          have hinR : 0 ≤ k2 ∧ k2 < (i : Int) := by simp only [nc] at *; omega
          obtain ⟨k3, hk3⟩ : ∃ k3 : Int, k3 = ((s + 1 : Nat) : Int) := ⟨_, rfl⟩
          have ek : vb .add .i64 k2 1 = k3 := by simp only [nc] at *; rw [qb, add_i64 (by omega) (by omega)]; omega
          have hmu : i - k3.toNat < i - k2.toNat := by simp only [nc] at *; omega
          have hci16 := hx16 s hlt
          have hrs := hrow1 s
          have hrgs := fun p => hrg s p hlt
          have hrp := hrowpre s (by omega)
          have hrp1 := hrowpre (s + 1) (by omega)
          rw [hrs, List.length_append, List.length_replicate] at hrp1
          have hrsl : (rowT l (s + 1)).length = (rowT l s).length + (l.getD s 0).toNat := by rw [hrs, List.length_append, List.length_replicate]
          generalize hci : l.getD s 0 = ci at *
          generalize hL : (rowT l s).length = L at *
          have ecw : vw .i64 ci = ci := by unfold isI16 at hci16; rw [qw]; exact wrap_i64 (by omega) (by omega)
          cbv
          refine loop_fam (α := Int × Int × List Int) [52, 53, 54, 55, 56, 57, 58, 59, 60, 61, 62, 63, 64, 65, 66, 67, 68, 69, 70, 71, 72, 73, 74, 75, 76, 77, 78, 79, 80, 81, 82, 83, 84, 85, 86, 87, 88, 89, 90, 91] []
            (fun (j, a, syl) => [(12, .int .i64 j), (10, .int .i64 a)]) (fun (j, a, syl) => [(1, .ints 3 .i64 syl)])
            (fun (j, a, syl) => ∃ p : Nat, j = p ∧ p ≤ ci.toNat ∧ a = PO (L + p) ∧ syl.length = N ∧ ∀ m, m < N → syl.getD m 0 = PL (L + p) m)
            (fun (j, a, syl) => ci.toNat - j.toNat) hw hm ?_ ?_
          · refine Cv.genAt [12] [] (Cv.fold [52, 53, 54, 55, 56, 57, 58, 59, 60, 61, 62, 63, 64, 65, 66, 67, 68, 69, 70, 71, 72, 73, 74, 75, 76, 77, 78, 79, 80, 81, 82, 83, 84, 85, 86, 87, 88, 89, 90, 91] 2 [] (by exact Nat.le_refl _) (by exact Nat.le_of_ble_eq_true rfl) (by rfl) (by cbv) ?_)
            intro js
            refine ⟨(_, _, _), ?_, js, rfl⟩
            exact ⟨0, rfl, by omega, ha2, hsyl2, hsg2⟩
          · rintro ⟨j, a, syl3⟩ js ⟨p, hj, hp, ha, hsyl3, hsg3⟩
            cbv
            rw [hti, hadd0, hvgd, hci, ecw]
            refine ⟨⟨hinR⟩, ⟨by rw [hvln]; omega⟩, ⟨by rw [hvln]; omega⟩, ?_⟩
            split
            rotate_left
            · rename_i hge2
              have hpe : p = ci.toNat := by rw [qc, lss_false] at hge2; simp only [nc] at *; omega
              cbv
              rw [ek]
              refine Cv.fold ([12] ++ [46, 47, 48, 49, 50, 51, 52, 53, 54, 55, 56, 57, 58, 59, 60, 61, 62, 63, 64, 65, 66, 67, 68, 69, 70, 71, 72, 73, 74, 75, 76, 77, 78, 79, 80, 81, 82, 83, 84, 85, 86, 87, 88, 89, 90, 91]) 2 [] (by exact Nat.le_refl _) (by exact Nat.le_of_ble_eq_true rfl) (by rfl) (by cbv) ?_
              intro js
              refine ⟨(_, _, _), ?_, js, rfl⟩
              exact ⟨⟨s + 1, hk3, hlt, by rw [hrsl, ← hpe]; exact ha, hsyl3, fun m hm => by rw [hrsl, ← hpe]; exact hsg3 m hm⟩, hmu⟩
            · rename_i hlt2
              have hpe : p < ci.toNat := by rw [qc, lss_true] at hlt2; simp only [nc] at *; omega
              obtain ⟨hrg1, hrg2⟩ := hrgs p hpe
              have hHpos : 0 < high := by simp only [nc] at *; omega
              have hpq := hpos hHpos (L + p)
              obtain ⟨hst0, hst1⟩ := hsb (PO (L + p))
              obtain ⟨mm, hmm, hmm0⟩ := hhit _ hst0 hst1
              have hta : vtoN a = (PO (L + p)).toNat := by rw [ha, qtoN]
              have hin2 : 0 ≤ a ∧ a < (N : Int) := by simp only [nc] at *; omega
              have hinN : (PO (L + p)).toNat < N := by simp only [nc] at *; omega
              obtain ⟨j1, hj1⟩ : ∃ j1 : Int, j1 = ((p + 1 : Nat) : Int) := ⟨_, rfl⟩
              have ej : vb .add .i64 j 1 = j1 := by simp only [nc] at *; unfold isI16 at hci16; rw [qb, add_i64 (by omega) (by omega)]; omega
              have eSa := eS a (by omega) (by omega)
              have hset := set_eq (v := k2) hsyl3 hinN hsg3
              obtain ⟨sy4, hsy4⟩ : ∃ sy4, sy4 = syl3.set (PO (L + p)).toNat k2 := ⟨_, rfl⟩
              have est : vst syl3 (PO (L + p)).toNat k2 = sy4 := by rw [hvst, hsy4]
              have hsl4 : sy4.length = N := by rw [hsy4, List.length_set]; exact hsyl3
              rw [← hsy4] at hset
              have hPL1 : ∀ m, m < N → sy4.getD m 0 = PL (L + (p + 1)) m := fun m hm => by rw [hset m hm, ← Nat.add_assoc, hpls, hrg1, hk2]
              have hPO1 : PO (L + (p + 1)) = SK 5000 (ST (PO (L + p))) := by rw [← Nat.add_assoc, hps]
              generalize hSTa : ST a = sta at *
              cbv
              rw [hta, est, eSa]
              refine ⟨⟨hin2⟩, ⟨by rw [hvln]; omega⟩, ⟨by omega⟩, ?_⟩
              refine loop_fam (α := Nat × Int) [75, 76, 77, 78, 79, 80, 81, 82, 83, 84, 85, 86, 87, 88, 89, 90, 91] [] (fun (nn, a) => [(10, .int .i64 a)]) (fun _ => [])
                (fun (nn, a) => ∃ m, SK nn a = PO (L + (p + 1)) ∧ iterT size m a = 0 ∧ m ≤ nn ∧ 0 ≤ a ∧ a < size) (fun (nn, a) => nn) hw hm ?_ ?_
              · refine Cv.fold [75, 76, 77, 78, 79, 80, 81, 82, 83, 84, 85, 86, 87, 88, 89, 90, 91] 2 [] (by exact Nat.le_refl _) (by exact Nat.le_of_ble_eq_true rfl) (by rfl) (by cbv) ?_
                intro js
                refine ⟨(5000, _), ?_, js, rfl⟩
                rw [← ha, hSTa] at hst0 hst1 hmm0
                exact ⟨mm, by rw [hPO1, ← ha, hSTa], hmm0, by omega, hst0, hst1⟩
              · rintro ⟨nn, a5⟩ js ⟨m2, hSK, hit, hm2, ha0, ha1⟩
                have eS2 := eS a5 ha0 ha1
                cbv
                generalize hz5 : vc .geq a5 high = z5
                cases z5
                · rw [qc, geq_false] at hz5
                  have hh1 : SK nn a5 = a5 := hsk2 (by omega)
                  cbv
                  rw [ej]
                  refine Cv.fold [52, 53, 54, 55, 56, 57, 58, 59, 60, 61, 62, 63, 64, 65, 66, 67, 68, 69, 70, 71, 72, 73, 74, 75, 76, 77, 78, 79, 80, 81, 82, 83, 84, 85, 86, 87, 88, 89, 90, 91] 2 [] (by exact Nat.le_refl _) (by exact Nat.le_of_ble_eq_true rfl) (by rfl) (by cbv) ?_
                  intro js
                  refine ⟨(_, _, _), ?_, js, rfl⟩
                  refine ⟨⟨p + 1, hj1, hpe, by rw [← hSK, hh1], hsl4, hPL1⟩, ?_⟩
                  show ci.toNat - j1.toNat < ci.toNat - j.toNat
                  simp only [nc] at *
                  omega
                · rw [qc, geq_true] at hz5
                  obtain ⟨n3, m3, hn3, hm3, hsk, hit3⟩ := hsk1 (a := a5) (n := nn) (m := m2) hHpos (by omega) hit hm2
                  obtain ⟨hsb2, hsb3⟩ := hsb a5
                  have hgh : vc .gtr high 0 = true := by rw [qc, gtr_true]; exact hHpos
                  cbv
                  rw [hgh]
                  cbv
                  rw [eS2]
                  refine ⟨⟨by omega⟩, ?_⟩
                  refine Cv.fold [75, 76, 77, 78, 79, 80, 81, 82, 83, 84, 85, 86, 87, 88, 89, 90, 91] 2 [] (by exact Nat.le_refl _) (by exact Nat.le_of_ble_eq_true rfl) (by rfl) (by cbv) ?_
                  intro js
                  refine ⟨(n3, _), ?_, js, rfl⟩
                  refine ⟨⟨m3, by rw [← hsk]; exact hSK, hit3, by omega, hsb2, hsb3⟩, ?_⟩
                  show n3 < nn
                  omega
        · rename_i hge
          have hse : s = i := by rw [qc, lss_false] at hge; simp only [qofN] at hge; simp only [nc] at *; omega
          subst hse
          have hsyE : ∀ m, m < N → syl2.getD m 0 = syT m := fun m hm => by
            rw [hsg2 m hm, hsyd, ← hrow, hrl2, hHn]; simp
          have hcr := cntT_range syT
          have hcs : ∀ x q, cntT syT x (q + 1) = cntT syT x q + (if syT q = x then 1 else 0) := fun _ _ => rfl
          have hc0 : ∀ x, cntT syT x 0 = 0 := fun _ => rfl
          have hxd : ∀ q, xT l syT q = partsN (l.getD (syT q).toNat 0) + cntT syT (syT q) q := fun _ => rfl
          generalize xT l syT = XT at *
          have hbd : ∀ x, bT log x = IntKind.u8.wrap (log + 1 - blen x) := fun _ => rfl
          have hcd : ∀ x, baseT log size x = IntKind.u16.wrap (bV .sub .i64 (bV .shl .i64 x (IntKind.u64.wrap (log + 1 - blen x))) size) := fun _ => rfl
          generalize bT log = bTf at *
          generalize baseT log size = bAf at *
          obtain ⟨xs0, hxs0⟩ : ∃ xs0 : List Int, xs0 = List.replicate 256 0 := ⟨_, rfl⟩
          rw [← hxs0] at e9
          clear hps hpls hpos hhit hsk1 hsk2 hsb hstd hrg
          cbv
          have e10 : vtoN 256 = 256 := by rw [qtoN]; rfl
          rw [htoN, e10, e9]
          refine ⟨⟨by omega⟩, ⟨by omega⟩, ⟨by omega⟩, ⟨by omega⟩, ⟨by omega⟩, ⟨by omega⟩, ⟨by omega⟩, ⟨by omega⟩, fun _ => rfl, ?_⟩
          refine WX.cv (Cv.arrEq 2 (fun m => [.int .u8 (tA 0 m), .int .u8 (tB 0 m), .int .u16 (tC 0 m)]) (by rfl) (by intro i; rw [hA0, hB0, hC0]; rfl) (Cv.here ?_))
          cbv
          refine loop_fam (α := Int × (Nat → Int) × (Nat → Int) × (Nat → Int) × List Int) ([16, 17, 18] ++ [95, 96, 97, 98, 99, 100, 101, 102, 103, 104, 105, 106, 107, 108, 109, 110, 111, 112, 113, 114, 115, 116, 117, 118, 119, 120, 121, 122, 123, 124, 125, 126, 127, 128, 129, 130, 131, 132, 133, 134, 135, 136, 137, 138, 139]) []
            (fun (k, a, b, c, xs) => [(15, .int .i64 k)])
            (fun (k, a, b, c, xs) => [(2, .arr 86 3 N (fun m => [.int .u8 (a m), .int .u8 (b m), .int .u16 (c m)])), (3, .ints 3 .i64 xs)])
            (fun (k, a, b, c, xs) => ∃ q : Nat, k = q ∧ q ≤ N ∧ a = tA q ∧ b = tB q ∧ c = tC q ∧ xs.length = 256 ∧ ∀ x : Nat, xs.getD x 0 = cntT syT x q)
            (fun (k, a, b, c, xs) => N - k.toNat) hw hm ?_ ?_
          · refine Cv.genAt [15] [] (Cv.fold ([16, 17, 18] ++ [95, 96, 97, 98, 99, 100, 101, 102, 103, 104, 105, 106, 107, 108, 109, 110, 111, 112, 113, 114, 115, 116, 117, 118, 119, 120, 121, 122, 123, 124, 125, 126, 127, 128, 129, 130, 131, 132, 133, 134, 135, 136, 137, 138, 139]) 4 [] (by exact Nat.le_refl _) (by exact Nat.le_of_ble_eq_true rfl) (by rfl) (by cbv) ?_)
            intro js
            refine ⟨(_, _, _, _, _), ?_, js, rfl⟩
            exact ⟨0, rfl, by omega, rfl, rfl, rfl, by rw [hxs0]; simp, fun x => by rw [hc0, hxs0]; exact hrep 256 x⟩
          · rintro ⟨k3, a3, b3, c3, xs3⟩ js ⟨q3, hk3, hq3, ha3, hb3, hc3, hxl3, hxg3⟩
            cbv
            split
            rotate_left
            · rename_i hlt3
              have hqe3 : q3 = N := by rw [qc, lss_false] at hlt3; simp only [nc] at *; omega
              subst hqe3
              subst ha3 hb3 hc3
              cbv
              exact ⟨syl2, rfl, rfl⟩
            · rename_i hlt3
              have hqe3 : q3 < N := by rw [qc, lss_true] at hlt3; simp only [nc] at *; omega
              have ht3 : vtoN k3 = q3 := by rw [hk3]; exact hto q3
              have hin3 : 0 ≤ k3 ∧ k3 < (N : Int) := by simp only [nc] at *; omega
              obtain ⟨hsr0, hsr1⟩ := hsyr q3
              have hsyq := hsyE q3 hqe3
              have htsy : vtoN (syT q3) = (syT q3).toNat := by simp only [qtoN]
              have hin4 : 0 ≤ syT q3 ∧ syT q3 < ((256 : Nat) : Int) := by simp only [nc] at *; omega
              have hin5 : 0 ≤ syT q3 ∧ syT q3 < (s : Int) := by simp only [nc] at *; omega
              have hcast : ((syT q3).toNat : Int) = syT q3 := Int.toNat_of_nonneg hsr0
              have hsnN : (syT q3).toNat < s := by simp only [nc] at *; omega
              have hxr0 := hpsum (syT q3).toNat
              have hxr1 := hcr (syT q3) q3
              have hxq := hxd q3
              have hcx : xs3.getD (syT q3).toNat 0 = cntT syT (syT q3) q3 := by rw [hxg3]; simp only [nc]; rw [hcast]
              have hpc := hparts _ (hx16 _ hsnN) (hgx _ hsnN)
              have hBq := hBs q3
              have hCq := hCs q3
              have hAq := hAs q3
              generalize hxv : XT q3 = xv at *
              have hxv0 : 0 ≤ xv ∧ xv ≤ 8192 := by simp only [nc] at *; omega
              have hlx := hlen xv (by omega)
              have hbl := blen_16 (x := xv) (by omega) (by omega)
              have hbv := hbd xv
              have hcv := hcd xv
              generalize blen xv = bl at *
              have enn : vb .sub .i64 log (vb .sub .i64 bl 1) = log + 1 - bl := by
                have e : vb .sub .i64 bl 1 = bl - 1 := by rw [qb, sub_i64 (by omega) (by omega)]
                rw [e, qb, sub_i64 (by omega) (by omega)]; omega
              generalize hnnv : log + 1 - bl = nn at *
              have hnn0 : 0 ≤ vw .u64 nn := by
                rw [qw]; simp only [IntKind.wrap, IntKind.bits, IntKind.signed]
                simp
                omega
              have eA : vw .u8 (syT q3) = syT q3 := by rw [qw]; exact wrap_u8 (by omega) (by simp only [nc] at *; omega)
              have eB : vw .u8 nn = bTf xv := by rw [hbv, qw]
              have eC : vw .u16 (vb .sub .i64 (vb .shl .i64 xv (vw .u64 nn)) size) = bAf xv := by rw [hcv, qw, qb]
              rw [← ha3] at hAq
              rw [← hb3] at hBq
              rw [← hc3] at hCq
              obtain ⟨bel, hbel⟩ : ∃ bel : Int, bel = cntT syT (syT q3) q3 := ⟨_, rfl⟩
              rw [← hbel] at hcx hxq hxr1
              have ebl1 : vb .add .i64 bel 1 = bel + 1 := by simp only [nc] at *; rw [qb, add_i64 (by omega) (by omega)]
              have exv : vb .add .i64 (partsN (l.getD (syT q3).toNat 0)) bel = xv := by simp only [nc] at *; rw [qb, add_i64 (by omega) (by omega)]; omega
              obtain ⟨k4, hk4⟩ : ∃ k4 : Int, k4 = ((q3 + 1 : Nat) : Int) := ⟨_, rfl⟩
              have ek4 : vb .add .i64 k3 1 = k4 := by simp only [nc] at *; rw [qb, add_i64 (by omega) (by omega)]; omega
              obtain ⟨xs4, hxs4⟩ : ∃ xs4, xs4 = xs3.set (syT q3).toNat (bel + 1) := ⟨_, rfl⟩
              have evs : vst xs3 (syT q3).toNat (bel + 1) = xs4 := by rw [qst, hxs4]
              have hxl4 : xs4.length = 256 := by rw [hxs4, List.length_set]; exact hxl3
              have hxg4 : ∀ x : Nat, xs4.getD x 0 = cntT syT x (q3 + 1) := by
                intro x
                rw [hcs, hxs4, List.getD_eq_getElem?_getD, List.getElem?_set, hxl3]
                by_cases h : (syT q3).toNat = x
                · have hsy : syT q3 = x := by simp only [nc] at *; omega
                  rw [if_pos h, if_pos (by simp only [nc] at *; omega), if_pos hsy, hbel, hsy]
                  rfl
                · rw [if_neg h, if_neg (by simp only [nc] at *; omega), ← List.getD_eq_getElem?_getD, hxg3]
                  simp only [nc]
                  omega
              generalize hsq : syT q3 = sq at *
              generalize hsqn : sq.toNat = sqn at *
              generalize hci : l.getD sqn 0 = ci at *
              generalize partsN ci = pc at *
              generalize ha4 : tA (q3 + 1) = a4 at *
              generalize hb4 : tB (q3 + 1) = b4 at *
              generalize hs4 : tC (q3 + 1) = c4 at *
              generalize bTf xv = bx at *
              generalize bAf xv = ax at *
              generalize bel + 1 = bel1 at *
              cbv
              rw [ht3, hvgd, hsyq, htsy, hadd0, hvgd, hci]
              refine ⟨⟨hin3⟩, ⟨by rw [hvln]; omega⟩, ⟨hin5⟩, ⟨by rw [hvln]; omega⟩, ⟨by rw [hvln]; omega⟩, ⟨hin4⟩, ⟨by rw [hvln]; simp only [nc] at *; omega⟩, ?_⟩
              refine call_con (ρ := []) hpc ⟨by rfl, by rfl, by rfl, by cbv; exact ⟨fun _ => rfl, trivial⟩⟩ ?_
              rintro v H R js5 ⟨rfl, rfl, rfl⟩
              cbv
              rw [hvgd, hcx, htsy, hvgd, hcx, ebl1, exv, evs]
              refine ⟨fun _ => rfl, ⟨⟨by rw [hvln]; simp only [nc] at *; omega⟩, trivial⟩, ⟨hin4⟩, ⟨by rw [hvln]; simp only [nc] at *; omega⟩, ⟨hin4⟩, ⟨by rw [hvln]; simp only [nc] at *; omega⟩, ?_⟩
              refine call_con (ρ := []) hlx ⟨by rfl, by rfl, by rfl, by cbv; exact ⟨fun _ => rfl, trivial⟩⟩ ?_
              rintro v H R js6 ⟨rfl, rfl, rfl⟩
              cbv
              rw [enn, eA, eB, eC, ht3, updF_3_0, updF_3_1, updF_3_2, hAq, hBq, hCq, ek4]
              refine ⟨fun _ => rfl, ⟨hnn0⟩, ⟨hin3⟩, ⟨hqe3⟩, ⟨hqe3⟩, ⟨hqe3⟩, ?_⟩
              refine Cv.fold ([16, 17, 18] ++ [95, 96, 97, 98, 99, 100, 101, 102, 103, 104, 105, 106, 107, 108, 109, 110, 111, 112, 113, 114, 115, 116, 117, 118, 119, 120, 121, 122, 123, 124, 125, 126, 127, 128, 129, 130, 131, 132, 133, 134, 135, 136, 137, 138, 139]) 4 [] (by exact Nat.le_refl _) (by exact Nat.le_of_ble_eq_true rfl) (by rfl) (by cbv) ?_
              intro js
              refine ⟨(_, _, _, _, _), ?_, js, rfl⟩
              refine ⟨⟨q3 + 1, hk4, by omega, ha4.symm, hb4.symm, hs4.symm, hxl4, hxg4⟩, ?_⟩
              show N - k4.toNat < N - k3.toNat
              simp only [nc] at *
              omega
end Go.Proofs.Ytaaklikigccdfaa
namespace Go.Proofs.Ytaaklikigccdfaa
open Go Go.Sx Go.Proofs
set_option maxRecDepth 10000
set_option maxHeartbeats 40000000
theorem table_bad (l : List Int) (log : Int) (cap : Nat) (hl : ∀ c ∈ l, isI16 c) (hlog : -9223372036854775808 ≤ log ∧ log ≤ 9223372036854775807) (hR : ¬ Right l log) :
    Con Try.prog 44 [.slice 0 .z 1 l.length cap, .int .i64 log] [.ro .i16 l] (fun v H R => R = [] ∧ v = .tup [.val (.slice none 0 0), .int .i64 70] ∧ H = [.ro .i16 l]) := by
  have hright := right_con l log cap hl hlog
  rw [show decide (Right l log) = false by simp [hR]] at hright
  refine con_gen (con_walk hmix fn44 ?_)
  intro vb vc vw vtoN vofN vaddN vsubN vmaxI vminI vcutN vgd vst vln vrep vsub vonto vsplice vstrEq vbyteV vnotB veqB hw qb qc qw qtoN qofN qaddN qsubN qmaxI qminI qcutN qgd qst qln qrep qsub qonto qsplice qstrEq qbyteV qnotB qeqB
  have hm := hmix; generalize Try.prog = P at *
  have hnb : vnotB false = true := by simp only [qnotB]; rfl
  generalize l.length = n at *
  cbv
  refine call_con (ρ := [(0, .z)]) hright ⟨by rfl, by rfl, by rfl, by cbv; exact ⟨view_refl _, trivial⟩⟩ ?_
  rintro v H R js ⟨rfl, rfl, rfl⟩
  cbv
  rw [hnb]
  cbv
theorem reftable_bad (l : List Int) (log : Int) (cap : Nat) (hl : ∀ c ∈ l, isI16 c) (hlog : -9223372036854775808 ≤ log ∧ log ≤ 9223372036854775807) (hR : ¬ Right l log) :
    Con Try.prog 48 [.slice 0 .z 1 l.length cap, .int .i64 log] [.ro .i16 l] (fun v H R => R = [] ∧ v = .tup [.val (.slice none 0 0), .int .i64 70] ∧ H = [.ro .i16 l]) := by
  have hright := refright_con l log cap hl hlog
  rw [show decide (Right l log) = false by simp [hR]] at hright
  refine con_gen (con_walk hmix fn48 ?_)
  intro vb vc vw vtoN vofN vaddN vsubN vmaxI vminI vcutN vgd vst vln vrep vsub vonto vsplice vstrEq vbyteV vnotB veqB hw qb qc qw qtoN qofN qaddN qsubN qmaxI qminI qcutN qgd qst qln qrep qsub qonto qsplice qstrEq qbyteV qnotB qeqB
  have hm := hmix; generalize Try.prog = P at *
  have hnb : vnotB false = true := by simp only [qnotB]; rfl
  generalize l.length = n at *
  cbv
  refine call_con (ρ := [(0, .z)]) hright ⟨by rfl, by rfl, by rfl, by cbv; exact ⟨view_refl _, trivial⟩⟩ ?_
  rintro v H R js ⟨rfl, rfl, rfl⟩
  cbv
  rw [hnb]
  cbv
end Go.Proofs.Ytaaklikigccdfaa
namespace Go.Proofs.Ytaaklikigccdfaa
open Go Go.Sx Go.Proofs
/-! ### How many cells a symbol has -/
def orb (size : Int) (j : Nat) : Int := (j * (size / 2 + size / 8 + 3)) % size
abbrev isSize (size : Int) : Prop := size = 32 ∨ size = 64 ∨ size = 128 ∨ size = 256 ∨ size = 512 ∨ size = 1024 ∨ size = 2048 ∨ size = 4096
theorem size_inv {size : Int} (hs : isSize size) : ∃ inv : Int, (inv * (size / 2 + size / 8 + 3)) % size = 1 := by
  rcases hs with rfl | rfl | rfl | rfl | rfl | rfl | rfl | rfl
  · exact ⟨7, by decide⟩
  · exact ⟨3, by decide⟩
  · exact ⟨91, by decide⟩
  · exact ⟨11, by decide⟩
  · exact ⟨363, by decide⟩
  · exact ⟨43, by decide⟩
  · exact ⟨1451, by decide⟩
  · exact ⟨171, by decide⟩
theorem orb_inv {size inv : Int} (hp : 0 < size) (hi : (inv * (size / 2 + size / 8 + 3)) % size = 1) (j : Nat) (h : (j : Int) < size) : (orb size j * inv) % size = j := by
  unfold orb
  rw [Int.mul_emod, Int.emod_emod_of_dvd _ (Int.dvd_refl _), ← Int.mul_emod, Int.mul_assoc, Int.mul_comm (size / 2 + size / 8 + 3) inv, Int.mul_emod, hi, Int.mul_one, Int.emod_emod_of_dvd _ (Int.dvd_refl _)]
  exact Int.emod_eq_of_lt (by omega) h
theorem orb_onto {size inv : Int} (hp : 0 < size) (hi : (inv * (size / 2 + size / 8 + 3)) % size = 1) {a : Int} (h0 : 0 ≤ a) (h1 : a < size) : ∃ j : Nat, (j : Int) < size ∧ orb size j = a := by
  refine ⟨((a * inv) % size).toNat, ?_, ?_⟩
  · have := Int.emod_lt_of_pos (a * inv) hp
    have := Int.emod_nonneg (a * inv) (by omega : size ≠ 0)
    omega
  · unfold orb
    rw [Int.toNat_of_nonneg (Int.emod_nonneg _ (by omega)), Int.mul_emod, Int.emod_emod_of_dvd _ (Int.dvd_refl _), ← Int.mul_emod, Int.mul_assoc, Int.mul_emod, hi, Int.mul_one, Int.emod_emod_of_dvd _ (Int.dvd_refl _)]
    exact Int.emod_eq_of_lt h0 h1
theorem orb_step {size : Int} (j : Nat) : stepT size (orb size j) = orb size (j + 1) := by
  unfold stepT orb
  rw [Int.add_assoc, Int.add_assoc, Int.emod_add_emod]
  congr 1
  push_cast
  rw [Int.add_mul]
  omega
/-- How many of the first m places of the round are below high. -/
def hitN (size high : Int) : Nat → Int := sumI (fun j => if orb size j < high then 1 else 0)
theorem sumI_delta {n s : Nat} (h : s < n) : sumI (fun i => if i = s then 1 else 0) n = 1 := by
  rw [sumI_upd (f := fun _ => 0) h]
  have : ∀ n, sumI (fun _ => 0) n = 0 := by
    intro n
    induction n with
    | zero => rfl
    | succ n ih => simp only [sumI]; omega
  rw [this]; rfl
theorem hitN_all {size : Int} (hs : isSize size) : ∀ (h : Nat), (h : Int) ≤ size → hitN size h size.toNat = h := by
  obtain ⟨inv, hi⟩ := size_inv hs
  have hp : 0 < size := by omega
  intro h
  induction h with
  | zero =>
    intro _
    unfold hitN
    have : ∀ n, sumI (fun j => if orb size j < ((0 : Nat) : Int) then 1 else 0) n = 0 := by
      intro n
      induction n with
      | zero => rfl
      | succ n ih =>
        have := Int.emod_nonneg (n * (size / 2 + size / 8 + 3)) (by omega : size ≠ 0)
        simp only [sumI]
        rw [ih, if_neg (by unfold orb; omega)]; rfl
    rw [this]; rfl
  | succ h ih =>
    intro hle
    have ih := ih (by omega)
    obtain ⟨j0, hj0, hj1⟩ := orb_onto hp hi (a := h) (by omega) (by omega)
    have hsplit : ∀ n, sumI (fun j => if orb size j < ((h + 1 : Nat) : Int) then 1 else 0) n = sumI (fun j => if orb size j < (h : Int) then 1 else 0) n + sumI (fun j => if orb size j = (h : Int) then 1 else 0) n := by
      intro n
      induction n with
      | zero => rfl
      | succ n ih =>
        simp only [sumI]
        rw [ih]
        by_cases h1 : orb size n < (h : Int)
        · rw [if_pos h1, if_pos (by omega), if_neg (by omega)]; omega
        · by_cases h2 : orb size n = (h : Int)
          · rw [if_neg h1, if_pos (by omega), if_pos h2]; omega
          · rw [if_neg h1, if_neg (by omega), if_neg h2]; omega
    unfold hitN at *
    rw [hsplit, ih, sumI_congr (g := fun j => if j = j0 then 1 else 0) (fun j hj => ?_), sumI_delta (by omega)]
    · push_cast; rfl
    · by_cases he : j = j0
      · subst he; rw [if_pos hj1, if_pos rfl]
      · rw [if_neg he, if_neg (fun e => he ?_)]
        have h1 := orb_inv hp hi j (by omega)
        have h2 := orb_inv hp hi j0 hj0
        rw [e] at h1
        rw [hj1] at h2
        omega
theorem skip_orb {size high : Int} : ∀ (n m : Nat) (hm : ∃ d, d ≤ n ∧ orb size (m + d) < high), ∃ m', m ≤ m' ∧ skipT size high n (orb size m) = orb size m' ∧ orb size m' < high ∧ hitN size high m' = hitN size high m
  | 0, m, ⟨d, hd, h⟩ => by
    have : d = 0 := by omega
    subst this
    exact ⟨m, Nat.le_refl _, rfl, h, rfl⟩
  | n + 1, m, ⟨d, hd, h⟩ => by
    by_cases h0 : orb size m < high
    · exact ⟨m, Nat.le_refl _, by simp only [skipT]; rw [if_pos h0], h0, rfl⟩
    · have hd0 : d ≠ 0 := fun e => by subst e; exact h0 h
      obtain ⟨m', h1, h2, h3, h4⟩ := skip_orb n (m + 1) ⟨d - 1, by omega, by rw [show m + 1 + (d - 1) = m + d by omega]; exact h⟩
      refine ⟨m', by omega, by simp only [skipT]; rw [if_neg h0, orb_step]; exact h2, h3, ?_⟩
      rw [h4]
      unfold hitN
      simp only [sumI]
      rw [if_neg h0]; omega
theorem iter_orb {size : Int} : ∀ (n m : Nat), iterT size n (orb size m) = orb size (m + n)
  | 0, m => rfl
  | n + 1, m => by rw [iterT, orb_step, iter_orb n (m + 1)]; congr 1; omega
theorem pos_orb {size high : Int} (hs : isSize size) (hh : 0 < high) : ∀ q, ∃ m, posT size high q = orb size m ∧ orb size m < high ∧ hitN size high m = q
  | 0 => ⟨0, by simp [posT, orb], by simp [orb]; exact hh, rfl⟩
  | q + 1 => by
    obtain ⟨m, h1, h2, h3⟩ := pos_orb hs hh q
    have hsb := step_bound (size := size) (by omega) (posT size high q)
    obtain ⟨d, hd, hd0⟩ := hit0 hs hsb.1 hsb.2
    rw [h1, orb_step, iter_orb] at hd0
    obtain ⟨m', h4, h5, h6, h7⟩ := skip_orb (size := size) (high := high) 5000 (m + 1) ⟨d, by omega, by omega⟩
    refine ⟨m', by simp only [posT, nextT]; rw [h1, orb_step]; exact h5, h6, ?_⟩
    rw [h7]
    unfold hitN at *
    simp only [sumI]
    rw [if_pos h2, h3]; push_cast; rfl
theorem pos_inj {size : Int} {h : Nat} (hs : isSize size) (hle : (h : Int) ≤ size) {p q : Nat} (hp : p < h) (hq : q < h) (he : posT size h p = posT size h q) : p = q := by
  obtain ⟨inv, hi⟩ := size_inv hs
  obtain ⟨m, a1, a2, a3⟩ := pos_orb hs (by omega : (0 : Int) < h) p
  obtain ⟨n, b1, b2, b3⟩ := pos_orb hs (by omega : (0 : Int) < h) q
  have hall := hitN_all hs h hle
  have hlt : ∀ m k : Nat, k < h → hitN size h m = k → (m : Int) < size := by
    intro m k hk hm
    apply Classical.byContradiction
    intro hc
    have := sumI_mono (f := fun j => if orb size j < (h : Int) then 1 else 0) (m := size.toNat) (n := m) (fun i _ => by split <;> omega) (by omega)
    unfold hitN at hall hm
    omega
  have h1 := orb_inv (by omega) hi m (hlt m p hp a3)
  have h2 := orb_inv (by omega) hi n (hlt n q hq b3)
  rw [← a1, he, b1] at h1
  have : (m : Int) = n := by rw [← h1, ← h2]
  have : m = n := by omega
  subst this
  omega
end Go.Proofs.Ytaaklikigccdfaa
namespace Go.Proofs.Ytaaklikigccdfaa
open Go Go.Sx Go.Proofs
theorem cntT_upd {f : Nat → Int} {p : Nat} {v s : Int} : ∀ {N : Nat}, p < N → cntT (updI f p v) s N = cntT f s N - (if f p = s then 1 else 0) + (if v = s then 1 else 0) := by
  have e : ∀ (g : Nat → Int) N, cntT g s N = sumI (fun k => if g k = s then 1 else 0) N := by
    intro g N
    induction N with
    | zero => rfl
    | succ N ih => simp only [cntT, sumI, ih]
  intro N h
  rw [e, e, ← sumI_upd (f := fun k => if f k = s then 1 else 0) h]
  refine sumI_congr (fun i _ => ?_)
  rw [updI_eq]
  by_cases hi : i = p
  · rw [if_pos hi, if_pos hi]
  · rw [if_neg hi, if_neg hi]
theorem cntT_const {c s : Int} (h : c ≠ s) : ∀ N, cntT (fun _ => c) s N = 0
  | 0 => rfl
  | N + 1 => by simp only [cntT]; rw [cntT_const h N, if_neg h]; rfl
theorem cntT_all {c : Int} : ∀ N, cntT (fun _ => c) c N = N
  | 0 => rfl
  | N + 1 => by simp only [cntT]; rw [cntT_all N]; simp
theorem cntT_congr {f g : Nat → Int} {s : Int} : ∀ {N : Nat}, (∀ k, k < N → f k = g k) → cntT f s N = cntT g s N
  | 0, _ => rfl
  | N + 1, h => by simp only [cntT]; rw [cntT_congr (fun k hk => h k (by omega)), h N (by omega)]
theorem cntT_none {f : Nat → Int} {s : Int} : ∀ {N : Nat}, cntT f s N = 0 → ∀ k, k < N → f k ≠ s
  | 0, _, k, hk => by omega
  | N + 1, h, k, hk => by
    have h0 := cntT_range f s N
    simp only [cntT] at h
    by_cases he : f N = s
    · rw [if_pos he] at h; omega
    · rw [if_neg he] at h
      by_cases hkn : k = N
      · subst hkn; exact he
      · exact cntT_none (N := N) (by omega) k (by omega)
def negG (l : List Int) (size : Int) : Nat → Nat → Int
  | 0 => fun _ => -1
  | i + 1 => if l.getD i 0 < 0 then updI (negG l size i) (size - negN l (i + 1)).toNat i else negG l size i
theorem negG_spec {l : List Int} {size : Int} {N : Nat} (hN : size = N) : ∀ i : Nat, negN l i ≤ size → (∀ k : Nat, (k : Int) < size - negN l i → negG l size i k = -1) ∧ (∀ k, negG l size i k ≠ -1 → negS l size i k = negG l size i k) ∧
    (∀ s : Nat, cntT (negG l size i) s N = if s < i ∧ l.getD s 0 < 0 then 1 else 0) ∧ cntT (negG l size i) (-1) N = N - negN l i
  | 0, _ => by
    refine ⟨fun k _ => rfl, fun k h => absurd rfl h, fun s => ?_, ?_⟩
    · rw [if_neg (by omega)]; exact cntT_const (by omega) N
    · simp only [negG, negN]; rw [cntT_all]; omega
  | i + 1, hle => by
    have hd : negN l (i + 1) = negN l i + (if l.getD i 0 < 0 then 1 else 0) := rfl
    have hr := negN_range l i
    by_cases h : l.getD i 0 < 0
    · rw [if_pos h] at hd
      obtain ⟨h1, h2, h3, h4⟩ := negG_spec (l := l) (size := size) hN i (by omega)
      have hp : ((size - negN l (i + 1)).toNat : Int) = size - negN l (i + 1) := Int.toNat_of_nonneg (by omega)
      have hpN : (size - negN l (i + 1)).toNat < N := by omega
      have hfresh : negG l size i (size - negN l (i + 1)).toNat = -1 := h1 _ (by omega)
      simp only [negG, negS]
      rw [if_pos h, if_pos h]
      refine ⟨fun k hk => ?_, fun k hk => ?_, fun s => ?_, ?_⟩
      · rw [updI_eq, if_neg (by omega)]; exact h1 k (by omega)
      · rw [updI_eq] at hk ⊢
        rw [updI_eq]
        split
        · rfl
        · rename_i hne; rw [if_neg hne] at hk; exact h2 k hk
      · rw [cntT_upd hpN, hfresh, h3]
        by_cases hs : s = i
        · subst hs
          rw [if_neg (by omega), if_neg (by omega), if_pos rfl, if_pos ⟨by omega, h⟩]; rfl
        · rw [if_neg (show ¬ (-1 : Int) = s by omega), if_neg (show ¬ (i : Int) = s by omega)]
          by_cases hc : s < i ∧ l.getD s 0 < 0
          · rw [if_pos hc, if_pos ⟨by omega, hc.2⟩]; rfl
          · rw [if_neg hc, if_neg (fun hh => hc ⟨by omega, hh.2⟩)]; rfl
      · rw [cntT_upd hpN, hfresh, h4, if_pos rfl, if_neg (by omega)]; omega
    · rw [if_neg h] at hd
      obtain ⟨h1, h2, h3, h4⟩ := negG_spec (l := l) (size := size) hN i (by omega)
      simp only [negG, negS]
      rw [if_neg h, if_neg h, hd]
      refine ⟨fun k hk => h1 k (by omega), h2, fun s => ?_, by rw [h4]; omega⟩
      rw [h3]
      by_cases hc : s < i ∧ l.getD s 0 < 0
      · rw [if_pos hc, if_pos ⟨by omega, hc.2⟩]
      · rw [if_neg hc, if_neg]
        rintro ⟨h5, h6⟩
        by_cases hs : s = i
        · subst hs; exact h h6
        · exact hc ⟨by omega, h6⟩
theorem place_spec {l row : List Int} {size : Int} {N h n : Nat} (hs : isSize size) (hN : size = N) (hh : (h : Int) = size - negN l n) (hneg : negN l n ≤ size) : ∀ q : Nat, q ≤ h → (∀ j, j < q → 0 ≤ row.getD j 0) →
    (∀ k : Nat, k < h → (∀ j, j < q → posT size h j ≠ k) → placeT size h row (negG l size n) q k = -1) ∧ (∀ k, placeT size h row (negG l size n) q k ≠ -1 → placeT size h row (negS l size n) q k = placeT size h row (negG l size n) q k) ∧
    (∀ s : Nat, cntT (placeT size h row (negG l size n) q) s N = (if s < n ∧ l.getD s 0 < 0 then 1 else 0) + cntT (fun j => row.getD j 0) s q) ∧ cntT (placeT size h row (negG l size n) q) (-1) N = N - negN l n - q
  | 0, _, _ => by
    obtain ⟨h1, h2, h3, h4⟩ := negG_spec (l := l) (size := size) hN n hneg
    refine ⟨fun k hk _ => h1 k (by omega), h2, fun s => ?_, ?_⟩
    · show cntT (negG l size n) s N = _
      rw [h3]; simp [cntT]
    · show cntT (negG l size n) (-1) N = _
      rw [h4]; simp
  | q + 1, hq, hrow => by
    have hr := negN_range l n
    obtain ⟨h1, h2, h3, h4⟩ := place_spec (row := row) (h := h) (n := n) hs hN hh hneg q (by omega) (fun j hj => hrow j (by omega))
    have hpr := posT_range (size := size) (high := h) hs (by omega) q
    have hp : ((posT size h q).toNat : Int) = posT size h q := Int.toNat_of_nonneg hpr.1
    have hpN : (posT size h q).toNat < N := by omega
    have hfresh : placeT size h row (negG l size n) q (posT size h q).toNat = -1 := by
      refine h1 _ (by omega) (fun j hj e => ?_)
      have := pos_inj (size := size) (h := h) hs (by omega) (p := j) (q := q) (by omega) (by omega) (by omega)
      omega
    have hrq := hrow q (by omega)
    simp only [placeT]
    refine ⟨fun k hk hj => ?_, fun k hk => ?_, fun s => ?_, ?_⟩
    · rw [updI_eq, if_neg (fun e => hj q (by omega) (by omega))]
      exact h1 k hk (fun j hj' => hj j (by omega))
    · rw [updI_eq] at hk ⊢
      rw [updI_eq]
      split
      · rfl
      · rename_i hne; rw [if_neg hne] at hk; exact h2 k hk
    · rw [cntT_upd hpN, hfresh, h3, if_neg (show ¬ (-1 : Int) = s by omega)]
      simp only [cntT]
      omega
    · rw [cntT_upd hpN, hfresh, h4, if_pos rfl, if_neg (show ¬ row.getD q 0 = -1 by omega)]; push_cast; omega
theorem cnt_take (row : List Int) (s : Int) : ∀ i, i ≤ row.length → cntT (fun j => row.getD j 0) s i = (row.take i).count s
  | 0, _ => by simp [cntT]
  | i + 1, h => by
    simp only [cntT]
    rw [cnt_take row s i (by omega), take_snoc (by omega), List.count_append, List.count_singleton]
    by_cases he : row.getD i 0 = s
    · rw [if_pos he, if_pos (beq_iff_eq.mpr he)]; push_cast; rfl
    · rw [if_neg he, if_neg (fun h => he (beq_iff_eq.mp h))]; push_cast; rfl
theorem row_count (l : List Int) (s : Nat) : ∀ i, (rowT l i).count (s : Int) = if s < i then (l.getD s 0).toNat else 0
  | 0 => by simp [rowT]
  | i + 1 => by
    rw [rowT, List.count_append, row_count l s i, List.count_replicate]
    by_cases h : s = i
    · subst h; simp
    · have hb : (((i : Nat) : Int) == ((s : Nat) : Int)) = false := by simp; omega
      have hb' : (((s : Nat) : Int) == ((i : Nat) : Int)) = false := by simp; omega
      rw [if_neg (show ¬ ((((i : Nat) : Int) == ((s : Nat) : Int)) = true) by rw [hb]; simp)]
      by_cases h2 : s < i
      · rw [if_pos h2, if_pos (show s < i + 1 by omega)]; rfl
      · rw [if_neg h2, if_neg (show ¬ s < i + 1 by omega)]
/-- Each symbol has as many cells as its count tells. -/
theorem sym_count {l : List Int} {size : Int} {N : Nat} (hs : isSize size) (hN : size = N) (h1 : ∀ c ∈ l, -1 ≤ c) (hsum : sumP l = size) (s : Nat) (hsl : s < l.length) : cntT (symT l size) s N = partsN (l.getD s 0) := by
  have hrl := rowT_length l h1 l.length (Nat.le_refl _)
  rw [List.take_length, hsum] at hrl
  have hr := negN_range l l.length
  obtain ⟨h, hh⟩ : ∃ h : Nat, (h : Int) = size - negN l l.length := ⟨(rowT l l.length).length, hrl⟩
  have hrh : (rowT l l.length).length = h := by omega
  have hrow : ∀ j, j < h → 0 ≤ (rowT l l.length).getD j 0 := fun j _ => by
    rcases getD_mem_or (l := rowT l l.length) j with hm | hm
    · exact (rowT_mem l _ _ hm).1
    · omega
  obtain ⟨p1, p2, p3, p4⟩ := place_spec (l := l) (row := rowT l l.length) (n := l.length) hs hN hh (by omega) h (Nat.le_refl _) hrow
  have hnone := cntT_none (show cntT (placeT size h (rowT l l.length) (negG l size l.length) h) (-1) N = 0 by rw [p4]; omega)
  have hsy : symT l size = placeT size h (rowT l l.length) (negS l size l.length) h := by
    unfold symT
    rw [← hh]; simp
  rw [hsy, cntT_congr (fun k hk => p2 k (hnone k hk)), p3, cnt_take _ _ _ (by omega), ← hrh, List.take_length, row_count, if_pos hsl]
  have hc : -1 ≤ l.getD s 0 := h1 _ (by rw [List.getD_eq_getElem?_getD, List.getElem?_eq_getElem hsl]; exact List.getElem_mem _)
  unfold partsN
  by_cases hneg : l.getD s 0 < 0
  · rw [if_pos ⟨hsl, hneg⟩, if_pos hneg]; omega
  · rw [if_neg (fun hh => hneg hh.2), if_neg hneg]; omega
end Go.Proofs.Ytaaklikigccdfaa
namespace Go.Proofs.Ytaaklikigccdfaa
open Go Go.Sx Go.Proofs
/-! ### The cells that lead to a state -/
theorem wrap_u16 {x : Int} (h0 : 0 ≤ x) (h1 : x < 65536) : IntKind.u16.wrap x = x := by
  simp [IntKind.wrap, IntKind.signed, IntKind.bits]; omega
theorem pow_le_pow2 {a b : Nat} (h : a ≤ b) : (2 : Int) ^ a ≤ 2 ^ b := by exact_mod_cast Nat.pow_le_pow_right (by omega : 0 < 2) h
theorem nb_spec {log x size : Int} (hlog : 5 ≤ log ∧ log ≤ 12) (hs : 2 ^ log.toNat = size) (h0 : 1 ≤ x) (h1 : x < 2 * size) : ∃ b : Nat, (b : Int) ≤ log ∧ size ≤ x * 2 ^ b ∧ (x + 1) * 2 ^ b ≤ 2 * size ∧ bT log x = b ∧ baseT log size x = x * 2 ^ b - size := by
  obtain ⟨n, hn⟩ : ∃ n : Nat, log = n := ⟨log.toNat, by omega⟩
  have hsn : (2 : Int) ^ n = size := by rw [← hs, hn]; simp
  have hle : (2 : Int) ^ n ≤ 2 ^ 12 := pow_le_pow2 (by omega)
  obtain ⟨k, k1, k2, k3⟩ := blen_spec (x := x) (by omega)
  have hkn : k ≤ n := by
    apply Classical.byContradiction
    intro hc
    have := pow_le_pow2 (a := n + 1) (b := k) (by omega)
    rw [Int.pow_succ] at this
    omega
  obtain ⟨b, hb⟩ : ∃ b : Nat, n = k + b := ⟨n - k, by omega⟩
  have hsz : (2 : Int) ^ k * 2 ^ b = size := by rw [← hsn, hb, Int.pow_add]
  have hb0 : (0 : Int) < 2 ^ b := Int.pow_pos (by omega)
  have a1 : size ≤ x * 2 ^ b := by rw [← hsz]; exact Int.mul_le_mul_of_nonneg_right k2 (by omega)
  have a2 : (x + 1) * 2 ^ b ≤ 2 * size := by
    have : (x + 1) * 2 ^ b ≤ 2 ^ (k + 1) * 2 ^ b := Int.mul_le_mul_of_nonneg_right (by omega) (by omega)
    rw [Int.pow_succ, Int.mul_right_comm, hsz] at this
    omega
  have a3 : x * 2 ^ b < 2 * size := by rw [Int.add_mul] at a2; omega
  have e1 : log + 1 - blen x = b := by omega
  refine ⟨b, by omega, a1, a2, ?_, ?_⟩
  · unfold bT
    rw [e1]
    have : IntKind.u8.wrap b = b := wrap_u8 (by omega) (by omega)
    exact this
  · have ew : IntKind.u64.wrap (b : Int) = b := wrap_u64 (by omega) (by omega)
    have es : bV .shl .i64 x b = x * 2 ^ b := by
      show IntKind.i64.wrap (x * 2 ^ (min ((b : Int).toNat) IntKind.i64.bits)) = x * 2 ^ b
      have e : min ((b : Int).toNat) IntKind.i64.bits = b := by simp [IntKind.bits]; omega
      rw [e]
      exact wrap_i64 (by omega) (by omega)
    unfold baseT
    rw [e1, ew, es, sub_i64 (by omega) (by omega)]
    exact wrap_u16 (by omega) (by omega)
theorem right_size {l : List Int} {log size : Int} (hR : Right l log) (hs : 2 ^ log.toNat = size) : isSize size := by
  obtain ⟨s, h1, h2⟩ := size_of ⟨hR.1, hR.2.1⟩
  rw [h1] at hs
  subst hs
  exact h2
/-- Each cell of a table leads to a stretch of the states. -/
theorem cell_in {l : List Int} {log size : Int} {N : Nat} (hR : Right l log) (hs : 2 ^ log.toNat = size) (hN : size = N) {k : Nat} (hk : k < N) : ∃ b : Nat, (b : Int) ≤ log ∧ tabB l log size N k = b ∧ 0 ≤ tabC l log size N k ∧ tabC l log size N k + 2 ^ b ≤ size ∧ 1 ≤ partsN (l.getD (symT l size k).toNat 0) := by
  have hsz := right_size hR hs
  obtain ⟨g1, g2, g3, g4, g5, g6, g7⟩ := hR
  have hr := symT_range (l := l) size (by omega) k
  obtain ⟨s, hsy⟩ : ∃ s : Nat, symT l size k = s := ⟨(symT l size k).toNat, by omega⟩
  have hcnt := sym_count hsz hN g6 (by rw [g7, hs]) s (by omega)
  have hlt : ∀ (f : Nat → Int) (s : Int) (N k : Nat), k < N → f k = s → cntT f s k + 1 ≤ cntT f s N := by
    intro f s N
    induction N with
    | zero => intro k h; omega
    | succ N ih =>
      intro k h he
      simp only [cntT]
      by_cases hk : k = N
      · subst hk; rw [if_pos he]; omega
      · have := ih k (by omega) he
        split <;> omega
  have h1 := hlt (symT l size) s N k hk hsy
  have h2 := cntT_range (symT l size) s k
  have h3 := partsN_le_sum g6 s
  have hx : xT l (symT l size) k = partsN (l.getD s 0) + cntT (symT l size) s k := by unfold xT; rw [hsy, Int.toNat_natCast]
  obtain ⟨b, b1, b2, b3, b4, b5⟩ := nb_spec ⟨g1, g2⟩ hs (x := xT l (symT l size) k) (by omega) (by rw [hx]; omega)
  refine ⟨b, b1, ?_, ?_, ?_, by rw [hsy, Int.toNat_natCast]; omega⟩
  · unfold tabB; rw [if_pos hk, b4]
  · unfold tabC; rw [if_pos hk, b5]; omega
  · unfold tabC; rw [if_pos hk, b5]; rw [Int.add_mul] at b3; omega
/-- What the states of a row of symbols tell. -/
inductive Enc (N : Nat) (A B C : Nat → Int) : List Int → Nat → List Int → Prop
  | nil : Enc N A B C [] 0 []
  | cons {ls v bits s k} : Enc N A B C ls v bits → k < N → A k = s → C k ≤ v → v - C k < 2 ^ (B k).toNat → Enc N A B C (s :: ls) k (bits ++ bitsN (v - C k) (B k).toNat)
end Go.Proofs.Ytaaklikigccdfaa
namespace Go.Proofs.Ytaaklikigccdfaa
open Go Go.Sx Go.Proofs
theorem wrap_i16 {x : Int} (h0 : -32768 ≤ x) (h1 : x < 32768) : IntKind.i16.wrap x = x := by
  simp [IntKind.wrap, IntKind.bits, IntKind.signed]; omega
theorem add_u64 {x y : Int} (h0 : 0 ≤ x + y) (h1 : x + y < 18446744073709551616) : bV .add .u64 x y = x + y := wrap_u64 h0 h1
/-! ### Reading counts, plainly -/
/-- n bits at a place, where they are there. -/
def rdN (b : List Int) (pos n : Nat) : Option Int := if pos + n ≤ 8 * b.length then some (bval (bitL b) pos n) else none
/-- A value, of which the first bits are read: the value, the place behind it. -/
def valR (b : List Int) (pos : Nat) (most v : Int) : Option (Int × Nat) :=
  if v ≥ 2 ^ (blen most).toNat - 1 - most then (match rdN b (pos + (blen most - 1).toNat) 1 with
      | none => none
      | some top => some (if top = 1 then v + (2 ^ (blen most - 1).toNat - (2 ^ (blen most).toNat - 1 - most)) else v, pos + (blen most).toNat))
    else some (v, pos + (blen most - 1).toNat)
theorem valR_low {b : List Int} {pos : Nat} {most v : Int} (h : ¬ v ≥ 2 ^ (blen most).toNat - 1 - most) : valR b pos most v = some (v, pos + (blen most - 1).toNat) := by unfold valR; rw [if_neg h]
theorem valR_none {b : List Int} {pos : Nat} {most v : Int} (h : v ≥ 2 ^ (blen most).toNat - 1 - most) (h2 : rdN b (pos + (blen most - 1).toNat) 1 = none) : valR b pos most v = none := by unfold valR; rw [if_pos h, h2]
theorem valR_some {b : List Int} {pos : Nat} {most v top : Int} (h : v ≥ 2 ^ (blen most).toNat - 1 - most) (h2 : rdN b (pos + (blen most - 1).toNat) 1 = some top) :
    valR b pos most v = some (if top = 1 then v + (2 ^ (blen most - 1).toNat - (2 ^ (blen most).toNat - 1 - most)) else v, pos + (blen most).toNat) := by unfold valR; rw [if_pos h, h2]
/-- What is left to hand out; what was read; the place. In a row of zeros or ahead of a count. The answer: an error, the counts, the place. -/
def readS (b : List Int) (ms : Int) : Nat → Bool → Int → List Int → Nat → Int × List Int × Nat
  | 0, _, _, cs, pos => (0, cs, pos)
  | f + 1, false, left, cs, pos =>
    if left ≤ 0 then (0, cs, pos)
    else if (cs.length : Int) > ms then (11, [], 0)
    else match rdN b pos (blen (left + 1) - 1).toNat with
      | none => (10, [], 0)
      | some v => match valR b pos (left + 1) v with
        | none => (10, [], 0)
        | some (v, pos) => if v - 1 ≠ 0 then readS b ms f false (left - partsN (v - 1)) (cs ++ [v - 1]) pos
          else if ((cs ++ [v - 1]).length : Int) > ms then (11, [], 0) else readS b ms f true (left - partsN (v - 1)) (cs ++ [v - 1]) pos
  | f + 1, true, left, cs, pos => match rdN b pos 2 with
    | none => (10, [], 0)
    | some n => if ((cs ++ List.replicate n.toNat 0).length : Int) > ms then (11, [], 0) else if n = 3 then readS b ms f true left (cs ++ List.replicate n.toNat 0) (pos + 2) else readS b ms f false left (cs ++ List.replicate n.toNat 0) (pos + 2)
/-- The answer of Read: counts, log, how many bytes, error. -/
def readR (b : List Int) (ml ms : Int) : List Int × Int × Int × Int :=
  if ml < 5 ∨ ml > 12 ∨ ms < 0 ∨ ms > 255 then ([], 0, 0, 2)
  else match rdN b 0 4 with
    | none => ([], 0, 0, 10)
    | some x => if x + 5 > ml then ([], 0, 0, 11) else
      if (readS b ms 600 false (2 ^ (x + 5).toNat) [] 4).1 ≠ 0 then ([], 0, 0, (readS b ms 600 false (2 ^ (x + 5).toNat) [] 4).1)
      else ((readS b ms 600 false (2 ^ (x + 5).toNat) [] 4).2.1, x + 5, ((readS b ms 600 false (2 ^ (x + 5).toNat) [] 4).2.2 + 7 : Int) / 8, 0)
theorem rd_rs (b : List Int) (pos cap bl : Nat) (n acc hv ai : Int) (hbl : bl = b.length) (hby : ∀ x ∈ b, isByte x) (hl : b.length ≤ 2 ^ 50) (h : RS b pos acc hv ai) (hn : 0 ≤ n ∧ n ≤ 56) :
    Con Try.prog 68 [.ptr 0 .z 4 0, .int .i64 n] [(.one 178 [.fn 91 [.ptr 1 .z 1 0, .ptr 2 .z 1 0], .int .u64 (acc), .int .i64 (hv), .fn 92 [.ptr 2 .z 1 0, .ptr 1 .z 1 0]]), .one 3 [.int .i64 ai], .one 22 [.slice 3 .z 1 bl cap], .ro .u8 b]
      (fun v H R => R = [] ∧ ∃ acc2 hv2 ai2 x e pos2, v = .tup [.int .u64 x, .int .i64 e] ∧ RS b pos2 acc2 hv2 ai2 ∧
        ((e = 0 ∧ rdN b pos n.toNat = some x ∧ pos2 = pos + n.toNat ∧ 0 ≤ x ∧ x < 2 ^ n.toNat) ∨ (e = 10 ∧ rdN b pos n.toNat = none)) ∧
        H = [(.one 178 [.fn 91 [.ptr 1 .z 1 0, .ptr 2 .z 1 0], .int .u64 (acc2), .int .i64 (hv2), .fn 92 [.ptr 2 .z 1 0, .ptr 1 .z 1 0]]), .one 3 [.int .i64 ai2], .one 22 [.slice 3 .z 1 bl cap], .ro .u8 b]) := by
  subst hbl
  refine (rbits_rs b pos cap n acc hv ai hby hl h).mono ?_
  rintro v H R ⟨rfl, rfl, acc2, hv2, ai2, hrs, rfl⟩
  refine ⟨rfl, acc2, hv2, ai2, _, _, _, rfl, hrs, ?_, rfl⟩
  unfold rbX rbE rbP rdN
  by_cases hp : pos + n.toNat ≤ 8 * b.length
  · have hp' : (pos : Int) + n ≤ 8 * b.length := by omega
    have hb := bval_bound (bitL b) (bitL_bit b) pos n.toNat
    have hc : 0 ≤ n ∧ n ≤ 56 ∧ (pos : Int) + n ≤ 8 * b.length := ⟨hn.1, hn.2, hp'⟩
    simp only [if_pos hc, if_pos hn, if_pos hp', if_pos hp]
    exact .inl ⟨trivial, trivial, trivial, hb⟩
  · have hp' : ¬ (pos : Int) + n ≤ 8 * b.length := by omega
    have hc : ¬ (0 ≤ n ∧ n ≤ 56 ∧ (pos : Int) + n ≤ 8 * b.length) := fun h => hp' h.2.2
    simp only [if_neg hc, if_pos hn, if_neg hp', if_neg hp]
    exact .inr ⟨trivial, trivial⟩
end Go.Proofs.Ytaaklikigccdfaa
namespace Go.Proofs.Ytaaklikigccdfaa
open Go Go.Sx Go.Proofs
set_option maxRecDepth 10000
set_option maxHeartbeats 40000000
theorem read_raw (b : List Int) (cap : Nat) (ml ms : Int) (hby : ∀ x ∈ b, isByte x) (hl : b.length ≤ 140737488355328) (hml : -9223372036854775808 ≤ ml ∧ ml ≤ 9223372036854775807) (hms : -9223372036854775808 ≤ ms ∧ ms ≤ 9223372036854775807)
    (cs0 : List Int) (log0 used0 e0 : Int) (hR : readR b ml ms = (cs0, log0, used0, e0)) :
    Con Try.prog 43 [.slice 0 .z 1 b.length cap, .int .i64 ml, .int .i64 ms] [.ro .u8 b] (fun v H R => dropN 1 R = [] ∧ 1 ≤ H.length ∧ genH (H.take 1) = [.ro .u8 b] ∧
      ((e0 ≠ 0 ∧ gen v = .tup [.val (.slice none 0 0), .int .i64 0, .int .i64 0, .int .i64 e0]) ∨
        (e0 = 0 ∧ 6 ≤ H.length ∧ ∃ c c0 acc hv ai, gen v = .tup [.slice 5 .z 1 cs0.length c, .int .i64 log0, .int .i64 used0, .int .i64 0] ∧
          genH (H.take 6) = [.ro .u8 b, .buf 5 .u8 b c0, .one 22 [.slice 1 .z 1 b.length c0], .one 3 [.int .i64 ai], .one 178 [.fn 91 [.ptr 3 .z 1 0, .ptr 2 .z 1 0], .int .u64 acc, .int .i64 hv, .fn 92 [.ptr 2 .z 1 0, .ptr 3 .z 1 0]], .buf 125 .i16 cs0 c]))) := by
  have hnew := rnew_con b cap hl
  have hrd := @rd_rs b
  have hleft := @rleft_rs b
  have hlen := len_con
  have hparts := parts_con
  have hst0 := RS.start b
  refine con_walk hmix fn43 ?_
  intro vb vc vw vtoN vofN vaddN vsubN vmaxI vminI vcutN vgd vst vln vrep vsub vonto vsplice vstrEq vbyteV vnotB veqB hw qb qc qw qtoN qofN qaddN qsubN qmaxI qminI qcutN qgd qst qln qrep qsub qonto qsplice qstrEq qbyteV qnotB qeqB
  have hm := hmix; generalize Try.prog = P at *
  have hR : (if ml < 5 ∨ ml > 12 ∨ ms < 0 ∨ ms > 255 then ([], 0, 0, 2)
      else match rdN b 0 4 with
        | none => ([], 0, 0, 10)
        | some x => if x + 5 > ml then ([], 0, 0, 11) else
          if (readS b ms 600 false (2 ^ (x + 5).toNat) [] 4).1 ≠ 0 then ([], 0, 0, (readS b ms 600 false (2 ^ (x + 5).toNat) [] 4).1)
          else ((readS b ms 600 false (2 ^ (x + 5).toNat) [] 4).2.1, x + 5, ((readS b ms 600 false (2 ^ (x + 5).toNat) [] 4).2.2 + 7 : Int) / 8, 0)) = (cs0, log0, used0, e0) := hR
  generalize hbl : b.length = bl at *
  cbv
  generalize h1 : vc .lss ml 5 = z1
  cases z1
  rotate_left
  · rw [qc, lss_true] at h1
    have he0 : e0 = 2 := by
      rw [if_pos (by omega)] at hR; simp only [Prod.mk.injEq] at hR; exact hR.2.2.2.symm
    cbv
    exact .inl ⟨by rw [he0]; decide, by rw [he0]⟩
  rw [qc, lss_false] at h1
  cbv
  generalize h2 : vc .gtr ml 12 = z2
  cases z2
  rotate_left
  · rw [qc, gtr_true] at h2
    have he0 : e0 = 2 := by
      rw [if_pos (by omega)] at hR; simp only [Prod.mk.injEq] at hR; exact hR.2.2.2.symm
    cbv
    exact .inl ⟨by rw [he0]; decide, by rw [he0]⟩
  rw [qc, gtr_false] at h2
  cbv
  generalize h3 : vc .lss ms 0 = z3
  cases z3
  rotate_left
  · rw [qc, lss_true] at h3
    have he0 : e0 = 2 := by
      rw [if_pos (by omega)] at hR; simp only [Prod.mk.injEq] at hR; exact hR.2.2.2.symm
    cbv
    exact .inl ⟨by rw [he0]; decide, by rw [he0]⟩
  rw [qc, lss_false] at h3
  cbv
  generalize h4 : vc .gtr ms 255 = z4
  cases z4
  rotate_left
  · rw [qc, gtr_true] at h4
    have he0 : e0 = 2 := by
      rw [if_pos (by omega)] at hR; simp only [Prod.mk.injEq] at hR; exact hR.2.2.2.symm
    cbv
    exact .inl ⟨by rw [he0]; decide, by rw [he0]⟩
  rw [qc, gtr_false] at h4
  rw [if_neg (by omega)] at hR
  cbv
  refine call_con (ρ := [(0, .z)]) hnew ⟨by rfl, by rfl, by rfl, by cbv; exact ⟨view_refl _, trivial⟩⟩ ?_
  rintro v H R js ⟨rfl, rfl, c0, rfl⟩
  have hrd4 := hrd 0 c0 bl 4 0 0 0 rfl hby (by omega) hst0 (by omega)
  cbv
  refine call_con (ρ := [(4, .z), (3, .z), (2, .z), (1, .z)]) hrd4 ⟨by rfl, by rfl, by rfl, by cbv; exact ⟨view_refl _, trivial⟩⟩ ?_
  rintro v H R js2 ⟨rfl, acc2, hv2, ai2, x, e, pos2, rfl, hrs, hcase, rfl⟩
  cbv
  have h00 : vc .neq 0 0 = false := by rw [qc]; rfl
  have h100 : vc .neq 10 0 = true := by rw [qc]; rfl
  rcases hcase with ⟨rfl, hrd1, rfl, hx0, hx1⟩ | ⟨rfl, hrd1⟩
  rotate_left
  · rw [h100]
    have he0 : e0 = 10 := by
      have hrd1 : rdN b 0 4 = none := hrd1
      rw [hrd1] at hR; simp only [Prod.mk.injEq] at hR; exact hR.2.2.2.symm
    cbv
    exact .inl ⟨by rw [he0]; decide, by rw [he0]⟩
  have hrd1 : rdN b 0 4 = some x := hrd1
  have hx1 : x < 16 := hx1
  rw [hrd1] at hR
  simp only at hR
  rw [h00]
  have ew1 : vw .i64 x = x := by rw [qw]; exact wrap_i64 (by omega) (by omega)
  have ea1 : vb .add .i64 x 5 = x + 5 := by rw [qb, add_i64 (by omega) (by omega)]
  obtain ⟨lg, hlg⟩ : ∃ lg : Int, lg = x + 5 := ⟨_, rfl⟩
  rw [← hlg] at ea1 hR
  cbv
  rw [ew1, ea1]
  generalize h5 : vc .gtr lg ml = z5
  cases z5
  rotate_left
  · rw [qc, gtr_true] at h5
    have he0 : e0 = 11 := by
      rw [if_pos (by omega)] at hR; simp only [Prod.mk.injEq] at hR; exact hR.2.2.2.symm
    cbv
    exact .inl ⟨by rw [he0]; decide, by rw [he0]⟩
  rw [qc, gtr_false] at h5
  rw [if_neg (by omega)] at hR
  have e2 : vw .u64 lg = lg := by rw [qw]; exact wrap_u64 (by omega) (by omega)
  have e3 : vb .shl .i64 1 lg = 2 ^ lg.toNat := by rw [qb, one_shl (by omega) (by omega)]
  have hpl := pow_log (log := lg) (by omega)
  generalize hpw : (2 : Int) ^ lg.toNat = pw at *
  have hfuel : ∃ RES, readS b ms 600 false pw [] 4 = RES := ⟨_, rfl⟩
  obtain ⟨RES, hRES⟩ := hfuel
  rw [hRES] at hR
  have hbad : ∀ E : Int, E ≠ 0 → RES = (E, [], 0) → e0 = E := by
    intro E hE h
    rw [h] at hR
    simp only at hR
    rw [if_pos hE] at hR
    simp only [Prod.mk.injEq] at hR
    exact hR.2.2.2.symm
  have hgood : ∀ cs pos, RES = (0, cs, pos) → cs0 = cs ∧ log0 = lg ∧ used0 = ((pos : Int) + 7) / 8 ∧ e0 = 0 := by
    intro cs pos h
    rw [h] at hR
    simp only at hR
    rw [if_neg (by decide)] at hR
    simp only [Prod.mk.injEq] at hR
    exact ⟨hR.1.symm, hR.2.1.symm, hR.2.2.1.symm, hR.2.2.2.symm⟩
  clear hR hrd4 hrd1 hst0
  have hrS := readS.eq_def
  cbv
  rw [e2, e3]
  refine ⟨⟨by omega⟩, ?_⟩
  refine WX.cv (Cv.nilT 6 125 .i16 (by rfl) (by cbv; try exact ⟨fun _ => rfl, trivial⟩) (Cv.here ?_))
  cbv
  refine loop_fam (α := Nat × Int × List Int × Nat × Nat × Nat × Int × Int × Int) ([13, 14, 15, 16, 17, 18, 19, 20] ++ [54, 55, 56, 57, 58, 59, 60, 61, 62, 63, 64, 65, 66, 67, 68, 69, 70, 71, 72, 73, 74, 75, 76, 77, 78, 79, 80, 81, 82, 83, 84, 85, 86, 87, 88, 89, 90, 91, 92, 93, 94, 95, 96, 97, 98, 99, 100, 101, 102, 103, 104, 105, 106, 107, 108, 109, 110, 111, 112, 113, 114, 115, 116, 117, 118, 119, 120, 121, 122, 123, 124, 125, 126, 127, 128, 129, 130, 131, 132, 133, 134, 135, 136]) [5]
    (fun (f, left, cs, rl, c, pos, acc, hv, ai) => [(12, .int .i64 left), (6, .slice 5 .z 1 rl c)])
    (fun (f, left, cs, rl, c, pos, acc, hv, ai) => [(3, .one 3 [.int .i64 ai]), (4, .one 178 [.fn 91 [.ptr 3 .z 1 0, .ptr 2 .z 1 0], .int .u64 acc, .int .i64 hv, .fn 92 [.ptr 2 .z 1 0, .ptr 3 .z 1 0]]), (5, .buf 125 .i16 cs c)])
    (fun (f, left, cs, rl, c, pos, acc, hv, ai) => readS b ms f false left cs pos = RES ∧ 600 ≤ f + 2 * cs.length ∧ cs.length ≤ 256 ∧ rl = cs.length ∧ RS b pos acc hv ai ∧ left ≤ 4096)
    (fun (f, left, cs, rl, c, pos, acc, hv, ai) => f) hw hm ?_ ?_
  · refine Cv.genAt [] [3, 4] (Cv.fold ([13, 14, 15, 16, 17, 18, 19, 20] ++ [54, 55, 56, 57, 58, 59, 60, 61, 62, 63, 64, 65, 66, 67, 68, 69, 70, 71, 72, 73, 74, 75, 76, 77, 78, 79, 80, 81, 82, 83, 84, 85, 86, 87, 88, 89, 90, 91, 92, 93, 94, 95, 96, 97, 98, 99, 100, 101, 102, 103, 104, 105, 106, 107, 108, 109, 110, 111, 112, 113, 114, 115, 116, 117, 118, 119, 120, 121, 122, 123, 124, 125, 126, 127, 128, 129, 130, 131, 132, 133, 134, 135, 136]) 6 [5] (by exact Nat.le_refl _) (by exact Nat.le_of_ble_eq_true rfl) (by rfl) (by cbv) ?_)
    intro js
    refine ⟨(600, _, _, _, _, 4, _, _, _), ?_, js, rfl⟩
    exact ⟨hRES, by omega, by simp, rfl, hrs, by omega⟩
  · rintro ⟨f, left, cs, rl, c, pos, acc, hv, ai⟩ js ⟨hS, hf, hcl, hrl, hrs3, hle⟩
    obtain ⟨g, rfl⟩ : ∃ g, f = g + 1 := ⟨f - 1, by omega⟩
    have hofn : vofN rl = (rl : Int) := by simp only [qofN]
    rw [readS] at hS
    cbv
    split
    rotate_left
    · rename_i hz
      rw [qc, gtr_false] at hz
      rw [if_pos (by omega)] at hS
      obtain ⟨rfl, rfl, hu, he0⟩ := hgood _ _ hS.symm
      have hlf := hleft pos c0 acc hv ai (by omega) hrs3
      have hposb : (pos : Int) ≤ 8 * bl := by
        obtain ⟨at', h1, h2, h3, _⟩ := hrs3
        simp only [nc] at *
        omega
      obtain ⟨lf, hlf1⟩ : ∃ lf : Int, lf = 8 * (bl : Int) - pos := ⟨_, rfl⟩
      simp only [nc] at hlf
      rw [← hlf1] at hlf
      have eq8 : vb .quo .i64 lf 8 = lf / 8 := by rw [qb, quo_i64 (by omega) (by omega) (by omega)]
      have hofb : vofN bl = (bl : Int) := by simp only [qofN]
      have eu : vb .sub .i64 (vofN bl) (lf / 8) = used0 := by rw [hofb, qb, sub_i64 (by omega) (by omega), hu]; simp only [nc] at *; omega
      cbv
      refine call_con (ρ := [(4, .z), (3, .z), (2, .z), (1, .z)]) hlf ⟨by rfl, by rfl, by rfl, by cbv; exact ⟨view_refl _, trivial⟩⟩ ?_
      rintro v H R js3 ⟨rfl, rfl, rfl⟩
      cbv
      rw [eq8, eu, hrl]
      exact .inr ⟨he0, c, c0, acc, hv, ai, rfl, rfl⟩
    · rename_i hz
      rw [qc, gtr_true] at hz
      rw [if_neg (by omega)] at hS
      cbv
      generalize hz2 : vc .gtr (vofN rl) ms = z2
      cases z2
      rotate_left
      · rw [qc, gtr_true, hofn] at hz2
        rw [if_pos (by simp only [nc] at *; omega)] at hS
        have he0 := hbad 11 (by decide) hS.symm
        cbv
        exact .inl ⟨by rw [he0]; decide, by rw [he0]⟩
      rw [qc, gtr_false, hofn] at hz2
      rw [if_neg (by simp only [nc] at *; omega)] at hS
      have ea : vb .add .i64 left 1 = left + 1 := by rw [qb, add_i64 (by omega) (by omega)]
      obtain ⟨mo, hmo⟩ : ∃ mo : Int, mo = left + 1 := ⟨_, rfl⟩
      rw [← hmo] at ea hS
      have eb : vw .u64 mo = mo := by rw [qw]; exact wrap_u64 (by omega) (by omega)
      have hl1 := hlen mo (by omega)
      have hmax := blen_max (x := mo) (by omega) (by omega)
      obtain ⟨mk, hmk, hmk1, hmk2⟩ := blen_spec (x := mo) (by omega)
      have hvA := fun v => @valR_low b pos mo v
      have hvB := fun v => @valR_none b pos mo v
      have hvC := fun v top => @valR_some b pos mo v top
      generalize valR b pos mo = VR at *
      generalize blen mo = mb at *
      have ec : vw .u64 mb = mb := by rw [qw]; exact wrap_u64 (by omega) (by omega)
      have ed : vb .shl .i64 1 mb = 2 ^ mb.toNat := by rw [qb, one_shl62 (by omega) (by omega)]
      have ee : vb .sub .i64 mb 1 = mb - 1 := by rw [qb, sub_i64 (by omega) (by omega)]
      have ee2 : vw .u64 (mb - 1) = mb - 1 := by rw [qw]; exact wrap_u64 (by omega) (by omega)
      have ef : vb .shl .u64 1 (mb - 1) = 2 ^ (mb - 1).toNat := by
        have e : (mb - 1).toNat = mk := by omega
        have e4 : mb - 1 = (mk : Int) := by omega
        rw [e, e4, qb]
        show IntKind.u64.wrap (1 * 2 ^ (min ((mk : Int).toNat) IntKind.u64.bits)) = 2 ^ mk
        have e2 : min ((mk : Int).toNat) IntKind.u64.bits = mk := by simp [IntKind.bits]; omega
        have hp : (2 : Int) ^ mk ≤ 2 ^ 12 := by exact_mod_cast Nat.pow_le_pow_right (by omega : 0 < 2) (by omega : mk ≤ 12)
        have hp0 : (0 : Int) < 2 ^ mk := Int.pow_pos (by omega)
        rw [e2, Int.one_mul]
        exact wrap_u64 (by omega) (by omega)
      have hpm : (2 : Int) ^ mb.toNat = 2 ^ (mk + 1) := by rw [hmk]; rfl
      have hmbt : (mb - 1).toNat = mk := by omega
      have hmbt2 : mb.toNat = mk + 1 := by omega
      have hpw2 : (2 : Int) ^ (mk + 1) = 2 * 2 ^ mk := by rw [Int.pow_succ]; omega
      rw [hpm, hpw2] at ed
      rw [hmbt] at ef hS
      simp only [hmbt, hmbt2, hpw2] at hvA hvB hvC
      rw [hpw2] at hmk2
      have hqq : (2 : Int) ^ mk ≤ 2 ^ 12 := by exact_mod_cast Nat.pow_le_pow_right (by omega : 0 < 2) (by omega : mk ≤ 12)
      have hrdm := hrd pos c0 bl (mb - 1) acc hv ai rfl hby (by omega) hrs3 (by omega)
      rw [hmbt] at hrdm
      generalize hq : (2 : Int) ^ mk = q at *
      have eg : vb .sub .i64 (2 * q) 1 = 2 * q - 1 := by rw [qb, sub_i64 (by omega) (by omega)]
      have eh : vb .sub .i64 (2 * q - 1) mo = 2 * q - 1 - mo := by rw [qb, sub_i64 (by omega) (by omega)]
      have ehw : vw .u64 (2 * q - 1 - mo) = 2 * q - 1 - mo := by rw [qw]; exact wrap_u64 (by omega) (by omega)
      have ei : vb .sub .u64 q (2 * q - 1 - mo) = q - (2 * q - 1 - mo) := by rw [qb]; show IntKind.u64.wrap _ = _; exact wrap_u64 (by omega) (by omega)
      obtain ⟨tt, htt⟩ : ∃ tt : Int, tt = 2 * q - 1 - mo := ⟨_, rfl⟩
      rw [← htt] at eh ehw ei
      simp only [hq, ← htt] at hvA hvB hvC
      generalize hq21 : 2 * q - 1 = q21 at *
      generalize hq2 : 2 * q = q2 at *
      generalize hmb1 : mb - 1 = mb1 at *
      cbv
      rw [ea, eb]
      refine call_con (ρ := []) hl1 ⟨by rfl, by rfl, by rfl, by cbv⟩ ?_
      rintro v H R js3 ⟨rfl, rfl, rfl⟩
      cbv
      rw [ec, ed, eg, ea, eh, ehw, ee]
      refine ⟨⟨by omega⟩, ?_⟩
      refine call_con (ρ := [(4, .z), (3, .z), (2, .z), (1, .z)]) hrdm ⟨by rfl, by rfl, by rfl, by cbv; exact ⟨view_refl _, trivial⟩⟩ ?_
      rintro v H R js4 ⟨rfl, acc3, hv3, ai3, v1, e1, pos3, rfl, hrs4, hcase, rfl⟩
      cbv
      rcases hcase with ⟨rfl, hrd1, rfl, hv0, hv1⟩ | ⟨rfl, hrd1⟩
      rotate_left
      · rw [hrd1] at hS
        have he0 := hbad 10 (by decide) hS.symm
        rw [h100]
        cbv
        exact .inl ⟨by rw [he0]; decide, by rw [he0]⟩
      rw [hrd1] at hS
      simp only at hS
      rw [h00]
      cbv
      have hrd1b := fun acc hv ai h => hrd (pos + mk) c0 bl 1 acc hv ai rfl hby (by omega) h (by omega)
      generalize hz7 : vc .geq v1 tt = z7
      have hfin : ∀ (vv : Int) (pp : Nat), VR v1 = some (vv, pp) → (if vv - 1 ≠ 0 then readS b ms g false (left - partsN (vv - 1)) (cs ++ [vv - 1]) pp
          else if ((cs ++ [vv - 1]).length : Int) > ms then (11, [], 0) else readS b ms g true (left - partsN (vv - 1)) (cs ++ [vv - 1]) pp) = RES := by
        intro vv pp h
        rw [h] at hS
        exact hS
      cases z7
      rw [qc, geq_false] at hz7
      have hval : ∃ (vv : Int) (pp : Nat), vv = v1 ∧ pp = pos + mk ∧ VR v1 = some (vv, pp) ∧ 0 ≤ vv ∧ vv ≤ 8192 := ⟨_, _, rfl, rfl, hvA _ (by omega), by omega, by omega⟩
      obtain ⟨vv, pp, rfl, hpp, hvr, hvv0, hvv1⟩ := hval
      rw [← hpp] at hrs4
      have hrsF := hrs4
      cbv
      rotate_left
      rw [qc, geq_true] at hz7
      cbv
      refine call_con (ρ := [(4, .z), (3, .z), (2, .z), (1, .z)]) (hrd1b _ _ _ hrs4) ⟨by rfl, by rfl, by rfl, by cbv; exact ⟨view_refl _, trivial⟩⟩ ?_
      rintro v H R js5 ⟨rfl, accF, hvF, aiF, top, e2, pp, rfl, hrsF, hcase2, rfl⟩
      cbv
      rcases hcase2 with ⟨rfl, hrd2, hpp, ht0, ht1⟩ | ⟨rfl, hrd2⟩
      rotate_left
      · rw [hvB _ (by omega) hrd2] at hS
        have he0 := hbad 10 (by decide) hS.symm
        rw [h100]
        cbv
        exact .inl ⟨by rw [he0]; decide, by rw [he0]⟩
      rotate_left
      have hvr := hvC _ _ (by omega) hrd2
      rw [h00]
      cbv
      generalize hz8 : vc .eql top 1 = z8
      cases z8
      rw [qc, eql_false] at hz8
      rw [if_neg hz8] at hvr
      have hval : ∃ (vv : Int), vv = v1 ∧ VR v1 = some (vv, pp) ∧ 0 ≤ vv ∧ vv ≤ 8192 := ⟨_, rfl, by rw [hvr, hpp]; rfl, by omega, by omega⟩
      clear hvr
      obtain ⟨vv, rfl, hvr, hvv0, hvv1⟩ := hval
      cbv
      rotate_left
      rw [qc, eql_true] at hz8
      rw [if_pos hz8] at hvr
      have ej : vb .add .u64 v1 (q - tt) = v1 + (q - tt) := by rw [qb, add_u64 (by omega) (by omega)]
      have hval : ∃ (vv : Int), vv = v1 + (q - tt) ∧ VR v1 = some (vv, pp) ∧ 0 ≤ vv ∧ vv ≤ 8192 := ⟨_, rfl, by rw [hvr, hpp]; rfl, by omega, by omega⟩
      clear hvr
      obtain ⟨vv, hvv, hvr, hvv0, hvv1⟩ := hval
      rw [← hvv] at ej
      cbv
      rw [ee, ee2, ef, ei, ej]
      refine ⟨⟨by omega⟩, ?_⟩
      all_goals
        have hS2 := hfin _ _ hvr
        clear hfin hS hvA hvB hvC
        have ek : vw .i16 vv = vv := by rw [qw]; exact wrap_i16 (by omega) (by omega)
        have el : vb .sub .i16 vv 1 = vv - 1 := by rw [qb]; show IntKind.i16.wrap _ = _; exact wrap_i16 (by omega) (by omega)
        obtain ⟨cc, hcc⟩ : ∃ cc : Int, cc = vv - 1 := ⟨_, rfl⟩
        rw [← hcc] at el hS2
        have hpc := hparts cc (by unfold isI16; omega)
        have hpn := partsN_le (c := cc) (by unfold isI16; omega)
        generalize partsN cc = pc at *
        have em : vb .sub .i64 left pc = left - pc := by rw [qb, sub_i64 (by omega) (by omega)]
        obtain ⟨left2, hl2⟩ : ∃ left2 : Int, left2 = left - pc := ⟨_, rfl⟩
        rw [← hl2] at em hS2
        have hvln : vln cs = rl := by simp only [qln, hrl]
        have hsub : vsub [cc] 0 1 = [cc] := by simp only [qsub]; rfl
        have honto : vonto cs rl [cc] = cs ++ [cc] := by rw [qonto, hrl]; simp
        have hln1 : vln [cc] = 1 := by simp only [qln]; rfl
        have ha1 : vaddN rl 1 = rl + 1 := by simp only [qaddN]
        have ha01 : vaddN 0 1 = 1 := by simp only [qaddN]
        have hrl40 : rl ≤ 256 := by omega
        obtain ⟨cs2, hcs2⟩ : ∃ cs2 : List Int, cs2 = cs ++ [cc] := ⟨_, rfl⟩
        have hcl2 : cs2.length = rl + 1 := by rw [hcs2, List.length_append, hrl]; rfl
        rw [← hcs2] at honto hS2
        obtain ⟨rl2, hrl2⟩ : ∃ rl2 : Nat, rl2 = rl + 1 := ⟨_, rfl⟩
        rw [← hrl2] at ha1 hcl2
        have hofn2 : vofN rl2 = (rl2 : Int) := by simp only [qofN]
        rw [ek, el]
        refine ⟨⟨by rw [ha01, hln1]; exact Nat.le_refl _⟩, ⟨by rw [hvln]; exact Nat.le_refl _⟩, ⟨Nat.le_refl _⟩, ⟨by rw [ha1]; omega⟩, ?_⟩
        intro c4 js6 hle4
        cbv
        refine call_con (ρ := []) hpc ⟨by rfl, by rfl, by rfl, by cbv⟩ ?_
        rintro v H R js7 ⟨rfl, rfl, rfl⟩
        cbv
        rw [em, hsub, honto, ha1]
        generalize hz9 : vc .neq cc 0 = z9
        cases z9
        rotate_left
        · rw [qc, neq_true] at hz9
          rw [if_pos hz9] at hS2
          cbv
          refine Cv.fold ([13, 14, 15, 16, 17, 18, 19, 20] ++ [54, 55, 56, 57, 58, 59, 60, 61, 62, 63, 64, 65, 66, 67, 68, 69, 70, 71, 72, 73, 74, 75, 76, 77, 78, 79, 80, 81, 82, 83, 84, 85, 86, 87, 88, 89, 90, 91, 92, 93, 94, 95, 96, 97, 98, 99, 100, 101, 102, 103, 104, 105, 106, 107, 108, 109, 110, 111, 112, 113, 114, 115, 116, 117, 118, 119, 120, 121, 122, 123, 124, 125, 126, 127, 128, 129, 130, 131, 132, 133, 134, 135, 136]) 6 [5] (by exact Nat.le_refl _) (by exact Nat.le_of_ble_eq_true rfl) (by rfl) (by cbv) ?_
          intro js
          refine ⟨(g, _, _, _, _, pp, _, _, _), ?_, js, rfl⟩
          refine ⟨⟨hS2, by omega, by simp only [nc] at *; omega, hcl2.symm, hrsF, by omega⟩, ?_⟩
          show g < g + 1
          omega
        rw [qc, neq_false] at hz9
        rw [if_neg hz9] at hS2
        cbv
        generalize hz10 : vc .gtr (vofN rl2) ms = z10
        cases z10
        rotate_left
        · rw [qc, gtr_true, hofn2] at hz10
          rw [if_pos (by simp only [nc] at *; omega)] at hS2
          have he0 := hbad 11 (by decide) hS2.symm
          cbv
          exact .inl ⟨by rw [he0]; decide, by rw [he0]⟩
        rw [qc, gtr_false, hofn2] at hz10
        rw [if_neg (by simp only [nc] at *; omega)] at hS2
        cbv
        refine loop_fam (α := Nat × Int × List Int × Nat × Nat × Nat × Int × Int × Int) ([16, 56, 106, 109, 116] ++ [120, 121, 122, 123, 124, 125, 126, 127, 128, 129, 130, 131, 132, 133, 134, 135, 136]) [5]
          (fun (f, nn, cs, rl, c, pos, acc, hv, ai) => [(20, .int .u64 nn), (6, .slice 5 .z 1 rl c)])
          (fun (f, nn, cs, rl, c, pos, acc, hv, ai) => [(3, .one 3 [.int .i64 ai]), (4, .one 178 [.fn 91 [.ptr 3 .z 1 0, .ptr 2 .z 1 0], .int .u64 acc, .int .i64 hv, .fn 92 [.ptr 2 .z 1 0, .ptr 3 .z 1 0]]), (5, .buf 125 .i16 cs c)])
          (fun (f, nn, cs, rl, c, pos, acc, hv, ai) => ((nn = 3 ∧ readS b ms f true left2 cs pos = RES ∧ 601 ≤ f + 2 * cs.length) ∨ (nn ≠ 3 ∧ readS b ms f false left2 cs pos = RES ∧ 600 ≤ f + 2 * cs.length)) ∧ cs.length ≤ 256 ∧ rl = cs.length ∧ RS b pos acc hv ai ∧ f ≤ g)
          (fun (f, nn, cs, rl, c, pos, acc, hv, ai) => f) hw hm ?_ ?_
        · refine Cv.genAt [20] [] (Cv.fold ([16, 56, 106, 109, 116] ++ [120, 121, 122, 123, 124, 125, 126, 127, 128, 129, 130, 131, 132, 133, 134, 135, 136]) 7 [5] (by exact Nat.le_refl _) (by exact Nat.le_of_ble_eq_true rfl) (by rfl) (by cbv) ?_)
          intro js
          refine ⟨(g, _, _, _, _, pp, _, _, _), ?_, js, rfl⟩
          exact ⟨.inl ⟨rfl, hS2, by omega⟩, by simp only [nc] at *; omega, hcl2.symm, hrsF, Nat.le_refl _⟩
        · rintro ⟨f5, nn, cs5, rl5, c5, pos5, acc5, hv5, ai5⟩ js ⟨hS5, hcl5, hrl5, hrs5, hf5⟩
          clear hS2
          cbv
          split
          rotate_left
          · rename_i hz11
            rw [qc, eql_false] at hz11
            obtain ⟨_, hS6, hf6⟩ := hS5.resolve_left (fun h => hz11 h.1)
            cbv
            refine Cv.fold ([13, 14, 15, 16, 17, 18, 19, 20] ++ [54, 55, 56, 57, 58, 59, 60, 61, 62, 63, 64, 65, 66, 67, 68, 69, 70, 71, 72, 73, 74, 75, 76, 77, 78, 79, 80, 81, 82, 83, 84, 85, 86, 87, 88, 89, 90, 91, 92, 93, 94, 95, 96, 97, 98, 99, 100, 101, 102, 103, 104, 105, 106, 107, 108, 109, 110, 111, 112, 113, 114, 115, 116, 117, 118, 119, 120, 121, 122, 123, 124, 125, 126, 127, 128, 129, 130, 131, 132, 133, 134, 135, 136]) 6 [5] (by exact Nat.le_refl _) (by exact Nat.le_of_ble_eq_true rfl) (by rfl) (by cbv) ?_
            intro js
            refine ⟨(f5, _, _, _, _, pos5, _, _, _), ?_, js, rfl⟩
            refine ⟨⟨hS6, hf6, hcl5, hrl5, hrs5, by omega⟩, ?_⟩
            show f5 < g + 1
            omega
          · rename_i hz11
            rw [qc, eql_true] at hz11
            obtain ⟨_, hS6, hf6⟩ := hS5.resolve_right (fun h => h.1 hz11)
            obtain ⟨g5, rfl⟩ : ∃ g5, f5 = g5 + 1 := ⟨f5 - 1, by omega⟩
            rw [readS] at hS6
            have hrd5 := hrd pos5 c0 bl 2 acc5 hv5 ai5 rfl hby (by omega) hrs5 (by omega)
            cbv
            refine call_con (ρ := [(4, .z), (3, .z), (2, .z), (1, .z)]) hrd5 ⟨by rfl, by rfl, by rfl, by cbv; exact ⟨view_refl _, trivial⟩⟩ ?_
            rintro v H R js8 ⟨rfl, acc6, hv6, ai6, n2, e2, pos6, rfl, hrs6, hcase6, rfl⟩
            cbv
            rcases hcase6 with ⟨rfl, hrd6, hpos6, hn0, hn1⟩ | ⟨rfl, hrd6⟩
            rotate_left
            · have hrd6 : rdN b pos5 2 = none := hrd6
              rw [hrd6] at hS6
              have he0 := hbad 10 (by decide) hS6.symm
              rw [h100]
              cbv
              exact .inl ⟨by rw [he0]; decide, by rw [he0]⟩
            have hrd6 : rdN b pos5 2 = some n2 := hrd6
            have hpos6 : pos6 = pos5 + 2 := hpos6
            have hn1 : n2 < 4 := hn1
            rw [hrd6] at hS6
            simp only at hS6
            rw [← hpos6] at hS6
            have htn : vtoN n2 = n2.toNat := by simp only [qtoN]
            have hrep : vrep n2.toNat 0 = List.replicate n2.toNat 0 := by simp only [qrep]
            have honto5 : vonto cs5 rl5 (List.replicate n2.toNat 0) = cs5 ++ List.replicate n2.toNat 0 := by rw [qonto, hrl5]; simp
            obtain ⟨cs7, hcs7⟩ : ∃ cs7 : List Int, cs7 = cs5 ++ List.replicate n2.toNat 0 := ⟨_, rfl⟩
            rw [← hcs7] at hS6 honto5
            have hvln5 : vln cs5 = rl5 := by simp only [qln, hrl5]
            have ha5 : vaddN rl5 n2.toNat = rl5 + n2.toNat := by simp only [qaddN]
            have hcl7 : cs7.length = rl5 + n2.toNat := by rw [hcs7, List.length_append, List.length_replicate, hrl5]
            have hrl5b : rl5 ≤ 256 := by omega
            have hnN4 : n2.toNat < 4 := by omega
            obtain ⟨rl7, hrl7⟩ : ∃ rl7 : Nat, rl7 = rl5 + n2.toNat := ⟨_, rfl⟩
            rw [← hrl7] at ha5 hcl7
            have hofn7 : vofN rl7 = (rl7 : Int) := by simp only [qofN]
            clear hcs7
            generalize hrepv : List.replicate n2.toNat (0 : Int) = rep at *
            generalize hnNv : n2.toNat = nN at *
            rw [h00]
            cbv
            rw [htn, hrep, ha5]
            refine ⟨⟨hn0⟩, ⟨by omega⟩, ⟨by rw [hvln5]; exact Nat.le_refl _⟩, ⟨Nat.le_refl _⟩, ⟨by omega⟩, ?_⟩
            intro c7 js9 hle7
            cbv
            rw [honto5, ha5]
            generalize hz12 : vc .gtr (vofN rl7) ms = z12
            cases z12
            rotate_left
            · rw [qc, gtr_true, hofn7] at hz12
              rw [if_pos (by simp only [nc] at *; omega)] at hS6
              have he0 := hbad 11 (by decide) hS6.symm
              cbv
              exact .inl ⟨by rw [he0]; decide, by rw [he0]⟩
            · rw [qc, gtr_false, hofn7] at hz12
              rw [if_neg (by simp only [nc] at *; omega)] at hS6
              cbv
              refine Cv.fold ([16, 56, 106, 109, 116] ++ [120, 121, 122, 123, 124, 125, 126, 127, 128, 129, 130, 131, 132, 133, 134, 135, 136]) 7 [5] (by exact Nat.le_refl _) (by exact Nat.le_of_ble_eq_true rfl) (by rfl) (by cbv) ?_
              intro js
              refine ⟨(g5, _, _, _, _, pos6, _, _, _), ?_, js, rfl⟩
              refine ⟨⟨?_, by simp only [nc] at *; omega, hcl7.symm, hrs6, by omega⟩, ?_⟩
              · by_cases h3 : n2 = 3
                · rw [if_pos h3] at hS6
                  exact .inl ⟨h3, hS6, by omega⟩
                · rw [if_neg h3] at hS6
                  exact .inr ⟨h3, hS6, by omega⟩
              · show g5 < g5 + 1
                omega
end Go.Proofs.Ytaaklikigccdfaa
namespace Go.Proofs.Ytaaklikigccdfaa
open Go Go.Sx Go.Proofs
theorem refbit_con (b : List Int) (cap i : Nat) (p : Int) (hby : ∀ x ∈ b, isByte x) (hl : b.length ≤ 2 ^ 50) (hi : i < 8 * b.length) :
    Con Try.prog 96 [.ptr 0 .z 2 0, .int .i64 i] [.one 156 [.slice 1 .z 1 b.length cap, .int .i64 p], .ro .u8 b]
      (fun v H R => v = .int .u64 ((bitL b).getD i 0) ∧ R = [] ∧ H = [.one 156 [.slice 1 .z 1 b.length cap, .int .i64 p], .ro .u8 b]) := by
  have hg := bitL_get b i hi
  have hbb := byte_bit hby (i / 8)
  refine con_walk hmix fn96 ?_
  intro vb vc vw vtoN vofN vaddN vsubN vmaxI vminI vcutN vgd vst vln vrep vsub vonto vsplice vstrEq vbyteV vnotB veqB hw qb qc qw qtoN qofN qaddN qsubN qmaxI qminI qcutN qgd qst qln qrep qsub qonto qsplice qstrEq qbyteV qnotB qeqB
  generalize Try.prog = P at *
  generalize (bitL b).getD i 0 = X at *
  generalize hi0 : ((i : Nat) : Int) = i0 at *
  generalize hlen : b.length = len at *
  have hq : vb .quo .i64 i0 8 = i0 / 8 := by rw [qb, quo_i64 (by omega) (by omega) (by omega)]
  have hr : vb .rem .i64 i0 8 = i0 % 8 := by rw [qb, rem_i64 (by omega)]
  have hwr : vw .u64 (i0 % 8) = i0 % 8 := by simp only [qw]; exact wrap_u64 (by omega) (by omega)
  have hin : 0 ≤ vb .quo .i64 i0 8 ∧ vb .quo .i64 i0 8 < len := by rw [hq]; omega
  have hqn : vtoN (vb .quo .i64 i0 8) = i / 8 := by rw [hq]; simp only [qtoN]; omega
  have hlt : vtoN (vb .quo .i64 i0 8) < vln b := by rw [hqn]; simp only [qln]; omega
  have hlt2 : vaddN 0 (vtoN (vb .quo .i64 i0 8)) < vln b := by simp only [qaddN, Nat.zero_add]; exact hlt
  have hnn : 0 ≤ vw .u64 (vb .rem .i64 i0 8) := by rw [hr, hwr]; omega
  have hval : vb .and .u64 (vw .u64 (vb .shr .u8 (vgd b (vtoN (vb .quo .i64 i0 8))) (vw .u64 (vb .rem .i64 i0 8)))) 1 = X := by
    rw [hr, hwr, hqn, qb, shr_eq (by show i0 % 8 ≤ ((8 : Nat) : Int); omega)]
    simp only [qgd, qw]
    have e : X = b.getD (i / 8) 0 / 2 ^ (i0 % 8).toNat % 2 := by
      rw [hg]; unfold bitAt; rw [if_pos (by omega)]
      have : (i0 / 8).toNat = i / 8 := by omega
      rw [this]
    rw [e]
    generalize b.getD (i / 8) 0 = y at *
    have h1 : 0 ≤ y / 2 ^ (i0 % 8).toNat := Int.ediv_nonneg hbb.1 (Int.le_of_lt (Int.pow_pos (by decide)))
    have h2 : y / 2 ^ (i0 % 8).toNat ≤ y := Int.ediv_le_self _ hbb.1
    have h3 := hbb.2
    rw [wrap_u64 h1 (by omega), and_one rfl h1 (by show _ < (2 : Int) ^ 64; omega)]
  cbv
  refine ⟨⟨hin⟩, ⟨hlt2⟩, ⟨hlt⟩, ⟨hnn⟩, ?_⟩
  rw [hval]
  exact ⟨rfl, trivial⟩
theorem refleft_con (b : List Int) (cap pos : Nat) (hl : b.length ≤ 2 ^ 50) (hp : pos ≤ 8 * b.length) :
    Con Try.prog 95 [.ptr 0 .z 2 0] [.one 156 [.slice 1 .z 1 b.length cap, .int .i64 pos], .ro .u8 b]
      (fun v H R => v = .int .i64 (8 * b.length - pos) ∧ R = [] ∧ H = [.one 156 [.slice 1 .z 1 b.length cap, .int .i64 pos], .ro .u8 b]) := by
  refine con_walk hmix fn95 ?_
  intro vb vc vw vtoN vofN vaddN vsubN vmaxI vminI vcutN vgd vst vln vrep vsub vonto vsplice vstrEq vbyteV vnotB veqB hw qb qc qw qtoN qofN qaddN qsubN qmaxI qminI qcutN qgd qst qln qrep qsub qonto qsplice qstrEq qbyteV qnotB qeqB
  generalize Try.prog = P at *
  generalize hL : (8 * (b.length : Int) - pos) = L
  generalize hlen : b.length = len at *
  generalize hp0 : ((pos : Nat) : Int) = p0 at *
  have e1 : vb .sub .i64 (vb .mul .i64 8 (vofN len)) p0 = L := by simp only [qb, qofN]; rw [mul_i64 (by omega) (by omega), sub_i64 (by omega) (by omega)]; omega
  cbv
  rw [e1]
  exact ⟨rfl, trivial⟩
set_option maxHeartbeats 2000000 in
theorem refbits_ok (b : List Int) (cap pos n : Nat) (hby : ∀ x ∈ b, isByte x) (hl : b.length ≤ 2 ^ 50) (hn : n ≤ 56) (hen : pos + n ≤ 8 * b.length) :
    Con Try.prog 75 [.ptr 0 .z 2 0, .int .i64 n] [.one 156 [.slice 1 .z 1 b.length cap, .int .i64 pos], .ro .u8 b]
      (fun v H R => v = .tup [.int .u64 (bval (bitL b) pos n), .lit .i64 0] ∧ R = [] ∧ H = [.one 156 [.slice 1 .z 1 b.length cap, .int .i64 ((pos + n : Nat))], .ro .u8 b]) := by
  have hbit := fun i hi => refbit_con b cap i pos hby hl hi
  have hleft := refleft_con b cap pos hl (by omega)
  refine con_cut 2 (by simp) (con_red [] (con_walk hmix fn75 ?_))
  intro vb vc vw vtoN vofN vaddN vsubN vmaxI vminI vcutN vgd vst vln vrep vsub vonto vsplice vstrEq vbyteV vnotB veqB hw qb qc qw qtoN qofN qaddN qsubN qmaxI qminI qcutN qgd qst qln qrep qsub qonto qsplice qstrEq qbyteV qnotB qeqB
  have hm := hmix
  generalize Try.prog = P at *
  generalize hX : bval (bitL b) pos n = X
  generalize hL : (8 * (b.length : Int) - pos) = L at *
  generalize hp1 : ((pos + n : Nat) : Int) = p1 at *
  generalize hp0 : ((pos : Nat) : Int) = p0 at *
  generalize hn0 : ((n : Nat) : Int) = n0 at *
  have hbd : ∀ i, 0 ≤ bval (bitL b) pos i ∧ bval (bitL b) pos i < 2 ^ i := bval_bound (bitL b) (bitL_bit b) pos
  have hbl : ∀ i, 0 ≤ (bitL b).getD i 0 ∧ (bitL b).getD i 0 < 2 := fun i => by
    rw [List.getD_eq_getElem?_getD]
    cases hg : (bitL b)[i]? with
    | none => exact ⟨by simp, by simp⟩
    | some y => have := bitL_bit b y (List.mem_of_getElem? hg); unfold isBit at this; simp; omega
  generalize hlen : b.length = len at *
  cbv
  have e1 : vc .lss n0 0 = false := by rw [qc, lss_false]; simp only [nc] at *; omega
  have e2 : vc .gtr n0 56 = false := by rw [qc, gtr_false]; simp only [nc] at *; omega
  have e3 : vc .lss L n0 = false := by rw [qc, lss_false]; simp only [nc] at *; omega
  rw [e1]
  cbv
  rw [e2]
  cbv
  refine call_con (ρ := [(0, .z), (1, .z)]) hleft ⟨by rfl, by rfl, by rfl, by cbv; exact ⟨view_refl _, trivial⟩⟩ ?_
  rintro v H R js ⟨rfl, rfl, rfl⟩
  cbv
  rw [e3]
  cbv
  refine loop_fam (α := Int × Int) [18, 19, 20, 21, 22, 23, 24, 25, 26, 27, 28, 29, 30, 31, 32, 33, 34, 35] []
    (fun (x, k) => [(6, .int .u64 x), (7, .int .i64 k)]) (fun (x, k) => [])
    (fun (x, k) => ∃ i : Nat, k = i ∧ i ≤ n ∧ x = bval (bitL b) pos i) (fun (x, k) => n - k.toNat) hw hm ?_ ?_
  · refine Cv.genAt [6, 7] [] (Cv.fold [18, 19, 20, 21, 22, 23, 24, 25, 26, 27, 28, 29, 30, 31, 32, 33, 34, 35] 2 [] (by exact Nat.le_refl _) (by exact Nat.le_of_ble_eq_true rfl) (by rfl) (by cbv) ?_)
    intro js
    refine ⟨(_, _), ?_, js, rfl⟩
    exact ⟨0, rfl, by omega, rfl⟩
  · rintro ⟨x, k⟩ js ⟨i, hk, hi, hx⟩
    cbv
    split
    · rename_i hlt
      have hlt : i < n := by rw [qc, lss_true] at hlt; simp only [nc] at *; omega
      have hbit' := hbit (pos + i) (by omega)
      have hadd : vb .add .i64 p0 k = ((pos + i : Nat) : Int) := by simp only [nc] at *; rw [qb, add_i64 (by omega) (by omega)]; omega
      have hbd' := hbd i
      have hbl' := hbl (pos + i)
      have hsucc : bval (bitL b) pos (i + 1) = bval (bitL b) pos i + (bitL b).getD (pos + i) 0 * 2 ^ i := rfl
      simp only [nc] at hbit' hadd
      rw [← hadd] at hbit'
      generalize hy : (bitL b).getD (pos + i) 0 = y at *
      generalize hz : vb .add .i64 p0 k = z at *
      have hwk : vw .u64 k = k := by simp only [nc] at *; simp only [qw]; exact wrap_u64 (by omega) (by omega)
      have hnn : 0 ≤ vw .u64 k := by rw [hwk]; simp only [nc] at *; omega
      have hk1 : vb .add .i64 k 1 = ((i + 1 : Nat) : Int) := by simp only [nc] at *; rw [qb, add_i64 (by omega) (by omega)]; omega
      have hval : vb .or .u64 x (vb .shl .u64 y (vw .u64 k)) = bval (bitL b) pos (i + 1) := by
        have hp56 := pow_le_56 (show i ≤ 56 by omega)
        have hpp : (0 : Int) < 2 ^ i := Int.pow_pos (by decide)
        have hyb : 0 ≤ y * 2 ^ i ∧ y * 2 ^ i ≤ 2 ^ i := by
          have : y = 0 ∨ y = 1 := by omega
          rcases this with rfl | rfl <;> omega
        have hkn : k.toNat = i := by simp only [nc] at *; omega
        rw [hsucc, hwk, qb, shl_u rfl hbl'.1 (by show k ≤ ((64 : Nat) : Int); simp only [nc] at *; omega) (by rw [hkn]; show _ < (2 : Int) ^ 64; omega), hkn, hx, or_add rfl _ hbd'.1 hbd'.2 hbl'.1 (by show _ < (2 : Int) ^ 64; omega)]
      cbv
      rw [hz]
      refine call_con (ρ := [(0, .z), (1, .z)]) hbit' ⟨by rfl, by rfl, by rfl, by cbv; exact ⟨view_refl _, trivial⟩⟩ ?_
      rintro v H R js ⟨rfl, rfl, rfl⟩
      cbv
      refine ⟨⟨hnn⟩, ?_⟩
      refine Cv.fold [18, 19, 20, 21, 22, 23, 24, 25, 26, 27, 28, 29, 30, 31, 32, 33, 34, 35] 2 [] (by exact Nat.le_refl _) (by exact Nat.le_of_ble_eq_true rfl) (by rfl) (by cbv) ?_
      intro js
      refine ⟨(_, _), ?_, js, rfl⟩
      exact ⟨⟨i + 1, hk1, hlt, hval⟩, by show n - (vb .add .i64 k 1).toNat < n - k.toNat; rw [hk1, hk]; simp only [nc] at *; omega⟩
    · rename_i hge
      have hin : i = n := by rw [qc, lss_false] at hge; simp only [nc] at *; omega
      have hxX : x = X := by rw [hx, hin, hX]
      have hpp : vb .add .i64 p0 n0 = p1 := by simp only [nc] at *; rw [qb, add_i64 (by omega) (by omega)]; omega
      cbv
      rw [hxX, hpp]
      exact ⟨rfl, rfl⟩
theorem refbits_bad (b : List Int) (cap pos : Nat) (n : Int) (hl : b.length ≤ 2 ^ 50) (hp : pos ≤ 8 * b.length) (hn : ¬ (0 ≤ n ∧ n ≤ 56 ∧ pos + n ≤ 8 * b.length)) :
    Con Try.prog 75 [.ptr 0 .z 2 0, .int .i64 n] [.one 156 [.slice 1 .z 1 b.length cap, .int .i64 pos], .ro .u8 b]
      (fun v H R => v = .tup [.int .u64 0, .int .i64 (rbE b pos n)] ∧ R = [] ∧ H = [.one 156 [.slice 1 .z 1 b.length cap, .int .i64 pos], .ro .u8 b]) := by
  have hleft := refleft_con b cap pos hl hp
  have hE : rbE b pos n = if 0 ≤ n ∧ n ≤ 56 then 10 else 2 := by unfold rbE; split <;> (first | rfl | (rw [if_neg (by omega)]))
  rw [hE]
  refine con_gen (con_walk hmix fn75 ?_)
  intro vb vc vw vtoN vofN vaddN vsubN vmaxI vminI vcutN vgd vst vln vrep vsub vonto vsplice vstrEq vbyteV vnotB veqB hw qb qc qw qtoN qofN qaddN qsubN qmaxI qminI qcutN qgd qst qln qrep qsub qonto qsplice qstrEq qbyteV qnotB qeqB
  generalize Try.prog = P at *
  generalize hL : (8 * (b.length : Int) - pos) = L at *
  generalize hp0 : ((pos : Nat) : Int) = p0 at *
  generalize hlen : b.length = len at *
  by_cases h1 : n < 0
  · have e1 : vc .lss n 0 = true := by rw [qc, lss_true]; exact h1
    rw [if_neg (by omega)]
    cbv
    rw [e1]
    cbv
  · have e1 : vc .lss n 0 = false := by rw [qc, lss_false]; exact h1
    by_cases h2 : 56 < n
    · have e2 : vc .gtr n 56 = true := by rw [qc, gtr_true]; exact h2
      rw [if_neg (by omega)]
      cbv
      rw [e1]
      cbv
      rw [e2]
      cbv
    · have e2 : vc .gtr n 56 = false := by rw [qc, gtr_false]; exact h2
      have e3 : vc .lss L n = true := by rw [qc, lss_true]; omega
      rw [if_pos (by omega)]
      cbv
      rw [e1]
      cbv
      rw [e2]
      cbv
      refine call_con (ρ := [(0, .z), (1, .z)]) hleft ⟨by rfl, by rfl, by rfl, by cbv; exact ⟨view_refl _, trivial⟩⟩ ?_
      rintro v H R js ⟨rfl, rfl, rfl⟩
      cbv
      rw [e3]
      cbv
theorem refbitsB_con (b : List Int) (cap pos : Nat) (n : Int) (hby : ∀ x ∈ b, isByte x) (hl : b.length ≤ 2 ^ 50) (hp : pos ≤ 8 * b.length) :
    Con Try.prog 75 [.ptr 0 .z 2 0, .int .i64 n] [.one 156 [.slice 1 .z 1 b.length cap, .int .i64 pos], .ro .u8 b]
      (fun v H R => v = .tup [.int .u64 (rbX b pos n), .int .i64 (rbE b pos n)] ∧ R = [] ∧ H = [.one 156 [.slice 1 .z 1 b.length cap, .int .i64 (rbP b pos n)], .ro .u8 b]) := by
  by_cases hn : 0 ≤ n ∧ n ≤ 56 ∧ pos + n ≤ 8 * b.length
  · obtain ⟨m, rfl⟩ : ∃ m : Nat, n = m := ⟨n.toNat, by omega⟩
    have e1 : rbX b pos m = bval (bitL b) pos m := by unfold rbX; rw [if_pos hn]; rfl
    have e2 : rbE b pos m = 0 := by unfold rbE; rw [if_pos ⟨hn.1, hn.2.1⟩, if_pos hn.2.2]
    have e3 : rbP b pos m = pos + m := by unfold rbP; rw [if_pos hn]; rfl
    rw [e1, e2, e3]
    refine con_gen ((refbits_ok b cap pos m hby hl (by omega) (by omega)).mono ?_)
    rintro v H R ⟨rfl, rfl, rfl⟩
    exact ⟨rfl, rfl, rfl⟩
  · have e1 : rbX b pos n = 0 := by unfold rbX; rw [if_neg hn]
    have e3 : rbP b pos n = pos := by unfold rbP; rw [if_neg hn]
    rw [e1, e3]
    refine con_gen ((refbits_bad b cap pos n hl hp hn).mono ?_)
    rintro v H R ⟨rfl, rfl, rfl⟩
    exact ⟨rfl, rfl, rfl⟩
end Go.Proofs.Ytaaklikigccdfaa
namespace Go.Proofs.Ytaaklikigccdfaa
open Go Go.Sx Go.Proofs
theorem pow_up {a : Nat} : ∀ {b : Nat}, a ≤ b → (2 : Int) ^ a ≤ 2 ^ b
  | 0, h => by obtain rfl : a = 0 := by omega
               exact Int.le_refl _
  | b + 1, h => by
    by_cases e : a = b + 1
    · subst e; exact Int.le_refl _
    · have := pow_up (a := a) (b := b) (by omega)
      have hp : (0 : Int) < 2 ^ b := Int.pow_pos (by omega)
      rw [Int.pow_succ]
      omega
end Go.Proofs.Ytaaklikigccdfaa
namespace Go.Proofs.Ytaaklikigccdfaa
open Go Go.Sx Go.Proofs
/-! Weights that make a code; weights.size. -/
def isU8 (c : Int) : Prop := 0 ≤ c ∧ c ≤ 255
theorem getD_u8 {l : List Int} (h : ∀ c ∈ l, isU8 c) (i : Nat) : 0 ≤ l.getD i 0 ∧ l.getD i 0 ≤ 255 := by
  rw [List.getD_eq_getElem?_getD]
  cases hg : l[i]? with
  | none => simp
  | some y => exact h y (List.mem_of_getElem? hg)
/-- What a weight counts. -/
def pw (w : Int) : Int := if w ≤ 0 then 0 else 2 ^ (w - 1).toNat
def sm (l : List Int) : Nat → Int
  | 0 => 0
  | n + 1 => sm l n + pw (l.getD n 0)
def on (l : List Int) : Nat → Int
  | 0 => 0
  | n + 1 => on l n + (if l.getD n 0 = 1 then 1 else 0)
def Wt (l : List Int) (M : Nat) : Prop := 2 ≤ l.length ∧ l.length ≤ 256 ∧ l.getD (l.length - 1) 0 ≠ 0 ∧ (∀ i, i < l.length → l.getD i 0 ≤ 11) ∧ 2 ≤ on l l.length ∧ sm l l.length = 2 ^ M ∧ M ≤ 11
def Msz (l : List Int) (m : Int) : Prop := (∃ M : Nat, Wt l M ∧ m = M) ∨ ((∀ M, ¬ Wt l M) ∧ m = 0)
theorem Msz.ex (l : List Int) : ∃ m, Msz l m := by
  by_cases h : ∃ M, Wt l M
  · obtain ⟨M, h⟩ := h; exact ⟨M, .inl ⟨M, h, rfl⟩⟩
  · exact ⟨0, .inr ⟨fun M hM => h ⟨M, hM⟩, rfl⟩⟩
theorem pw_range {w : Int} (h : w ≤ 11) : 0 ≤ pw w ∧ pw w ≤ 1024 := by
  unfold pw
  split
  · omega
  · have h1 : (2 : Int) ^ (w - 1).toNat ≤ 2 ^ 10 := pow_up (by omega)
    have h2 : (0 : Int) < 2 ^ (w - 1).toNat := Int.pow_pos (by omega)
    omega
theorem sm_range {l : List Int} : ∀ {i : Nat}, (∀ j, j < i → l.getD j 0 ≤ 11) → 0 ≤ sm l i ∧ sm l i ≤ 1024 * i
  | 0, _ => by simp [sm]
  | i + 1, h => by
    have h1 := sm_range (l := l) (i := i) (fun j hj => h j (by omega))
    have h2 := pw_range (h i (by omega))
    simp only [sm]
    push_cast
    omega
theorem on_range (l : List Int) : ∀ i, 0 ≤ on l i ∧ on l i ≤ i
  | 0 => by simp [on]
  | i + 1 => by
    have h1 := on_range l i
    simp only [on]
    push_cast
    split <;> omega
/-- So many ones weigh as much. -/
theorem on_sm {l : List Int} : ∀ {i : Nat}, (∀ j, j < i → l.getD j 0 ≤ 11) → on l i ≤ sm l i
  | 0, _ => by simp [on, sm]
  | i + 1, h => by
    have h1 := on_sm (l := l) (i := i) (fun j hj => h j (by omega))
    have h2 := pw_range (h i (by omega))
    simp only [on, sm]
    split
    · rename_i e
      rw [e, show pw 1 = 1 by decide]
      omega
    · omega
theorem nat_pow_and : ∀ n : Nat, 0 < n → (n &&& (n - 1) = 0 ↔ ∃ k, n = 2 ^ k) := by
  intro n
  induction n using Nat.strongRecOn with
  | _ n ih =>
    intro hn
    have hdiv : (n &&& (n - 1)) = 0 ↔ ((n &&& (n - 1)) / 2 = 0 ∧ (n &&& (n - 1)) % 2 = 0) := by omega
    rw [hdiv, Nat.and_div_two, show (n &&& (n - 1)) % 2 = (n % 2) &&& ((n - 1) % 2) by rw [← Nat.and_mod_two_pow (n := 1)]]
    rcases (by omega : n % 2 = 0 ∨ n % 2 = 1) with h | h
    · have h1 : (n - 1) / 2 = n / 2 - 1 := by omega
      rw [h1, h, Nat.zero_and, ih (n / 2) (by omega) (by omega)]
      constructor
      · rintro ⟨⟨k, hk⟩, _⟩
        exact ⟨k + 1, by rw [Nat.pow_succ]; omega⟩
      · rintro ⟨k, hk⟩
        cases k with
        | zero => omega
        | succ k => exact ⟨⟨k, by rw [Nat.pow_succ] at hk; omega⟩, rfl⟩
    · have h1 : (n - 1) / 2 = n / 2 := by omega
      rw [h1, Nat.and_self]
      constructor
      · rintro ⟨h2, _⟩
        exact ⟨0, by omega⟩
      · rintro ⟨k, hk⟩
        cases k with
        | zero => subst hk; exact ⟨rfl, rfl⟩
        | succ k => rw [Nat.pow_succ] at hk; omega
theorem and_pow {s : Int} (h0 : 1 ≤ s) (h1 : s < 2 ^ 64) : bV .and .u64 s (s - 1) = 0 ↔ ∃ k : Nat, s = 2 ^ k := by
  have hb : (2 : Int) ^ (IntKind.u64).bits = 18446744073709551616 := by decide
  rw [and_u rfl (by omega) (by rw [hb]; omega) (by omega) (by rw [hb]; omega)]
  have e : (s - 1).toNat = s.toNat - 1 := by omega
  rw [e]
  have key := nat_pow_and s.toNat (by omega)
  constructor
  · intro h
    obtain ⟨k, hk⟩ := key.1 (by exact_mod_cast h)
    refine ⟨k, ?_⟩
    have : ((s.toNat : Nat) : Int) = ((2 ^ k : Nat) : Int) := by rw [hk]
    rw [Int.toNat_of_nonneg (by omega)] at this
    rw [this]; push_cast; rfl
  · rintro ⟨k, hk⟩
    have : s.toNat = 2 ^ k := by
      have h2 : ((s.toNat : Nat) : Int) = ((2 ^ k : Nat) : Int) := by rw [Int.toNat_of_nonneg (by omega), hk]; push_cast; rfl
      exact_mod_cast h2
    exact_mod_cast key.2 ⟨k, this⟩
theorem blen_pow (k : Nat) : blen (2 ^ k) = k + 1 := blen_of (Int.le_refl _) (by have : (0 : Int) < 2 ^ k := Int.pow_pos (by omega); rw [Int.pow_succ]; omega)
theorem pow_inj {a b : Nat} (h : (2 : Int) ^ a = 2 ^ b) : a = b := by
  have := blen_pow a; rw [h, blen_pow] at this; omega
/-- What is asked at the end. -/
theorem Msz.ends {l : List Int} {m : Int} (hm : Msz l m) (h1 : 2 ≤ l.length) (h2 : l.length ≤ 256) (h3 : l.getD (l.length - 1) 0 ≠ 0) (h4 : ∀ i, i < l.length → l.getD i 0 ≤ 11) :
    (2 ≤ on l l.length → (∃ k : Nat, sm l l.length = 2 ^ k) → sm l l.length ≤ 2048 → m = blen (sm l l.length) - 1) ∧
    ((on l l.length < 2 ∨ (¬ ∃ k : Nat, sm l l.length = 2 ^ k) ∨ 2048 < sm l l.length) → m = 0) := by
  constructor
  · rintro k1 ⟨k, hk⟩ k3
    have hk11 : k ≤ 11 := by
      apply Classical.byContradiction
      intro h
      have : (2 : Int) ^ 12 ≤ 2 ^ k := pow_up (by omega)
      omega
    rcases hm with ⟨M, hW, rfl⟩ | ⟨hn, rfl⟩
    · have := hW.2.2.2.2.2.1
      rw [this, blen_pow]
      omega
    · exact (hn k ⟨h1, h2, h3, h4, k1, hk, hk11⟩).elim
  · intro h
    rcases hm with ⟨M, ⟨_, _, _, _, k1, k2, k3⟩, rfl⟩ | ⟨hn, rfl⟩
    · rcases h with h | h | h
      · omega
      · exact (h ⟨M, k2⟩).elim
      · have : (2 : Int) ^ M ≤ 2 ^ 11 := pow_up k3
        omega
    · rfl
theorem Msz.none {l : List Int} {m : Int} (hm : Msz l m) (h : l.length < 2 ∨ 256 < l.length ∨ l.getD (l.length - 1) 0 = 0 ∨ ∃ i, i < l.length ∧ 11 < l.getD i 0) : m = 0 := by
  rcases hm with ⟨M, ⟨k1, k2, k3, k4, _⟩, rfl⟩ | ⟨_, rfl⟩
  · rcases h with h | h | h | ⟨i, hi, h⟩
    · omega
    · omega
    · exact (k3 h).elim
    · have := k4 i hi; omega
  · rfl
theorem pw_word {w : Int} (h0 : 0 ≤ w) (h1 : w ≤ 11) : bV .shr .u64 (bV .shl .u64 1 w) 1 = pw w := by
  have hb : (2 : Int) ^ (IntKind.u64).bits = 18446744073709551616 := by decide
  have hp : (2 : Int) ^ w.toNat ≤ 2 ^ 11 := pow_up (by omega)
  rw [shl_u rfl (by omega) (by show w ≤ 64; omega) (by rw [hb]; omega), shr_eq (by decide)]
  unfold pw
  split
  · have : w.toNat = 0 := by omega
    rw [this]; rfl
  · obtain ⟨k, hk⟩ : ∃ k, w.toNat = k + 1 := ⟨w.toNat - 1, by omega⟩
    rw [hk, show (w - 1).toNat = k by omega, Int.pow_succ, Int.one_mul]
    show 2 ^ k * 2 / 2 = _
    omega
end Go.Proofs.Ytaaklikigccdfaa
namespace Go.Proofs.Ytaaklikigccdfaa
open Go Go.Sx Go.Proofs
/-! literals.number, balerref11.Number: bytes as a number, the lowest first. -/
set_option maxRecDepth 10000
set_option maxHeartbeats 40000000
/-- The first n bytes as a number. -/
def numA (b : List Int) : Nat → Int
  | 0 => 0
  | n + 1 => numA b n + b.getD n 0 * 2 ^ (8 * n)
theorem numA_range {b : List Int} (hb : ∀ c ∈ b, isU8 c) : ∀ n, 0 ≤ numA b n ∧ numA b n < 2 ^ (8 * n)
  | 0 => by simp [numA]
  | n + 1 => by
    have ih := numA_range hb n
    have hx := getD_u8 hb n
    have hp : (0 : Int) < 2 ^ (8 * n) := Int.pow_pos (by decide)
    have e : (2 : Int) ^ (8 * (n + 1)) = 256 * 2 ^ (8 * n) := by rw [show 8 * (n + 1) = 8 * n + 8 by omega, Int.pow_add]; omega
    unfold isU8 at hx
    have h1 : 0 ≤ b.getD n 0 * 2 ^ (8 * n) := Int.mul_nonneg hx.1 (Int.le_of_lt hp)
    have h2 : b.getD n 0 * 2 ^ (8 * n) ≤ 255 * 2 ^ (8 * n) := Int.mul_le_mul_of_nonneg_right hx.2 (Int.le_of_lt hp)
    rw [numA, e]
    omega
theorem pow_le64 {n : Nat} (h : n ≤ 64) : (2 : Int) ^ n ≤ 2 ^ 64 := by
  have := Nat.pow_le_pow_right (n := 2) (by decide) h
  exact_mod_cast this
theorem number_con (b : List Int) (cap : Nat) (hb : ∀ c ∈ b, isU8 c) (hl : b.length ≤ 8) :
    Con Try.prog 23 [.slice 0 .z 1 b.length cap] [.ro .u8 b] (fun v H R => v = .int .u64 (numA b b.length) ∧ H = [.ro .u8 b] ∧ R = []) := by
  refine con_gen (con_cut 1 (by simp) (con_drop (con_walk hmix fn23 ?_)))
  intro vb vc vw vtoN vofN vaddN vsubN vmaxI vminI vcutN vgd vst vln vrep vsub vonto vsplice vstrEq vbyteV vnotB veqB hw qb qc qw qtoN qofN qaddN qsubN qmaxI qminI qcutN qgd qst qln qrep qsub qonto qsplice qstrEq qbyteV qnotB qeqB
  have hm := hmix; generalize Try.prog = P at *
  have hge := getD_u8 hb
  have hr := numA_range hb
  have hn0 : numA b 0 = 0 := rfl
  have hns : ∀ i, numA b (i + 1) = numA b i + b.getD i 0 * 2 ^ (8 * i) := fun _ => rfl
  have h64 := @pow_le64
  generalize numA b = NA at *
  generalize hbl : b.length = n at *
  have hvln : vln b = n := by simp only [qln, hbl]
  have hvgd : ∀ i, vgd b i = b.getD i 0 := fun i => by simp only [qgd]
  have hto : ∀ i : Nat, vtoN (i : Int) = i := fun i => by simp only [qtoN, Int.toNat_natCast]
  have hadd0 : ∀ i, vaddN 0 i = i := fun i => by simp only [qaddN, Nat.zero_add]
  obtain ⟨nI, hnI⟩ : ∃ nI : Int, nI = n := ⟨_, rfl⟩
  have en : vofN n = nI := by rw [hnI, qofN]
  cbv
  simp only [nc] at *
  rw [en]
  refine loop_fam (α := Int × Int) ([4, 5] ++ [9, 10, 11, 12, 13, 14, 15, 16, 17, 18, 19, 20, 21]) [] (fun (k, s) => [(8, .int .i64 k), (3, .int .u64 s)]) (fun _ => [])
    (fun (k, s) => ∃ i : Nat, k = i ∧ i ≤ n ∧ s = NA i) (fun (k, _) => n - k.toNat) hw hm ?_ ?_
  · refine Cv.genAt [8, 3] [] (Cv.fold ([4, 5] ++ [9, 10, 11, 12, 13, 14, 15, 16, 17, 18, 19, 20, 21]) 1 [] (by exact Nat.le_refl _) (by exact Nat.le_of_ble_eq_true rfl) (by rfl) (by cbv) ?_)
    intro js
    refine ⟨(_, _), ?_, js, rfl⟩
    exact ⟨0, rfl, by ((try simp only [nc] at *); omega), hn0.symm⟩
  · rintro ⟨k, s⟩ js ⟨i, hk, hi, hs⟩
    cbv
    generalize hz4 : vc .lss k nI = z4
    cases z4
    rotate_left
    · rw [qc, lss_true] at hz4
      have hlt : i < n := by ((try simp only [nc] at *); omega)
      have hti : vtoN k = i := by rw [hk]; exact hto i
      have hinR : 0 ≤ k ∧ k < (n : Int) := by ((try simp only [nc] at *); omega)
      obtain ⟨k1, hk1⟩ : ∃ k1 : Int, k1 = ((i + 1 : Nat) : Int) := ⟨_, rfl⟩
      have ek : vb .add .i64 k 1 = k1 := by rw [qb, add_i64 (by ((try simp only [nc] at *); omega)) (by ((try simp only [nc] at *); omega))]; ((try simp only [nc] at *); omega)
      have hmu : ∀ _ : Unit, n - k1.toNat < n - k.toNat := fun _ => by ((try simp only [nc] at *); omega)
      have hx := hge i
      have hri := hr i
      have hri1 := hr (i + 1)
      have hns1 := hns i
      have h641 := h64 (n := 8 * (i + 1)) (by ((try simp only [nc] at *); omega))
      obtain ⟨k8, hk8⟩ : ∃ k8 : Int, k8 = ((8 * i : Nat) : Int) := ⟨_, rfl⟩
      have e8 : vb .mul .i64 8 k = k8 := by rw [qb, mul_i64 (by ((try simp only [nc] at *); omega)) (by ((try simp only [nc] at *); omega))]; ((try simp only [nc] at *); omega)
      have e8w : vw .u64 k8 = k8 := by rw [qw]; exact wrap_u64 (by ((try simp only [nc] at *); omega)) (by ((try simp only [nc] at *); omega))
      have h80 : 0 ≤ k8 := by ((try simp only [nc] at *); omega)
      generalize hxi : b.getD i 0 = x at *
      have exw : vw .u64 x = x := by rw [qw]; exact wrap_u64 (by ((try simp only [nc] at *); omega)) (by ((try simp only [nc] at *); omega))
      obtain ⟨s1, hs1⟩ : ∃ s1, s1 = NA (i + 1) := ⟨_, rfl⟩
      have hpp : (0 : Int) < 2 ^ (8 * i) := Int.pow_pos (by decide)
      have hxp : 0 ≤ x * 2 ^ (8 * i) := Int.mul_nonneg hx.1 (Int.le_of_lt hpp)
      have e2 : vb .or .u64 s (vb .shl .u64 x k8) = s1 := by
        have ht : k8.toNat = 8 * i := by rw [hk8, Int.toNat_natCast]
        rw [qb, shl_u rfl hx.1 (by show k8 ≤ ((64 : Nat) : Int); ((try simp only [nc] at *); omega)) (by rw [ht]; show _ < (2 : Int) ^ 64; ((try simp only [nc] at *); omega)), ht, or_add rfl (8 * i) (by ((try simp only [nc] at *); omega)) (by ((try simp only [nc] at *); omega)) hx.1 (by show _ < (2 : Int) ^ 64; ((try simp only [nc] at *); omega)), hs1, hns1, hs]
      cbv
      rw [hti, hadd0, hvgd, hvln, hxi]
      refine ⟨⟨hinR⟩, ⟨hlt⟩, ⟨hlt⟩, ?_⟩
      rw [exw, e8, e8w]
      refine ⟨⟨h80⟩, ?_⟩
      rw [e2, ek]
      refine Cv.fold ([4, 5] ++ [9, 10, 11, 12, 13, 14, 15, 16, 17, 18, 19, 20, 21]) 1 [] (by exact Nat.le_refl _) (by exact Nat.le_of_ble_eq_true rfl) (by rfl) (by cbv) ?_
      intro js
      refine ⟨(_, _), ?_, js, rfl⟩
      exact ⟨⟨i + 1, hk1, hlt, hs1⟩, hmu ()⟩
    · rw [qc, lss_false] at hz4
      obtain rfl : i = n := by ((try simp only [nc] at *); omega)
      cbv
      exact ⟨by rw [hs], trivial⟩
theorem refnumber_con (b : List Int) (cap : Nat) (hb : ∀ c ∈ b, isU8 c) (hl : b.length ≤ 8) :
    Con Try.prog 55 [.slice 0 .z 1 b.length cap] [.ro .u8 b] (fun v H R => v = .int .u64 (numA b b.length) ∧ H = [.ro .u8 b] ∧ R = []) := by
  refine con_gen (con_cut 1 (by simp) (con_drop (con_walk hmix fn55 ?_)))
  intro vb vc vw vtoN vofN vaddN vsubN vmaxI vminI vcutN vgd vst vln vrep vsub vonto vsplice vstrEq vbyteV vnotB veqB hw qb qc qw qtoN qofN qaddN qsubN qmaxI qminI qcutN qgd qst qln qrep qsub qonto qsplice qstrEq qbyteV qnotB qeqB
  have hm := hmix; generalize Try.prog = P at *
  have hge := getD_u8 hb
  have hn0 : numA b 0 = 0 := rfl
  have hns : ∀ i, numA b (i + 1) = numA b i + b.getD i 0 * 2 ^ (8 * i) := fun _ => rfl
  have h64 := @pow_le64
  have hoc := fun (x y : Int) => @or_comm_u .u64 rfl x y
  generalize numA b = NA at *
  generalize hbl : b.length = n at *
  have hvln : vln b = n := by simp only [qln, hbl]
  have hvgd : ∀ i, vgd b i = b.getD i 0 := fun i => by simp only [qgd]
  have hto : ∀ i : Nat, vtoN (i : Int) = i := fun i => by simp only [qtoN, Int.toNat_natCast]
  have hadd0 : ∀ i, vaddN 0 i = i := fun i => by simp only [qaddN, Nat.zero_add]
  obtain ⟨nI, hnI⟩ : ∃ nI : Int, nI = n := ⟨_, rfl⟩
  have en : vofN n = nI := by rw [hnI, qofN]
  obtain ⟨n1, hn1⟩ : ∃ n1 : Int, n1 = nI - 1 := ⟨_, rfl⟩
  have en1 : vb .sub .i64 nI 1 = n1 := by rw [qb, sub_i64 (by omega) (by omega), hn1]
  cbv
  simp only [nc] at *
  rw [en, en1]
  refine loop_fam (α := Int × Int) [8, 9, 10, 11, 12, 13, 14, 15, 16, 17, 18, 19] [] (fun (k, s) => [(4, .int .i64 k), (3, .int .u64 s)]) (fun _ => [])
    (fun (k, s) => ∃ i : Nat, k + 1 = i ∧ i ≤ n ∧ 0 ≤ s ∧ s < 2 ^ (8 * (n - i)) ∧ NA n = NA i + s * 2 ^ (8 * i)) (fun (k, _) => (k + 1).toNat) hw hm ?_ ?_
  · refine Cv.genAt [4, 3] [] (Cv.fold [8, 9, 10, 11, 12, 13, 14, 15, 16, 17, 18, 19] 1 [] (by exact Nat.le_refl _) (by exact Nat.le_of_ble_eq_true rfl) (by rfl) (by cbv) ?_)
    intro js
    refine ⟨(_, _), ?_, js, rfl⟩
    exact ⟨n, by ((try simp only [nc] at *); omega), Nat.le_refl _, Int.le_refl _, by rw [Nat.sub_self]; decide, by omega⟩
  · rintro ⟨k, s⟩ js ⟨i, hk, hi, hs0, hs1, hs⟩
    cbv
    generalize hz4 : vc .geq k 0 = z4
    cases z4
    rotate_left
    · rw [qc, geq_true] at hz4
      obtain ⟨q, rfl⟩ : ∃ q, i = q + 1 := ⟨i - 1, by ((try simp only [nc] at *); omega)⟩
      have hkq : k = q := by ((try simp only [nc] at *); omega)
      have hlt : q < n := by ((try simp only [nc] at *); omega)
      have hti : vtoN k = q := by rw [hkq]; exact hto q
      have hinR : 0 ≤ k ∧ k < (n : Int) := by ((try simp only [nc] at *); omega)
      obtain ⟨k1, hk1⟩ : ∃ k1 : Int, k1 = k - 1 := ⟨_, rfl⟩
      have ek : vb .sub .i64 k 1 = k1 := by rw [qb, sub_i64 (by ((try simp only [nc] at *); omega)) (by ((try simp only [nc] at *); omega)), hk1]
      have hmu : ∀ _ : Unit, (k1 + 1).toNat < (k + 1).toNat := fun _ => by ((try simp only [nc] at *); omega)
      have hx := hge q
      have hns1 := hns q
      have hp1 : (2 : Int) ^ (8 * (n - q)) = 2 ^ (8 * (n - (q + 1))) * 256 := by rw [show 8 * (n - q) = 8 * (n - (q + 1)) + 8 by omega, Int.pow_add]; rfl
      have hp2 : (2 : Int) ^ (8 * (q + 1)) = 2 ^ (8 * q) * 256 := by rw [show 8 * (q + 1) = 8 * q + 8 by omega, Int.pow_add]; rfl
      have h641 := h64 (n := 8 * (n - q)) (by ((try simp only [nc] at *); omega))
      generalize hxi : b.getD q 0 = x at *
      have exw : vw .u64 x = x := by rw [qw]; exact wrap_u64 (by ((try simp only [nc] at *); omega)) (by ((try simp only [nc] at *); omega))
      obtain ⟨s1, hs1'⟩ : ∃ s1, s1 = x + s * 2 ^ 8 := ⟨_, rfl⟩
      have h28 : (2 : Int) ^ 8 = 256 := by decide
      have e2 : vb .or .u64 (vb .shl .u64 s 8) x = s1 := by
        have ht : (8 : Int).toNat = 8 := rfl
        rw [qb, shl_u rfl hs0 (by decide) (by rw [ht]; show _ < (2 : Int) ^ 64; ((try simp only [nc] at *); omega)), ht, hoc, or_add rfl 8 (by ((try simp only [nc] at *); omega)) (by ((try simp only [nc] at *); omega)) hs0 (by show _ < (2 : Int) ^ 64; ((try simp only [nc] at *); omega)), hs1']
      have hnew : NA n = NA q + s1 * 2 ^ (8 * q) := by
        rw [hs, hns1, hs1', hp2, Int.add_mul, h28, Int.add_assoc, Int.mul_assoc, Int.mul_comm (2 ^ (8 * q)) 256]
      have hr1 : 0 ≤ s1 ∧ s1 < 2 ^ (8 * (n - q)) := by rw [hs1', hp1, h28]; constructor <;> ((try simp only [nc] at *); omega)
      cbv
      rw [hti, hadd0, hvgd, hvln, hxi]
      refine ⟨⟨hinR⟩, ⟨hlt⟩, ⟨hlt⟩, ?_⟩
      rw [exw, e2, ek]
      refine Cv.fold [8, 9, 10, 11, 12, 13, 14, 15, 16, 17, 18, 19] 1 [] (by exact Nat.le_refl _) (by exact Nat.le_of_ble_eq_true rfl) (by rfl) (by cbv) ?_
      intro js
      refine ⟨(_, _), ?_, js, rfl⟩
      exact ⟨⟨q, by ((try simp only [nc] at *); omega), by ((try simp only [nc] at *); omega), hr1.1, hr1.2, hnew⟩, hmu ()⟩
    · rw [qc, geq_false] at hz4
      obtain rfl : i = 0 := by ((try simp only [nc] at *); omega)
      cbv
      refine ⟨?_, trivial⟩
      rw [hs, hn0, Nat.mul_zero, Int.pow_zero, Int.mul_one, Int.zero_add]
end Go.Proofs.Ytaaklikigccdfaa
namespace Go.Proofs.Ytaaklikigccdfaa
open Go Go.Sx Go.Proofs
/-! literals.plain, literals.packed. -/
set_option maxRecDepth 10000
set_option maxHeartbeats 40000000
theorem plain_con : Con Try.prog 21 [] [] (fun v H R => v = .agg [.int .i64 1, .int .i64 5, .int .i64 0, .int .i64 2, .int .i64 12, .int .i64 0, .int .i64 1, .int .i64 5, .int .i64 0, .int .i64 3, .int .i64 20, .int .i64 0] ∧ H = [] ∧ R = []) := by
  refine con_gen (con_cut 0 (by simp) (con_drop (con_walk hmix fn21 ?_)))
  intro vb vc vw vtoN vofN vaddN vsubN vmaxI vminI vcutN vgd vst vln vrep vsub vonto vsplice vstrEq vbyteV vnotB veqB hw qb qc qw qtoN qofN qaddN qsubN qmaxI qminI qcutN qgd qst qln qrep qsub qonto qsplice qstrEq qbyteV qnotB qeqB
  cbv
theorem packed_con : Con Try.prog 22 [] [] (fun v H R => v = .agg [.int .i64 3, .int .i64 10, .int .i64 1, .int .i64 3, .int .i64 10, .int .i64 4, .int .i64 4, .int .i64 14, .int .i64 4, .int .i64 5, .int .i64 18, .int .i64 4] ∧ H = [] ∧ R = []) := by
  refine con_gen (con_cut 0 (by simp) (con_drop (con_walk hmix fn22 ?_)))
  intro vb vc vw vtoN vofN vaddN vsubN vmaxI vminI vcutN vgd vst vln vrep vsub vonto vsplice vstrEq vbyteV vnotB veqB hw qb qc qw qtoN qofN qaddN qsubN qmaxI qminI qcutN qgd qst qln qrep qsub qonto qsplice qstrEq qbyteV qnotB qeqB
  cbv
end Go.Proofs.Ytaaklikigccdfaa
namespace Go.Proofs.Ytaaklikigccdfaa
open Go Go.Sx Go.Proofs
/-! math/bits.Mul64 of 1 and a small number. -/
set_option maxRecDepth 10000
set_option maxHeartbeats 40000000
theorem mul64_con (y : Int) (hy : 0 ≤ y ∧ y < 4294967296) : Con Try.prog 82 [.int .u64 1, .int .u64 y] [] (fun v H R => v = .tup [.int .u64 0, .int .u64 y] ∧ H = [] ∧ R = []) := by
  refine con_gen (con_cut 0 (by simp) (con_drop (con_walk hmix fn82 ?_)))
  intro vb vc vw vtoN vofN vaddN vsubN vmaxI vminI vcutN vgd vst vln vrep vsub vonto vsplice vstrEq vbyteV vnotB veqB hw qb qc qw qtoN qofN qaddN qsubN qmaxI qminI qcutN qgd qst qln qrep qsub qonto qsplice qstrEq qbyteV qnotB qeqB
  have hm := hmix; generalize Try.prog = P at *
  have a1 : vb .and .u64 1 4294967295 = 1 := by rw [qb]; rfl
  have a2 : vb .shr .u64 1 32 = 0 := by rw [qb]; rfl
  have a3 : vb .and .u64 y 4294967295 = y := by
    rw [qb, show (4294967295 : Int) = 2 ^ 32 - 1 by decide, and_mask rfl 32 (by decide) hy.1 (by show y < (2 : Int) ^ 64; omega)]
    exact Int.emod_eq_of_lt hy.1 (by show y < 4294967296; exact hy.2)
  have a4 : vb .shr .u64 y 32 = 0 := by
    rw [qb, shr_eq (by decide)]
    exact Int.ediv_eq_zero_of_lt hy.1 (by show y < 4294967296; exact hy.2)
  have m1 : vb .mul .u64 1 y = y := by rw [qb]; show IntKind.wrap .u64 (1 * y) = y; rw [Int.one_mul]; exact wrap_u64 hy.1 (by omega)
  have m2 : vb .mul .u64 0 y = 0 := by rw [qb]; show IntKind.wrap .u64 (0 * y) = 0; rw [Int.zero_mul]; rfl
  have p1 : vb .add .u64 0 0 = 0 := by rw [qb]; rfl
  have a5 : vb .and .u64 0 4294967295 = 0 := by rw [qb]; rfl
  have s0 : vb .shr .u64 0 32 = 0 := by rw [qb]; rfl
  have m3 : vb .mul .u64 1 0 = 0 := by rw [qb]; rfl
  have m4 : vb .mul .u64 0 0 = 0 := by rw [qb]; rfl
  cbv
  simp only [a1, a2, a3, a4, m1, m2, p1, a5, s0, m3, m4, and_self]
theorem mul_con (y : Int) (hy : 0 ≤ y ∧ y < 4294967296) : Con Try.prog 52 [.int .u64 1, .int .u64 y] [] (fun v H R => v = .tup [.int .u64 0, .int .u64 y] ∧ H = [] ∧ R = []) := by
  have h := mul64_con y hy
  refine con_gen (con_cut 0 (by simp) (con_drop (con_walk hmix fn52 ?_)))
  intro vb vc vw vtoN vofN vaddN vsubN vmaxI vminI vcutN vgd vst vln vrep vsub vonto vsplice vstrEq vbyteV vnotB veqB hw qb qc qw qtoN qofN qaddN qsubN qmaxI qminI qcutN qgd qst qln qrep qsub qonto qsplice qstrEq qbyteV qnotB qeqB
  have hm := hmix; generalize Try.prog = P at *
  cbv
  refine call_con (ρ := []) h ⟨by rfl, by rfl, by rfl, by cbv⟩ ?_
  rintro v H R js ⟨rfl, rfl, rfl⟩
  cbv
end Go.Proofs.Ytaaklikigccdfaa
namespace Go.Proofs.Ytaaklikigccdfaa
open Go Go.Sx Go.Proofs
/-! bytes.Repeat of one byte. -/
set_option maxRecDepth 10000
set_option maxHeartbeats 40000000
theorem splice_rep {L : List Int} {x : Int} {i r n : Nat} (hL : n ≤ L.length) (hi : L.take i = List.replicate i x) (h : i + r ≤ n) : (L.take i ++ List.replicate r x ++ L.drop (i + (List.replicate r x).length)).take (i + r) = List.replicate (i + r) x ∧ n ≤ (L.take i ++ List.replicate r x ++ L.drop (i + (List.replicate r x).length)).length := by
  rw [hi, List.replicate_append_replicate]
  constructor
  · rw [List.take_append_of_le_length (by simp), List.take_of_length_le (by simp)]
  · simp; omega
theorem repeat_con (x : Int) (cap : Nat) (n : Int) (hx : isU8 x) (hn : 0 ≤ n ∧ n ≤ 131072) :
    Con Try.prog 24 [.slice 0 .z 1 1 cap, .int .i64 n] [.ro .u8 [x]] (fun v H R => R = [] ∧ ∃ L c, n.toNat ≤ L.length ∧ L.take n.toNat = List.replicate n.toNat x ∧ H = [.ro .u8 [x], .ints 5 .u8 L] ∧ v = .slice 1 .z 1 n.toNat c) := by
  have hmul := mul_con n (by omega)
  refine con_gen (con_cut 2 (by simp) (con_drop (con_walk hmix fn24 ?_)))
  intro vb vc vw vtoN vofN vaddN vsubN vmaxI vminI vcutN vgd vst vln vrep vsub vonto vsplice vstrEq vbyteV vnotB veqB hw qb qc qw qtoN qofN qaddN qsubN qmaxI qminI qcutN qgd qst qln qrep qsub qonto qsplice qstrEq qbyteV qnotB qeqB
  have hm := hmix; generalize Try.prog = P at *
  have hsp := @splice_rep
  obtain ⟨N, hN⟩ : ∃ N : Nat, N = n.toNat := ⟨_, rfl⟩
  rw [← hN]
  have hto : vtoN n = N := by simp only [qtoN, hN]
  have e1 : vofN 1 = 1 := by rw [qofN]; rfl
  have ew1 : vw .u64 1 = 1 := by rw [qw]; exact wrap_u64 (by omega) (by omega)
  have ewn : vw .u64 n = n := by rw [qw]; exact wrap_u64 (by omega) (by omega)
  have ewn' : vw .i64 n = n := by rw [qw]; exact wrap_i64 (by omega) (by omega)
  have elt : vc .lss n 0 = false := by rw [qc, lss_false]; omega
  have eh0 : vc .gtr 0 0 = false := by rw [qc]; rfl
  have ehl : vc .gtr n 9223372036854775807 = false := by rw [qc, gtr_false]; omega
  have e10 : vc .eql 1 0 = false := by rw [qc]; rfl
  cbv
  generalize hz1 : vc .eql n 0 = z1
  cases z1
  rotate_left
  · rw [qc, eql_true] at hz1
    have hN0 : N = 0 := by ((try simp only [nc] at *); omega)
    subst hN0
    cbv
    exact ⟨[], 0, by simp, by simp, rfl, rfl⟩
  rw [qc, eql_false] at hz1
  cbv
  rw [elt]
  cbv
  rw [e1, ew1, ewn]
  refine call_con (ρ := []) hmul ⟨by rfl, by rfl, by rfl, by cbv⟩ ?_
  rintro v H R js ⟨rfl, rfl, rfl⟩
  cbv
  rw [eh0]
  cbv
  rw [ehl]
  cbv
  rw [e1, e10]
  cbv
  rw [ewn']
  generalize hz2 : vc .gtr n 8192 = z2
  obtain ⟨nI, hnI⟩ : ∃ nI : Nat, nI = N := ⟨_, rfl⟩
  cases z2
  · rw [qc, gtr_false] at hz2
    cbv
    refine ⟨⟨hn.1⟩, ⟨by omega⟩, ?_⟩
    intro L hL
    have hln : ∀ l : List Int, vln l = l.length := fun l => by simp only [qln]
    have hL : vtoN n ≤ vln L := hL.out
    rw [hto, hln] at hL
    cbv
    rw [hto]
    have hN1 : 1 ≤ N := by ((try simp only [nc] at *); omega)
    have hof : ∀ q : Nat, vofN q = (q : Int) := fun q => by simp only [qofN]
    have hmi : vminI 1 (vofN N) = 1 := by rw [hof, qminI]; show (if (N : Int) < 1 then (N : Int) else 1) = 1; rw [if_neg (by ((try simp only [nc] at *); omega))]
    have ht1 : vtoN 1 = 1 := by rw [qtoN]; rfl
    have hsx : vsub [x] 0 1 = [x] := by rw [qsub]; rfl
    have hadd : ∀ p q, vaddN p q = p + q := fun p q => by simp only [qaddN]
    have hadd0 : ∀ q, vaddN 0 q = q := fun q => by simp only [qaddN, Nat.zero_add]
    have hspl : ∀ (l : List Int) q xs, vsplice l q xs = l.take q ++ xs ++ l.drop (q + xs.length) := fun l q xs => by rw [qsplice]
    have hsubq : ∀ (l : List Int) q, vsub l 0 q = l.take q := fun l q => by simp only [qsub, List.drop_zero]
    obtain ⟨L1, hL1⟩ : ∃ L1, L1 = vsplice L 0 [x] := ⟨_, rfl⟩
    have hL1' : N ≤ L1.length ∧ L1.take 1 = List.replicate 1 x := by
      have := hsp (i := 0) (r := 1) (x := x) hL (by simp) (by ((try simp only [nc] at *); omega))
      rw [hL1, hspl]
      exact ⟨this.2, this.1⟩
    refine ⟨⟨by ((try simp only [nc] at *); omega), by rw [hln]; ((try simp only [nc] at *); omega)⟩, ⟨by ((try simp only [nc] at *); omega), by ((try simp only [nc] at *); omega)⟩, ⟨by rw [hadd0, hln]; simp⟩, ⟨by rw [hadd0, hln]; exact hL⟩, ?_⟩
    rw [e1, hmi, ht1, hsx, hsx, ← hL1]
    refine loop_fam (α := Int × List Int) ([11] ++ [61, 62, 63, 64, 65, 66, 67, 68, 69, 70, 71, 72, 73, 74, 75]) [] (fun (k, M) => [(10, .int .i64 k)]) (fun (k, M) => [(1, .ints 5 .u8 M)])
      (fun (k, M) => ∃ i : Nat, k = i ∧ 1 ≤ i ∧ i ≤ N ∧ N ≤ M.length ∧ M.take i = List.replicate i x) (fun (k, _) => N - k.toNat) hw hm ?_ ?_
    · refine Cv.genAt [10] [] (Cv.fold ([11] ++ [61, 62, 63, 64, 65, 66, 67, 68, 69, 70, 71, 72, 73, 74, 75]) 2 [] (by exact Nat.le_refl _) (by exact Nat.le_of_ble_eq_true rfl) (by rfl) (by cbv) ?_)
      intro js
      refine ⟨(_, _), ?_, js, rfl⟩
      exact ⟨1, rfl, Nat.le_refl _, hN1, hL1'.1, hL1'.2⟩
    · rintro ⟨k, M⟩ js ⟨i, hk, hi1, hi, hM, hMt⟩
      cbv
      generalize hz4 : vc .lss k n = z4
      cases z4
      rotate_left
      · rw [qc, lss_true] at hz4
        have hlt : i < N := by ((try simp only [nc] at *); omega)
        have hti : vtoN k = i := by rw [hk, qtoN]; exact Int.toNat_natCast i
        obtain ⟨ch, hch⟩ : ∃ ch, ch = vminI k n := ⟨_, rfl⟩
        have hch1 : 1 ≤ ch ∧ ch ≤ k := by
          rw [hch, qminI]
          show 1 ≤ (if n < k then n else k) ∧ (if n < k then n else k) ≤ k
          split <;> ((try simp only [nc] at *); omega)
        obtain ⟨c, hc⟩ : ∃ c : Nat, ch = c := ⟨ch.toNat, by ((try simp only [nc] at *); omega)⟩
        have htc : vtoN ch = c := by rw [hc, qtoN]; exact Int.toNat_natCast c
        have hcut : vcutN 0 i N = i := by rw [qcutN]; show (if N = i then 0 else 0 + i) = i; rw [if_neg (by ((try simp only [nc] at *); omega))]; ((try simp only [nc] at *); omega)
        have hsb : vsubN N i = N - i := by rw [qsubN]
        obtain ⟨r, hr⟩ : ∃ r : Nat, r = min c (N - i) := ⟨_, rfl⟩
        have hmr : vminI (vofN c) (vofN (N - i)) = (r : Int) := by
          rw [hof, hof, qminI]
          show (if ((N - i : Nat) : Int) < (c : Int) then ((N - i : Nat) : Int) else (c : Int)) = r
          split <;> ((try simp only [nc] at *); omega)
        have htr : vtoN (r : Int) = r := by rw [qtoN]; exact Int.toNat_natCast r
        have hsrc : vsub (vsub M 0 c) 0 r = List.replicate r x := by
          rw [hsubq, hsubq, List.take_take, show min r c = r by ((try simp only [nc] at *); omega)]
          have h1 : M.take r = (M.take i).take r := by rw [List.take_take, show min r i = r by ((try simp only [nc] at *); omega)]
          rw [h1, hMt, List.take_replicate, show min r i = r by ((try simp only [nc] at *); omega)]
        obtain ⟨M1, hM1⟩ : ∃ M1, M1 = vsplice M i (List.replicate r x) := ⟨_, rfl⟩
        have hM1' : M1.take (i + r) = List.replicate (i + r) x ∧ N ≤ M1.length := by
          rw [hM1, hspl]
          exact hsp hM hMt (by ((try simp only [nc] at *); omega))
        have ek : vb .add .i64 k r = k + r := by rw [qb, add_i64 (by ((try simp only [nc] at *); omega)) (by ((try simp only [nc] at *); omega))]
        have hmu : ∀ _ : Unit, N - (k + r).toNat < N - k.toNat := fun _ => by ((try simp only [nc] at *); omega)
        cbv
        rw [← hch]
        refine ⟨⟨by ((try simp only [nc] at *); omega), by ((try simp only [nc] at *); omega)⟩, ⟨by ((try simp only [nc] at *); omega), by ((try simp only [nc] at *); omega)⟩, ⟨by rw [hadd0, htc, hln]; ((try simp only [nc] at *); omega)⟩, ⟨by rw [hti, hcut, hsb, hln, hadd]; ((try simp only [nc] at *); omega)⟩, ?_⟩
        rw [hti, hcut, hsb, htc, hmr, htr, hsrc, ← hM1, ek]
        refine Cv.fold ([11] ++ [61, 62, 63, 64, 65, 66, 67, 68, 69, 70, 71, 72, 73, 74, 75]) 2 [] (by exact Nat.le_refl _) (by exact Nat.le_of_ble_eq_true rfl) (by rfl) (by cbv) ?_
        intro js
        refine ⟨(_, _), ?_, js, rfl⟩
        exact ⟨⟨i + r, by ((try simp only [nc] at *); omega), by ((try simp only [nc] at *); omega), by ((try simp only [nc] at *); omega), hM1'.2, hM1'.1⟩, hmu ()⟩
      · rw [qc, lss_false] at hz4
        obtain rfl : i = N := by ((try simp only [nc] at *); omega)
        cbv
        exact ⟨M, i, hM, hMt, rfl, rfl⟩
  · rw [qc, gtr_true] at hz2
    obtain ⟨cm, hcm⟩ : ∃ cm : Int, cm = 8192 := ⟨_, rfl⟩
    have e8 : vb .quo .i64 8192 1 = 8192 := by rw [qb]; rfl
    have e8m : vb .mul .i64 8192 1 = cm := by rw [qb, hcm]; rfl
    have e80 : vc .eql cm 0 = false := by rw [qc, eql_false, hcm]; decide
    cbv
    rw [e1]
    refine ⟨⟨by decide⟩, ?_⟩
    rw [e8, e8m, e80]
    cbv
    refine ⟨⟨hn.1⟩, ⟨by omega⟩, ?_⟩
    intro L hL
    have hln : ∀ l : List Int, vln l = l.length := fun l => by simp only [qln]
    have hL : vtoN n ≤ vln L := hL.out
    rw [hto, hln] at hL
    cbv
    rw [hto]
    have hN1 : 1 ≤ N := by ((try simp only [nc] at *); omega)
    have hof : ∀ q : Nat, vofN q = (q : Int) := fun q => by simp only [qofN]
    have hmi : vminI 1 (vofN N) = 1 := by rw [hof, qminI]; show (if (N : Int) < 1 then (N : Int) else 1) = 1; rw [if_neg (by ((try simp only [nc] at *); omega))]
    have ht1 : vtoN 1 = 1 := by rw [qtoN]; rfl
    have hsx : vsub [x] 0 1 = [x] := by rw [qsub]; rfl
    have hadd : ∀ p q, vaddN p q = p + q := fun p q => by simp only [qaddN]
    have hadd0 : ∀ q, vaddN 0 q = q := fun q => by simp only [qaddN, Nat.zero_add]
    have hspl : ∀ (l : List Int) q xs, vsplice l q xs = l.take q ++ xs ++ l.drop (q + xs.length) := fun l q xs => by rw [qsplice]
    have hsubq : ∀ (l : List Int) q, vsub l 0 q = l.take q := fun l q => by simp only [qsub, List.drop_zero]
    obtain ⟨L1, hL1⟩ : ∃ L1, L1 = vsplice L 0 [x] := ⟨_, rfl⟩
    have hL1' : N ≤ L1.length ∧ L1.take 1 = List.replicate 1 x := by
      have := hsp (i := 0) (r := 1) (x := x) hL (by simp) (by ((try simp only [nc] at *); omega))
      rw [hL1, hspl]
      exact ⟨this.2, this.1⟩
    refine ⟨⟨by ((try simp only [nc] at *); omega), by rw [hln]; ((try simp only [nc] at *); omega)⟩, ⟨by ((try simp only [nc] at *); omega), by ((try simp only [nc] at *); omega)⟩, ⟨by rw [hadd0, hln]; simp⟩, ⟨by rw [hadd0, hln]; exact hL⟩, ?_⟩
    rw [e1, hmi, ht1, hsx, hsx, ← hL1]
    refine loop_fam (α := Int × List Int) ([11] ++ [61, 62, 63, 64, 65, 66, 67, 68, 69, 70, 71, 72, 73, 74, 75]) [] (fun (k, M) => [(10, .int .i64 k)]) (fun (k, M) => [(1, .ints 5 .u8 M)])
      (fun (k, M) => ∃ i : Nat, k = i ∧ 1 ≤ i ∧ i ≤ N ∧ N ≤ M.length ∧ M.take i = List.replicate i x) (fun (k, _) => N - k.toNat) hw hm ?_ ?_
    · refine Cv.genAt [10] [] (Cv.fold ([11] ++ [61, 62, 63, 64, 65, 66, 67, 68, 69, 70, 71, 72, 73, 74, 75]) 2 [] (by exact Nat.le_refl _) (by exact Nat.le_of_ble_eq_true rfl) (by rfl) (by cbv) ?_)
      intro js
      refine ⟨(_, _), ?_, js, rfl⟩
      exact ⟨1, rfl, Nat.le_refl _, hN1, hL1'.1, hL1'.2⟩
    · rintro ⟨k, M⟩ js ⟨i, hk, hi1, hi, hM, hMt⟩
      cbv
      generalize hz4 : vc .lss k n = z4
      cases z4
      rotate_left
      · rw [qc, lss_true] at hz4
        have hlt : i < N := by ((try simp only [nc] at *); omega)
        have hti : vtoN k = i := by rw [hk, qtoN]; exact Int.toNat_natCast i
        obtain ⟨ch, hch⟩ : ∃ ch, ch = vminI k cm := ⟨_, rfl⟩
        have hch1 : 1 ≤ ch ∧ ch ≤ k := by
          rw [hch, qminI]
          show 1 ≤ (if cm < k then cm else k) ∧ (if cm < k then cm else k) ≤ k
          split <;> ((try simp only [nc] at *); omega)
        obtain ⟨c, hc⟩ : ∃ c : Nat, ch = c := ⟨ch.toNat, by ((try simp only [nc] at *); omega)⟩
        have htc : vtoN ch = c := by rw [hc, qtoN]; exact Int.toNat_natCast c
        have hcut : vcutN 0 i N = i := by rw [qcutN]; show (if N = i then 0 else 0 + i) = i; rw [if_neg (by ((try simp only [nc] at *); omega))]; ((try simp only [nc] at *); omega)
        have hsb : vsubN N i = N - i := by rw [qsubN]
        obtain ⟨r, hr⟩ : ∃ r : Nat, r = min c (N - i) := ⟨_, rfl⟩
        have hmr : vminI (vofN c) (vofN (N - i)) = (r : Int) := by
          rw [hof, hof, qminI]
          show (if ((N - i : Nat) : Int) < (c : Int) then ((N - i : Nat) : Int) else (c : Int)) = r
          split <;> ((try simp only [nc] at *); omega)
        have htr : vtoN (r : Int) = r := by rw [qtoN]; exact Int.toNat_natCast r
        have hsrc : vsub (vsub M 0 c) 0 r = List.replicate r x := by
          rw [hsubq, hsubq, List.take_take, show min r c = r by ((try simp only [nc] at *); omega)]
          have h1 : M.take r = (M.take i).take r := by rw [List.take_take, show min r i = r by ((try simp only [nc] at *); omega)]
          rw [h1, hMt, List.take_replicate, show min r i = r by ((try simp only [nc] at *); omega)]
        obtain ⟨M1, hM1⟩ : ∃ M1, M1 = vsplice M i (List.replicate r x) := ⟨_, rfl⟩
        have hM1' : M1.take (i + r) = List.replicate (i + r) x ∧ N ≤ M1.length := by
          rw [hM1, hspl]
          exact hsp hM hMt (by ((try simp only [nc] at *); omega))
        have ek : vb .add .i64 k r = k + r := by rw [qb, add_i64 (by ((try simp only [nc] at *); omega)) (by ((try simp only [nc] at *); omega))]
        have hmu : ∀ _ : Unit, N - (k + r).toNat < N - k.toNat := fun _ => by ((try simp only [nc] at *); omega)
        cbv
        rw [← hch]
        refine ⟨⟨by ((try simp only [nc] at *); omega), by ((try simp only [nc] at *); omega)⟩, ⟨by ((try simp only [nc] at *); omega), by ((try simp only [nc] at *); omega)⟩, ⟨by rw [hadd0, htc, hln]; ((try simp only [nc] at *); omega)⟩, ⟨by rw [hti, hcut, hsb, hln, hadd]; ((try simp only [nc] at *); omega)⟩, ?_⟩
        rw [hti, hcut, hsb, htc, hmr, htr, hsrc, ← hM1, ek]
        refine Cv.fold ([11] ++ [61, 62, 63, 64, 65, 66, 67, 68, 69, 70, 71, 72, 73, 74, 75]) 2 [] (by exact Nat.le_refl _) (by exact Nat.le_of_ble_eq_true rfl) (by rfl) (by cbv) ?_
        intro js
        refine ⟨(_, _), ?_, js, rfl⟩
        exact ⟨⟨i + r, by ((try simp only [nc] at *); omega), by ((try simp only [nc] at *); omega), by ((try simp only [nc] at *); omega), hM1'.2, hM1'.1⟩, hmu ()⟩
      · rw [qc, lss_false] at hz4
        obtain rfl : i = N := by ((try simp only [nc] at *); omega)
        cbv
        exact ⟨M, i, hM, hMt, rfl, rfl⟩
end Go.Proofs.Ytaaklikigccdfaa
namespace Go.Proofs.Ytaaklikigccdfaa
open Go Go.Sx Go.Proofs
/-! The head of a literals section, plainly. -/
/-- Kind, form, bytes of the head, bits of a size, rows. -/
def kdH (b : List Int) : Int := b.getD 0 0 % 4
def fmH (b : List Int) : Int := b.getD 0 0 / 4 % 4
def usH (b : List Int) : Nat := if kdH b < 2 then (if fmH b = 1 then 2 else if fmH b = 3 then 3 else 1) else (if fmH b = 2 then 4 else if fmH b = 3 then 5 else 3)
def btH (b : List Int) : Nat := if kdH b < 2 then (if fmH b = 1 then 12 else if fmH b = 3 then 20 else 5) else (if fmH b = 2 then 14 else if fmH b = 3 then 18 else 10)
def rwH (b : List Int) : Int := if kdH b < 2 then 0 else if fmH b = 0 then 1 else 4
/-- The number behind kind and form. -/
def nmH (b : List Int) : Int := if usH b = 1 then b.getD 0 0 / 8 else numA b (usH b) / 16
def szH (b : List Int) : Int := nmH b % 2 ^ btH b
def pkH (b : List Int) : Int := if kdH b < 2 then 0 else nmH b / 2 ^ btH b
theorem usH_le (b : List Int) : 1 ≤ usH b ∧ usH b ≤ 5 := by
  unfold usH
  split <;> split <;> first | omega | (split <;> omega)
theorem kfH {b : List Int} (hb : ∀ c ∈ b, isU8 c) : 0 ≤ kdH b ∧ kdH b ≤ 3 ∧ 0 ≤ fmH b ∧ fmH b ≤ 3 := by
  have := getD_u8 hb 0
  unfold kdH fmH
  omega
theorem nmH_range {b : List Int} (hb : ∀ c ∈ b, isU8 c) : 0 ≤ nmH b ∧ nmH b < 2 ^ 40 := by
  unfold nmH
  have h0 := getD_u8 hb 0
  split
  · omega
  · obtain ⟨h1, h2⟩ := numA_range hb (usH b)
    have h3 := usH_le b
    have h4 : (2 : Int) ^ (8 * usH b) ≤ 2 ^ 40 := by
      have := Nat.pow_le_pow_right (n := 2) (by decide) (show 8 * usH b ≤ 40 by omega)
      exact_mod_cast this
    omega
end Go.Proofs.Ytaaklikigccdfaa
namespace Go.Proofs.Ytaaklikigccdfaa
open Go Go.Sx Go.Proofs
set_option maxRecDepth 10000
set_option maxHeartbeats 40000000
theorem size_con (l : List Int) (cap : Nat) (m : Int) (hl : ∀ c ∈ l, isU8 c) (hlen : l.length ≤ 140737488355328) (hm0 : Msz l m) :
    Con Try.prog 46 [.slice 0 .z 1 l.length cap] [.ro .u8 l] (fun v H R => v = .int .i64 m ∧ H = [.ro .u8 l] ∧ R = []) := by
  have hlen1 := fun x h => len_con x h
  refine con_gen (con_cut 1 (by simp) (con_drop (con_walk hmix fn46 ?_)))
  intro vb vc vw vtoN vofN vaddN vsubN vmaxI vminI vcutN vgd vst vln vrep vsub vonto vsplice vstrEq vbyteV vnotB veqB hw qb qc qw qtoN qofN qaddN qsubN qmaxI qminI qcutN qgd qst qln qrep qsub qonto qsplice qstrEq qbyteV qnotB qeqB
  have hm := hmix; generalize Try.prog = P at *
  have hends := hm0.ends
  have hnone := hm0.none
  have hge := getD_u8 hl
  have hsr := fun i => @sm_range l i
  have hor := on_range l
  have hos := fun i => @on_sm l i
  have hs0 : sm l 0 = 0 := rfl
  have ho0 : on l 0 = 0 := rfl
  have hss : ∀ i, sm l (i + 1) = sm l i + pw (l.getD i 0) := fun _ => rfl
  have hosu : ∀ i, on l (i + 1) = on l i + (if l.getD i 0 = 1 then 1 else 0) := fun _ => rfl
  have hpr := @pw_range
  have hb16 := fun x h0 h1 => @blen_16 x h0 h1
  have hpwd : ∀ w : Int, 0 ≤ w → w ≤ 11 → vb .shr .u64 (vb .shl .u64 1 w) 1 = pw w := fun w h0 h1 => by rw [qb]; exact pw_word h0 h1
  have hand : ∀ s : Int, 1 ≤ s → s < 2 ^ 64 → (vb .and .u64 s (s - 1) = 0 ↔ ∃ k : Nat, s = 2 ^ k) := fun s h0 h1 => by rw [qb]; exact and_pow h0 h1
  clear hm0
  generalize sm l = SM at *
  generalize on l = ON at *
  generalize pw = PW at *
  generalize blen = BL at *
  generalize hn : l.length = n at *
  have hto : ∀ i : Nat, vtoN (i : Int) = i := fun i => by simp only [qtoN, Int.toNat_natCast]
  have hadd0 : ∀ i, vaddN 0 i = i := fun i => by simp only [qaddN, Nat.zero_add]
  have hvln : vln l = n := by simp only [qln, hn]
  have hvgd : ∀ i, vgd l i = l.getD i 0 := fun i => by simp only [qgd]
  obtain ⟨nI, hnI⟩ : ∃ nI : Int, nI = n := ⟨_, rfl⟩
  have en : vofN n = nI := by rw [hnI, qofN]
  cbv
  simp only [nc] at *
  rw [en]
  generalize hz1 : vc .lss nI 2 = z1
  cases z1
  rotate_left
  · rw [qc, lss_true] at hz1
    cbv
    have := hnone (.inl (by ((try simp only [nc] at *); omega)))
    subst this
    exact ⟨rfl, trivial⟩
  rw [qc, lss_false] at hz1
  cbv
  rw [en]
  generalize hz2 : vc .gtr nI 256 = z2
  cases z2
  rotate_left
  · rw [qc, gtr_true] at hz2
    cbv
    have := hnone (.inr (.inl (by ((try simp only [nc] at *); omega))))
    subst this
    exact ⟨rfl, trivial⟩
  rw [qc, gtr_false] at hz2
  obtain ⟨nm, hnm⟩ : ∃ nm : Int, nm = ((n - 1 : Nat) : Int) := ⟨_, rfl⟩
  have enm : vb .sub .i64 nI 1 = nm := by rw [qb, sub_i64 (by ((try simp only [nc] at *); omega)) (by ((try simp only [nc] at *); omega))]; ((try simp only [nc] at *); omega)
  have htm : vtoN nm = n - 1 := by rw [hnm]; exact hto _
  cbv
  rw [en, enm, htm, hadd0, hvgd, hvln]
  refine ⟨⟨by ((try simp only [nc] at *); omega)⟩, ⟨by ((try simp only [nc] at *); omega)⟩, ⟨by ((try simp only [nc] at *); omega)⟩, ?_⟩
  generalize hz3 : vc .eql (l.getD (n - 1) 0) 0 = z3
  cases z3
  rotate_left
  · rw [qc, eql_true] at hz3
    cbv
    have := hnone (.inr (.inr (.inl hz3)))
    subst this
    exact ⟨rfl, trivial⟩
  rw [qc, eql_false] at hz3
  have hends := hends (by ((try simp only [nc] at *); omega)) (by ((try simp only [nc] at *); omega)) hz3
  cbv
  rw [en]
  refine loop_fam (α := Int × Int × Int) ([6] ++ [27, 28, 29, 30, 31, 32, 33, 34, 35, 36, 37, 38, 39, 40, 41, 42, 43]) [] (fun (k, s, o) => [(26, .int .i64 k), (3, .int .u64 s), (4, .int .i64 o)]) (fun _ => [])
    (fun (k, s, o) => ∃ i : Nat, k = i ∧ i ≤ n ∧ s = SM i ∧ o = ON i ∧ ∀ j, j < i → l.getD j 0 ≤ 11) (fun (k, _) => n - k.toNat) hw hm ?_ ?_
  · refine Cv.genAt [26, 3, 4] [] (Cv.fold ([6] ++ [27, 28, 29, 30, 31, 32, 33, 34, 35, 36, 37, 38, 39, 40, 41, 42, 43]) 1 [] (by exact Nat.le_refl _) (by exact Nat.le_of_ble_eq_true rfl) (by rfl) (by cbv) ?_)
    intro js
    refine ⟨(_, _, _), ?_, js, rfl⟩
    exact ⟨0, rfl, by ((try simp only [nc] at *); omega), hs0.symm, ho0.symm, fun j hj => by ((try simp only [nc] at *); omega)⟩
  · rintro ⟨k, s, o⟩ js ⟨i, hk, hi, hs, ho, hj⟩
    have hsi := hsr i hj
    have hoi := hor i
    cbv
    generalize hz4 : vc .lss k nI = z4
    cases z4
    rotate_left
    · rw [qc, lss_true] at hz4
      have hlt : i < n := by ((try simp only [nc] at *); omega)
      have hti : vtoN k = i := by rw [hk]; exact hto i
      have hinR : 0 ≤ k ∧ k < (n : Int) := by ((try simp only [nc] at *); omega)
      obtain ⟨k1, hk1⟩ : ∃ k1 : Int, k1 = ((i + 1 : Nat) : Int) := ⟨_, rfl⟩
      have ek : vb .add .i64 k 1 = k1 := by rw [qb, add_i64 (by ((try simp only [nc] at *); omega)) (by ((try simp only [nc] at *); omega))]; ((try simp only [nc] at *); omega)
      have hmu : ∀ _ : Unit, n - k1.toNat < n - k.toNat := fun _ => by ((try simp only [nc] at *); omega)
      have hx := hge i
      have hss1 := hss i
      have hos1 := hosu i
      cbv
      rw [hti, hadd0, hvgd, hvln]
      refine ⟨⟨hinR⟩, ⟨hlt⟩, ⟨hlt⟩, ?_⟩
      generalize hxi : l.getD i 0 = x at *
      generalize hz5 : vc .gtr x 11 = z5
      cases z5
      rotate_left
      · rw [qc, gtr_true] at hz5
        cbv
        have := hnone (.inr (.inr (.inr ⟨i, hlt, by ((try simp only [nc] at *); omega)⟩)))
        subst this
        exact ⟨rfl, trivial⟩
      rw [qc, gtr_false] at hz5
      have hpx := hpr (w := x) (by ((try simp only [nc] at *); omega))
      have hpw := hpwd x (by ((try simp only [nc] at *); omega)) (by ((try simp only [nc] at *); omega))
      obtain ⟨s1, hs1⟩ : ∃ s1, s1 = SM (i + 1) := ⟨_, rfl⟩
      have es : vb .add .u64 s (PW x) = s1 := by
        rw [qb, hs1, hss1, ← hs]
        exact wrap_u64 (by ((try simp only [nc] at *); omega)) (by ((try simp only [nc] at *); omega))
      have hjj : ∀ j, j < i + 1 → l.getD j 0 ≤ 11 := fun j hj2 => by
        by_cases e : j = i
        · subst e; ((try simp only [nc] at *); omega)
        · exact hj j (by ((try simp only [nc] at *); omega))
      cbv
      generalize hz6 : vc .eql x 1 = z6
      cases z6
      · rw [qc, eql_false] at hz6
        rw [if_neg hz6] at hos1
        cbv
        rw [hpw, es, ek]
        refine ⟨⟨by ((try simp only [nc] at *); omega)⟩, ?_⟩
        refine Cv.fold ([6] ++ [27, 28, 29, 30, 31, 32, 33, 34, 35, 36, 37, 38, 39, 40, 41, 42, 43]) 1 [] (by exact Nat.le_refl _) (by exact Nat.le_of_ble_eq_true rfl) (by rfl) (by cbv) ?_
        intro js
        refine ⟨(_, _, _), ?_, js, rfl⟩
        exact ⟨⟨i + 1, hk1, hlt, hs1, by ((try simp only [nc] at *); omega), hjj⟩, hmu ()⟩
      · rw [qc, eql_true] at hz6
        rw [if_pos hz6] at hos1
        have eo : vb .add .i64 o 1 = o + 1 := by rw [qb, add_i64 (by ((try simp only [nc] at *); omega)) (by ((try simp only [nc] at *); omega))]
        obtain ⟨o1, ho1⟩ : ∃ o1, o1 = o + 1 := ⟨_, rfl⟩
        rw [← ho1] at eo
        cbv
        rw [hpw, es, ek, eo]
        refine ⟨⟨by ((try simp only [nc] at *); omega)⟩, ?_⟩
        refine Cv.fold ([6] ++ [27, 28, 29, 30, 31, 32, 33, 34, 35, 36, 37, 38, 39, 40, 41, 42, 43]) 1 [] (by exact Nat.le_refl _) (by exact Nat.le_of_ble_eq_true rfl) (by rfl) (by cbv) ?_
        intro js
        refine ⟨(_, _, _), ?_, js, rfl⟩
        exact ⟨⟨i + 1, hk1, hlt, hs1, by ((try simp only [nc] at *); omega), hjj⟩, hmu ()⟩
    · rw [qc, lss_false] at hz4
      obtain rfl : i = n := by ((try simp only [nc] at *); omega)
      obtain ⟨he1, he2⟩ := hends (fun j h => hj j h)
      rw [← hs, ← ho] at he1 he2
      have hos2 := hos i hj
      rw [← hs, ← ho] at hos2
      clear hends hnone
      cbv
      generalize hz5 : vc .lss o 2 = z5
      cases z5
      rotate_left
      · rw [qc, lss_true] at hz5
        cbv
        have := he2 (.inl hz5)
        subst this
        exact ⟨rfl, trivial⟩
      rw [qc, lss_false] at hz5
      have hs1 : 1 ≤ s := by ((try simp only [nc] at *); omega)
      have hs2 : s < 2 ^ 64 := by ((try simp only [nc] at *); omega)
      have hands := hand s hs1 hs2
      obtain ⟨sm1, hsm⟩ : ∃ sm1, sm1 = s - 1 := ⟨_, rfl⟩
      have esm : vb .sub .u64 s 1 = sm1 := by rw [qb, hsm]; exact wrap_u64 (by ((try simp only [nc] at *); omega)) (by ((try simp only [nc] at *); omega))
      rw [← hsm] at hands
      obtain ⟨an, han⟩ : ∃ an, an = vb .and .u64 s sm1 := ⟨_, rfl⟩
      rw [← han] at hands
      cbv
      rw [esm, ← han]
      generalize hz6 : vc .neq an 0 = z6
      cases z6
      rotate_left
      · rw [qc, neq_true] at hz6
        cbv
        have := he2 (.inr (.inl (fun h => hz6 (hands.2 h))))
        subst this
        exact ⟨rfl, trivial⟩
      rw [qc, neq_false] at hz6
      have hex := hands.1 (Classical.not_not.1 hz6)
      cbv
      generalize hz7 : vc .gtr s 2048 = z7
      cases z7
      rotate_left
      · rw [qc, gtr_true] at hz7
        cbv
        have := he2 (.inr (.inr hz7))
        subst this
        exact ⟨rfl, trivial⟩
      rw [qc, gtr_false] at hz7
      have hmv := he1 (by ((try simp only [nc] at *); omega)) hex (by ((try simp only [nc] at *); omega))
      have hlc := hlen1 s ⟨by ((try simp only [nc] at *); omega), by ((try simp only [nc] at *); omega)⟩
      obtain ⟨bl, hbl⟩ : ∃ bl, bl = BL s := ⟨_, rfl⟩
      rw [← hbl] at hmv hlc
      cbv
      refine call_con (ρ := []) hlc ⟨by rfl, by rfl, by rfl, by cbv⟩ ?_
      rintro v H R js2 ⟨rfl, rfl, rfl⟩
      have em : vb .sub .i64 bl 1 = m := by
        have := hb16 s (by ((try simp only [nc] at *); omega)) (by ((try simp only [nc] at *); omega))
        rw [qb, hmv, sub_i64 (by ((try simp only [nc] at *); omega)) (by ((try simp only [nc] at *); omega))]
      cbv
      rw [em]
      exact ⟨rfl, trivial⟩
end Go.Proofs.Ytaaklikigccdfaa
namespace Go.Proofs.Ytaaklikigccdfaa
open Go Go.Sx Go.Proofs
/-! Plain: the words tile what there is of numbers. -/
theorem isU8_0 {l : List Int} (h : ∀ c ∈ l, isU8 c) (i : Nat) : 0 ≤ l.getD i 0 := (getD_u8 h i).1
theorem p2 (n : Nat) : (0 : Int) < 2 ^ n := Int.pow_pos (by omega)
theorem p2s (n : Nat) : (2 : Int) ^ (n + 1) = 2 ^ n * 2 := Int.pow_succ _ _
theorem pw_of {w : Int} {L : Nat} (h : w = L) (hL : 1 ≤ L) : pw w = 2 ^ (L - 1) := by
  unfold pw
  rw [if_neg (by omega)]
  congr 1
  omega
def low (l : List Int) (L : Nat) : Nat → Int
  | 0 => 0
  | k + 1 => low l L k + (if l.getD k 0 < L then pw (l.getD k 0) else 0)
def gsum (l : List Int) (L : Nat) : Nat → Int
  | 0 => 0
  | i + 1 => gsum l L i + (if l.getD i 0 = L then 2 ^ (L - 1) else 0)
/-- What is next, among those of weight L at number i. -/
def gs (l : List Int) (L i : Nat) : Int := low l L l.length + gsum l L i
theorem pw_nn (w : Int) : 0 ≤ pw w := by
  unfold pw; split
  · omega
  · exact Int.le_of_lt (p2 _)
theorem low_one (l : List Int) (h : ∀ c ∈ l, isU8 c) : ∀ k, low l 1 k = 0
  | 0 => rfl
  | k + 1 => by
    have h0 := isU8_0 h k
    simp only [low, low_one l h k]
    split
    · rename_i e
      have : l.getD k 0 = 0 := by omega
      rw [this]; rfl
    · rfl
theorem gs_one (l : List Int) (h : ∀ c ∈ l, isU8 c) : gs l 1 0 = 0 := by unfold gs; rw [low_one l h]; rfl
theorem gs_step (l : List Int) (L i : Nat) : gs l L (i + 1) = gs l L i + (if l.getD i 0 = L then 2 ^ (L - 1) else 0) := by
  unfold gs
  simp only [gsum]
  omega
theorem low_succ (l : List Int) {L : Nat} (hL : 1 ≤ L) : ∀ k, low l (L + 1) k = low l L k + gsum l L k
  | 0 => rfl
  | k + 1 => by
    simp only [low, gsum, low_succ l hL k]
    by_cases h : l.getD k 0 = L
    · rw [if_pos (by push_cast; omega), if_neg (by omega), if_pos h, pw_of h hL]
      omega
    · rw [if_neg h]
      by_cases h2 : l.getD k 0 < L
      · rw [if_pos (by push_cast; omega), if_pos h2]; omega
      · rw [if_neg (by push_cast; omega), if_neg h2]; omega
theorem gs_next (l : List Int) {L : Nat} (hL : 1 ≤ L) : gs l (L + 1) 0 = gs l L l.length := by
  unfold gs
  rw [low_succ l hL]
  simp [gsum]
theorem low_all (l : List Int) {L : Nat} : ∀ k, (∀ j, j < k → l.getD j 0 < L) → low l L k = sm l k
  | 0, _ => rfl
  | k + 1, h => by
    simp only [low, sm, low_all l k (fun j hj => h j (by omega)), if_pos (h k (by omega))]
theorem gsum_nn (l : List Int) (L : Nat) : ∀ i, 0 ≤ gsum l L i
  | 0 => by simp [gsum]
  | i + 1 => by
    have := gsum_nn l L i
    have := p2 (L - 1)
    simp only [gsum]
    split <;> omega
theorem low_nn (l : List Int) (L : Nat) : ∀ i, 0 ≤ low l L i
  | 0 => by simp [low]
  | i + 1 => by
    have := low_nn l L i
    have := pw_nn (l.getD i 0)
    simp only [low]
    split <;> omega
theorem gs_mono (l : List Int) (L : Nat) {i : Nat} : ∀ {j : Nat}, i ≤ j → gs l L i ≤ gs l L j
  | 0, h => by obtain rfl : i = 0 := by omega
               exact Int.le_refl _
  | j + 1, h => by
    by_cases e : i = j + 1
    · subst e; exact Int.le_refl _
    · have h1 := gs_mono l L (i := i) (j := j) (by omega)
      have h2 := p2 (L - 1)
      rw [gs_step]
      split <;> omega
theorem gs_up (l : List Int) {L : Nat} (hL : 1 ≤ L) : ∀ {K : Nat}, L < K → gs l L l.length ≤ gs l K 0
  | 0, h => by omega
  | K + 1, h => by
    by_cases e : L = K
    · subst e; rw [gs_next l hL]; exact Int.le_refl _
    · have h1 := gs_up l hL (K := K) (by omega)
      have h2 := gs_mono l K (i := 0) (j := l.length) (by omega)
      rw [gs_next l (by omega)]
      omega
theorem on_plus {l : List Int} {i : Nat} (hi2 : 2 ≤ l.getD i 0) : ∀ {n : Nat}, i < n → (∀ j, j < n → l.getD j 0 ≤ 11) → on l n + pw (l.getD i 0) ≤ sm l n
  | 0, h, _ => by omega
  | n + 1, h, h11 => by
    have hpn := pw_nn (l.getD n 0)
    simp only [on, sm]
    by_cases e : i = n
    · subst e
      have := on_sm (l := l) (i := i) (fun j hj => h11 j (by omega))
      rw [if_neg (by omega)]
      omega
    · have := on_plus hi2 (n := n) (by omega) (fun j hj => h11 j (by omega))
      split
      · rename_i e1
        rw [e1, show pw 1 = 1 by decide]
        omega
      · omega
/-- No weight is above m. -/
theorem Wt.le {l : List Int} {M : Nat} (h : Wt l M) (i : Nat) (hi : i < l.length) : l.getD i 0 ≤ M := by
  obtain ⟨h1, h2, h3, h4, h5, h6, h7⟩ := h
  have ho := on_sm (l := l) (i := l.length) h4
  apply Classical.byContradiction
  intro hc
  by_cases e : 2 ≤ l.getD i 0
  · have hp := on_plus e hi h4
    have h8 : (2 : Int) ^ M ≤ pw (l.getD i 0) := by
      unfold pw
      rw [if_neg (by omega)]
      exact pow_up (by omega)
    omega
  · have hM : M = 0 := by omega
    subst hM
    omega
theorem Wt.pos {l : List Int} {M : Nat} (h : Wt l M) : 1 ≤ M := by
  obtain ⟨h1, h2, h3, h4, h5, h6, h7⟩ := h
  have ho := on_sm (l := l) (i := l.length) h4
  cases M with
  | zero => omega
  | succ M => omega
theorem gs_full {l : List Int} {M : Nat} (h : Wt l M) : gs l (M + 1) 0 = 2 ^ M := by
  unfold gs
  rw [low_all l l.length (fun j hj => by have := h.le j hj; push_cast; omega), h.2.2.2.2.2.1]
  simp [gsum]
theorem gs_none {l : List Int} {M : Nat} (h : Wt l M) : ∀ i, i ≤ l.length → gs l (M + 1) i = 2 ^ M
  | 0, _ => gs_full h
  | i + 1, hi => by
    have := h.le i (by omega)
    rw [gs_step, gs_none h i (by omega), if_neg (by push_cast; omega)]
    omega
theorem gs_range {l : List Int} {M : Nat} (h : Wt l M) {L i : Nat} (hL1 : 1 ≤ L) (hL : L ≤ M + 1) (hi : i ≤ l.length) : 0 ≤ gs l L i ∧ gs l L i ≤ 2 ^ M := by
  constructor
  · have := low_nn l L l.length
    have := gsum_nn l L i
    unfold gs
    omega
  · have h1 := gs_mono l L hi
    have h2 := gs_full h
    by_cases e : L = M + 1
    · subst e; rw [gs_none h i hi]; exact Int.le_refl _
    · have h3 := gs_up l hL1 (K := M + 1) (by omega)
      omega
theorem high_dvd (l : List Int) {L : Nat} (hL : 1 ≤ L) : ∀ k, ∃ q : Int, sm l k - low l L k = q * 2 ^ (L - 1)
  | 0 => ⟨0, by simp [sm, low]⟩
  | k + 1 => by
    obtain ⟨q, hq⟩ := high_dvd l hL k
    simp only [sm, low]
    by_cases h : l.getD k 0 < L
    · exact ⟨q, by rw [if_pos h]; omega⟩
    · rw [if_neg h]
      refine ⟨q + 2 ^ ((l.getD k 0).toNat - L), ?_⟩
      rw [Int.add_mul, ← hq, ← Int.pow_add]
      unfold pw
      rw [if_neg (by omega), show (l.getD k 0).toNat - L + (L - 1) = (l.getD k 0 - 1).toNat by omega]
      omega
theorem gsum_dvd (l : List Int) (L : Nat) : ∀ i, ∃ q : Int, gsum l L i = q * 2 ^ (L - 1)
  | 0 => ⟨0, by simp [gsum]⟩
  | i + 1 => by
    obtain ⟨q, hq⟩ := gsum_dvd l L i
    simp only [gsum]
    split
    · exact ⟨q + 1, by rw [hq, Int.add_mul]; omega⟩
    · exact ⟨q, by omega⟩
theorem gs_dvd {l : List Int} {M : Nat} (h : Wt l M) {L : Nat} (hL1 : 1 ≤ L) (hL : L ≤ M + 1) (i : Nat) : gs l L i = gs l L i / 2 ^ (L - 1) * 2 ^ (L - 1) := by
  obtain ⟨q, hq⟩ := high_dvd l hL1 l.length
  obtain ⟨r, hr⟩ := gsum_dvd l L i
  have e : gs l L i = (2 ^ (M - (L - 1)) - q + r) * 2 ^ (L - 1) := by
    unfold gs
    rw [hr, Int.add_mul, Int.sub_mul, ← hq, ← Int.pow_add, show M - (L - 1) + (L - 1) = M by omega, h.2.2.2.2.2.1]
    omega
  rw [e, Int.mul_ediv_cancel _ (by have := p2 (L - 1); omega)]
def wn (l : List Int) (c : Nat) : Nat := (l.getD c 0).toNat
/-- The number t begins with c's word. -/
def Dc (l : List Int) (t : Int) (c : Nat) : Prop := c < l.length ∧ 1 ≤ wn l c ∧ gs l (wn l c) c ≤ t ∧ t < gs l (wn l c) c + 2 ^ (wn l c - 1)
theorem gs_own {l : List Int} (h : ∀ c ∈ l, isU8 c) (c : Nat) (h1 : 1 ≤ wn l c) : gs l (wn l c) (c + 1) = gs l (wn l c) c + 2 ^ (wn l c - 1) := by
  have h0 := isU8_0 h c
  rw [gs_step, if_pos (by unfold wn at *; omega)]
theorem Dc.uniq {l : List Int} (h : ∀ c ∈ l, isU8 c) {t : Int} {c d : Nat} (hc : Dc l t c) (hd : Dc l t d) : c = d := by
  have key : ∀ c d, Dc l t c → Dc l t d → (wn l c < wn l d ∨ wn l c = wn l d ∧ c < d) → False := by
    rintro c d ⟨a1, a2, a3, a4⟩ ⟨b1, b2, b3, b4⟩ h3
    rw [← gs_own h c a2] at a4
    rcases h3 with h3 | ⟨h3, h4⟩
    · have k1 := gs_mono l (wn l c) (i := c + 1) (j := l.length) (by omega)
      have k2 := gs_up l a2 (K := wn l d) h3
      have k3 := gs_mono l (wn l d) (i := 0) (j := d) (by omega)
      omega
    · have k1 := gs_mono l (wn l c) (i := c + 1) (j := d) (by omega)
      rw [h3] at k1 a4
      omega
  apply Classical.byContradiction
  intro hne
  rcases (by omega : (wn l c < wn l d ∨ wn l c = wn l d ∧ c < d) ∨ (wn l d < wn l c ∨ wn l d = wn l c ∧ d < c)) with h1 | h1
  · exact key c d hc hd h1
  · exact key d c hd hc h1
theorem cover {l : List Int} (h : ∀ c ∈ l, isU8 c) : ∀ (L i : Nat) (t : Int), 1 ≤ L → i ≤ l.length → 0 ≤ t → t < gs l L i → ∃ c, Dc l t c
  | L, 0, t, hL, hi, h0, ht => by
    by_cases e : L = 1
    · subst e; rw [gs_one l h] at ht; omega
    · obtain ⟨K, hK, rfl⟩ : ∃ K, 1 ≤ K ∧ L = K + 1 := ⟨L - 1, by omega, by omega⟩
      rw [gs_next l hK] at ht
      exact cover h K l.length t hK (by omega) h0 ht
  | L, i + 1, t, hL, hi, h0, ht => by
    by_cases h1 : t < gs l L i
    · exact cover h L i t hL (by omega) h0 h1
    · rw [gs_step] at ht
      split at ht
      · rename_i e
        have hw : wn l i = L := by unfold wn; omega
        exact ⟨i, by omega, by omega, by rw [hw]; omega, by rw [hw]; omega⟩
      · omega
  termination_by L i => (L, i)
theorem Dc.ex {l : List Int} {M : Nat} (h : ∀ c ∈ l, isU8 c) (hW : Wt l M) {t : Int} (h0 : 0 ≤ t) (ht : t < 2 ^ M) : ∃ c, Dc l t c :=
  cover h (M + 1) 0 t (by omega) (by omega) h0 (by rw [gs_full hW]; exact ht)
theorem wn_le {l : List Int} {M : Nat} (hW : Wt l M) {c : Nat} (hc : c < l.length) : wn l c ≤ M := by have := hW.le c hc; unfold wn; omega
/-- A symbol's word. -/
def wx (l : List Int) (c : Nat) : Int := gs l (wn l c) c / 2 ^ (wn l c - 1)
theorem wx_mul {l : List Int} {M : Nat} (hW : Wt l M) {c : Nat} (hc : c < l.length) (h1 : 1 ≤ wn l c) : gs l (wn l c) c = wx l c * 2 ^ (wn l c - 1) :=
  gs_dvd hW h1 (by have := wn_le hW hc; omega) c
/-- The number begins with the word. -/
theorem Dc_iff {l : List Int} {M : Nat} (hW : Wt l M) {c : Nat} (hc : c < l.length) (h1 : 1 ≤ wn l c) (t : Int) : Dc l t c ↔ t / 2 ^ (wn l c - 1) = wx l c := by
  have hm := wx_mul hW hc h1
  have hp := p2 (wn l c - 1)
  generalize hq : (2 : Int) ^ (wn l c - 1) = Q at *
  unfold Dc
  rw [hq, hm]
  have h3 : wx l c * Q + Q = (wx l c + 1) * Q := by rw [Int.add_mul]; omega
  rw [h3]
  constructor
  · rintro ⟨_, _, h4, h5⟩
    have a := Int.le_ediv_of_mul_le hp h4
    have b := Int.ediv_lt_of_lt_mul hp h5
    omega
  · intro h4
    refine ⟨hc, h1, ?_, ?_⟩
    · have := Int.ediv_mul_le t (show Q ≠ 0 by omega)
      rw [h4] at this
      exact this
    · have := Int.lt_ediv_add_one_mul_self t hp
      rw [h4] at this
      exact this
end Go.Proofs.Ytaaklikigccdfaa
namespace Go.Proofs.Ytaaklikigccdfaa
open Go Go.Sx Go.Proofs
/-! Plain: the words, as they are told one after the other; what is packed. -/
def Pr (l : List Int) (L i c : Nat) : Prop := c < l.length ∧ 1 ≤ wn l c ∧ (wn l c < L ∨ wn l c = L ∧ c < i)
open Classical in
noncomputable def wA (l : List Int) (L i c : Nat) : Int := if Pr l L i c then wx l c else 0
open Classical in
noncomputable def wB (l : List Int) (M L i c : Nat) : Int := if Pr l L i c then (M : Int) + 1 - wn l c else 0
theorem Pr_zero {l : List Int} {c : Nat} : ¬ Pr l 1 0 c := by rintro ⟨_, h1, h2⟩; omega
theorem wA_zero (l : List Int) : wA l 1 0 = fun _ => 0 := by funext c; unfold wA; rw [if_neg Pr_zero]
theorem wB_zero (l : List Int) (M : Nat) : wB l M 1 0 = fun _ => 0 := by funext c; unfold wB; rw [if_neg Pr_zero]
theorem Pr_skip {l : List Int} {L i c : Nat} (h : ∀ c ∈ l, isU8 c) (hi : l.getD i 0 ≠ L) : Pr l L (i + 1) c ↔ Pr l L i c := by
  have h0 := isU8_0 h c
  unfold Pr
  constructor
  · rintro ⟨h1, h2, h3⟩
    refine ⟨h1, h2, ?_⟩
    rcases h3 with h3 | ⟨h3, h4⟩
    · exact .inl h3
    · by_cases e : c = i
      · subst e; unfold wn at h3; omega
      · exact .inr ⟨h3, by omega⟩
  · rintro ⟨h1, h2, h3⟩
    exact ⟨h1, h2, by omega⟩
theorem Pr_put {l : List Int} {L i c : Nat} (hn : i < l.length) (hL : 1 ≤ L) (hi : l.getD i 0 = L) : Pr l L (i + 1) c ↔ (c = i ∨ Pr l L i c) := by
  unfold Pr
  constructor
  · rintro ⟨h1, h2, h3⟩
    by_cases e : c = i
    · exact .inl e
    · exact .inr ⟨h1, h2, by omega⟩
  · rintro (rfl | ⟨h1, h2, h3⟩)
    · have : wn l c = L := by unfold wn; omega
      exact ⟨hn, by omega, by omega⟩
    · exact ⟨h1, h2, by omega⟩
theorem wA_skip {l : List Int} {L i : Nat} (h : ∀ c ∈ l, isU8 c) (hi : l.getD i 0 ≠ L) : wA l L (i + 1) = wA l L i := by
  funext c; unfold wA; rw [propext (Pr_skip (c := c) h hi)]
theorem wB_skip {l : List Int} {M L i : Nat} (h : ∀ c ∈ l, isU8 c) (hi : l.getD i 0 ≠ L) : wB l M L (i + 1) = wB l M L i := by
  funext c; unfold wB; rw [propext (Pr_skip (c := c) h hi)]
theorem wA_put {l : List Int} {L i : Nat} (hn : i < l.length) (hL : 1 ≤ L) (hi : l.getD i 0 = L) : wA l L (i + 1) = updI (wA l L i) i (gs l L i / 2 ^ (L - 1)) := by
  funext c
  rw [updI_eq]
  have hw : wn l i = L := by unfold wn; omega
  by_cases e : c = i
  · subst e
    rw [if_pos rfl]; unfold wA; rw [if_pos ((Pr_put hn hL hi).2 (.inl rfl))]; unfold wx; rw [hw]
  · rw [if_neg e]; unfold wA; rw [propext ((Pr_put (c := c) hn hL hi).trans ⟨fun h => h.resolve_left e, fun h => .inr h⟩)]
theorem wB_put {l : List Int} {M L i : Nat} (hn : i < l.length) (hL : 1 ≤ L) (hi : l.getD i 0 = L) : wB l M L (i + 1) = updI (wB l M L i) i ((M : Int) + 1 - L) := by
  funext c
  rw [updI_eq]
  have hw : wn l i = L := by unfold wn; omega
  by_cases e : c = i
  · subst e
    rw [if_pos rfl]; unfold wB; rw [if_pos ((Pr_put hn hL hi).2 (.inl rfl)), hw]
  · rw [if_neg e]; unfold wB; rw [propext ((Pr_put (c := c) hn hL hi).trans ⟨fun h => h.resolve_left e, fun h => .inr h⟩)]
theorem Pr_next {l : List Int} {L c : Nat} : Pr l L l.length c ↔ Pr l (L + 1) 0 c := by
  unfold Pr
  constructor
  · rintro ⟨h1, h2, h3⟩; exact ⟨h1, h2, by omega⟩
  · rintro ⟨h1, h2, h3⟩; exact ⟨h1, h2, by omega⟩
theorem wA_next (l : List Int) (L : Nat) : wA l L l.length = wA l (L + 1) 0 := by funext c; unfold wA; rw [propext (Pr_next (c := c))]
theorem wB_next (l : List Int) (M L : Nat) : wB l M L l.length = wB l M (L + 1) 0 := by funext c; unfold wB; rw [propext (Pr_next (c := c))]
/-- Is c a symbol? -/
def Sy (l : List Int) (c : Nat) : Prop := c < l.length ∧ 1 ≤ wn l c
open Classical in
noncomputable def xA (l : List Int) (c : Nat) : Int := if Sy l c then wx l c else 0
open Classical in
noncomputable def nA (l : List Int) (M c : Nat) : Int := if Sy l c then (M : Int) + 1 - wn l c else 0
theorem Pr_all {l : List Int} {M : Nat} (hW : Wt l M) {c : Nat} : Pr l (M + 2) 0 c ↔ Sy l c := by
  unfold Pr Sy
  constructor
  · rintro ⟨h1, h2, _⟩; exact ⟨h1, h2⟩
  · rintro ⟨h1, h2⟩
    have := wn_le hW h1
    exact ⟨h1, h2, by omega⟩
theorem wA_all {l : List Int} {M : Nat} (hW : Wt l M) : wA l (M + 2) 0 = xA l := by funext c; unfold wA xA; rw [propext (Pr_all (c := c) hW)]
theorem wB_all {l : List Int} {M : Nat} (hW : Wt l M) : wB l M (M + 2) 0 = nA l M := by funext c; unfold wB nA; rw [propext (Pr_all (c := c) hW)]
theorem nA_range {l : List Int} {M : Nat} (hW : Wt l M) (c : Nat) : 0 ≤ nA l M c ∧ nA l M c ≤ M ∧ (nA l M c = 0 ↔ ¬ Sy l c) := by
  unfold nA
  split
  · rename_i h
    have := wn_le hW h.1
    have h2 := h.2
    refine ⟨by omega, by omega, ?_, fun hh => (hh h).elim⟩
    intro; omega
  · rename_i h
    exact ⟨by omega, by omega, fun _ => h, fun _ => rfl⟩
end Go.Proofs.Ytaaklikigccdfaa
