import Derived.Test.YtodobmkflimfkaaSB
namespace Go.Proofs.Ytodobmkflimfkaa
open Go Go.Sx Go.Proofs
/-! ### Sums -/
def sumI (f : Nat → Int) : Nat → Int
  | 0 => 0
  | n + 1 => sumI f n + f n
theorem sumI_congr {f g : Nat → Int} : ∀ {n : Nat}, (∀ i, i < n → f i = g i) → sumI f n = sumI g n
  | 0, _ => rfl
  | n + 1, h => by simp only [sumI]; rw [sumI_congr (fun i hi => h i (by omega)), h n (by omega)]
theorem sumI_upd {f : Nat → Int} {s : Nat} {v : Int} : ∀ {n : Nat}, s < n → sumI (fun i => if i = s then v else f i) n = sumI f n - f s + v
  | 0, h => by omega
  | n + 1, h => by
    simp only [sumI]
    by_cases hs : s = n
    · subst hs
      rw [if_pos rfl, sumI_congr (g := f) (fun i hi => by rw [if_neg (by omega)])]
      omega
    · rw [if_neg (by omega), sumI_upd (by omega)]
      omega
theorem sumI_nonneg {f : Nat → Int} : ∀ {n : Nat}, (∀ i, i < n → 0 ≤ f i) → 0 ≤ sumI f n
  | 0, _ => by simp [sumI]
  | n + 1, h => by
    have := sumI_nonneg (fun i hi => h i (by omega) : ∀ i, i < n → 0 ≤ f i)
    have := h n (by omega)
    simp only [sumI]; omega
theorem sumI_mono {f : Nat → Int} {m : Nat} : ∀ {n : Nat}, (∀ i, i < n → 0 ≤ f i) → m ≤ n → sumI f m ≤ sumI f n
  | 0, _, h => by
    have : m = 0 := by omega
    subst this; exact Int.le_refl _
  | n + 1, h, hm => by
    by_cases hs : m = n + 1
    · subst hs; exact Int.le_refl _
    · have := sumI_mono (n := n) (m := m) (fun i hi => h i (by omega)) (by omega)
      have := h n (by omega)
      simp only [sumI]; omega
theorem sumI_one {f : Nat → Int} {n s : Nat} (h : ∀ i, i < n → 0 ≤ f i) (hs : s < n) : f s ≤ sumI f n := by
  have h1 := sumI_mono (m := s + 1) h (by omega)
  have h2 := sumI_nonneg (f := f) (n := s) (fun i hi => h i (by omega))
  simp only [sumI] at h1
  omega
theorem sumP_sumI (l : List Int) : ∀ i, i ≤ l.length → sumP (l.take i) = sumI (fun s => partsN (l.getD s 0)) i
  | 0, _ => by simp [sumP, sumI]
  | i + 1, h => by
    rw [take_snoc (by omega), sumP_snoc, sumP_sumI l i (by omega)]; rfl
/-! ### Shares -/
def posI (l : List Int) (s : Nat) : Int := if l.getD s 0 > 0 then 1 else 0
def somN (l : List Int) : Nat → Int := sumI (posI l)
def sumF (l : List Int) : Nat → Int := sumI (fun s => l.getD s 0)
def lastP (l : List Int) : Nat → Int
  | 0 => 0
  | i + 1 => if l.getD i 0 > 0 then i else lastP l i
def Able (l : List Int) (log : Int) : Prop := l.length ≤ 256 ∧ 5 ≤ log ∧ log ≤ 12 ∧ 1 ≤ somN l l.length ∧ somN l l.length ≤ 2 ^ log.toNat
instance (l : List Int) (log : Int) : Decidable (Able l log) := by unfold Able; infer_instance
theorem somN_range (l : List Int) : ∀ i, 0 ≤ somN l i ∧ somN l i ≤ i
  | 0 => by simp [somN, sumI]
  | i + 1 => by
    have := somN_range l i
    simp only [somN, sumI] at *
    unfold posI at *
    split <;> (push_cast; omega)
theorem lastP_range (l : List Int) : ∀ i, 0 ≤ lastP l i ∧ lastP l i ≤ i ∧ (1 ≤ i → lastP l i < i)
  | 0 => by simp [lastP]
  | i + 1 => by
    have := lastP_range l i
    simp only [lastP]
    split
    · omega
    · refine ⟨this.1, by omega, fun _ => by omega⟩
theorem lastP_pos (l : List Int) : ∀ i, 1 ≤ somN l i → 0 < l.getD (lastP l i).toNat 0
  | 0, h => by simp [somN, sumI] at h
  | i + 1, h => by
    simp only [lastP]
    split
    · rename_i hp; simpa using hp
    · rename_i hp
      refine lastP_pos l i ?_
      simp only [somN, sumI] at *
      unfold posI at h
      rw [if_neg hp] at h
      unfold posI; omega
theorem lastP_after (l : List Int) (hl : ∀ x ∈ l, 0 ≤ x) : ∀ i s, s < i → lastP l i < s → l.getD s 0 = 0
  | 0, s, h, _ => by omega
  | i + 1, s, h, h2 => by
    have hs : 0 ≤ l.getD s 0 := by rcases getD_mem_or (l := l) s with h | h; exact hl _ h; omega
    simp only [lastP] at h2
    split at h2
    · omega
    · rename_i hp
      by_cases hsi : s = i
      · subst hsi; omega
      · exact lastP_after l hl i s (by omega) h2
/-- The share of a number, beyond the first. -/
def moreF (l : List Int) (free all : Int) (s : Nat) : Int := if l.getD s 0 = 0 then 0 else l.getD s 0 * free / all
def shareF (l : List Int) (free all : Int) (s : Nat) : Int := if l.getD s 0 = 0 then 0 else 1 + l.getD s 0 * free / all
theorem more_le {l : List Int} {free all : Int} (hl : ∀ x ∈ l, 0 ≤ x) (hf : 0 ≤ free) (ha : 0 < all) : ∀ i, 0 ≤ sumI (moreF l free all) i ∧ all * sumI (moreF l free all) i ≤ free * sumF l i
  | 0 => by simp [sumI, sumF]
  | i + 1 => by
    have ih := more_le (free := free) (all := all) hl hf ha i
    have hs : 0 ≤ l.getD i 0 := by rcases getD_mem_or (l := l) i with h | h; exact hl _ h; omega
    simp only [sumF, sumI] at *
    have hm : 0 ≤ moreF l free all i ∧ all * moreF l free all i ≤ free * l.getD i 0 := by
      unfold moreF
      split
      · rename_i h; rw [h]; simp
      · have h0 : 0 ≤ l.getD i 0 * free := Int.mul_nonneg hs hf
        refine ⟨Int.ediv_nonneg h0 (by omega), ?_⟩
        rw [Int.mul_comm free]
        have := Int.mul_ediv_self_le (x := l.getD i 0 * free) (k := all) (by omega)
        exact this
    rw [Int.mul_add, Int.mul_add]
    omega
theorem sum_zero_tail {l : List Int} (h : ∀ x ∈ l, 0 ≤ x) {m : Nat} : ∀ n, m ≤ n → (∀ s, m ≤ s → s < n → l.getD s 0 = 0) → sumF l n = sumF l m
  | 0, hm, _ => by
    have : m = 0 := by omega
    subst this; rfl
  | n + 1, hm, hz => by
    by_cases hs : m = n + 1
    · subst hs; rfl
    · have := sum_zero_tail h n (by omega) (fun s h1 h2 => hz s h1 (by omega))
      have h0 := hz n (by omega) (by omega)
      simp only [sumF, sumI] at *
      omega
theorem som_zero_tail {l : List Int} {m : Nat} : ∀ n, m ≤ n → (∀ s, m ≤ s → s < n → l.getD s 0 = 0) → somN l n = somN l m
  | 0, hm, _ => by
    have : m = 0 := by omega
    subst this; rfl
  | n + 1, hm, hz => by
    by_cases hs : m = n + 1
    · subst hs; rfl
    · have := som_zero_tail (l := l) n (by omega) (fun s h1 h2 => hz s h1 (by omega))
      have h0 := hz n (by omega) (by omega)
      simp only [somN, sumI] at *
      unfold posI at *
      rw [if_neg (by omega)]
      omega
/-- What is made of shares is fair. -/
def Fair (l c : List Int) (log : Int) : Prop := Right c log ∧ c.length ≤ l.length ∧ (∀ x ∈ c, isI16 x) ∧ ∀ s, s < l.length → (0 < l.getD s 0 ↔ (s < c.length ∧ c.getD s 0 ≠ 0))
theorem fair_of {l out : List Int} {log free all left : Int} {best : Nat} (hl : ∀ x ∈ l, 0 ≤ x) (hab : Able l log) (hfree : free = 2 ^ log.toNat - somN l l.length) (hall : all = sumF l l.length)
    (hlen : out.length = (lastP l l.length).toNat + 1) (hout : ∀ s, s < out.length → out.getD s 0 = shareF l free all s) (hleft : left = free - sumI (moreF l free all) out.length) (hb : best < out.length) (hbp : 0 < l.getD best 0) :
    0 ≤ left ∧ left ≤ free ∧ out.getD best 0 + left ≤ 2 ^ log.toNat ∧ (0 ≤ out.getD best 0) ∧ Fair l (out.set best (out.getD best 0 + left)) log := by
  obtain ⟨a1, a2, a3, a4, a5⟩ := hab
  have hlr := lastP_range l l.length
  have hl1 : 1 ≤ l.length := by
    apply Classical.byContradiction
    intro h
    have : l.length = 0 := by omega
    rw [this] at a4
    simp [somN, sumI] at a4
  have hlp := lastP_pos l l.length a4
  have hpl := pow_log ⟨a2, a3⟩
  have htail : ∀ s, out.length ≤ s → s < l.length → l.getD s 0 = 0 := fun s h1 h2 => lastP_after l hl l.length s h2 (by omega)
  have hsf : sumF l out.length = all := by rw [hall]; exact (sum_zero_tail hl l.length (by omega) htail).symm
  have hsn : somN l out.length = somN l l.length := (som_zero_tail l.length (by omega) htail).symm
  have hge : ∀ s, 0 ≤ l.getD s 0 := fun s => by rcases getD_mem_or (l := l) s with h | h; exact hl _ h; omega
  have hallp : 0 < all := by
    have := sumI_one (f := fun s => l.getD s 0) (n := out.length) (s := best) (fun i _ => hge i) hb
    simp only [sumF] at hsf
    omega
  have hf0 : 0 ≤ free := by omega
  have hml := more_le (free := free) (all := all) hl hf0 hallp out.length
  rw [hsf] at hml
  have hmle : sumI (moreF l free all) out.length ≤ free := by
    apply Classical.byContradiction
    intro h
    have : all * (free + 1) ≤ all * sumI (moreF l free all) out.length := Int.mul_le_mul_of_nonneg_left (by omega) (by omega)
    rw [Int.mul_add, Int.mul_comm all free] at this
    omega
  have hsh : ∀ s, 0 ≤ shareF l free all s ∧ (shareF l free all s = 0 ↔ l.getD s 0 = 0) ∧ shareF l free all s = moreF l free all s + posI l s := by
    intro s
    unfold shareF moreF posI
    split
    · rename_i h; rw [h]; simp
    · rename_i h
      have := Int.ediv_nonneg (Int.mul_nonneg (hge s) hf0) (b := all) (by omega)
      have := hge s
      refine ⟨by omega, ⟨fun h => by omega, fun h2 => absurd h2 h⟩, ?_⟩
      rw [if_pos (by omega)]; omega
  have hsum : sumI (shareF l free all) out.length = sumI (moreF l free all) out.length + somN l out.length := by
    have : ∀ n, sumI (shareF l free all) n = sumI (moreF l free all) n + somN l n := by
      intro n
      induction n with
      | zero => simp [sumI, somN]
      | succ n ih =>
        have := (hsh n).2.2
        simp only [sumI, somN] at *
        omega
    exact this _
  have hone := sumI_one (f := shareF l free all) (n := out.length) (s := best) (fun i _ => (hsh i).1) hb
  have hob := hout best hb
  have hlenset : (out.set best (out.getD best 0 + left)).length = out.length := List.length_set
  have hget : ∀ s, s < out.length → (out.set best (out.getD best 0 + left)).getD s 0 = if s = best then shareF l free all best + left else shareF l free all s := by
    intro s hs
    rw [List.getD_eq_getElem?_getD, List.getElem?_set]
    by_cases h : best = s
    · subst h; rw [if_pos rfl, if_pos hb, if_pos rfl, hob]; rfl
    · rw [if_neg h, if_neg (by omega), ← List.getD_eq_getElem?_getD, hout s hs]
  have hne : ∀ s, s < out.length → 0 ≤ (out.set best (out.getD best 0 + left)).getD s 0 ∧ ((out.set best (out.getD best 0 + left)).getD s 0 = 0 ↔ l.getD s 0 = 0) := by
    intro s hs
    rw [hget s hs]
    have := hsh s
    split
    · rename_i h; subst h
      have h2 : shareF l free all s ≠ 0 := fun h => by have := (hsh s).2.1.1 h; omega
      exact ⟨by omega, ⟨fun h => by omega, fun h => by omega⟩⟩
    · exact ⟨this.1, this.2.1⟩
  generalize hcc : out.set best (out.getD best 0 + left) = c at *
  have hpart : ∀ x : Int, 0 ≤ x → partsN x = x := fun x h => by unfold partsN; rw [if_neg (by omega)]
  have hmemc : ∀ x ∈ c, ∃ s, s < out.length ∧ c.getD s 0 = x := by
    intro x hx
    obtain ⟨s, hs, rfl⟩ := List.mem_iff_getElem.1 hx
    exact ⟨s, by omega, by rw [List.getD_eq_getElem?_getD, List.getElem?_eq_getElem hs]; rfl⟩
  have hsc : sumP c = 2 ^ log.toNat := by
    have h1 := sumP_sumI c c.length (Nat.le_refl _)
    rw [List.take_length, hlenset] at h1
    rw [h1, sumI_congr (g := fun i => if i = best then shareF l free all best + left else shareF l free all i) (fun i hi => by rw [hpart _ (hne i hi).1, hget i hi]), sumI_upd hb, hsum]
    omega
  have hle : ∀ s, s < out.length → c.getD s 0 ≤ 2 ^ log.toNat := by
    intro s hs
    have h1 := sumP_sumI c c.length (Nat.le_refl _)
    rw [List.take_length, hlenset, hsc] at h1
    have := sumI_one (f := fun s => partsN (c.getD s 0)) (n := out.length) (s := s) (fun i hi => by show 0 ≤ partsN _; rw [hpart _ (hne i hi).1]; exact (hne i hi).1) hs
    rw [← h1] at this
    have e : partsN (c.getD s 0) = c.getD s 0 := hpart _ (hne s hs).1
    omega
  have hsb := (hsh best).1
  refine ⟨by omega, by omega, by omega, by omega, ⟨a2, a3, by omega, by omega, ?_, ?_, hsc⟩, by omega, ?_, ?_⟩
  · rw [hlenset, hlen]
    have := (hne (lastP l l.length).toNat (by omega)).2
    simp only [Nat.add_sub_cancel]
    intro h
    have := this.1 h
    omega
  · intro x hx
    obtain ⟨s, hs, rfl⟩ := hmemc x hx
    have := (hne s hs).1
    omega
  · intro x hx
    obtain ⟨s, hs, rfl⟩ := hmemc x hx
    have := (hne s hs).1
    have := hle s hs
    unfold isI16; omega
  · intro s hs
    by_cases h : s < out.length
    · have := (hne s h).2
      have := hge s
      constructor
      · intro h2; exact ⟨by omega, fun h3 => by omega⟩
      · rintro ⟨_, h2⟩
        apply Classical.byContradiction
        intro h3
        exact h2 (by omega)
    · have := htail s (by omega) hs
      constructor
      · intro h2; omega
      · rintro ⟨h2, _⟩; omega
end Go.Proofs.Ytodobmkflimfkaa
namespace Go.Proofs.Ytodobmkflimfkaa
open Go Go.Sx Go.Proofs
def isU32 (c : Int) : Prop := 0 ≤ c ∧ c < 4294967296
set_option maxRecDepth 10000
set_option maxHeartbeats 40000000
theorem able_con (l : List Int) (log : Int) (cap : Nat) (hl : ∀ c ∈ l, isU32 c) (hlog : -9223372036854775808 ≤ log ∧ log ≤ 9223372036854775807) :
    Con Try.prog 30 [.slice 0 .z 1 l.length cap, .int .i64 log] [.ro .u32 l] (fun v H R => v = .bool (decide (Able l log)) ∧ H = [.ro .u32 l] ∧ R = []) := by
  refine con_gen (con_walk hmix fn30 ?_)
  intro vb vc vw vtoN vofN vaddN vsubN vmaxI vminI vcutN vgd vst vln vrep vsub vonto vsplice vstrEq vbyteV vnotB veqB hw qb qc qw qtoN qofN qaddN qsubN qmaxI qminI qcutN qgd qst qln qrep qsub qonto qsplice qstrEq qbyteV qnotB qeqB
  have hm := hmix
  generalize Try.prog = P at *
  have hA : decide (Able l log) = true ↔ (l.length ≤ 256 ∧ 5 ≤ log ∧ log ≤ 12 ∧ 1 ≤ somN l l.length ∧ somN l l.length ≤ 2 ^ log.toNat) := by
    rw [decide_eq_true_iff]; exact Iff.rfl
  generalize decide (Able l log) = rb at *
  have hRf : (rb = true → False) → rb = false := fun h => by cases rb with | false => rfl | true => exact (h rfl).elim
  have hsn := somN_range l
  have hss : ∀ i, somN l (i + 1) = somN l i + posI l i := fun _ => rfl
  have hs0 : somN l 0 = 0 := rfl
  have hpd : ∀ i, posI l i = if l.getD i 0 > 0 then 1 else 0 := fun _ => rfl
  generalize somN l = SN at *
  generalize posI l = PI at *
  generalize hn : l.length = n at *
  have hto : ∀ i : Nat, vtoN (i : Int) = i := fun i => by simp only [qtoN, Int.toNat_natCast]
  have hadd0 : ∀ i, vaddN 0 i = i := fun i => by simp only [qaddN, Nat.zero_add]
  have hvln : vln l = n := by simp only [qln, hn]
  have hvgd : ∀ i, vgd l i = l.getD i 0 := fun i => by simp only [qgd]
  cbv
  generalize h1 : vc .gtr (vofN n) 256 = z1
  cases z1
  rotate_left
  · rw [qc, qofN, gtr_true] at h1
    cbv
    rw [hRf (fun h => by have := (hA.1 h).1; simp only [nc] at *; omega)]
    exact ⟨rfl, trivial⟩
  rw [qc, qofN, gtr_false] at h1
  cbv
  generalize h2 : vc .lss log 5 = z2
  cases z2
  rotate_left
  · rw [qc, lss_true] at h2
    cbv
    rw [hRf (fun h => by have := (hA.1 h).2.1; omega)]
    exact ⟨rfl, trivial⟩
  rw [qc, lss_false] at h2
  cbv
  generalize h3 : vc .gtr log 12 = z3
  cases z3
  rotate_left
  · rw [qc, gtr_true] at h3
    cbv
    rw [hRf (fun h => by have := (hA.1 h).2.2.1; omega)]
    exact ⟨rfl, trivial⟩
  rw [qc, gtr_false] at h3
  have hn256 : n ≤ 256 := by simp only [nc] at *; omega
  cbv
  refine loop_fam (α := Int × Int) [18, 19, 20, 21, 22, 23, 24, 25, 26, 27, 28, 29, 30] [] (fun (k, m) => [(6, .int .i64 k), (5, .int .i64 m)]) (fun _ => [])
    (fun (k, m) => ∃ i : Nat, k = i ∧ i ≤ n ∧ m = SN i) (fun (k, _) => n - k.toNat) hw hm ?_ ?_
  · refine Cv.genAt [6, 5] [] (Cv.fold [18, 19, 20, 21, 22, 23, 24, 25, 26, 27, 28, 29, 30] 1 [] (by exact Nat.le_refl _) (by exact Nat.le_of_ble_eq_true rfl) (by rfl) (by cbv) ?_)
    intro js
    refine ⟨(_, _), ?_, js, rfl⟩
    exact ⟨0, rfl, by omega, hs0.symm⟩
  · rintro ⟨k, m⟩ js ⟨i, hk, hi, hm1⟩
    have hsi := hsn i
    cbv
    split
    · rename_i hlt
      have hlt : i < n := by rw [qc, lss_true] at hlt; simp only [qofN] at hlt; simp only [nc] at *; omega
      have hti : vtoN k = i := by rw [hk]; exact hto i
      have hinR : 0 ≤ k ∧ k < (n : Int) := by simp only [nc] at *; omega
      obtain ⟨k1, hk1⟩ : ∃ k1 : Int, k1 = ((i + 1 : Nat) : Int) := ⟨_, rfl⟩
      have ek : vb .add .i64 k 1 = k1 := by simp only [nc] at *; rw [qb, add_i64 (by omega) (by omega)]; omega
      have em : vb .add .i64 m 1 = m + 1 := by simp only [nc] at *; rw [qb, add_i64 (by omega) (by omega)]
      have hmu : n - k1.toNat < n - k.toNat := by simp only [nc] at *; omega
      have hsi1 := hss i
      rw [hpd] at hsi1
      cbv
      rw [hti, hadd0, hvgd]
      refine ⟨⟨hinR⟩, ⟨by omega⟩, ⟨by omega⟩, ?_⟩
      generalize hz : vc .gtr (l.getD i 0) 0 = z
      cases z
      · rw [qc, gtr_false] at hz
        rw [if_neg (by omega)] at hsi1
        cbv
        rw [ek]
        refine Cv.fold [18, 19, 20, 21, 22, 23, 24, 25, 26, 27, 28, 29, 30] 1 [] (by exact Nat.le_refl _) (by exact Nat.le_of_ble_eq_true rfl) (by rfl) (by cbv) ?_
        intro js
        refine ⟨(_, _), ?_, js, rfl⟩
        exact ⟨⟨i + 1, hk1, hlt, by omega⟩, hmu⟩
      · rw [qc, gtr_true] at hz
        rw [if_pos (by omega)] at hsi1
        cbv
        rw [ek, em]
        refine Cv.fold [18, 19, 20, 21, 22, 23, 24, 25, 26, 27, 28, 29, 30] 1 [] (by exact Nat.le_refl _) (by exact Nat.le_of_ble_eq_true rfl) (by rfl) (by cbv) ?_
        intro js
        refine ⟨(_, _), ?_, js, rfl⟩
        exact ⟨⟨i + 1, hk1, hlt, by omega⟩, hmu⟩
    · rename_i hge
      have hin : i = n := by rw [qc, lss_false] at hge; simp only [qofN] at hge; simp only [nc] at *; omega
      have e2 : vw .u64 log = log := by rw [qw]; exact wrap_u64 (by omega) (by omega)
      have e3 : vb .shl .i64 1 log = 2 ^ log.toNat := by rw [qb, one_shl62 (by omega) (by omega)]
      generalize hpw : (2 : Int) ^ log.toNat = pw at *
      cbv
      generalize hz : vc .geq m 1 = z
      cases z
      · rw [qc, geq_false] at hz
        cbv
        rw [hRf (fun h => by have := (hA.1 h).2.2.2.1; rw [← hin] at this; omega)]
        exact ⟨rfl, trivial⟩
      · rw [qc, geq_true] at hz
        cbv
        rw [e2, e3]
        have hfin : vc .leq m pw = rb := by
          cases hrb : rb
          · rw [qc, leq_false]
            intro he
            have := hA.2 ⟨hn256, by omega, by omega, by rw [← hin]; omega, by rw [← hin]; omega⟩
            rw [hrb] at this; cases this
          · rw [qc, leq_true]
            have := (hA.1 hrb).2.2.2.2
            rw [← hin] at this; omega
        rw [hfin]
        exact ⟨⟨by omega⟩, rfl, trivial⟩
end Go.Proofs.Ytodobmkflimfkaa
namespace Go.Proofs.Ytodobmkflimfkaa
open Go Go.Sx Go.Proofs
set_option maxRecDepth 10000
set_option maxHeartbeats 40000000
theorem refright_con (l : List Int) (log : Int) (cap : Nat) (hl : ∀ c ∈ l, isI16 c) (hlog : -9223372036854775808 ≤ log ∧ log ≤ 9223372036854775807) :
    Con Try.prog 31 [.slice 0 .z 1 l.length cap, .int .i64 log] [.ro .i16 l] (fun v H R => v = .bool (decide (Right l log)) ∧ H = [.ro .i16 l] ∧ R = []) := by
  have hparts := refparts_con
  refine con_gen (con_walk hmix fn31 ?_)
  intro vb vc vw vtoN vofN vaddN vsubN vmaxI vminI vcutN vgd vst vln vrep vsub vonto vsplice vstrEq vbyteV vnotB veqB hw qb qc qw qtoN qofN qaddN qsubN qmaxI qminI qcutN qgd qst qln qrep qsub qonto qsplice qstrEq qbyteV qnotB qeqB
  have hm := hmix
  generalize Try.prog = P at *
  have hR : decide (Right l log) = true ↔ (5 ≤ log ∧ log ≤ 12 ∧ 1 ≤ l.length ∧ l.length ≤ 256 ∧ l.getD (l.length - 1) 0 ≠ 0 ∧ (∀ c ∈ l, -1 ≤ c) ∧ sumP l = 2 ^ log.toNat) := by
    rw [decide_eq_true_iff]; exact Iff.rfl
  generalize decide (Right l log) = rb at *
  have hRf : (rb = true → False) → rb = false := fun h => by cases rb with | false => rfl | true => exact (h rfl).elim
  have hl16 := hl
  have hsum : ∀ i, 0 ≤ sumP (l.take i) ∧ sumP (l.take i) ≤ 32767 * i := by
    intro i
    have h1 := sumP_le (l := l.take i) (fun c hc => hl c (List.mem_of_mem_take hc))
    have h2 : (l.take i).length ≤ i := by rw [List.length_take]; omega
    omega
  generalize hn : l.length = n at *
  have hto : ∀ i : Nat, vtoN (i : Int) = i := fun i => by simp only [qtoN, Int.toNat_natCast]
  have hadd0 : ∀ i, vaddN 0 i = i := fun i => by simp only [qaddN, Nat.zero_add]
  have hvln : vln l = n := by simp only [qln, hn]
  have hvgd : ∀ i, vgd l i = l.getD i 0 := fun i => by simp only [qgd]
  cbv
  generalize h1 : vc .lss log 5 = z1
  cases z1
  rotate_left
  · rw [qc, lss_true] at h1
    cbv
    rw [hRf (fun h => by have := (hR.1 h).1; omega)]
    exact ⟨rfl, trivial⟩
  rw [qc, lss_false] at h1
  cbv
  generalize h2 : vc .gtr log 12 = z2
  cases z2
  rotate_left
  · rw [qc, gtr_true] at h2
    cbv
    rw [hRf (fun h => by have := (hR.1 h).2.1; omega)]
    exact ⟨rfl, trivial⟩
  rw [qc, gtr_false] at h2
  cbv
  generalize h3 : vc .eql (vofN n) 0 = z3
  cases z3
  rotate_left
  · rw [qc, qofN, eql_true] at h3
    cbv
    rw [hRf (fun h => by have := (hR.1 h).2.2.1; simp only [nc] at *; omega)]
    exact ⟨rfl, trivial⟩
  rw [qc, qofN, eql_false] at h3
  cbv
  generalize h4 : vc .gtr (vofN n) 256 = z4
  cases z4
  rotate_left
  · rw [qc, qofN, gtr_true] at h4
    cbv
    rw [hRf (fun h => by have := (hR.1 h).2.2.2.1; simp only [nc] at *; omega)]
    exact ⟨rfl, trivial⟩
  rw [qc, qofN, gtr_false] at h4
  have hn1 : vb .sub .i64 (vofN n) 1 = ((n - 1 : Nat) : Int) := by simp only [nc] at *; simp only [qofN]; rw [qb, sub_i64 (by omega) (by omega)]; omega
  have hin1 : 0 ≤ vb .sub .i64 (vofN n) 1 ∧ vb .sub .i64 (vofN n) 1 < n := by rw [hn1]; simp only [nc] at *; omega
  have hto1 : vtoN (vb .sub .i64 (vofN n) 1) = n - 1 := by rw [hn1]; simp only [qtoN]; omega
  cbv
  rw [hto1, hadd0, hvgd]
  refine ⟨⟨hin1⟩, ⟨by simp only [nc] at *; omega⟩, ⟨by simp only [nc] at *; omega⟩, ?_⟩
  generalize h5 : vc .eql (l.getD (n - 1) 0) 0 = z5
  cases z5
  rotate_left
  · rw [qc, eql_true] at h5
    cbv
    rw [hRf (fun h => (hR.1 h).2.2.2.2.1 h5)]
    exact ⟨rfl, trivial⟩
  rw [qc, eql_false] at h5
  cbv
  refine loop_fam (α := Int × Int) [32, 33, 34, 35, 36, 37, 38, 39, 40, 41, 42, 43, 44, 45, 46, 47, 48, 49] []
    (fun (k, m) => [(6, .int .i64 k), (5, .int .i64 m)]) (fun (k, m) => [])
    (fun (k, m) => ∃ i : Nat, k = i ∧ i ≤ n ∧ m = sumP (l.take i) ∧ ∀ c ∈ l.take i, -1 ≤ c) (fun (k, _) => n - k.toNat) hw hm ?_ ?_
  · refine Cv.genAt [6, 5] [] (Cv.fold [32, 33, 34, 35, 36, 37, 38, 39, 40, 41, 42, 43, 44, 45, 46, 47, 48, 49] 1 [] (by exact Nat.le_refl _) (by exact Nat.le_of_ble_eq_true rfl) (by rfl) (by cbv) ?_)
    intro js
    refine ⟨(_, _), ?_, js, rfl⟩
    exact ⟨0, rfl, by omega, by simp [sumP], by simp⟩
  · rintro ⟨k, m⟩ js ⟨i, hk, hi, hs, hall⟩
    have hsi := hsum i
    cbv
    split
    · rename_i hlt
      have hlt : i < n := by rw [qc, lss_true] at hlt; simp only [qofN] at hlt; simp only [nc] at *; omega
      have hti : vtoN k = i := by rw [hk]; exact hto i
      have hinR : 0 ≤ k ∧ k < (n : Int) := by simp only [nc] at *; omega
      have hil : i < l.length := by omega
      have hmem : l.getD i 0 ∈ l := by rw [List.getD_eq_getElem?_getD, List.getElem?_eq_getElem hil]; exact List.getElem_mem hil
      have hc16 := hl16 _ hmem
      have hpl := partsN_le hc16
      have hsn : sumP (l.take (i + 1)) = m + partsN (l.getD i 0) := by rw [take_snoc hil, sumP_snoc, ← hs]
      have hpc := hparts _ hc16
      obtain ⟨k1, hk1⟩ : ∃ k1 : Int, k1 = ((i + 1 : Nat) : Int) := ⟨_, rfl⟩
      have ek : vb .add .i64 k 1 = k1 := by simp only [nc] at *; rw [qb, add_i64 (by omega) (by omega)]; omega
      have hmu : n - k1.toNat < n - k.toNat := by simp only [nc] at *; omega
      have htk : l.take (i + 1) = l.take i ++ [l.getD i 0] := take_snoc hil
      cbv
      rw [hti, hadd0, hvgd]
      generalize hcd : l.getD i 0 = cd at *
      generalize hpp : partsN cd = pc at *
      have hadd : vb .add .i64 m pc = m + pc := by simp only [nc] at *; rw [qb, add_i64 (by omega) (by omega)]
      refine ⟨⟨hinR⟩, ⟨by omega⟩, ⟨by omega⟩, ?_⟩
      generalize hz : vc .lss cd (-1) = z
      cases z
      rotate_left
      · rw [qc, lss_true] at hz
        cbv
        rw [hRf (fun h => by have := (hR.1 h).2.2.2.2.2.1 _ hmem; omega)]
        exact ⟨rfl, trivial⟩
      · rw [qc, lss_false] at hz
        have hpc := hpc (by omega)
        cbv
        rw [hti, hadd0, hvgd, hcd]
        refine ⟨⟨hinR⟩, ⟨by omega⟩, ⟨by omega⟩, ?_⟩
        refine call_con (ρ := []) hpc ⟨by rfl, by rfl, by rfl, by cbv⟩ ?_
        rintro v H R js ⟨rfl, rfl, rfl⟩
        cbv
        rw [hadd, ek]
        generalize hmp : m + pc = mp at *
        refine Cv.fold [32, 33, 34, 35, 36, 37, 38, 39, 40, 41, 42, 43, 44, 45, 46, 47, 48, 49] 1 [] (by exact Nat.le_refl _) (by exact Nat.le_of_ble_eq_true rfl) (by rfl) (by cbv) ?_
        intro js
        refine ⟨(_, _), ?_, js, rfl⟩
        refine ⟨⟨i + 1, hk1, hlt, hsn.symm, fun c hc => ?_⟩, hmu⟩
        rw [htk] at hc
        rcases List.mem_append.1 hc with hc | hc
        · exact hall c hc
        · rw [List.mem_singleton.1 hc]; omega
    · rename_i hge
      have hin : i = n := by rw [qc, lss_false] at hge; simp only [qofN] at hge; simp only [nc] at *; omega
      have hl0 : l.take i = l := List.take_of_length_le (by omega)
      rw [hl0] at hs hall
      have e2 : vw .u64 log = log := by rw [qw]; exact wrap_u64 (by omega) (by omega)
      have e3 : vb .shl .i64 1 log = 2 ^ log.toNat := by rw [qb, one_shl62 (by omega) (by omega)]
      generalize hpw : (2 : Int) ^ log.toNat = pw at *
      have hfin : vc .eql m pw = rb := by
        cases hrb : rb
        · rw [qc, eql_false]
          intro he
          have := hR.2 ⟨by omega, by omega, by simp only [nc] at *; omega, by simp only [nc] at *; omega, h5, hall, by rw [← hs]; exact he⟩
          rw [hrb] at this; cases this
        · rw [qc, eql_true]
          have := (hR.1 hrb).2.2.2.2.2.2
          rw [← hs] at this; exact this
      cbv
      rw [e2, e3, hfin]
      exact ⟨⟨by omega⟩, rfl, trivial⟩
end Go.Proofs.Ytodobmkflimfkaa
namespace Go.Proofs.Ytodobmkflimfkaa
open Go Go.Sx Go.Proofs
theorem wrap_i16 {x : Int} (h0 : -32768 ≤ x) (h1 : x < 32768) : IntKind.i16.wrap x = x := by
  simp [IntKind.wrap, IntKind.bits, IntKind.signed]; omega
theorem add_i16 {x y : Int} (h0 : -32768 ≤ x + y) (h1 : x + y < 32768) : bV .add .i16 x y = x + y := wrap_i16 h0 h1
theorem add_u64 {x y : Int} (h0 : 0 ≤ x + y) (h1 : x + y < 18446744073709551616) : bV .add .u64 x y = x + y := wrap_u64 h0 h1
theorem mul_u64 {x y : Int} (h0 : 0 ≤ x * y) (h1 : x * y < 18446744073709551616) : bV .mul .u64 x y = x * y := wrap_u64 h0 h1
theorem quo_u64 {x y : Int} (h0 : 0 ≤ x) (h1 : x < 18446744073709551616) (hy : 0 ≤ y) : bV .quo .u64 x y = x / y := by
  show IntKind.u64.wrap (x.tdiv y) = x / y
  rw [Int.tdiv_eq_ediv_of_nonneg h0]
  have := Int.ediv_nonneg h0 hy
  have := Int.ediv_le_self y h0
  exact wrap_u64 (by omega) (by omega)
theorem sumF_range {l : List Int} (h : ∀ x ∈ l, isU32 x) : ∀ i, 0 ≤ sumF l i ∧ sumF l i ≤ 4294967295 * i
  | 0 => by simp [sumF, sumI]
  | i + 1 => by
    have ih := sumF_range h i
    have hs : 0 ≤ l.getD i 0 ∧ l.getD i 0 < 4294967296 := by rcases getD_mem_or (l := l) i with hh | hh; exact h _ hh; omega
    simp only [sumF, sumI] at *
    push_cast
    omega
set_option maxRecDepth 10000
set_option maxHeartbeats 40000000
theorem counts_con (l : List Int) (log : Int) (cap : Nat) (hl : ∀ c ∈ l, isU32 c) (hlog : -9223372036854775808 ≤ log ∧ log ≤ 9223372036854775807) (hlen : l.length ≤ 9223372036854775807) :
    Con Try.prog 29 [.slice 0 .z 1 l.length cap, .int .i64 log] [.ro .u32 l] (fun v H R => R = [] ∧ ((¬ Able l log ∧ v = .tup [.val (.slice none 0 0), .int .i64 2] ∧ H = [.ro .u32 l]) ∨
      (Able l log ∧ ∃ c, Fair l c log ∧ v = .tup [.slice 1 .z 1 c.length c.length, .int .i64 0] ∧ H = [.ro .u32 l, .ints 47 .i16 c]))) := by
  refine con_gen (con_drop (con_walk hmix fn29 ?_))
  intro vb vc vw vtoN vofN vaddN vsubN vmaxI vminI vcutN vgd vst vln vrep vsub vonto vsplice vstrEq vbyteV vnotB veqB hw qb qc qw qtoN qofN qaddN qsubN qmaxI qminI qcutN qgd qst qln qrep qsub qonto qsplice qstrEq qbyteV qnotB qeqB
  have hm := hmix
  generalize Try.prog = P at *
  have hA : Able l log ↔ (l.length ≤ 256 ∧ 5 ≤ log ∧ log ≤ 12 ∧ 1 ≤ somN l l.length ∧ somN l l.length ≤ 2 ^ log.toNat) := Iff.rfl
  have hl0 : ∀ x ∈ l, 0 ≤ x := fun x hx => (hl x hx).1
  have hfair := fun out free all left best => @fair_of l out log free all left best hl0
  have hge : ∀ s, 0 ≤ l.getD s 0 ∧ l.getD s 0 < 4294967296 := fun s => by rcases getD_mem_or (l := l) s with h | h; exact hl _ h; omega
  generalize Fair l = FA at *
  have hml := fun free all (hf : 0 ≤ free) (ha : 0 < all) => more_le (l := l) (free := free) (all := all) hl0 hf ha
  generalize hAb : Able l log = AB at *
  have hsn := somN_range l
  have hss : ∀ i, somN l (i + 1) = somN l i + posI l i := fun _ => rfl
  have hs0 : somN l 0 = 0 := rfl
  have hpd : ∀ i, posI l i = if l.getD i 0 > 0 then 1 else 0 := fun _ => rfl
  have hfs : ∀ i, sumF l (i + 1) = sumF l i + l.getD i 0 := fun _ => rfl
  have hf0 : sumF l 0 = 0 := rfl
  have hfr := sumF_range hl
  have hlr := lastP_range l
  have hls : ∀ i : Nat, lastP l (i + 1) = if l.getD i 0 > 0 then (i : Int) else lastP l i := fun _ => rfl
  have hl00 : lastP l 0 = 0 := rfl
  have hlpos := lastP_pos l
  have hone : ∀ s n, s < n → l.getD s 0 ≤ sumF l n := fun s n h => sumI_one (f := fun s => l.getD s 0) (fun i _ => (hge i).1) h
  have hfm : ∀ q m, q ≤ m → sumF l q ≤ sumF l m := fun q m h => sumI_mono (fun i _ => (hge i).1) h
  have hmd : ∀ free all s, moreF l free all s = if l.getD s 0 = 0 then 0 else l.getD s 0 * free / all := fun _ _ _ => rfl
  have hsd : ∀ free all s, shareF l free all s = if l.getD s 0 = 0 then 0 else 1 + l.getD s 0 * free / all := fun _ _ _ => rfl
  generalize somN l = SN at *
  generalize posI l = PI at *
  generalize sumF l = SF at *
  generalize lastP l = LP at *
  generalize moreF l = MF at *
  generalize shareF l = SH at *
  generalize hn : l.length = n at *
  have hto : ∀ i : Nat, vtoN (i : Int) = i := fun i => by simp only [qtoN, Int.toNat_natCast]
  have hadd0 : ∀ i, vaddN 0 i = i := fun i => by simp only [qaddN, Nat.zero_add]
  have hvln : vln l = n := by simp only [qln, hn]
  have hvgd : ∀ i, vgd l i = l.getD i 0 := fun i => by simp only [qgd]
  cbv
  refine loop_fam (α := Int × Int × Int × Int) ([9, 10] ++ [20, 21, 22, 23, 24, 25, 26, 27, 28, 29, 30, 31, 32, 33]) [] (fun (k, m, a, la) => [(19, .int .i64 k), (6, .int .i64 m), (7, .int .u64 a), (8, .int .i64 la)]) (fun _ => [])
    (fun (k, m, a, la) => ∃ i : Nat, k = i ∧ i ≤ n ∧ m = SN i ∧ la = LP i ∧ (i ≤ 256 → a = SF i)) (fun (k, _) => n - k.toNat) hw hm ?_ ?_
  · refine Cv.genAt [19, 6, 7, 8] [] (Cv.fold ([9, 10] ++ [20, 21, 22, 23, 24, 25, 26, 27, 28, 29, 30, 31, 32, 33]) 1 [] (by exact Nat.le_refl _) (by exact Nat.le_of_ble_eq_true rfl) (by rfl) (by cbv) ?_)
    intro js
    refine ⟨(_, _, _, _), ?_, js, rfl⟩
    exact ⟨0, rfl, by omega, hs0.symm, hl00.symm, fun _ => hf0.symm⟩
  · rintro ⟨k, m, a, la⟩ js ⟨i, hk, hi, hm1, hla, ha⟩
    have hsi := hsn i
    cbv
    split
    · rename_i hlt
      have hlt : i < n := by rw [qc, lss_true] at hlt; simp only [qofN] at hlt; simp only [nc] at *; omega
      have hti : vtoN k = i := by rw [hk]; exact hto i
      have hinR : 0 ≤ k ∧ k < (n : Int) := by simp only [nc] at *; omega
      obtain ⟨k1, hk1⟩ : ∃ k1 : Int, k1 = ((i + 1 : Nat) : Int) := ⟨_, rfl⟩
      have ek : vb .add .i64 k 1 = k1 := by simp only [nc] at *; rw [qb, add_i64 (by omega) (by omega)]; omega
      have em : vb .add .i64 m 1 = m + 1 := by simp only [nc] at *; rw [qb, add_i64 (by omega) (by omega)]
      have hmu : n - k1.toNat < n - k.toNat := by simp only [nc] at *; omega
      have hsi1 := hss i
      have hls1 := hls i
      have hfs1 := hfs i
      have hgi := hge i
      have hfri := hfr i
      rw [hpd] at hsi1
      cbv
      rw [hti, hadd0, hvgd]
      refine ⟨⟨hinR⟩, ⟨by omega⟩, ⟨by omega⟩, ?_⟩
      generalize hci : l.getD i 0 = ci at *
      generalize hz : vc .gtr ci 0 = z
      cases z
      · rw [qc, gtr_false] at hz
        rw [if_neg (by omega)] at hsi1 hls1
        cbv
        rw [ek]
        refine Cv.fold ([9, 10] ++ [20, 21, 22, 23, 24, 25, 26, 27, 28, 29, 30, 31, 32, 33]) 1 [] (by exact Nat.le_refl _) (by exact Nat.le_of_ble_eq_true rfl) (by rfl) (by cbv) ?_
        intro js
        refine ⟨(_, _, _, _), ?_, js, rfl⟩
        exact ⟨⟨i + 1, hk1, hlt, by omega, by rw [hls1]; exact hla, fun h => by have := ha (by omega); omega⟩, hmu⟩
      · rw [qc, gtr_true] at hz
        rw [if_pos (by omega)] at hsi1 hls1
        have ew : vw .u64 ci = ci := by rw [qw]; exact wrap_u64 (by omega) (by omega)
        cbv
        rw [ek, em, ew]
        refine Cv.fold ([9, 10] ++ [20, 21, 22, 23, 24, 25, 26, 27, 28, 29, 30, 31, 32, 33]) 1 [] (by exact Nat.le_refl _) (by exact Nat.le_of_ble_eq_true rfl) (by rfl) (by cbv) ?_
        intro js
        refine ⟨(_, _, _, _), ?_, js, rfl⟩
        refine ⟨⟨i + 1, hk1, hlt, by omega, by rw [hls1]; exact hk, fun h => ?_⟩, hmu⟩
        have := ha (by omega)
        simp only [nc] at *
        rw [qb, add_u64 (by omega) (by omega)]; omega
    · rename_i hge1
      have hin : i = n := by rw [qc, lss_false] at hge1; simp only [qofN] at hge1; simp only [nc] at *; omega
      subst hin
      have hbad : ¬ AB → SV.tup [SV.val (Value.slice none 0 0), .lit .i64 2] = SV.tup [SV.val (Value.slice none 0 0), .lit .i64 2] := fun _ => rfl
      cbv
      generalize h1 : vc .gtr (vofN i) 256 = z1
      cases z1
      rotate_left
      · rw [qc, qofN, gtr_true] at h1
        cbv
        exact .inl ⟨fun h => by have := (hA.1 h).1; simp only [nc] at *; omega, trivial⟩
      rw [qc, qofN, gtr_false] at h1
      cbv
      generalize h2 : vc .lss log 5 = z2
      cases z2
      rotate_left
      · rw [qc, lss_true] at h2
        cbv
        exact .inl ⟨fun h => by have := (hA.1 h).2.1; omega, trivial⟩
      rw [qc, lss_false] at h2
      cbv
      generalize h3 : vc .gtr log 12 = z3
      cases z3
      rotate_left
      · rw [qc, gtr_true] at h3
        cbv
        exact .inl ⟨fun h => by have := (hA.1 h).2.2.1; omega, trivial⟩
      rw [qc, gtr_false] at h3
      cbv
      generalize h4 : vc .eql m 0 = z4
      cases z4
      rotate_left
      · rw [qc, eql_true] at h4
        cbv
        exact .inl ⟨fun h => by have := (hA.1 h).2.2.2.1; omega, trivial⟩
      rw [qc, eql_false] at h4
      have e2 : vw .u64 log = log := by rw [qw]; exact wrap_u64 (by omega) (by omega)
      have e3 : vb .shl .i64 1 log = 2 ^ log.toNat := by rw [qb, one_shl62 (by omega) (by omega)]
      have hpl := pow_log (log := log) (by omega)
      generalize hpw : (2 : Int) ^ log.toNat = pw at *
      cbv
      rw [e2, e3]
      refine ⟨⟨by omega⟩, ?_⟩
      generalize h5 : vc .gtr m pw = z5
      cases z5
      rotate_left
      · rw [qc, gtr_true] at h5
        cbv
        exact .inl ⟨fun h => by have := (hA.1 h).2.2.2.2; omega, trivial⟩
      rw [qc, gtr_false] at h5
      have hAB : AB := hA.2 ⟨by simp only [nc] at *; omega, by omega, by omega, by omega, by omega⟩
      have ha := ha (by simp only [nc] at *; omega)
      have hlri := hlr i
      have hlp := hlpos i (by omega)
      obtain ⟨Ln, hLn⟩ : ∃ Ln : Nat, la + 1 = Ln := ⟨(la + 1).toNat, by omega⟩
      have e4 : vb .add .i64 la 1 = (Ln : Int) := by simp only [nc] at *; rw [qb, add_i64 (by omega) (by omega)]; omega
      have e5 : vtoN (Ln : Int) = Ln := hto Ln
      obtain ⟨free, hfree⟩ : ∃ free : Int, free = pw - m := ⟨_, rfl⟩
      have e6 : vb .sub .i64 pw m = free := by rw [qb, sub_i64 (by omega) (by omega)]; omega
      have e7 : vw .u64 free = free := by rw [qw]; exact wrap_u64 (by omega) (by omega)
      have e8 : vrep Ln 0 = List.replicate Ln 0 := by simp only [qrep]
      have hLni : Ln ≤ i := by simp only [nc] at *; omega
      have hL1 : 1 ≤ Ln := by simp only [nc] at *; omega
      have hlaN : la.toNat + 1 = Ln := by simp only [nc] at *; omega
      have hallp : 0 < a := by
        have := hone (LP i).toNat i (by simp only [nc] at *; omega)
        omega
      generalize hlz : ((Ln : Nat) : Int) = lz at *
      cbv
      rw [e4, e5, e2, e3, e6, e7, e8]
      obtain ⟨rz, hrz⟩ : ∃ rz : List Int, rz = List.replicate Ln (0 : Int) := ⟨_, rfl⟩
      rw [← hrz]
      simp only [nc] at *
      refine ⟨⟨by omega⟩, ⟨by omega⟩, ⟨by omega⟩, ⟨by omega⟩, ⟨by omega⟩, ?_⟩
      have hf0 : 0 ≤ free := by omega
      refine loop_fam (α := Int × Int × Int × List Int) ([15, 16] ++ [70, 71, 72, 73, 74, 75, 76, 77, 78, 79, 80, 81, 82, 83, 84, 85, 86, 87, 88, 89, 90, 91, 92, 93, 94, 95, 96, 97, 98, 99, 100, 101, 102, 103, 104, 105, 106]) []
        (fun (k, le, be, out) => [(69, .int .i64 k), (12, .int .i64 le), (14, .int .i64 be)])
        (fun (k, le, be, out) => [(1, .ints 47 .i16 out)])
        (fun (k, le, be, out) => ∃ q b : Nat, k = q ∧ q ≤ Ln ∧ be = b ∧ b < Ln ∧ 0 < l.getD b 0 ∧ le = free - sumI (MF free a) q ∧ out.length = Ln ∧ ∀ s, out.getD s 0 = if s < q then SH free a s else 0)
        (fun (k, le, be, out) => Ln - k.toNat) hw hm ?_ ?_
      · refine Cv.genAt [69] [] (Cv.fold ([15, 16] ++ [70, 71, 72, 73, 74, 75, 76, 77, 78, 79, 80, 81, 82, 83, 84, 85, 86, 87, 88, 89, 90, 91, 92, 93, 94, 95, 96, 97, 98, 99, 100, 101, 102, 103, 104, 105, 106]) 2 [] (by exact Nat.le_refl _) (by exact Nat.le_of_ble_eq_true rfl) (by rfl) (by cbv) ?_)
        intro js
        refine ⟨(_, _, _, _), ?_, js, rfl⟩
        refine ⟨0, la.toNat, rfl, by omega, by omega, by omega, by rw [hla]; exact hlp, by simp [sumI], by rw [hrz]; simp, fun s => ?_⟩
        rw [hrz, if_neg (by omega), List.getD_eq_getElem?_getD, List.getElem?_replicate]
        split <;> rfl
      · rintro ⟨k2, le, be, out⟩ js ⟨q, b, hk2, hq, hbe, hbL, hbp, hle, hol, hog⟩
        have hvo : vln out = Ln := by rw [qln]; exact hol
        have htb : vtoN be = b := by rw [hbe]; exact hto b
        have hmq := (hml free a hf0 hallp q)
        have hsq : sumI (MF free a) (q + 1) = sumI (MF free a) q + MF free a q := rfl
        have hSle : sumI (MF free a) q ≤ free := by
          have h1 := hfm q i (by omega)
          apply Classical.byContradiction
          intro h
          have h2 : a * (free + 1) ≤ a * sumI (MF free a) q := Int.mul_le_mul_of_nonneg_left (by omega) (by omega)
          have h3 : free * SF q ≤ free * a := Int.mul_le_mul_of_nonneg_left (by omega) hf0
          rw [Int.mul_add, Int.mul_comm a free] at h2
          omega
        cbv
        split
        rotate_left
        · rename_i hlt2
          have hqe : q = Ln := by rw [qc, lss_false] at hlt2; simp only [qofN] at hlt2; simp only [nc] at *; omega
          subst hqe
          obtain ⟨f1, f2, f3, f4, f5⟩ := hfair out free a le b hAB (by omega) ha (by omega) (fun s hs => by rw [hog, if_pos (by omega)]) (by rw [hol]; exact hle) (by omega) hbp
          have hinb : 0 ≤ be ∧ be < (q : Int) := by simp only [nc] at *; omega
          have hgo : vgd out b = out.getD b 0 := by simp only [qgd]
          generalize hob : out.getD b 0 = ob at *
          have ew : vw .i16 le = le := by rw [qw]; exact wrap_i16 (by omega) (by omega)
          have ea : vb .add .i16 ob le = ob + le := by rw [qb, add_i16 (by omega) (by omega)]
          obtain ⟨out2, hout2⟩ : ∃ out2 : List Int, out2 = out.set b (ob + le) := ⟨_, rfl⟩
          have est : vst out b (ob + le) = out2 := by rw [qst, hout2]
          have hol2 : out2.length = q := by rw [hout2, List.length_set]; exact hol
          rw [← hout2] at f5
          generalize hoe : ob + le = oe at *
          clear hfair
          cbv
          rw [htb, hgo, ew, ea, est]
          refine ⟨⟨hinb⟩, ⟨by omega⟩, ⟨hinb⟩, ⟨by omega⟩, .inr ⟨hAB, out2, f5, ?_, ?_⟩⟩
          · rw [hol2]; rfl
          · rfl
        · rename_i hlt2
          have hqe : q < Ln := by rw [qc, lss_true] at hlt2; simp only [qofN] at hlt2; simp only [nc] at *; omega
          have htq : vtoN k2 = q := by rw [hk2]; exact hto q
          have hin1 : 0 ≤ k2 ∧ k2 < (i : Int) := by simp only [nc] at *; omega
          have hin2 : 0 ≤ k2 ∧ k2 < (Ln : Int) := by simp only [nc] at *; omega
          have hin3 : 0 ≤ be ∧ be < (i : Int) := by simp only [nc] at *; omega
          obtain ⟨k3, hk3⟩ : ∃ k3 : Int, k3 = ((q + 1 : Nat) : Int) := ⟨_, rfl⟩
          have ek : vb .add .i64 k2 1 = k3 := by simp only [nc] at *; rw [qb, add_i64 (by omega) (by omega)]; omega
          have hmu : Ln - k3.toNat < Ln - k2.toNat := by simp only [nc] at *; omega
          have hgq := hge q
          have hone1 := hone q i (by simp only [nc] at *; omega)
          have hmdq := hmd free a q
          have hsdq := hsd free a q
          cbv
          rw [htq, hadd0, hvgd]
          refine ⟨⟨hin1⟩, ⟨by omega⟩, ⟨by omega⟩, ?_⟩
          generalize hz : vc .eql (l.getD q 0) 0 = z
          cases z
          rotate_left
          · rw [qc, eql_true] at hz
            rw [if_pos hz] at hmdq hsdq
            cbv
            rw [ek]
            refine Cv.fold ([15, 16] ++ [70, 71, 72, 73, 74, 75, 76, 77, 78, 79, 80, 81, 82, 83, 84, 85, 86, 87, 88, 89, 90, 91, 92, 93, 94, 95, 96, 97, 98, 99, 100, 101, 102, 103, 104, 105, 106]) 2 [] (by exact Nat.le_refl _) (by exact Nat.le_of_ble_eq_true rfl) (by rfl) (by cbv) ?_
            intro js
            refine ⟨(_, _, _, _), ?_, js, rfl⟩
            refine ⟨⟨q + 1, b, hk3, hqe, hbe, hbL, hbp, by rw [hsq, hmdq]; omega, hol, fun s => ?_⟩, hmu⟩
            rw [hog]
            by_cases h : s < q
            · rw [if_pos h, if_pos (by omega)]
            · by_cases h2 : s = q
              · subst h2; rw [if_neg h, if_pos (by omega), hsdq]
              · rw [if_neg h, if_neg (by omega)]
          · rw [qc, eql_false] at hz
            rw [if_neg hz] at hmdq hsdq
            have hbl := hge b
            have hp0 : 0 ≤ l.getD q 0 * free := Int.mul_nonneg hgq.1 hf0
            have hp1 : l.getD q 0 * free ≤ 4294967296 * 4096 := Int.mul_le_mul (by omega) (by omega) hf0 (by omega)
            have hp2 : l.getD q 0 * free / a ≤ free := by
              have h1 : l.getD q 0 * free ≤ a * free := Int.mul_le_mul_of_nonneg_right (by omega) hf0
              have h2 := Int.ediv_le_ediv hallp h1
              rw [Int.mul_ediv_cancel_left _ (by omega)] at h2
              exact h2
            have hp3 := Int.ediv_nonneg hp0 (b := a) (by omega)
            have ew : vw .u64 (l.getD q 0) = l.getD q 0 := by rw [qw]; exact wrap_u64 (by omega) (by omega)
            have em : vb .mul .u64 (l.getD q 0) free = l.getD q 0 * free := by rw [qb, mul_u64 (by omega) (by omega)]
            have eq1 : vb .quo .u64 (l.getD q 0 * free) a = l.getD q 0 * free / a := by rw [qb, quo_u64 (by omega) (by omega) (by omega)]
            obtain ⟨mo, hmo⟩ : ∃ mo : Int, mo = l.getD q 0 * free / a := ⟨_, rfl⟩
            rw [← hmo] at hp2 hp3 eq1 hmdq hsdq
            have ew2 : vw .i64 mo = mo := by rw [qw]; exact wrap_i64 (by omega) (by omega)
            have ea : vb .add .i64 1 mo = 1 + mo := by rw [qb, add_i64 (by omega) (by omega)]
            have ew3 : vw .i16 (1 + mo) = 1 + mo := by rw [qw]; exact wrap_i16 (by omega) (by omega)
            have es : vb .sub .i64 le mo = le - mo := by rw [qb, sub_i64 (by omega) (by omega)]
            obtain ⟨out2, hout2⟩ : ∃ out2 : List Int, out2 = out.set q (1 + mo) := ⟨_, rfl⟩
            have est : vst out q (1 + mo) = out2 := by rw [qst, hout2]
            have hol2 : out2.length = Ln := by rw [hout2, List.length_set]; exact hol
            have hog2 : ∀ s, out2.getD s 0 = if s < q + 1 then SH free a s else 0 := by
              intro s
              rw [hout2, List.getD_eq_getElem?_getD, List.getElem?_set, hol]
              by_cases h : q = s
              · subst h; rw [if_pos rfl, if_pos hqe, if_pos (by omega), hsdq]; rfl
              · rw [if_neg h, ← List.getD_eq_getElem?_getD, hog]
                by_cases h2 : s < q
                · rw [if_pos h2, if_pos (by omega)]
                · rw [if_neg h2, if_neg (by omega)]
            have hlem : le - mo = free - sumI (MF free a) (q + 1) := by rw [hsq, hmdq, hle]; omega
            generalize hlq : l.getD q 0 = lq at *
            generalize hlb : l.getD b 0 = lb at *
            generalize hom : 1 + mo = om at *
            generalize hlm : le - mo = lm at *
            cbv
            rw [htq, htb, hadd0, hadd0, hvgd, hvgd, hlq, hlb, ew, em, eq1, ew2, ea, ew3, es, est]
            refine ⟨⟨hin1⟩, ⟨by omega⟩, ⟨by omega⟩, ⟨by omega⟩, ⟨hin2⟩, ⟨by omega⟩, ⟨hin1⟩, ⟨by omega⟩, ⟨by omega⟩, ⟨hin3⟩, ⟨by omega⟩, ⟨by omega⟩, ?_⟩
            generalize hz2 : vc .gtr lq lb = z2
            cases z2
            · cbv
              rw [ek]
              refine Cv.fold ([15, 16] ++ [70, 71, 72, 73, 74, 75, 76, 77, 78, 79, 80, 81, 82, 83, 84, 85, 86, 87, 88, 89, 90, 91, 92, 93, 94, 95, 96, 97, 98, 99, 100, 101, 102, 103, 104, 105, 106]) 2 [] (by exact Nat.le_refl _) (by exact Nat.le_of_ble_eq_true rfl) (by rfl) (by cbv) ?_
              intro js
              refine ⟨(_, _, _, _), ?_, js, rfl⟩
              exact ⟨⟨q + 1, b, hk3, hqe, hbe, hbL, by omega, hlem, hol2, hog2⟩, hmu⟩
            · cbv
              rw [ek]
              refine Cv.fold ([15, 16] ++ [70, 71, 72, 73, 74, 75, 76, 77, 78, 79, 80, 81, 82, 83, 84, 85, 86, 87, 88, 89, 90, 91, 92, 93, 94, 95, 96, 97, 98, 99, 100, 101, 102, 103, 104, 105, 106]) 2 [] (by exact Nat.le_refl _) (by exact Nat.le_of_ble_eq_true rfl) (by rfl) (by cbv) ?_
              intro js
              refine ⟨(_, _, _, _), ?_, js, rfl⟩
              exact ⟨⟨q + 1, q, hk3, hqe, hk2, hqe, by omega, hlem, hol2, hog2⟩, hmu⟩
end Go.Proofs.Ytodobmkflimfkaa
