import Derived.Test.YtlclleihoampdaaA4
import Derived.Test.YtlclleihoampdaaA3
import Derived.Test.YtlclleihoampdaaED
set_option linter.unusedVariables false
set_option linter.unusedSimpArgs false
namespace Go.Proofs.Ytlclleihoampdaa
open Go Go.Sx Go.Proofs
set_option maxRecDepth 10000
set_option maxHeartbeats 40000000
theorem ltc {a b : Nat} {x y : Int} (hx : x = a) (hy : y = b) (h : a < b) : x < y := by omega
theorem gec {a b : Nat} {x y : Int} (hx : x = a) (hy : y = b) (h : ¬ a < b) : ¬ x < y := by omega
theorem ltn {a b : Nat} {x : Int} (hx : x = a) (h : x < b) : a < b := by omega
theorem inc0 {a b : Nat} {x : Int} (hx : x = a) (h : a < b) : 0 ≤ x ∧ x < (b : Int) := by omega
theorem nextc {a : Nat} {x y : Int} (hx : x = a) (hy : y = ((a + 1 : Nat) : Int)) (h : a ≤ 1000000) : bV .add .i64 x 1 = y := by rw [add_i64 (by omega) (by omega)]; omega
theorem wrap_u32 {x : Int} (h0 : 0 ≤ x) (h1 : x < 4294967296) : IntKind.u32.wrap x = x := by
 simp [IntKind.wrap, IntKind.bits, IntKind.signed]; omega
theorem u32_one {x : Int} {j n : Nat} (h : 0 ≤ x ∧ x ≤ j) (hj : j ≤ n) (hn : n ≤ 100000) : bV .add .u32 x 1 = x + 1 := wrap_u32 (by omega) (by omega)
theorem one_more {so : Int} {M : Nat} (h : 0 ≤ so ∧ so ≤ M) (hM : M ≤ 100000) : bV .add .i64 so 1 = so + 1 := add_i64 (by omega) (by omega)
theorem fit_step {F c : List Int} {n k : Nat} (h : ∀ s : Nat, s < k → F.getD s 0 ≠ 0 → s < n ∧ c.getD s 0 ≠ 0) (hk : F.getD k 0 ≠ 0 → k < n ∧ c.getD k 0 ≠ 0) : ∀ s : Nat, s < k + 1 → F.getD s 0 ≠ 0 → s < n ∧ c.getD s 0 ≠ 0 := fun s hs h0 => by
 by_cases e : s = k
 ·subst e; exact hk h0
 ·exact h s (by omega) h0
theorem able_frq {codes F : List Int} {n M : Nat} {so lg : Int} (h : Frq codes n M F so) (hM : M ≤ 64) (hlg : 6 ≤ lg ∧ lg ≤ 12) (h1 : 1 ≤ n) (hr : ∀ i, i < n → 0 ≤ codes.getD i 0 ∧ codes.getD i 0 < (M : Int)) : Able F lg := by
 have hl := h.len
 have hs := h.som
 have hr0 := hr 0 h1
 have hpos : 0 < F.getD (codes.getD 0 0).toNat 0 := (h.pos _ (by omega)).2 ⟨0, h1, by omega⟩
 have h2 := somN_pos hpos M (by omega)
 have h3 := somN_rg F M
 have h4 : (2 : Int) ^ 6 ≤ 2 ^ lg.toNat := by exact_mod_cast Nat.pow_le_pow_right (by decide) (by omega : 6 ≤ lg.toNat)
 have h5 : (2 : Int) ^ 6 = 64 := by decide
 refine ⟨by omega, by omega, by omega, ?_, ?_⟩ <;> rw [hl] <;> omega
theorem fit_codes {codes F cs : List Int} {M : Nat} {so : Int} (h : Frq codes codes.length M F so) (hr : ∀ c ∈ codes, 0 ≤ c ∧ c < (M : Int)) (hf : ∀ s : Nat, s < M → F.getD s 0 ≠ 0 → s < cs.length ∧ cs.getD s 0 ≠ 0) : ∀ c ∈ codes, ∃ s : Nat, c = s ∧ s < cs.length ∧ cs.getD s 0 ≠ 0 := fun c hc => by
 obtain ⟨s, h1, h2, h3⟩ := frq_mem h hr hc
 obtain ⟨h4, h5⟩ := hf s h2 (by omega)
 exact ⟨s, h1, h4, h5⟩
theorem logN {lg lg1 : Int} (h : 6 ≤ lg ∧ lg ≤ 12) (e : lg1 = lg + 1) : bV .add .i64 lg 1 = lg1 := by rw [e]; exact add_i64 (by omega) (by omega)
theorem u32_of {codes F : List Int} {n M : Nat} {so : Int} (h : Frq codes n M F so) {c : Int} (hc : c ∈ F) (hn : n ≤ 100000) : isU32 c := by
 obtain ⟨i, hi, e⟩ := List.mem_iff_getElem.1 hc
 have := h.rng i
 rw [List.getD_eq_getElem?_getD, List.getElem?_eq_getElem hi] at this
 simp only [Option.getD_some, e] at this
 unfold isU32
 omega
theorem cl_le {cs F : List Int} {M m : Nat} (h : cs.length ≤ F.length) (hF : F.length = M) (hM : M = m + 1) : (cs.length : Int) ≤ (m : Nat) + 1 := by omega
theorem pos_of {x : Int} (h : 0 ≤ x) (h0 : x ≠ 0) : 0 < x := by omega
theorem logs {lg lg1 n : Int} (h1 : 6 ≤ lg) (h2 : lg < n) (e : lg1 = lg + 1) : (6 ≤ lg1 ∧ lg1 ≤ n) ∧ (n - lg1).toNat < (n - lg).toNat := ⟨⟨by omega, by omega⟩, by omega⟩
def kC (cL cB cM bL bM gL gM codes : List Int) (cm : Nat) : List SB := [.one 59 [.int .i64 9, .int .i64 35, .int .i64 6, .slice 2 .z 1 36 36, .fn 90 [.ptr 6 .z 1 0, .ptr 9 .z 1 0, .ptr 8 .z 1 0, .ptr 7 .z 1 0], .fn 91 [.ptr 8 .z 1 0, .ptr 9 .z 1 0, .ptr 6 .z 1 0, .ptr 7 .z 1 0], .fn 60 [], .int .i64 8, .int .i64 31, .int .i64 5, .slice 3 .z 1 29 29, .fn 64 [], .fn 65 [], .fn 63 [], .int .i64 9, .int .i64 52, .int .i64 6, .slice 4 .z 1 53 cm, .fn 90 [.ptr 11 .z 1 0, .ptr 14 .z 1 0, .ptr 13 .z 1 0, .ptr 12 .z 1 0], .fn 91 [.ptr 13 .z 1 0, .ptr 14 .z 1 0, .ptr 11 .z 1 0, .ptr 12 .z 1 0], .fn 62 []], .ro .i64 codes, .ints 124 .i16 cL, .ints 124 .i16 cB, .buf 124 .i16 cM cm, .ints 3 .i64 bL, .one 3 [.int .i64 16], .one 63 [.slice 5 .z 1 20 20], .ints 173 .i64 gL, .one 3 [.int .i64 0], .ints 3 .i64 bM, .one 3 [.int .i64 32], .one 63 [.slice 10 .z 1 21 21], .ints 173 .i64 gM, .one 3 [.int .i64 3]]
theorem choose_0 (cL cB cM bL bM gL gM codes : List Int) (cm cap : Nat) (hc : cL = cntL) (h1 : 1 ≤ codes.length) (h2 : codes.length ≤ 100000) (hr : ∀ c ∈ codes, 0 ≤ c ∧ c < (36 : Nat)) :
  Con Try.prog 26 [.ptr 0 (.n 0) 7 0, .slice 1 .z 1 codes.length cap] (kC cL cB cM bL bM gL gM codes cm) (fun v H R => R = [] ∧ ∃ (way : Int) (hd : List Int) (N : Nat) (A B C : Nat → Int) (m1 c1 m2 c2 : Nat),
   Chs 9 35 6 cntL codes way hd ⟨N, A, B, C⟩ ∧ v = .agg [.int .u8 way, .slice 16 .z 1 hd.length m1, .slice 15 .z 3 N m2] ∧
   H = [.one 59 [.int .i64 9, .int .i64 35, .int .i64 6, .slice 2 .z 1 36 36, .fn 90 [.ptr 6 .z 1 0, .ptr 9 .z 1 0, .ptr 8 .z 1 0, .ptr 7 .z 1 0], .fn 91 [.ptr 8 .z 1 0, .ptr 9 .z 1 0, .ptr 6 .z 1 0, .ptr 7 .z 1 0], .fn 60 [], .int .i64 8, .int .i64 31, .int .i64 5, .slice 3 .z 1 29 29, .fn 64 [], .fn 65 [], .fn 63 [], .int .i64 9, .int .i64 52, .int .i64 6, .slice 4 .z 1 53 cm, .fn 90 [.ptr 11 .z 1 0, .ptr 14 .z 1 0, .ptr 13 .z 1 0, .ptr 12 .z 1 0], .fn 91 [.ptr 13 .z 1 0, .ptr 14 .z 1 0, .ptr 11 .z 1 0, .ptr 12 .z 1 0], .fn 62 []], .ro .i64 codes, .ints 124 .i16 cL, .ints 124 .i16 cB, .buf 124 .i16 cM cm, .ints 3 .i64 bL, .one 3 [.int .i64 16], .one 63 [.slice 5 .z 1 20 20], .ints 173 .i64 gL, .one 3 [.int .i64 0], .ints 3 .i64 bM, .one 3 [.int .i64 32], .one 63 [.slice 10 .z 1 21 21], .ints 173 .i64 gM, .one 3 [.int .i64 3], .bufA 79 3 N (fun m => [.int .u8 (A m), .int .u8 (B m), .int .u16 (C m)]) c2, .buf 5 .u8 hd c1]) := by
 have hT := table_ok cntL 6 36 cntL_16 (by decide) cntL_right
 have hlen : cL.length = 36 := by rw [hc]; rfl
 have hcl2 : cntL.length = 36 := by rfl
 rw [← hc] at hT
 obtain ⟨⟨N0, A0, B0, C0⟩, hT0⟩ : ∃ T : Tb, T = mkT cL 6 := ⟨_, rfl⟩
 replace hT : Con Try.prog 66 [.slice 0 .z 1 36 36, .int .i64 6] [.ro .i16 cL] (fun v H R => R = [] ∧ v = .tup [.slice 1 .z 3 N0 N0, .int .i64 0] ∧ H = [.ro .i16 cL, .arr 79 3 N0 (fun m => [.int .u8 (A0 m), .int .u8 (B0 m), .int .u16 (C0 m)])]) := by
  rw [hlen] at hT
  simp only [mkT, Tb.mk.injEq] at hT0
  obtain ⟨rfl, rfl, rfl, rfl⟩ := hT0
  exact hT
 have hR0 : Right cL 6 := by rw [hc]; exact cntL_right
 have hCt := counts_con
 have hWr := write_ok
 have hTb : ∀ (l : List Int) (log : Int) (cap : Nat), (∀ c ∈ l, isI16 c) → (-9223372036854775808 ≤ log ∧ log ≤ 9223372036854775807) → Right l log → ∀ N A B C, (⟨N, A, B, C⟩ : Tb) = mkT l log →
   Con Try.prog 66 [.slice 0 .z 1 l.length cap, .int .i64 log] [.ro .i16 l] (fun v H R => R = [] ∧ v = .tup [.slice 1 .z 3 N N, .int .i64 0] ∧ H = [.ro .i16 l, .arr 79 3 N (fun m => [.int .u8 (A m), .int .u8 (B m), .int .u16 (C m)])]) := by
  intro l log cap h1 h2 h3 N A B C h
  simp only [mkT, Tb.mk.injEq] at h
  obtain ⟨rfl, rfl, rfl, rfl⟩ := h
  exact table_ok l log cap h1 h2 h3
 refine con_fresh 5 .u8 (con_rows (con_bufs 16 (con_gen (con_moves (con_drop (con_walk hmix fn26 ?_))))))
 intro vb vc vw vtoN vofN vaddN vsubN vmaxI vminI vcutN vgd vst vln vrep vsub vonto vsplice vstrEq vbyteV vnotB veqB hw qb qc qw qtoN qofN qaddN qsubN qmaxI qminI qcutN qgd qst qln qrep qsub qonto qsplice qstrEq qbyteV qnotB qeqB
 have hm := hmix; generalize Try.prog = P at *
 obtain ⟨n, hn⟩ : ∃ n, n = codes.length := ⟨_, rfl⟩
 rw [← hn] at h1 h2 ⊢
 have hofn : ∀ n, vofN n = (n : Int) := fun n => by simp only [qofN]
 have hto : ∀ i : Nat, vtoN (i : Int) = i := fun i => by simp only [qtoN, Int.toNat_natCast]
 have hadd0 : ∀ i, vaddN 0 i = i := fun i => by simp only [qaddN, Nat.zero_add]
 have hln : ∀ l, vln l = l.length := fun l => by simp only [qln]
 have hof0 : vofN 36 = 36 := by simp only [qofN]; rfl
 have hM1 : vb .add .i64 35 1 = 36 := by rw [qb]; exact add_i64 (by omega) (by omega)
 obtain ⟨M, hM⟩ : ∃ M : Nat, M = 36 := ⟨_, rfl⟩
 have hM5 : M ≤ 100000 := by rw [hM]; decide
 have eM : vtoN 36 = M := by simp only [qtoN]; rw [hM]; rfl
 obtain ⟨ni, hni⟩ : ∃ ni : Int, ni = n := ⟨_, rfl⟩
 have en : vofN n = ni := by rw [hofn, hni]
 obtain ⟨F0, hF0⟩ : ∃ F0, F0 = vrep M 0 := ⟨_, rfl⟩
 have hFr0 : Frq codes 0 M F0 0 := by rw [hF0]; simp only [qrep]; exact frq_nil codes M
 have hgc : ∀ i, vgd codes i = codes.getD i 0 := fun i => by simp only [qgd]
 have hrc : ∀ i, i < n → 0 ≤ codes.getD i 0 ∧ codes.getD i 0 < (M : Int) := fun i hi => by
  rw [hM]
  rw [List.getD_eq_getElem?_getD, List.getElem?_eq_getElem (by omega)]
  exact hr _ (List.getElem_mem _)
 have hin1 : (36 : Int) ≤ 100000 := by decide
 have hlc : vln codes = n := by rw [hln]; exact hn.symm
 cbv
 rw [hM1, eM, en, ← hF0]
 refine ⟨⟨by decide⟩, ⟨by decide⟩, ⟨by omega⟩, ⟨by omega⟩, ?_⟩
 refine loop_fam (α := Int × Int × Nat × List Int) ([8] ++ (List.range' 30 17)) [] (fun (ji, so, j, F) => [(29, .int .i64 ji), (6, .int .i64 so)]) (fun (ji, so, j, F) => [(16, .ints 128 .u32 F)])
  (fun (ji, so, j, F) => ji = j ∧ j ≤ n ∧ Frq codes j M F so) (fun (ji, so, j, F) => n - j) hw hm ?_ ?_
 ·refine Cv.genAt [29, 6] [] (Cv.fold ([8] ++ (List.range' 30 17)) 17 [] (by exact Nat.le_refl _) (by exact Nat.le_of_ble_eq_true rfl) (by rfl) (by cbv) ?_)
  intro js
  refine ⟨(0, 0, 0, F0), ?_, js, rfl⟩
  exact ⟨rfl, Nat.zero_le _, hFr0⟩
 ·rintro ⟨ji, so, j, F⟩ js ⟨hj, hjn, hFr⟩
  have hFl := hFr.len
  by_cases hlt : j < n
  ·have hl1 : vc .lss ji ni = true := by rw [qc, lss_true]; exact ltc hj hni hlt
   have etj : vtoN ji = j := by rw [hj]; exact hto j
   obtain ⟨c, hcv⟩ : ∃ c, c = codes.getD j 0 := ⟨_, rfl⟩
   have hcr := hrc j hlt
   rw [← hcv] at hcr
   obtain ⟨cn, hcn⟩ : ∃ cn : Nat, c = cn := ⟨c.toNat, by omega⟩
   have etc : vtoN c = cn := by rw [hcn]; exact hto cn
   obtain ⟨x, hx⟩ : ∃ x, x = F.getD cn 0 := ⟨_, rfl⟩
   have eF : vgd F cn = x := by simp only [qgd]; exact hx.symm
   have hxr := hFr.rng cn
   rw [← hx] at hxr
   have ex1 : vb .add .u32 x 1 = x + 1 := by rw [qb]; exact u32_one hxr hjn h2
   obtain ⟨F1, hF1⟩ : ∃ F1, F1 = F.set cn (x + 1) := ⟨_, rfl⟩
   have eS : vst F cn (x + 1) = F1 := by simp only [qst]; exact hF1.symm
   obtain ⟨ji1, hj1⟩ : ∃ ji1 : Int, ji1 = ((j + 1 : Nat) : Int) := ⟨_, rfl⟩
   have ej1 : vb .add .i64 ji 1 = ji1 := by rw [qb]; exact nextc hj hj1 (Nat.le_trans hjn (Nat.le_trans h2 (by decide)))
   have hgj : vgd codes j = c := by rw [hgc, hcv]
   have hst := frq_step (c := cn) hFr (by rw [← hcv, hcn]) (ltn hcn hcr.2)
   rw [← hx, ← hF1] at hst
   have hin2 : 0 ≤ ji ∧ ji < (n : Int) := inc0 hj hlt
   have hin3 : 0 ≤ c ∧ c < (M : Int) := hcr
   have hlF : vln F = M := by rw [hln]; exact hFl
   have hlF1 : vln F1 = M := by rw [hln, hF1, List.length_set]; exact hFl
   have hcM : cn < M := ltn hcn hcr.2
   have hso := (hFr.som ▸ somN_rg F M : 0 ≤ so ∧ so ≤ M)
   have hmu : n - (j + 1) < n - j := by omega
   have hj1n : j + 1 ≤ n := by omega
   cbv
   rw [hl1]
   cbv
   rw [etj]
   refine ⟨⟨hin2⟩, ⟨by rw [hadd0, hlc]; exact hlt⟩, ⟨by rw [hlc]; exact hlt⟩, ?_⟩
   rw [hgj, etc]
   refine ⟨⟨hin3⟩, ⟨by rw [hlF]; exact hcM⟩, ?_⟩
   rw [eF]
   have e10 : vb .add .i64 so 1 = so + 1 := by rw [qb]; exact one_more hso hM5
   obtain ⟨so1, hso1⟩ : ∃ so1, so1 = so + 1 := ⟨_, rfl⟩
   rw [← hso1] at e10
   cases hz : vc .eql x 0
   ·have hzn : x ≠ 0 := by rw [qc, eql_false] at hz; exact hz
    rw [if_neg hzn, Int.add_zero] at hst
    cbv
    rw [etc]
    repeat (first | refine And.intro ⟨hin3⟩ ?_ | refine And.intro ⟨by rw [hlF]; exact hcM⟩ ?_)
    rw [eF, ex1, eS, ej1]
    refine Cv.fold ([8] ++ (List.range' 30 17)) 17 [] (by exact Nat.le_refl _) (by exact Nat.le_of_ble_eq_true rfl) (by rfl) (by cbv) ?_
    intro js
    exact ⟨(ji1, so, j + 1, F1), ⟨⟨hj1, hj1n, hst⟩, hmu⟩, js, rfl⟩
   ·have hz0 : x = 0 := by rw [qc, eql_true] at hz; exact hz
    rw [if_pos hz0, ← hso1] at hst
    cbv
    rw [e10]
    rw [etc]
    repeat (first | refine And.intro ⟨hin3⟩ ?_ | refine And.intro ⟨by rw [hlF]; exact hcM⟩ ?_)
    rw [eF, ex1, eS, ej1]
    refine Cv.fold ([8] ++ (List.range' 30 17)) 17 [] (by exact Nat.le_refl _) (by exact Nat.le_of_ble_eq_true rfl) (by rfl) (by cbv) ?_
    intro js
    exact ⟨(ji1, so1, j + 1, F1), ⟨⟨hj1, hj1n, hst⟩, hmu⟩, js, rfl⟩
  ·have hl1 : vc .lss ji ni = false := by rw [qc, lss_false]; exact gec hj hni hlt
   have hjn2 : j = n := Nat.le_antisymm hjn (Nat.le_of_not_lt hlt)
   rw [hjn2, hn] at hFr
   have hS := hFr.som
   have hso := (hS ▸ somN_rg F M : 0 ≤ so ∧ so ≤ M)
   have hrM : ∀ c ∈ codes, 0 ≤ c ∧ c < (M : Int) := fun c hc => by rw [hM]; exact hr c hc
   have hlF : vln F = M := by rw [hln]; exact hFl
   clear hlt hj hjn hjn2
   by_cases h1s : so = 1
   ·have hone : vc .eql so 1 = true := by rw [qc, eql_true]; exact h1s
    subst h1s
    have hall := frq_one hFr hrM (by rw [← hn]; exact h1)
    obtain ⟨c, hcv⟩ : ∃ c, c = codes.getD 0 0 := ⟨_, rfl⟩
    have hc0 := hrc 0 (Nat.lt_of_lt_of_le Nat.zero_lt_one h1)
    rw [← hcv] at hall hc0
    have hin4 : (0 : Int) ≤ 0 ∧ (0 : Int) < (n : Int) := inc0 (a := 0) rfl (Nat.lt_of_lt_of_le Nat.zero_lt_one h1)
    have hg0 : vgd codes 0 = c := by rw [hgc, hcv]
    have hw8 : vw .u8 c = c := by rw [qw]; exact wrap_u8 hc0.1 (Int.lt_of_lt_of_le hc0.2 (by rw [hM]; decide))
    have h0n : 0 < n := h1
    cbv
    rw [hl1]
    cbv
    rw [hone]
    cbv
    refine ⟨⟨hin4⟩, ⟨by rw [hadd0, hlc]; exact h0n⟩, ⟨by rw [hlc]; exact h0n⟩, ⟨hin4⟩, ⟨by rw [hadd0, hlc]; exact h0n⟩, ⟨by rw [hlc]; exact h0n⟩, ?_⟩
    have hlt0 : Lt 0 (vln codes) ∧ True := ⟨⟨by rw [hlc]; exact h0n⟩, trivial⟩
    rw [hg0, hw8]
    have hchs := chs_one (lg := 9) (most := 35) (ah := 6) (c := c) (cnt := cntL) (codes := codes) ⟨hc0.1, Int.lt_add_one_iff.1 (Int.lt_of_lt_of_le hc0.2 (by rw [hM]; decide))⟩ (by decide) hall
    refine ⟨⟨hlt0, hlt0, hlt0, hlt0, ?_⟩, ⟨hlt0, hlt0, hlt0, hlt0, ?_⟩⟩
    ·refine ⟨[], [0, 1, 2, 3, 4, 5, 6, 7, 8, 9, 10, 11, 12, 13, 14, 18, 17], .agg [.lit .u8 1, .slice 16 .z 1 1 1, .slice 15 .z 3 1 1], [.one 59 [.int .i64 9, .int .i64 35, .int .i64 6, .slice 2 .z 1 36 36, .fn 90 [.ptr 6 .z 1 0, .ptr 9 .z 1 0, .ptr 8 .z 1 0, .ptr 7 .z 1 0], .fn 91 [.ptr 8 .z 1 0, .ptr 9 .z 1 0, .ptr 6 .z 1 0, .ptr 7 .z 1 0], .fn 60 [], .int .i64 8, .int .i64 31, .int .i64 5, .slice 3 .z 1 29 29, .fn 64 [], .fn 65 [], .fn 63 [], .int .i64 9, .int .i64 52, .int .i64 6, .slice 4 .z 1 53 cm, .fn 90 [.ptr 11 .z 1 0, .ptr 14 .z 1 0, .ptr 13 .z 1 0, .ptr 12 .z 1 0], .fn 91 [.ptr 13 .z 1 0, .ptr 14 .z 1 0, .ptr 11 .z 1 0, .ptr 12 .z 1 0], .fn 62 []], .ro .i64 codes, .ints 124 .i16 cL, .ints 124 .i16 cB, .buf 124 .i16 cM cm, .ints 3 .i64 bL, .one 3 [.int .i64 16], .one 63 [.slice 5 .z 1 20 20], .ints 173 .i64 gL, .one 3 [.int .i64 0], .ints 3 .i64 bM, .one 3 [.int .i64 32], .one 63 [.slice 10 .z 1 21 21], .ints 173 .i64 gM, .one 3 [.int .i64 3], .bufR 79 3 [.int .u8 c, .lit .u8 0, .lit .u16 0] 1, .ints 5 .u8 [c]], rfl, rfl, rfl, rfl, rfl, ?_, ?_⟩
     ·exact ⟨rfl, rfl, rfl, rfl, rfl, rfl, rfl, rfl, rfl, rfl, rfl, rfl, rfl, rfl, rfl, rfl, rfl, trivial⟩
     ·exact .inl ⟨rfl, 1, [c], 1, fun _ => c, fun _ => 0, fun _ => 0, 1, 1, 1, 1, hchs, rfl, rfl⟩
    ·refine ⟨[], [0, 1, 2, 3, 4, 5, 6, 7, 8, 9, 10, 11, 12, 13, 14, 17, 18], .agg [.lit .u8 1, .slice 16 .z 1 1 1, .slice 15 .z 3 1 1], [.one 59 [.int .i64 9, .int .i64 35, .int .i64 6, .slice 2 .z 1 36 36, .fn 90 [.ptr 6 .z 1 0, .ptr 9 .z 1 0, .ptr 8 .z 1 0, .ptr 7 .z 1 0], .fn 91 [.ptr 8 .z 1 0, .ptr 9 .z 1 0, .ptr 6 .z 1 0, .ptr 7 .z 1 0], .fn 60 [], .int .i64 8, .int .i64 31, .int .i64 5, .slice 3 .z 1 29 29, .fn 64 [], .fn 65 [], .fn 63 [], .int .i64 9, .int .i64 52, .int .i64 6, .slice 4 .z 1 53 cm, .fn 90 [.ptr 11 .z 1 0, .ptr 14 .z 1 0, .ptr 13 .z 1 0, .ptr 12 .z 1 0], .fn 91 [.ptr 13 .z 1 0, .ptr 14 .z 1 0, .ptr 11 .z 1 0, .ptr 12 .z 1 0], .fn 62 []], .ro .i64 codes, .ints 124 .i16 cL, .ints 124 .i16 cB, .buf 124 .i16 cM cm, .ints 3 .i64 bL, .one 3 [.int .i64 16], .one 63 [.slice 5 .z 1 20 20], .ints 173 .i64 gL, .one 3 [.int .i64 0], .ints 3 .i64 bM, .one 3 [.int .i64 32], .one 63 [.slice 10 .z 1 21 21], .ints 173 .i64 gM, .one 3 [.int .i64 3], .bufR 79 3 [.int .u8 c, .lit .u8 0, .lit .u16 0] 1, .ints 5 .u8 [c]], rfl, rfl, rfl, rfl, rfl, ?_, ?_⟩
     ·exact ⟨rfl, rfl, rfl, rfl, rfl, rfl, rfl, rfl, rfl, rfl, rfl, rfl, rfl, rfl, rfl, rfl, rfl, trivial⟩
     ·exact .inl ⟨rfl, 1, [c], 1, fun _ => c, fun _ => 0, fun _ => 0, 1, 1, 1, 1, hchs, rfl, rfl⟩
   ·have hone : vc .eql so 1 = false := by rw [qc, eql_false]; exact h1s
    obtain ⟨Mi, hMi⟩ : ∃ Mi : Int, Mi = M := ⟨_, rfl⟩
    have eMi : vofN M = Mi := by rw [hofn, hMi]
    cbv
    rw [hl1]
    cbv
    rw [hone]
    cbv
    rw [eMi]
    refine loop_fam (α := Int × Bool × Nat) ([10, 11] ++ (List.range' 64 29)) [] (fun (ki, b, k) => [(63, .int .i64 ki), (9, .bool b)]) (fun _ => [])
     (fun (ki, b, k) => ki = k ∧ k ≤ M ∧ (b = true → ∀ s : Nat, s < k → F.getD s 0 ≠ 0 → s < 36 ∧ cL.getD s 0 ≠ 0)) (fun (ki, b, k) => M - k) hw hm ?_ ?_
    ·refine Cv.genAt [63, 9] [] (Cv.fold ([10, 11] ++ (List.range' 64 29)) 17 [] (by exact Nat.le_refl _) (by exact Nat.le_of_ble_eq_true rfl) (by rfl) (by cbv) ?_)
     intro js
     refine ⟨(0, true, 0), ?_, js, rfl⟩
     exact ⟨rfl, Nat.zero_le _, fun _ s hs => absurd hs (Nat.not_lt_zero s)⟩
    ·rintro ⟨ki, b, k⟩ js ⟨hk, hkM, hfit⟩
     by_cases hlt : k < M
     ·have hl2 : vc .lss ki Mi = true := by rw [qc, lss_true]; exact ltc hk hMi hlt
      have etk : vtoN ki = k := by rw [hk]; exact hto k
      obtain ⟨x, hx⟩ : ∃ x, x = F.getD k 0 := ⟨_, rfl⟩
      have eF : vgd F k = x := by simp only [qgd]; exact hx.symm
      obtain ⟨ki1, hk1⟩ : ∃ ki1 : Int, ki1 = ((k + 1 : Nat) : Int) := ⟨_, rfl⟩
      have ek1 : vb .add .i64 ki 1 = ki1 := by rw [qb]; exact nextc hk hk1 (Nat.le_trans hkM (Nat.le_trans hM5 (by decide)))
      have hin5 : 0 ≤ ki ∧ ki < (M : Int) := inc0 hk hlt
      have hmu : M - (k + 1) < M - k := Nat.sub_lt_sub_left hlt (Nat.lt_succ_self k)
      have hlc2 : vln cL = 36 := by rw [hln]; exact hlen
      have hk1M : k + 1 ≤ M := hlt
      cbv
      rw [hl2]
      cbv
      rw [etk]
      refine ⟨⟨hin5⟩, ⟨by rw [hlF]; exact hlt⟩, ?_⟩
      rw [eF]
      cases b
      ·cbv
       rw [ek1]
       refine Cv.fold ([10, 11] ++ (List.range' 64 29)) 17 [] (by exact Nat.le_refl _) (by exact Nat.le_of_ble_eq_true rfl) (by rfl) (by cbv) ?_
       intro js
       exact ⟨(ki1, false, k + 1), ⟨⟨hk1, hk1M, fun h => by cases h⟩, hmu⟩, js, rfl⟩
      ·have hfit := hfit rfl
       cbv
       cases hz : vc .eql x 0
       ·have hzn : x ≠ 0 := by rw [qc, eql_false] at hz; exact hz
        cbv
        rw [hof0]
        cases hl3 : vc .lss ki 36
        ·cbv
         rw [ek1]
         refine Cv.fold ([10, 11] ++ (List.range' 64 29)) 17 [] (by exact Nat.le_refl _) (by exact Nat.le_of_ble_eq_true rfl) (by rfl) (by cbv) ?_
         intro js
         exact ⟨(ki1, false, k + 1), ⟨⟨hk1, hk1M, fun h => by cases h⟩, hmu⟩, js, rfl⟩
        ·have hkl : ki < 36 := by rw [qc, lss_true] at hl3; exact hl3
         have hkn : k < 36 := ltn (b := 36) hk hkl
         have hin6 : 0 ≤ ki ∧ ki < 36 := ⟨hin5.1, hkl⟩
         obtain ⟨y, hy⟩ : ∃ y, y = cL.getD k 0 := ⟨_, rfl⟩
         have eY : vgd cL k = y := by simp only [qgd]; exact hy.symm
         cbv
         rw [etk]
         repeat (first | refine And.intro ⟨hin6⟩ ?_ | refine And.intro ⟨by rw [hlc2]; exact hkn⟩ ?_ | refine And.intro ⟨by rw [hadd0, hlc2]; exact hkn⟩ ?_)
         rw [eY]
         rw [ek1]
         refine Cv.fold ([10, 11] ++ (List.range' 64 29)) 17 [] (by exact Nat.le_refl _) (by exact Nat.le_of_ble_eq_true rfl) (by rfl) (by cbv) ?_
         intro js
         exact ⟨(ki1, vc .neq y 0, k + 1), ⟨⟨hk1, hk1M, fun h => fit_step hfit (fun _ => ⟨hkn, by rw [qc, neq_true] at h; rw [← hy]; exact h⟩)⟩, hmu⟩, js, rfl⟩
       ·have hz0 : x = 0 := by rw [qc, eql_true] at hz; exact hz
        cbv
        rw [ek1]
        refine Cv.fold ([10, 11] ++ (List.range' 64 29)) 17 [] (by exact Nat.le_refl _) (by exact Nat.le_of_ble_eq_true rfl) (by rfl) (by cbv) ?_
        intro js
        exact ⟨(ki1, true, k + 1), ⟨⟨hk1, hk1M, fun _ => fit_step hfit (fun h => absurd (hx ▸ hz0 : F.getD k 0 = 0) h)⟩, hmu⟩, js, rfl⟩
     ·have hl2 : vc .lss ki Mi = false := by rw [qc, lss_false]; exact gec hk hMi hlt
      have hkM2 : k = M := Nat.le_antisymm hkM (Nat.le_of_not_lt hlt)
      subst hkM2
      clear hlt
      cbv
      rw [hl2]
      cbv
      refine loop_fam (α := Int) ((List.range' 93 16)) [] (fun lg => [(12, .int .i64 lg)]) (fun _ => []) (fun lg => 6 ≤ lg ∧ lg ≤ 9) (fun lg => (9 - lg).toNat) hw hm ?_ ?_
      ·refine Cv.genAt [12] [] (Cv.fold ((List.range' 93 16)) 17 [] (by exact Nat.le_refl _) (by exact Nat.le_of_ble_eq_true rfl) (by rfl) (by cbv) ?_)
       intro js
       refine ⟨6, ?_, js, rfl⟩
       exact ⟨by decide, by decide⟩
      ·rintro lg js hlg
       have hAb := able_frq hFr (by rw [hM]; decide) (lg := lg) ⟨hlg.1, Int.le_trans hlg.2 (by decide)⟩ (by rw [← hn]; exact h1) (by rw [← hn]; exact hrc)
       have hlog : -9223372036854775808 ≤ lg ∧ lg ≤ 9223372036854775807 := ⟨Int.le_trans (by decide) hlg.1, Int.le_trans hlg.2 (by decide)⟩
       have hCt := hCt F lg k (fun c hc => u32_of hFr hc (Nat.le_trans (Nat.le_of_eq hn.symm) h2)) hlog (by rw [hFl]; exact Nat.le_trans hM5 (by decide))
       rw [hFl] at hCt
       obtain ⟨lg1, hlg1⟩ : ∃ lg1, lg1 = lg + 1 := ⟨_, rfl⟩
       have hw64 : vw .u64 lg = lg := by rw [qw]; exact wrap_u64 (Int.le_trans (by decide) hlg.1) (Int.lt_of_le_of_lt hlg.2 (by decide))
       have elg : vb .add .i64 lg 1 = lg1 := by rw [qb]; exact logN ⟨hlg.1, Int.le_trans hlg.2 (by decide)⟩ hlg1
       cbv
       cases hlk : vc .lss lg 9
       ·cbv
        rw [en]
        cases h40 : vc .lss ni 40
        ·cbv
         refine call_con (ρ := [(16, .z)]) hCt ⟨by rfl, by rfl, by rfl, by cbv; exact ⟨view_refl _, trivial⟩⟩ ?_
         rintro v H R js ⟨rfl, (⟨hna, _⟩ | ⟨_, cs, ⟨hRc, hcl, hc16, hciff⟩, rfl, rfl⟩)⟩
         ·exact absurd hAb hna
         have hWr := fun cap => hWr cs lg cap hc16 hlog hRc
         obtain ⟨⟨N, A, B, C⟩, hTT⟩ : ∃ T : Tb, T = mkT cs lg := ⟨_, rfl⟩
         have hTb := fun cap => hTb cs lg cap hc16 hlog hRc N A B C hTT
         have hchs := chs_two (lg := 9) (most := 35) (ah := 6) (cnt := cntL) (codes := codes) hRc hlg.2 (by decide) (cl_le hcl hFl hM) (by decide) (fit_codes hFr hrM (fun s hs h0 => (hciff s (by rw [hFl]; exact hs)).1 (pos_of (hFr.rng s).1 h0)))
         obtain ⟨hdv, hhd⟩ : ∃ hd, hd = pack (wbits cs lg) := ⟨_, rfl⟩
         rw [← hTT, ← hhd] at hchs
         clear hRc hcl hc16 hciff hfit hTT
         obtain ⟨cl, hcl⟩ : ∃ cl, cl = cs.length := ⟨_, rfl⟩
         simp only [← hcl] at hWr hTb ⊢
         cbv
         (repeat refine And.intro (fun _ => rfl) ?_)
         cbv
         refine call_con (ρ := [(17, .z)]) (hWr cl) ⟨by rfl, by rfl, by rfl, by cbv; exact ⟨view_refl _, trivial⟩⟩ ?_
         rintro v H R js ⟨rfl, l', n', m', c, c', ⟨_, hl', hn', _⟩, rfl, rfl⟩
         rw [← hhd] at hl'
         subst hl'
         cbv
         (repeat refine And.intro (fun _ => rfl) ?_)
         cbv
         refine call_con (ρ := [(17, .z)]) (hTb cl) ⟨by rfl, by rfl, by rfl, by cbv; exact ⟨view_refl _, trivial⟩⟩ ?_
         rintro v H R js ⟨rfl, rfl, rfl⟩
         cbv
         (repeat refine And.intro (fun _ => rfl) ?_)
         refine ⟨[], [0, 1, 2, 3, 4, 5, 6, 7, 8, 9, 10, 11, 12, 13, 14, 21, 20], .agg [.lit .u8 2, .slice 16 .z 1 n' c', .slice 15 .z 3 N N], [.one 59 [.int .i64 9, .int .i64 35, .int .i64 6, .slice 2 .z 1 36 36, .fn 90 [.ptr 6 .z 1 0, .ptr 9 .z 1 0, .ptr 8 .z 1 0, .ptr 7 .z 1 0], .fn 91 [.ptr 8 .z 1 0, .ptr 9 .z 1 0, .ptr 6 .z 1 0, .ptr 7 .z 1 0], .fn 60 [], .int .i64 8, .int .i64 31, .int .i64 5, .slice 3 .z 1 29 29, .fn 64 [], .fn 65 [], .fn 63 [], .int .i64 9, .int .i64 52, .int .i64 6, .slice 4 .z 1 53 cm, .fn 90 [.ptr 11 .z 1 0, .ptr 14 .z 1 0, .ptr 13 .z 1 0, .ptr 12 .z 1 0], .fn 91 [.ptr 13 .z 1 0, .ptr 14 .z 1 0, .ptr 11 .z 1 0, .ptr 12 .z 1 0], .fn 62 []], .ro .i64 codes, .ints 124 .i16 cL, .ints 124 .i16 cB, .buf 124 .i16 cM cm, .ints 3 .i64 bL, .one 3 [.int .i64 16], .one 63 [.slice 5 .z 1 20 20], .ints 173 .i64 gL, .one 3 [.int .i64 0], .ints 3 .i64 bM, .one 3 [.int .i64 32], .one 63 [.slice 10 .z 1 21 21], .ints 173 .i64 gM, .one 3 [.int .i64 3], .arr 79 3 N (fun m => [.int .u8 (A m), .int .u8 (B m), .int .u16 (C m)]), .buf 5 .u8 l' c'], rfl, rfl, rfl, rfl, rfl, ?_, ?_⟩
         ·exact ⟨rfl, rfl, rfl, rfl, rfl, rfl, rfl, rfl, rfl, rfl, rfl, rfl, rfl, rfl, rfl, rfl, fun _ => rfl, rfl, trivial⟩
         ·exact .inl ⟨rfl, 2, l', N, A, B, C, c', c', N, N, hchs, by rw [hn']; rfl, rfl⟩
        ·cases b
         ·cbv
          refine call_con (ρ := [(16, .z)]) hCt ⟨by rfl, by rfl, by rfl, by cbv; exact ⟨view_refl _, trivial⟩⟩ ?_
          rintro v H R js ⟨rfl, (⟨hna, _⟩ | ⟨_, cs, ⟨hRc, hcl, hc16, hciff⟩, rfl, rfl⟩)⟩
          ·exact absurd hAb hna
          have hWr := fun cap => hWr cs lg cap hc16 hlog hRc
          obtain ⟨⟨N, A, B, C⟩, hTT⟩ : ∃ T : Tb, T = mkT cs lg := ⟨_, rfl⟩
          have hTb := fun cap => hTb cs lg cap hc16 hlog hRc N A B C hTT
          have hchs := chs_two (lg := 9) (most := 35) (ah := 6) (cnt := cntL) (codes := codes) hRc hlg.2 (by decide) (cl_le hcl hFl hM) (by decide) (fit_codes hFr hrM (fun s hs h0 => (hciff s (by rw [hFl]; exact hs)).1 (pos_of (hFr.rng s).1 h0)))
          obtain ⟨hdv, hhd⟩ : ∃ hd, hd = pack (wbits cs lg) := ⟨_, rfl⟩
          rw [← hTT, ← hhd] at hchs
          clear hRc hcl hc16 hciff hfit hTT
          obtain ⟨cl, hcl⟩ : ∃ cl, cl = cs.length := ⟨_, rfl⟩
          simp only [← hcl] at hWr hTb ⊢
          cbv
          (repeat refine And.intro (fun _ => rfl) ?_)
          cbv
          refine call_con (ρ := [(17, .z)]) (hWr cl) ⟨by rfl, by rfl, by rfl, by cbv; exact ⟨view_refl _, trivial⟩⟩ ?_
          rintro v H R js ⟨rfl, l', n', m', c, c', ⟨_, hl', hn', _⟩, rfl, rfl⟩
          rw [← hhd] at hl'
          subst hl'
          cbv
          (repeat refine And.intro (fun _ => rfl) ?_)
          cbv
          refine call_con (ρ := [(17, .z)]) (hTb cl) ⟨by rfl, by rfl, by rfl, by cbv; exact ⟨view_refl _, trivial⟩⟩ ?_
          rintro v H R js ⟨rfl, rfl, rfl⟩
          cbv
          (repeat refine And.intro (fun _ => rfl) ?_)
          refine ⟨[], [0, 1, 2, 3, 4, 5, 6, 7, 8, 9, 10, 11, 12, 13, 14, 21, 20], .agg [.lit .u8 2, .slice 16 .z 1 n' c', .slice 15 .z 3 N N], [.one 59 [.int .i64 9, .int .i64 35, .int .i64 6, .slice 2 .z 1 36 36, .fn 90 [.ptr 6 .z 1 0, .ptr 9 .z 1 0, .ptr 8 .z 1 0, .ptr 7 .z 1 0], .fn 91 [.ptr 8 .z 1 0, .ptr 9 .z 1 0, .ptr 6 .z 1 0, .ptr 7 .z 1 0], .fn 60 [], .int .i64 8, .int .i64 31, .int .i64 5, .slice 3 .z 1 29 29, .fn 64 [], .fn 65 [], .fn 63 [], .int .i64 9, .int .i64 52, .int .i64 6, .slice 4 .z 1 53 cm, .fn 90 [.ptr 11 .z 1 0, .ptr 14 .z 1 0, .ptr 13 .z 1 0, .ptr 12 .z 1 0], .fn 91 [.ptr 13 .z 1 0, .ptr 14 .z 1 0, .ptr 11 .z 1 0, .ptr 12 .z 1 0], .fn 62 []], .ro .i64 codes, .ints 124 .i16 cL, .ints 124 .i16 cB, .buf 124 .i16 cM cm, .ints 3 .i64 bL, .one 3 [.int .i64 16], .one 63 [.slice 5 .z 1 20 20], .ints 173 .i64 gL, .one 3 [.int .i64 0], .ints 3 .i64 bM, .one 3 [.int .i64 32], .one 63 [.slice 10 .z 1 21 21], .ints 173 .i64 gM, .one 3 [.int .i64 3], .arr 79 3 N (fun m => [.int .u8 (A m), .int .u8 (B m), .int .u16 (C m)]), .buf 5 .u8 l' c'], rfl, rfl, rfl, rfl, rfl, ?_, ?_⟩
          ·exact ⟨rfl, rfl, rfl, rfl, rfl, rfl, rfl, rfl, rfl, rfl, rfl, rfl, rfl, rfl, rfl, rfl, fun _ => rfl, rfl, trivial⟩
          ·exact .inl ⟨rfl, 2, l', N, A, B, C, c', c', N, N, hchs, by rw [hn']; rfl, rfl⟩
         ·cbv
          refine call_con (ρ := [(2, .z)]) hT ⟨by rfl, by rfl, by rfl, by cbv; exact ⟨view_refl _, trivial⟩⟩ ?_
          rintro v H R js ⟨rfl, rfl, rfl⟩
          cbv
          (repeat refine And.intro (fun _ => rfl) ?_)
          cbv
          have hchs0 := chs_zero (lg := 9) (most := 35) (codes := codes) hR0 (by rw [hlen]; decide) (fit_codes hFr hrM (fun s hs h0 => by rw [hlen]; exact hfit rfl s hs h0))
          rw [← hT0, hc] at hchs0
          refine ⟨[], [0, 1, 2, 3, 4, 5, 6, 7, 8, 9, 10, 11, 12, 13, 14, 17], .agg [.lit .u8 0, .val (.slice none 0 0), .slice 15 .z 3 N0 N0], [.one 59 [.int .i64 9, .int .i64 35, .int .i64 6, .slice 2 .z 1 36 36, .fn 90 [.ptr 6 .z 1 0, .ptr 9 .z 1 0, .ptr 8 .z 1 0, .ptr 7 .z 1 0], .fn 91 [.ptr 8 .z 1 0, .ptr 9 .z 1 0, .ptr 6 .z 1 0, .ptr 7 .z 1 0], .fn 60 [], .int .i64 8, .int .i64 31, .int .i64 5, .slice 3 .z 1 29 29, .fn 64 [], .fn 65 [], .fn 63 [], .int .i64 9, .int .i64 52, .int .i64 6, .slice 4 .z 1 53 cm, .fn 90 [.ptr 11 .z 1 0, .ptr 14 .z 1 0, .ptr 13 .z 1 0, .ptr 12 .z 1 0], .fn 91 [.ptr 13 .z 1 0, .ptr 14 .z 1 0, .ptr 11 .z 1 0, .ptr 12 .z 1 0], .fn 62 []], .ro .i64 codes, .ints 124 .i16 cL, .ints 124 .i16 cB, .buf 124 .i16 cM cm, .ints 3 .i64 bL, .one 3 [.int .i64 16], .one 63 [.slice 5 .z 1 20 20], .ints 173 .i64 gL, .one 3 [.int .i64 0], .ints 3 .i64 bM, .one 3 [.int .i64 32], .one 63 [.slice 10 .z 1 21 21], .ints 173 .i64 gM, .one 3 [.int .i64 3], .arr 79 3 N0 (fun m => [.int .u8 (A0 m), .int .u8 (B0 m), .int .u16 (C0 m)])], rfl, rfl, rfl, rfl, rfl, ?_, ?_⟩
          ·exact ⟨rfl, rfl, rfl, rfl, rfl, rfl, rfl, rfl, rfl, rfl, rfl, rfl, rfl, rfl, rfl, rfl, fun _ => rfl, trivial⟩
          ·exact .inr ⟨.agg [.int .u8 0, .slice 16 .z 1 0 0, .slice 15 .z 3 N0 N0], by rfl, ⟨fun _ => rfl, trivial⟩, fun σ h => by have h : σ 16 = none := h; simp [den, denL, gen, genL, h], rfl, 0, [], N0, A0, B0, C0, 0, 0, N0, N0, hchs0, rfl, rfl⟩
       ·have hlt9 : lg < 9 := by rw [qc, lss_true] at hlk; exact hlk
        cbv
        rw [en]
        refine ⟨⟨by rw [hw64]; exact Int.le_trans (by decide) hlg.1⟩, ?_⟩
        generalize vc .lss (vb .shl .i64 1 (vw .u64 lg)) ni = z
        cases z
        ·cbv
         rw [en]
         cases h40 : vc .lss ni 40
         ·cbv
          refine call_con (ρ := [(16, .z)]) hCt ⟨by rfl, by rfl, by rfl, by cbv; exact ⟨view_refl _, trivial⟩⟩ ?_
          rintro v H R js ⟨rfl, (⟨hna, _⟩ | ⟨_, cs, ⟨hRc, hcl, hc16, hciff⟩, rfl, rfl⟩)⟩
          ·exact absurd hAb hna
          have hWr := fun cap => hWr cs lg cap hc16 hlog hRc
          obtain ⟨⟨N, A, B, C⟩, hTT⟩ : ∃ T : Tb, T = mkT cs lg := ⟨_, rfl⟩
          have hTb := fun cap => hTb cs lg cap hc16 hlog hRc N A B C hTT
          have hchs := chs_two (lg := 9) (most := 35) (ah := 6) (cnt := cntL) (codes := codes) hRc hlg.2 (by decide) (cl_le hcl hFl hM) (by decide) (fit_codes hFr hrM (fun s hs h0 => (hciff s (by rw [hFl]; exact hs)).1 (pos_of (hFr.rng s).1 h0)))
          obtain ⟨hdv, hhd⟩ : ∃ hd, hd = pack (wbits cs lg) := ⟨_, rfl⟩
          rw [← hTT, ← hhd] at hchs
          clear hRc hcl hc16 hciff hfit hTT
          obtain ⟨cl, hcl⟩ : ∃ cl, cl = cs.length := ⟨_, rfl⟩
          simp only [← hcl] at hWr hTb ⊢
          cbv
          (repeat refine And.intro (fun _ => rfl) ?_)
          cbv
          refine call_con (ρ := [(17, .z)]) (hWr cl) ⟨by rfl, by rfl, by rfl, by cbv; exact ⟨view_refl _, trivial⟩⟩ ?_
          rintro v H R js ⟨rfl, l', n', m', c, c', ⟨_, hl', hn', _⟩, rfl, rfl⟩
          rw [← hhd] at hl'
          subst hl'
          cbv
          (repeat refine And.intro (fun _ => rfl) ?_)
          cbv
          refine call_con (ρ := [(17, .z)]) (hTb cl) ⟨by rfl, by rfl, by rfl, by cbv; exact ⟨view_refl _, trivial⟩⟩ ?_
          rintro v H R js ⟨rfl, rfl, rfl⟩
          cbv
          (repeat refine And.intro (fun _ => rfl) ?_)
          refine ⟨[], [0, 1, 2, 3, 4, 5, 6, 7, 8, 9, 10, 11, 12, 13, 14, 21, 20], .agg [.lit .u8 2, .slice 16 .z 1 n' c', .slice 15 .z 3 N N], [.one 59 [.int .i64 9, .int .i64 35, .int .i64 6, .slice 2 .z 1 36 36, .fn 90 [.ptr 6 .z 1 0, .ptr 9 .z 1 0, .ptr 8 .z 1 0, .ptr 7 .z 1 0], .fn 91 [.ptr 8 .z 1 0, .ptr 9 .z 1 0, .ptr 6 .z 1 0, .ptr 7 .z 1 0], .fn 60 [], .int .i64 8, .int .i64 31, .int .i64 5, .slice 3 .z 1 29 29, .fn 64 [], .fn 65 [], .fn 63 [], .int .i64 9, .int .i64 52, .int .i64 6, .slice 4 .z 1 53 cm, .fn 90 [.ptr 11 .z 1 0, .ptr 14 .z 1 0, .ptr 13 .z 1 0, .ptr 12 .z 1 0], .fn 91 [.ptr 13 .z 1 0, .ptr 14 .z 1 0, .ptr 11 .z 1 0, .ptr 12 .z 1 0], .fn 62 []], .ro .i64 codes, .ints 124 .i16 cL, .ints 124 .i16 cB, .buf 124 .i16 cM cm, .ints 3 .i64 bL, .one 3 [.int .i64 16], .one 63 [.slice 5 .z 1 20 20], .ints 173 .i64 gL, .one 3 [.int .i64 0], .ints 3 .i64 bM, .one 3 [.int .i64 32], .one 63 [.slice 10 .z 1 21 21], .ints 173 .i64 gM, .one 3 [.int .i64 3], .arr 79 3 N (fun m => [.int .u8 (A m), .int .u8 (B m), .int .u16 (C m)]), .buf 5 .u8 l' c'], rfl, rfl, rfl, rfl, rfl, ?_, ?_⟩
          ·exact ⟨rfl, rfl, rfl, rfl, rfl, rfl, rfl, rfl, rfl, rfl, rfl, rfl, rfl, rfl, rfl, rfl, fun _ => rfl, rfl, trivial⟩
          ·exact .inl ⟨rfl, 2, l', N, A, B, C, c', c', N, N, hchs, by rw [hn']; rfl, rfl⟩
         ·cases b
          ·cbv
           refine call_con (ρ := [(16, .z)]) hCt ⟨by rfl, by rfl, by rfl, by cbv; exact ⟨view_refl _, trivial⟩⟩ ?_
           rintro v H R js ⟨rfl, (⟨hna, _⟩ | ⟨_, cs, ⟨hRc, hcl, hc16, hciff⟩, rfl, rfl⟩)⟩
           ·exact absurd hAb hna
           have hWr := fun cap => hWr cs lg cap hc16 hlog hRc
           obtain ⟨⟨N, A, B, C⟩, hTT⟩ : ∃ T : Tb, T = mkT cs lg := ⟨_, rfl⟩
           have hTb := fun cap => hTb cs lg cap hc16 hlog hRc N A B C hTT
           have hchs := chs_two (lg := 9) (most := 35) (ah := 6) (cnt := cntL) (codes := codes) hRc hlg.2 (by decide) (cl_le hcl hFl hM) (by decide) (fit_codes hFr hrM (fun s hs h0 => (hciff s (by rw [hFl]; exact hs)).1 (pos_of (hFr.rng s).1 h0)))
           obtain ⟨hdv, hhd⟩ : ∃ hd, hd = pack (wbits cs lg) := ⟨_, rfl⟩
           rw [← hTT, ← hhd] at hchs
           clear hRc hcl hc16 hciff hfit hTT
           obtain ⟨cl, hcl⟩ : ∃ cl, cl = cs.length := ⟨_, rfl⟩
           simp only [← hcl] at hWr hTb ⊢
           cbv
           (repeat refine And.intro (fun _ => rfl) ?_)
           cbv
           refine call_con (ρ := [(17, .z)]) (hWr cl) ⟨by rfl, by rfl, by rfl, by cbv; exact ⟨view_refl _, trivial⟩⟩ ?_
           rintro v H R js ⟨rfl, l', n', m', c, c', ⟨_, hl', hn', _⟩, rfl, rfl⟩
           rw [← hhd] at hl'
           subst hl'
           cbv
           (repeat refine And.intro (fun _ => rfl) ?_)
           cbv
           refine call_con (ρ := [(17, .z)]) (hTb cl) ⟨by rfl, by rfl, by rfl, by cbv; exact ⟨view_refl _, trivial⟩⟩ ?_
           rintro v H R js ⟨rfl, rfl, rfl⟩
           cbv
           (repeat refine And.intro (fun _ => rfl) ?_)
           refine ⟨[], [0, 1, 2, 3, 4, 5, 6, 7, 8, 9, 10, 11, 12, 13, 14, 21, 20], .agg [.lit .u8 2, .slice 16 .z 1 n' c', .slice 15 .z 3 N N], [.one 59 [.int .i64 9, .int .i64 35, .int .i64 6, .slice 2 .z 1 36 36, .fn 90 [.ptr 6 .z 1 0, .ptr 9 .z 1 0, .ptr 8 .z 1 0, .ptr 7 .z 1 0], .fn 91 [.ptr 8 .z 1 0, .ptr 9 .z 1 0, .ptr 6 .z 1 0, .ptr 7 .z 1 0], .fn 60 [], .int .i64 8, .int .i64 31, .int .i64 5, .slice 3 .z 1 29 29, .fn 64 [], .fn 65 [], .fn 63 [], .int .i64 9, .int .i64 52, .int .i64 6, .slice 4 .z 1 53 cm, .fn 90 [.ptr 11 .z 1 0, .ptr 14 .z 1 0, .ptr 13 .z 1 0, .ptr 12 .z 1 0], .fn 91 [.ptr 13 .z 1 0, .ptr 14 .z 1 0, .ptr 11 .z 1 0, .ptr 12 .z 1 0], .fn 62 []], .ro .i64 codes, .ints 124 .i16 cL, .ints 124 .i16 cB, .buf 124 .i16 cM cm, .ints 3 .i64 bL, .one 3 [.int .i64 16], .one 63 [.slice 5 .z 1 20 20], .ints 173 .i64 gL, .one 3 [.int .i64 0], .ints 3 .i64 bM, .one 3 [.int .i64 32], .one 63 [.slice 10 .z 1 21 21], .ints 173 .i64 gM, .one 3 [.int .i64 3], .arr 79 3 N (fun m => [.int .u8 (A m), .int .u8 (B m), .int .u16 (C m)]), .buf 5 .u8 l' c'], rfl, rfl, rfl, rfl, rfl, ?_, ?_⟩
           ·exact ⟨rfl, rfl, rfl, rfl, rfl, rfl, rfl, rfl, rfl, rfl, rfl, rfl, rfl, rfl, rfl, rfl, fun _ => rfl, rfl, trivial⟩
           ·exact .inl ⟨rfl, 2, l', N, A, B, C, c', c', N, N, hchs, by rw [hn']; rfl, rfl⟩
          ·cbv
           refine call_con (ρ := [(2, .z)]) hT ⟨by rfl, by rfl, by rfl, by cbv; exact ⟨view_refl _, trivial⟩⟩ ?_
           rintro v H R js ⟨rfl, rfl, rfl⟩
           cbv
           (repeat refine And.intro (fun _ => rfl) ?_)
           cbv
           have hchs0 := chs_zero (lg := 9) (most := 35) (codes := codes) hR0 (by rw [hlen]; decide) (fit_codes hFr hrM (fun s hs h0 => by rw [hlen]; exact hfit rfl s hs h0))
           rw [← hT0, hc] at hchs0
           refine ⟨[], [0, 1, 2, 3, 4, 5, 6, 7, 8, 9, 10, 11, 12, 13, 14, 17], .agg [.lit .u8 0, .val (.slice none 0 0), .slice 15 .z 3 N0 N0], [.one 59 [.int .i64 9, .int .i64 35, .int .i64 6, .slice 2 .z 1 36 36, .fn 90 [.ptr 6 .z 1 0, .ptr 9 .z 1 0, .ptr 8 .z 1 0, .ptr 7 .z 1 0], .fn 91 [.ptr 8 .z 1 0, .ptr 9 .z 1 0, .ptr 6 .z 1 0, .ptr 7 .z 1 0], .fn 60 [], .int .i64 8, .int .i64 31, .int .i64 5, .slice 3 .z 1 29 29, .fn 64 [], .fn 65 [], .fn 63 [], .int .i64 9, .int .i64 52, .int .i64 6, .slice 4 .z 1 53 cm, .fn 90 [.ptr 11 .z 1 0, .ptr 14 .z 1 0, .ptr 13 .z 1 0, .ptr 12 .z 1 0], .fn 91 [.ptr 13 .z 1 0, .ptr 14 .z 1 0, .ptr 11 .z 1 0, .ptr 12 .z 1 0], .fn 62 []], .ro .i64 codes, .ints 124 .i16 cL, .ints 124 .i16 cB, .buf 124 .i16 cM cm, .ints 3 .i64 bL, .one 3 [.int .i64 16], .one 63 [.slice 5 .z 1 20 20], .ints 173 .i64 gL, .one 3 [.int .i64 0], .ints 3 .i64 bM, .one 3 [.int .i64 32], .one 63 [.slice 10 .z 1 21 21], .ints 173 .i64 gM, .one 3 [.int .i64 3], .arr 79 3 N0 (fun m => [.int .u8 (A0 m), .int .u8 (B0 m), .int .u16 (C0 m)])], rfl, rfl, rfl, rfl, rfl, ?_, ?_⟩
           ·exact ⟨rfl, rfl, rfl, rfl, rfl, rfl, rfl, rfl, rfl, rfl, rfl, rfl, rfl, rfl, rfl, rfl, fun _ => rfl, trivial⟩
           ·exact .inr ⟨.agg [.int .u8 0, .slice 16 .z 1 0 0, .slice 15 .z 3 N0 N0], by rfl, ⟨fun _ => rfl, trivial⟩, fun σ h => by have h : σ 16 = none := h; simp [den, denL, gen, genL, h], rfl, 0, [], N0, A0, B0, C0, 0, 0, N0, N0, hchs0, rfl, rfl⟩
        ·cbv
         rw [elg]
         refine Cv.fold ((List.range' 93 16)) 17 [] (by exact Nat.le_refl _) (by exact Nat.le_of_ble_eq_true rfl) (by rfl) (by cbv) ?_
         intro js
         exact ⟨lg1, logs hlg.1 hlt9 hlg1, js, rfl⟩
theorem choose_1 (cL cB cM bL bM gL gM codes : List Int) (cm cap : Nat) (hc : cB = cntB) (h1 : 1 ≤ codes.length) (h2 : codes.length ≤ 100000) (hr : ∀ c ∈ codes, 0 ≤ c ∧ c < (32 : Nat)) :
  Con Try.prog 26 [.ptr 0 (.n 1) 7 0, .slice 1 .z 1 codes.length cap] (kC cL cB cM bL bM gL gM codes cm) (fun v H R => R = [] ∧ ∃ (way : Int) (hd : List Int) (N : Nat) (A B C : Nat → Int) (m1 c1 m2 c2 : Nat),
   Chs 8 31 5 cntB codes way hd ⟨N, A, B, C⟩ ∧ v = .agg [.int .u8 way, .slice 16 .z 1 hd.length m1, .slice 15 .z 3 N m2] ∧
   H = [.one 59 [.int .i64 9, .int .i64 35, .int .i64 6, .slice 2 .z 1 36 36, .fn 90 [.ptr 6 .z 1 0, .ptr 9 .z 1 0, .ptr 8 .z 1 0, .ptr 7 .z 1 0], .fn 91 [.ptr 8 .z 1 0, .ptr 9 .z 1 0, .ptr 6 .z 1 0, .ptr 7 .z 1 0], .fn 60 [], .int .i64 8, .int .i64 31, .int .i64 5, .slice 3 .z 1 29 29, .fn 64 [], .fn 65 [], .fn 63 [], .int .i64 9, .int .i64 52, .int .i64 6, .slice 4 .z 1 53 cm, .fn 90 [.ptr 11 .z 1 0, .ptr 14 .z 1 0, .ptr 13 .z 1 0, .ptr 12 .z 1 0], .fn 91 [.ptr 13 .z 1 0, .ptr 14 .z 1 0, .ptr 11 .z 1 0, .ptr 12 .z 1 0], .fn 62 []], .ro .i64 codes, .ints 124 .i16 cL, .ints 124 .i16 cB, .buf 124 .i16 cM cm, .ints 3 .i64 bL, .one 3 [.int .i64 16], .one 63 [.slice 5 .z 1 20 20], .ints 173 .i64 gL, .one 3 [.int .i64 0], .ints 3 .i64 bM, .one 3 [.int .i64 32], .one 63 [.slice 10 .z 1 21 21], .ints 173 .i64 gM, .one 3 [.int .i64 3], .bufA 79 3 N (fun m => [.int .u8 (A m), .int .u8 (B m), .int .u16 (C m)]) c2, .buf 5 .u8 hd c1]) := by
 have hT := table_ok cntB 5 29 cntB_16 (by decide) cntB_right
 have hlen : cB.length = 29 := by rw [hc]; rfl
 have hcl2 : cntB.length = 29 := by rfl
 rw [← hc] at hT
 obtain ⟨⟨N0, A0, B0, C0⟩, hT0⟩ : ∃ T : Tb, T = mkT cB 5 := ⟨_, rfl⟩
 replace hT : Con Try.prog 66 [.slice 0 .z 1 29 29, .int .i64 5] [.ro .i16 cB] (fun v H R => R = [] ∧ v = .tup [.slice 1 .z 3 N0 N0, .int .i64 0] ∧ H = [.ro .i16 cB, .arr 79 3 N0 (fun m => [.int .u8 (A0 m), .int .u8 (B0 m), .int .u16 (C0 m)])]) := by
  rw [hlen] at hT
  simp only [mkT, Tb.mk.injEq] at hT0
  obtain ⟨rfl, rfl, rfl, rfl⟩ := hT0
  exact hT
 have hR0 : Right cB 5 := by rw [hc]; exact cntB_right
 have hCt := counts_con
 have hWr := write_ok
 have hTb : ∀ (l : List Int) (log : Int) (cap : Nat), (∀ c ∈ l, isI16 c) → (-9223372036854775808 ≤ log ∧ log ≤ 9223372036854775807) → Right l log → ∀ N A B C, (⟨N, A, B, C⟩ : Tb) = mkT l log →
   Con Try.prog 66 [.slice 0 .z 1 l.length cap, .int .i64 log] [.ro .i16 l] (fun v H R => R = [] ∧ v = .tup [.slice 1 .z 3 N N, .int .i64 0] ∧ H = [.ro .i16 l, .arr 79 3 N (fun m => [.int .u8 (A m), .int .u8 (B m), .int .u16 (C m)])]) := by
  intro l log cap h1 h2 h3 N A B C h
  simp only [mkT, Tb.mk.injEq] at h
  obtain ⟨rfl, rfl, rfl, rfl⟩ := h
  exact table_ok l log cap h1 h2 h3
 refine con_fresh 5 .u8 (con_rows (con_bufs 16 (con_gen (con_moves (con_drop (con_walk hmix fn26 ?_))))))
 intro vb vc vw vtoN vofN vaddN vsubN vmaxI vminI vcutN vgd vst vln vrep vsub vonto vsplice vstrEq vbyteV vnotB veqB hw qb qc qw qtoN qofN qaddN qsubN qmaxI qminI qcutN qgd qst qln qrep qsub qonto qsplice qstrEq qbyteV qnotB qeqB
 have hm := hmix; generalize Try.prog = P at *
 obtain ⟨n, hn⟩ : ∃ n, n = codes.length := ⟨_, rfl⟩
 rw [← hn] at h1 h2 ⊢
 have hofn : ∀ n, vofN n = (n : Int) := fun n => by simp only [qofN]
 have hto : ∀ i : Nat, vtoN (i : Int) = i := fun i => by simp only [qtoN, Int.toNat_natCast]
 have hadd0 : ∀ i, vaddN 0 i = i := fun i => by simp only [qaddN, Nat.zero_add]
 have hln : ∀ l, vln l = l.length := fun l => by simp only [qln]
 have hof1 : vofN 29 = 29 := by simp only [qofN]; rfl
 have hM1 : vb .add .i64 31 1 = 32 := by rw [qb]; exact add_i64 (by omega) (by omega)
 obtain ⟨M, hM⟩ : ∃ M : Nat, M = 32 := ⟨_, rfl⟩
 have hM5 : M ≤ 100000 := by rw [hM]; decide
 have eM : vtoN 32 = M := by simp only [qtoN]; rw [hM]; rfl
 obtain ⟨ni, hni⟩ : ∃ ni : Int, ni = n := ⟨_, rfl⟩
 have en : vofN n = ni := by rw [hofn, hni]
 obtain ⟨F0, hF0⟩ : ∃ F0, F0 = vrep M 0 := ⟨_, rfl⟩
 have hFr0 : Frq codes 0 M F0 0 := by rw [hF0]; simp only [qrep]; exact frq_nil codes M
 have hgc : ∀ i, vgd codes i = codes.getD i 0 := fun i => by simp only [qgd]
 have hrc : ∀ i, i < n → 0 ≤ codes.getD i 0 ∧ codes.getD i 0 < (M : Int) := fun i hi => by
  rw [hM]
  rw [List.getD_eq_getElem?_getD, List.getElem?_eq_getElem (by omega)]
  exact hr _ (List.getElem_mem _)
 have hin1 : (32 : Int) ≤ 100000 := by decide
 have hlc : vln codes = n := by rw [hln]; exact hn.symm
 cbv
 rw [hM1, eM, en, ← hF0]
 refine ⟨⟨by decide⟩, ⟨by decide⟩, ⟨by omega⟩, ⟨by omega⟩, ?_⟩
 refine loop_fam (α := Int × Int × Nat × List Int) ([8] ++ (List.range' 30 17)) [] (fun (ji, so, j, F) => [(29, .int .i64 ji), (6, .int .i64 so)]) (fun (ji, so, j, F) => [(16, .ints 128 .u32 F)])
  (fun (ji, so, j, F) => ji = j ∧ j ≤ n ∧ Frq codes j M F so) (fun (ji, so, j, F) => n - j) hw hm ?_ ?_
 ·refine Cv.genAt [29, 6] [] (Cv.fold ([8] ++ (List.range' 30 17)) 17 [] (by exact Nat.le_refl _) (by exact Nat.le_of_ble_eq_true rfl) (by rfl) (by cbv) ?_)
  intro js
  refine ⟨(0, 0, 0, F0), ?_, js, rfl⟩
  exact ⟨rfl, Nat.zero_le _, hFr0⟩
 ·rintro ⟨ji, so, j, F⟩ js ⟨hj, hjn, hFr⟩
  have hFl := hFr.len
  by_cases hlt : j < n
  ·have hl1 : vc .lss ji ni = true := by rw [qc, lss_true]; exact ltc hj hni hlt
   have etj : vtoN ji = j := by rw [hj]; exact hto j
   obtain ⟨c, hcv⟩ : ∃ c, c = codes.getD j 0 := ⟨_, rfl⟩
   have hcr := hrc j hlt
   rw [← hcv] at hcr
   obtain ⟨cn, hcn⟩ : ∃ cn : Nat, c = cn := ⟨c.toNat, by omega⟩
   have etc : vtoN c = cn := by rw [hcn]; exact hto cn
   obtain ⟨x, hx⟩ : ∃ x, x = F.getD cn 0 := ⟨_, rfl⟩
   have eF : vgd F cn = x := by simp only [qgd]; exact hx.symm
   have hxr := hFr.rng cn
   rw [← hx] at hxr
   have ex1 : vb .add .u32 x 1 = x + 1 := by rw [qb]; exact u32_one hxr hjn h2
   obtain ⟨F1, hF1⟩ : ∃ F1, F1 = F.set cn (x + 1) := ⟨_, rfl⟩
   have eS : vst F cn (x + 1) = F1 := by simp only [qst]; exact hF1.symm
   obtain ⟨ji1, hj1⟩ : ∃ ji1 : Int, ji1 = ((j + 1 : Nat) : Int) := ⟨_, rfl⟩
   have ej1 : vb .add .i64 ji 1 = ji1 := by rw [qb]; exact nextc hj hj1 (Nat.le_trans hjn (Nat.le_trans h2 (by decide)))
   have hgj : vgd codes j = c := by rw [hgc, hcv]
   have hst := frq_step (c := cn) hFr (by rw [← hcv, hcn]) (ltn hcn hcr.2)
   rw [← hx, ← hF1] at hst
   have hin2 : 0 ≤ ji ∧ ji < (n : Int) := inc0 hj hlt
   have hin3 : 0 ≤ c ∧ c < (M : Int) := hcr
   have hlF : vln F = M := by rw [hln]; exact hFl
   have hlF1 : vln F1 = M := by rw [hln, hF1, List.length_set]; exact hFl
   have hcM : cn < M := ltn hcn hcr.2
   have hso := (hFr.som ▸ somN_rg F M : 0 ≤ so ∧ so ≤ M)
   have hmu : n - (j + 1) < n - j := by omega
   have hj1n : j + 1 ≤ n := by omega
   cbv
   rw [hl1]
   cbv
   rw [etj]
   refine ⟨⟨hin2⟩, ⟨by rw [hadd0, hlc]; exact hlt⟩, ⟨by rw [hlc]; exact hlt⟩, ?_⟩
   rw [hgj, etc]
   refine ⟨⟨hin3⟩, ⟨by rw [hlF]; exact hcM⟩, ?_⟩
   rw [eF]
   have e10 : vb .add .i64 so 1 = so + 1 := by rw [qb]; exact one_more hso hM5
   obtain ⟨so1, hso1⟩ : ∃ so1, so1 = so + 1 := ⟨_, rfl⟩
   rw [← hso1] at e10
   cases hz : vc .eql x 0
   ·have hzn : x ≠ 0 := by rw [qc, eql_false] at hz; exact hz
    rw [if_neg hzn, Int.add_zero] at hst
    cbv
    rw [etc]
    repeat (first | refine And.intro ⟨hin3⟩ ?_ | refine And.intro ⟨by rw [hlF]; exact hcM⟩ ?_)
    rw [eF, ex1, eS, ej1]
    refine Cv.fold ([8] ++ (List.range' 30 17)) 17 [] (by exact Nat.le_refl _) (by exact Nat.le_of_ble_eq_true rfl) (by rfl) (by cbv) ?_
    intro js
    exact ⟨(ji1, so, j + 1, F1), ⟨⟨hj1, hj1n, hst⟩, hmu⟩, js, rfl⟩
   ·have hz0 : x = 0 := by rw [qc, eql_true] at hz; exact hz
    rw [if_pos hz0, ← hso1] at hst
    cbv
    rw [e10]
    rw [etc]
    repeat (first | refine And.intro ⟨hin3⟩ ?_ | refine And.intro ⟨by rw [hlF]; exact hcM⟩ ?_)
    rw [eF, ex1, eS, ej1]
    refine Cv.fold ([8] ++ (List.range' 30 17)) 17 [] (by exact Nat.le_refl _) (by exact Nat.le_of_ble_eq_true rfl) (by rfl) (by cbv) ?_
    intro js
    exact ⟨(ji1, so1, j + 1, F1), ⟨⟨hj1, hj1n, hst⟩, hmu⟩, js, rfl⟩
  ·have hl1 : vc .lss ji ni = false := by rw [qc, lss_false]; exact gec hj hni hlt
   have hjn2 : j = n := Nat.le_antisymm hjn (Nat.le_of_not_lt hlt)
   rw [hjn2, hn] at hFr
   have hS := hFr.som
   have hso := (hS ▸ somN_rg F M : 0 ≤ so ∧ so ≤ M)
   have hrM : ∀ c ∈ codes, 0 ≤ c ∧ c < (M : Int) := fun c hc => by rw [hM]; exact hr c hc
   have hlF : vln F = M := by rw [hln]; exact hFl
   clear hlt hj hjn hjn2
   by_cases h1s : so = 1
   ·have hone : vc .eql so 1 = true := by rw [qc, eql_true]; exact h1s
    subst h1s
    have hall := frq_one hFr hrM (by rw [← hn]; exact h1)
    obtain ⟨c, hcv⟩ : ∃ c, c = codes.getD 0 0 := ⟨_, rfl⟩
    have hc0 := hrc 0 (Nat.lt_of_lt_of_le Nat.zero_lt_one h1)
    rw [← hcv] at hall hc0
    have hin4 : (0 : Int) ≤ 0 ∧ (0 : Int) < (n : Int) := inc0 (a := 0) rfl (Nat.lt_of_lt_of_le Nat.zero_lt_one h1)
    have hg0 : vgd codes 0 = c := by rw [hgc, hcv]
    have hw8 : vw .u8 c = c := by rw [qw]; exact wrap_u8 hc0.1 (Int.lt_of_lt_of_le hc0.2 (by rw [hM]; decide))
    have h0n : 0 < n := h1
    cbv
    rw [hl1]
    cbv
    rw [hone]
    cbv
    refine ⟨⟨hin4⟩, ⟨by rw [hadd0, hlc]; exact h0n⟩, ⟨by rw [hlc]; exact h0n⟩, ⟨hin4⟩, ⟨by rw [hadd0, hlc]; exact h0n⟩, ⟨by rw [hlc]; exact h0n⟩, ?_⟩
    have hlt0 : Lt 0 (vln codes) ∧ True := ⟨⟨by rw [hlc]; exact h0n⟩, trivial⟩
    rw [hg0, hw8]
    have hchs := chs_one (lg := 8) (most := 31) (ah := 5) (c := c) (cnt := cntB) (codes := codes) ⟨hc0.1, Int.lt_add_one_iff.1 (Int.lt_of_lt_of_le hc0.2 (by rw [hM]; decide))⟩ (by decide) hall
    refine ⟨⟨hlt0, hlt0, hlt0, hlt0, ?_⟩, ⟨hlt0, hlt0, hlt0, hlt0, ?_⟩⟩
    ·refine ⟨[], [0, 1, 2, 3, 4, 5, 6, 7, 8, 9, 10, 11, 12, 13, 14, 18, 17], .agg [.lit .u8 1, .slice 16 .z 1 1 1, .slice 15 .z 3 1 1], [.one 59 [.int .i64 9, .int .i64 35, .int .i64 6, .slice 2 .z 1 36 36, .fn 90 [.ptr 6 .z 1 0, .ptr 9 .z 1 0, .ptr 8 .z 1 0, .ptr 7 .z 1 0], .fn 91 [.ptr 8 .z 1 0, .ptr 9 .z 1 0, .ptr 6 .z 1 0, .ptr 7 .z 1 0], .fn 60 [], .int .i64 8, .int .i64 31, .int .i64 5, .slice 3 .z 1 29 29, .fn 64 [], .fn 65 [], .fn 63 [], .int .i64 9, .int .i64 52, .int .i64 6, .slice 4 .z 1 53 cm, .fn 90 [.ptr 11 .z 1 0, .ptr 14 .z 1 0, .ptr 13 .z 1 0, .ptr 12 .z 1 0], .fn 91 [.ptr 13 .z 1 0, .ptr 14 .z 1 0, .ptr 11 .z 1 0, .ptr 12 .z 1 0], .fn 62 []], .ro .i64 codes, .ints 124 .i16 cL, .ints 124 .i16 cB, .buf 124 .i16 cM cm, .ints 3 .i64 bL, .one 3 [.int .i64 16], .one 63 [.slice 5 .z 1 20 20], .ints 173 .i64 gL, .one 3 [.int .i64 0], .ints 3 .i64 bM, .one 3 [.int .i64 32], .one 63 [.slice 10 .z 1 21 21], .ints 173 .i64 gM, .one 3 [.int .i64 3], .bufR 79 3 [.int .u8 c, .lit .u8 0, .lit .u16 0] 1, .ints 5 .u8 [c]], rfl, rfl, rfl, rfl, rfl, ?_, ?_⟩
     ·exact ⟨rfl, rfl, rfl, rfl, rfl, rfl, rfl, rfl, rfl, rfl, rfl, rfl, rfl, rfl, rfl, rfl, rfl, trivial⟩
     ·exact .inl ⟨rfl, 1, [c], 1, fun _ => c, fun _ => 0, fun _ => 0, 1, 1, 1, 1, hchs, rfl, rfl⟩
    ·refine ⟨[], [0, 1, 2, 3, 4, 5, 6, 7, 8, 9, 10, 11, 12, 13, 14, 17, 18], .agg [.lit .u8 1, .slice 16 .z 1 1 1, .slice 15 .z 3 1 1], [.one 59 [.int .i64 9, .int .i64 35, .int .i64 6, .slice 2 .z 1 36 36, .fn 90 [.ptr 6 .z 1 0, .ptr 9 .z 1 0, .ptr 8 .z 1 0, .ptr 7 .z 1 0], .fn 91 [.ptr 8 .z 1 0, .ptr 9 .z 1 0, .ptr 6 .z 1 0, .ptr 7 .z 1 0], .fn 60 [], .int .i64 8, .int .i64 31, .int .i64 5, .slice 3 .z 1 29 29, .fn 64 [], .fn 65 [], .fn 63 [], .int .i64 9, .int .i64 52, .int .i64 6, .slice 4 .z 1 53 cm, .fn 90 [.ptr 11 .z 1 0, .ptr 14 .z 1 0, .ptr 13 .z 1 0, .ptr 12 .z 1 0], .fn 91 [.ptr 13 .z 1 0, .ptr 14 .z 1 0, .ptr 11 .z 1 0, .ptr 12 .z 1 0], .fn 62 []], .ro .i64 codes, .ints 124 .i16 cL, .ints 124 .i16 cB, .buf 124 .i16 cM cm, .ints 3 .i64 bL, .one 3 [.int .i64 16], .one 63 [.slice 5 .z 1 20 20], .ints 173 .i64 gL, .one 3 [.int .i64 0], .ints 3 .i64 bM, .one 3 [.int .i64 32], .one 63 [.slice 10 .z 1 21 21], .ints 173 .i64 gM, .one 3 [.int .i64 3], .bufR 79 3 [.int .u8 c, .lit .u8 0, .lit .u16 0] 1, .ints 5 .u8 [c]], rfl, rfl, rfl, rfl, rfl, ?_, ?_⟩
     ·exact ⟨rfl, rfl, rfl, rfl, rfl, rfl, rfl, rfl, rfl, rfl, rfl, rfl, rfl, rfl, rfl, rfl, rfl, trivial⟩
     ·exact .inl ⟨rfl, 1, [c], 1, fun _ => c, fun _ => 0, fun _ => 0, 1, 1, 1, 1, hchs, rfl, rfl⟩
   ·have hone : vc .eql so 1 = false := by rw [qc, eql_false]; exact h1s
    obtain ⟨Mi, hMi⟩ : ∃ Mi : Int, Mi = M := ⟨_, rfl⟩
    have eMi : vofN M = Mi := by rw [hofn, hMi]
    cbv
    rw [hl1]
    cbv
    rw [hone]
    cbv
    rw [eMi]
    refine loop_fam (α := Int × Bool × Nat) ([10, 11] ++ (List.range' 64 29)) [] (fun (ki, b, k) => [(63, .int .i64 ki), (9, .bool b)]) (fun _ => [])
     (fun (ki, b, k) => ki = k ∧ k ≤ M ∧ (b = true → ∀ s : Nat, s < k → F.getD s 0 ≠ 0 → s < 29 ∧ cB.getD s 0 ≠ 0)) (fun (ki, b, k) => M - k) hw hm ?_ ?_
    ·refine Cv.genAt [63, 9] [] (Cv.fold ([10, 11] ++ (List.range' 64 29)) 17 [] (by exact Nat.le_refl _) (by exact Nat.le_of_ble_eq_true rfl) (by rfl) (by cbv) ?_)
     intro js
     refine ⟨(0, true, 0), ?_, js, rfl⟩
     exact ⟨rfl, Nat.zero_le _, fun _ s hs => absurd hs (Nat.not_lt_zero s)⟩
    ·rintro ⟨ki, b, k⟩ js ⟨hk, hkM, hfit⟩
     by_cases hlt : k < M
     ·have hl2 : vc .lss ki Mi = true := by rw [qc, lss_true]; exact ltc hk hMi hlt
      have etk : vtoN ki = k := by rw [hk]; exact hto k
      obtain ⟨x, hx⟩ : ∃ x, x = F.getD k 0 := ⟨_, rfl⟩
      have eF : vgd F k = x := by simp only [qgd]; exact hx.symm
      obtain ⟨ki1, hk1⟩ : ∃ ki1 : Int, ki1 = ((k + 1 : Nat) : Int) := ⟨_, rfl⟩
      have ek1 : vb .add .i64 ki 1 = ki1 := by rw [qb]; exact nextc hk hk1 (Nat.le_trans hkM (Nat.le_trans hM5 (by decide)))
      have hin5 : 0 ≤ ki ∧ ki < (M : Int) := inc0 hk hlt
      have hmu : M - (k + 1) < M - k := Nat.sub_lt_sub_left hlt (Nat.lt_succ_self k)
      have hlc2 : vln cB = 29 := by rw [hln]; exact hlen
      have hk1M : k + 1 ≤ M := hlt
      cbv
      rw [hl2]
      cbv
      rw [etk]
      refine ⟨⟨hin5⟩, ⟨by rw [hlF]; exact hlt⟩, ?_⟩
      rw [eF]
      cases b
      ·cbv
       rw [ek1]
       refine Cv.fold ([10, 11] ++ (List.range' 64 29)) 17 [] (by exact Nat.le_refl _) (by exact Nat.le_of_ble_eq_true rfl) (by rfl) (by cbv) ?_
       intro js
       exact ⟨(ki1, false, k + 1), ⟨⟨hk1, hk1M, fun h => by cases h⟩, hmu⟩, js, rfl⟩
      ·have hfit := hfit rfl
       cbv
       cases hz : vc .eql x 0
       ·have hzn : x ≠ 0 := by rw [qc, eql_false] at hz; exact hz
        cbv
        rw [hof1]
        cases hl3 : vc .lss ki 29
        ·cbv
         rw [ek1]
         refine Cv.fold ([10, 11] ++ (List.range' 64 29)) 17 [] (by exact Nat.le_refl _) (by exact Nat.le_of_ble_eq_true rfl) (by rfl) (by cbv) ?_
         intro js
         exact ⟨(ki1, false, k + 1), ⟨⟨hk1, hk1M, fun h => by cases h⟩, hmu⟩, js, rfl⟩
        ·have hkl : ki < 29 := by rw [qc, lss_true] at hl3; exact hl3
         have hkn : k < 29 := ltn (b := 29) hk hkl
         have hin6 : 0 ≤ ki ∧ ki < 29 := ⟨hin5.1, hkl⟩
         obtain ⟨y, hy⟩ : ∃ y, y = cB.getD k 0 := ⟨_, rfl⟩
         have eY : vgd cB k = y := by simp only [qgd]; exact hy.symm
         cbv
         rw [etk]
         repeat (first | refine And.intro ⟨hin6⟩ ?_ | refine And.intro ⟨by rw [hlc2]; exact hkn⟩ ?_ | refine And.intro ⟨by rw [hadd0, hlc2]; exact hkn⟩ ?_)
         rw [eY]
         rw [ek1]
         refine Cv.fold ([10, 11] ++ (List.range' 64 29)) 17 [] (by exact Nat.le_refl _) (by exact Nat.le_of_ble_eq_true rfl) (by rfl) (by cbv) ?_
         intro js
         exact ⟨(ki1, vc .neq y 0, k + 1), ⟨⟨hk1, hk1M, fun h => fit_step hfit (fun _ => ⟨hkn, by rw [qc, neq_true] at h; rw [← hy]; exact h⟩)⟩, hmu⟩, js, rfl⟩
       ·have hz0 : x = 0 := by rw [qc, eql_true] at hz; exact hz
        cbv
        rw [ek1]
        refine Cv.fold ([10, 11] ++ (List.range' 64 29)) 17 [] (by exact Nat.le_refl _) (by exact Nat.le_of_ble_eq_true rfl) (by rfl) (by cbv) ?_
        intro js
        exact ⟨(ki1, true, k + 1), ⟨⟨hk1, hk1M, fun _ => fit_step hfit (fun h => absurd (hx ▸ hz0 : F.getD k 0 = 0) h)⟩, hmu⟩, js, rfl⟩
     ·have hl2 : vc .lss ki Mi = false := by rw [qc, lss_false]; exact gec hk hMi hlt
      have hkM2 : k = M := Nat.le_antisymm hkM (Nat.le_of_not_lt hlt)
      subst hkM2
      clear hlt
      cbv
      rw [hl2]
      cbv
      refine loop_fam (α := Int) ((List.range' 93 16)) [] (fun lg => [(12, .int .i64 lg)]) (fun _ => []) (fun lg => 6 ≤ lg ∧ lg ≤ 8) (fun lg => (8 - lg).toNat) hw hm ?_ ?_
      ·refine Cv.genAt [12] [] (Cv.fold ((List.range' 93 16)) 17 [] (by exact Nat.le_refl _) (by exact Nat.le_of_ble_eq_true rfl) (by rfl) (by cbv) ?_)
       intro js
       refine ⟨6, ?_, js, rfl⟩
       exact ⟨by decide, by decide⟩
      ·rintro lg js hlg
       have hAb := able_frq hFr (by rw [hM]; decide) (lg := lg) ⟨hlg.1, Int.le_trans hlg.2 (by decide)⟩ (by rw [← hn]; exact h1) (by rw [← hn]; exact hrc)
       have hlog : -9223372036854775808 ≤ lg ∧ lg ≤ 9223372036854775807 := ⟨Int.le_trans (by decide) hlg.1, Int.le_trans hlg.2 (by decide)⟩
       have hCt := hCt F lg k (fun c hc => u32_of hFr hc (Nat.le_trans (Nat.le_of_eq hn.symm) h2)) hlog (by rw [hFl]; exact Nat.le_trans hM5 (by decide))
       rw [hFl] at hCt
       obtain ⟨lg1, hlg1⟩ : ∃ lg1, lg1 = lg + 1 := ⟨_, rfl⟩
       have hw64 : vw .u64 lg = lg := by rw [qw]; exact wrap_u64 (Int.le_trans (by decide) hlg.1) (Int.lt_of_le_of_lt hlg.2 (by decide))
       have elg : vb .add .i64 lg 1 = lg1 := by rw [qb]; exact logN ⟨hlg.1, Int.le_trans hlg.2 (by decide)⟩ hlg1
       cbv
       cases hlk : vc .lss lg 8
       ·cbv
        rw [en]
        cases h40 : vc .lss ni 40
        ·cbv
         refine call_con (ρ := [(16, .z)]) hCt ⟨by rfl, by rfl, by rfl, by cbv; exact ⟨view_refl _, trivial⟩⟩ ?_
         rintro v H R js ⟨rfl, (⟨hna, _⟩ | ⟨_, cs, ⟨hRc, hcl, hc16, hciff⟩, rfl, rfl⟩)⟩
         ·exact absurd hAb hna
         have hWr := fun cap => hWr cs lg cap hc16 hlog hRc
         obtain ⟨⟨N, A, B, C⟩, hTT⟩ : ∃ T : Tb, T = mkT cs lg := ⟨_, rfl⟩
         have hTb := fun cap => hTb cs lg cap hc16 hlog hRc N A B C hTT
         have hchs := chs_two (lg := 8) (most := 31) (ah := 5) (cnt := cntB) (codes := codes) hRc hlg.2 (by decide) (cl_le hcl hFl hM) (by decide) (fit_codes hFr hrM (fun s hs h0 => (hciff s (by rw [hFl]; exact hs)).1 (pos_of (hFr.rng s).1 h0)))
         obtain ⟨hdv, hhd⟩ : ∃ hd, hd = pack (wbits cs lg) := ⟨_, rfl⟩
         rw [← hTT, ← hhd] at hchs
         clear hRc hcl hc16 hciff hfit hTT
         obtain ⟨cl, hcl⟩ : ∃ cl, cl = cs.length := ⟨_, rfl⟩
         simp only [← hcl] at hWr hTb ⊢
         cbv
         (repeat refine And.intro (fun _ => rfl) ?_)
         cbv
         refine call_con (ρ := [(17, .z)]) (hWr cl) ⟨by rfl, by rfl, by rfl, by cbv; exact ⟨view_refl _, trivial⟩⟩ ?_
         rintro v H R js ⟨rfl, l', n', m', c, c', ⟨_, hl', hn', _⟩, rfl, rfl⟩
         rw [← hhd] at hl'
         subst hl'
         cbv
         (repeat refine And.intro (fun _ => rfl) ?_)
         cbv
         refine call_con (ρ := [(17, .z)]) (hTb cl) ⟨by rfl, by rfl, by rfl, by cbv; exact ⟨view_refl _, trivial⟩⟩ ?_
         rintro v H R js ⟨rfl, rfl, rfl⟩
         cbv
         (repeat refine And.intro (fun _ => rfl) ?_)
         refine ⟨[], [0, 1, 2, 3, 4, 5, 6, 7, 8, 9, 10, 11, 12, 13, 14, 21, 20], .agg [.lit .u8 2, .slice 16 .z 1 n' c', .slice 15 .z 3 N N], [.one 59 [.int .i64 9, .int .i64 35, .int .i64 6, .slice 2 .z 1 36 36, .fn 90 [.ptr 6 .z 1 0, .ptr 9 .z 1 0, .ptr 8 .z 1 0, .ptr 7 .z 1 0], .fn 91 [.ptr 8 .z 1 0, .ptr 9 .z 1 0, .ptr 6 .z 1 0, .ptr 7 .z 1 0], .fn 60 [], .int .i64 8, .int .i64 31, .int .i64 5, .slice 3 .z 1 29 29, .fn 64 [], .fn 65 [], .fn 63 [], .int .i64 9, .int .i64 52, .int .i64 6, .slice 4 .z 1 53 cm, .fn 90 [.ptr 11 .z 1 0, .ptr 14 .z 1 0, .ptr 13 .z 1 0, .ptr 12 .z 1 0], .fn 91 [.ptr 13 .z 1 0, .ptr 14 .z 1 0, .ptr 11 .z 1 0, .ptr 12 .z 1 0], .fn 62 []], .ro .i64 codes, .ints 124 .i16 cL, .ints 124 .i16 cB, .buf 124 .i16 cM cm, .ints 3 .i64 bL, .one 3 [.int .i64 16], .one 63 [.slice 5 .z 1 20 20], .ints 173 .i64 gL, .one 3 [.int .i64 0], .ints 3 .i64 bM, .one 3 [.int .i64 32], .one 63 [.slice 10 .z 1 21 21], .ints 173 .i64 gM, .one 3 [.int .i64 3], .arr 79 3 N (fun m => [.int .u8 (A m), .int .u8 (B m), .int .u16 (C m)]), .buf 5 .u8 l' c'], rfl, rfl, rfl, rfl, rfl, ?_, ?_⟩
         ·exact ⟨rfl, rfl, rfl, rfl, rfl, rfl, rfl, rfl, rfl, rfl, rfl, rfl, rfl, rfl, rfl, rfl, fun _ => rfl, rfl, trivial⟩
         ·exact .inl ⟨rfl, 2, l', N, A, B, C, c', c', N, N, hchs, by rw [hn']; rfl, rfl⟩
        ·cases b
         ·cbv
          refine call_con (ρ := [(16, .z)]) hCt ⟨by rfl, by rfl, by rfl, by cbv; exact ⟨view_refl _, trivial⟩⟩ ?_
          rintro v H R js ⟨rfl, (⟨hna, _⟩ | ⟨_, cs, ⟨hRc, hcl, hc16, hciff⟩, rfl, rfl⟩)⟩
          ·exact absurd hAb hna
          have hWr := fun cap => hWr cs lg cap hc16 hlog hRc
          obtain ⟨⟨N, A, B, C⟩, hTT⟩ : ∃ T : Tb, T = mkT cs lg := ⟨_, rfl⟩
          have hTb := fun cap => hTb cs lg cap hc16 hlog hRc N A B C hTT
          have hchs := chs_two (lg := 8) (most := 31) (ah := 5) (cnt := cntB) (codes := codes) hRc hlg.2 (by decide) (cl_le hcl hFl hM) (by decide) (fit_codes hFr hrM (fun s hs h0 => (hciff s (by rw [hFl]; exact hs)).1 (pos_of (hFr.rng s).1 h0)))
          obtain ⟨hdv, hhd⟩ : ∃ hd, hd = pack (wbits cs lg) := ⟨_, rfl⟩
          rw [← hTT, ← hhd] at hchs
          clear hRc hcl hc16 hciff hfit hTT
          obtain ⟨cl, hcl⟩ : ∃ cl, cl = cs.length := ⟨_, rfl⟩
          simp only [← hcl] at hWr hTb ⊢
          cbv
          (repeat refine And.intro (fun _ => rfl) ?_)
          cbv
          refine call_con (ρ := [(17, .z)]) (hWr cl) ⟨by rfl, by rfl, by rfl, by cbv; exact ⟨view_refl _, trivial⟩⟩ ?_
          rintro v H R js ⟨rfl, l', n', m', c, c', ⟨_, hl', hn', _⟩, rfl, rfl⟩
          rw [← hhd] at hl'
          subst hl'
          cbv
          (repeat refine And.intro (fun _ => rfl) ?_)
          cbv
          refine call_con (ρ := [(17, .z)]) (hTb cl) ⟨by rfl, by rfl, by rfl, by cbv; exact ⟨view_refl _, trivial⟩⟩ ?_
          rintro v H R js ⟨rfl, rfl, rfl⟩
          cbv
          (repeat refine And.intro (fun _ => rfl) ?_)
          refine ⟨[], [0, 1, 2, 3, 4, 5, 6, 7, 8, 9, 10, 11, 12, 13, 14, 21, 20], .agg [.lit .u8 2, .slice 16 .z 1 n' c', .slice 15 .z 3 N N], [.one 59 [.int .i64 9, .int .i64 35, .int .i64 6, .slice 2 .z 1 36 36, .fn 90 [.ptr 6 .z 1 0, .ptr 9 .z 1 0, .ptr 8 .z 1 0, .ptr 7 .z 1 0], .fn 91 [.ptr 8 .z 1 0, .ptr 9 .z 1 0, .ptr 6 .z 1 0, .ptr 7 .z 1 0], .fn 60 [], .int .i64 8, .int .i64 31, .int .i64 5, .slice 3 .z 1 29 29, .fn 64 [], .fn 65 [], .fn 63 [], .int .i64 9, .int .i64 52, .int .i64 6, .slice 4 .z 1 53 cm, .fn 90 [.ptr 11 .z 1 0, .ptr 14 .z 1 0, .ptr 13 .z 1 0, .ptr 12 .z 1 0], .fn 91 [.ptr 13 .z 1 0, .ptr 14 .z 1 0, .ptr 11 .z 1 0, .ptr 12 .z 1 0], .fn 62 []], .ro .i64 codes, .ints 124 .i16 cL, .ints 124 .i16 cB, .buf 124 .i16 cM cm, .ints 3 .i64 bL, .one 3 [.int .i64 16], .one 63 [.slice 5 .z 1 20 20], .ints 173 .i64 gL, .one 3 [.int .i64 0], .ints 3 .i64 bM, .one 3 [.int .i64 32], .one 63 [.slice 10 .z 1 21 21], .ints 173 .i64 gM, .one 3 [.int .i64 3], .arr 79 3 N (fun m => [.int .u8 (A m), .int .u8 (B m), .int .u16 (C m)]), .buf 5 .u8 l' c'], rfl, rfl, rfl, rfl, rfl, ?_, ?_⟩
          ·exact ⟨rfl, rfl, rfl, rfl, rfl, rfl, rfl, rfl, rfl, rfl, rfl, rfl, rfl, rfl, rfl, rfl, fun _ => rfl, rfl, trivial⟩
          ·exact .inl ⟨rfl, 2, l', N, A, B, C, c', c', N, N, hchs, by rw [hn']; rfl, rfl⟩
         ·cbv
          refine call_con (ρ := [(3, .z)]) hT ⟨by rfl, by rfl, by rfl, by cbv; exact ⟨view_refl _, trivial⟩⟩ ?_
          rintro v H R js ⟨rfl, rfl, rfl⟩
          cbv
          (repeat refine And.intro (fun _ => rfl) ?_)
          cbv
          have hchs0 := chs_zero (lg := 8) (most := 31) (codes := codes) hR0 (by rw [hlen]; decide) (fit_codes hFr hrM (fun s hs h0 => by rw [hlen]; exact hfit rfl s hs h0))
          rw [← hT0, hc] at hchs0
          refine ⟨[], [0, 1, 2, 3, 4, 5, 6, 7, 8, 9, 10, 11, 12, 13, 14, 17], .agg [.lit .u8 0, .val (.slice none 0 0), .slice 15 .z 3 N0 N0], [.one 59 [.int .i64 9, .int .i64 35, .int .i64 6, .slice 2 .z 1 36 36, .fn 90 [.ptr 6 .z 1 0, .ptr 9 .z 1 0, .ptr 8 .z 1 0, .ptr 7 .z 1 0], .fn 91 [.ptr 8 .z 1 0, .ptr 9 .z 1 0, .ptr 6 .z 1 0, .ptr 7 .z 1 0], .fn 60 [], .int .i64 8, .int .i64 31, .int .i64 5, .slice 3 .z 1 29 29, .fn 64 [], .fn 65 [], .fn 63 [], .int .i64 9, .int .i64 52, .int .i64 6, .slice 4 .z 1 53 cm, .fn 90 [.ptr 11 .z 1 0, .ptr 14 .z 1 0, .ptr 13 .z 1 0, .ptr 12 .z 1 0], .fn 91 [.ptr 13 .z 1 0, .ptr 14 .z 1 0, .ptr 11 .z 1 0, .ptr 12 .z 1 0], .fn 62 []], .ro .i64 codes, .ints 124 .i16 cL, .ints 124 .i16 cB, .buf 124 .i16 cM cm, .ints 3 .i64 bL, .one 3 [.int .i64 16], .one 63 [.slice 5 .z 1 20 20], .ints 173 .i64 gL, .one 3 [.int .i64 0], .ints 3 .i64 bM, .one 3 [.int .i64 32], .one 63 [.slice 10 .z 1 21 21], .ints 173 .i64 gM, .one 3 [.int .i64 3], .arr 79 3 N0 (fun m => [.int .u8 (A0 m), .int .u8 (B0 m), .int .u16 (C0 m)])], rfl, rfl, rfl, rfl, rfl, ?_, ?_⟩
          ·exact ⟨rfl, rfl, rfl, rfl, rfl, rfl, rfl, rfl, rfl, rfl, rfl, rfl, rfl, rfl, rfl, rfl, fun _ => rfl, trivial⟩
          ·exact .inr ⟨.agg [.int .u8 0, .slice 16 .z 1 0 0, .slice 15 .z 3 N0 N0], by rfl, ⟨fun _ => rfl, trivial⟩, fun σ h => by have h : σ 16 = none := h; simp [den, denL, gen, genL, h], rfl, 0, [], N0, A0, B0, C0, 0, 0, N0, N0, hchs0, rfl, rfl⟩
       ·have hlt9 : lg < 8 := by rw [qc, lss_true] at hlk; exact hlk
        cbv
        rw [en]
        refine ⟨⟨by rw [hw64]; exact Int.le_trans (by decide) hlg.1⟩, ?_⟩
        generalize vc .lss (vb .shl .i64 1 (vw .u64 lg)) ni = z
        cases z
        ·cbv
         rw [en]
         cases h40 : vc .lss ni 40
         ·cbv
          refine call_con (ρ := [(16, .z)]) hCt ⟨by rfl, by rfl, by rfl, by cbv; exact ⟨view_refl _, trivial⟩⟩ ?_
          rintro v H R js ⟨rfl, (⟨hna, _⟩ | ⟨_, cs, ⟨hRc, hcl, hc16, hciff⟩, rfl, rfl⟩)⟩
          ·exact absurd hAb hna
          have hWr := fun cap => hWr cs lg cap hc16 hlog hRc
          obtain ⟨⟨N, A, B, C⟩, hTT⟩ : ∃ T : Tb, T = mkT cs lg := ⟨_, rfl⟩
          have hTb := fun cap => hTb cs lg cap hc16 hlog hRc N A B C hTT
          have hchs := chs_two (lg := 8) (most := 31) (ah := 5) (cnt := cntB) (codes := codes) hRc hlg.2 (by decide) (cl_le hcl hFl hM) (by decide) (fit_codes hFr hrM (fun s hs h0 => (hciff s (by rw [hFl]; exact hs)).1 (pos_of (hFr.rng s).1 h0)))
          obtain ⟨hdv, hhd⟩ : ∃ hd, hd = pack (wbits cs lg) := ⟨_, rfl⟩
          rw [← hTT, ← hhd] at hchs
          clear hRc hcl hc16 hciff hfit hTT
          obtain ⟨cl, hcl⟩ : ∃ cl, cl = cs.length := ⟨_, rfl⟩
          simp only [← hcl] at hWr hTb ⊢
          cbv
          (repeat refine And.intro (fun _ => rfl) ?_)
          cbv
          refine call_con (ρ := [(17, .z)]) (hWr cl) ⟨by rfl, by rfl, by rfl, by cbv; exact ⟨view_refl _, trivial⟩⟩ ?_
          rintro v H R js ⟨rfl, l', n', m', c, c', ⟨_, hl', hn', _⟩, rfl, rfl⟩
          rw [← hhd] at hl'
          subst hl'
          cbv
          (repeat refine And.intro (fun _ => rfl) ?_)
          cbv
          refine call_con (ρ := [(17, .z)]) (hTb cl) ⟨by rfl, by rfl, by rfl, by cbv; exact ⟨view_refl _, trivial⟩⟩ ?_
          rintro v H R js ⟨rfl, rfl, rfl⟩
          cbv
          (repeat refine And.intro (fun _ => rfl) ?_)
          refine ⟨[], [0, 1, 2, 3, 4, 5, 6, 7, 8, 9, 10, 11, 12, 13, 14, 21, 20], .agg [.lit .u8 2, .slice 16 .z 1 n' c', .slice 15 .z 3 N N], [.one 59 [.int .i64 9, .int .i64 35, .int .i64 6, .slice 2 .z 1 36 36, .fn 90 [.ptr 6 .z 1 0, .ptr 9 .z 1 0, .ptr 8 .z 1 0, .ptr 7 .z 1 0], .fn 91 [.ptr 8 .z 1 0, .ptr 9 .z 1 0, .ptr 6 .z 1 0, .ptr 7 .z 1 0], .fn 60 [], .int .i64 8, .int .i64 31, .int .i64 5, .slice 3 .z 1 29 29, .fn 64 [], .fn 65 [], .fn 63 [], .int .i64 9, .int .i64 52, .int .i64 6, .slice 4 .z 1 53 cm, .fn 90 [.ptr 11 .z 1 0, .ptr 14 .z 1 0, .ptr 13 .z 1 0, .ptr 12 .z 1 0], .fn 91 [.ptr 13 .z 1 0, .ptr 14 .z 1 0, .ptr 11 .z 1 0, .ptr 12 .z 1 0], .fn 62 []], .ro .i64 codes, .ints 124 .i16 cL, .ints 124 .i16 cB, .buf 124 .i16 cM cm, .ints 3 .i64 bL, .one 3 [.int .i64 16], .one 63 [.slice 5 .z 1 20 20], .ints 173 .i64 gL, .one 3 [.int .i64 0], .ints 3 .i64 bM, .one 3 [.int .i64 32], .one 63 [.slice 10 .z 1 21 21], .ints 173 .i64 gM, .one 3 [.int .i64 3], .arr 79 3 N (fun m => [.int .u8 (A m), .int .u8 (B m), .int .u16 (C m)]), .buf 5 .u8 l' c'], rfl, rfl, rfl, rfl, rfl, ?_, ?_⟩
          ·exact ⟨rfl, rfl, rfl, rfl, rfl, rfl, rfl, rfl, rfl, rfl, rfl, rfl, rfl, rfl, rfl, rfl, fun _ => rfl, rfl, trivial⟩
          ·exact .inl ⟨rfl, 2, l', N, A, B, C, c', c', N, N, hchs, by rw [hn']; rfl, rfl⟩
         ·cases b
          ·cbv
           refine call_con (ρ := [(16, .z)]) hCt ⟨by rfl, by rfl, by rfl, by cbv; exact ⟨view_refl _, trivial⟩⟩ ?_
           rintro v H R js ⟨rfl, (⟨hna, _⟩ | ⟨_, cs, ⟨hRc, hcl, hc16, hciff⟩, rfl, rfl⟩)⟩
           ·exact absurd hAb hna
           have hWr := fun cap => hWr cs lg cap hc16 hlog hRc
           obtain ⟨⟨N, A, B, C⟩, hTT⟩ : ∃ T : Tb, T = mkT cs lg := ⟨_, rfl⟩
           have hTb := fun cap => hTb cs lg cap hc16 hlog hRc N A B C hTT
           have hchs := chs_two (lg := 8) (most := 31) (ah := 5) (cnt := cntB) (codes := codes) hRc hlg.2 (by decide) (cl_le hcl hFl hM) (by decide) (fit_codes hFr hrM (fun s hs h0 => (hciff s (by rw [hFl]; exact hs)).1 (pos_of (hFr.rng s).1 h0)))
           obtain ⟨hdv, hhd⟩ : ∃ hd, hd = pack (wbits cs lg) := ⟨_, rfl⟩
           rw [← hTT, ← hhd] at hchs
           clear hRc hcl hc16 hciff hfit hTT
           obtain ⟨cl, hcl⟩ : ∃ cl, cl = cs.length := ⟨_, rfl⟩
           simp only [← hcl] at hWr hTb ⊢
           cbv
           (repeat refine And.intro (fun _ => rfl) ?_)
           cbv
           refine call_con (ρ := [(17, .z)]) (hWr cl) ⟨by rfl, by rfl, by rfl, by cbv; exact ⟨view_refl _, trivial⟩⟩ ?_
           rintro v H R js ⟨rfl, l', n', m', c, c', ⟨_, hl', hn', _⟩, rfl, rfl⟩
           rw [← hhd] at hl'
           subst hl'
           cbv
           (repeat refine And.intro (fun _ => rfl) ?_)
           cbv
           refine call_con (ρ := [(17, .z)]) (hTb cl) ⟨by rfl, by rfl, by rfl, by cbv; exact ⟨view_refl _, trivial⟩⟩ ?_
           rintro v H R js ⟨rfl, rfl, rfl⟩
           cbv
           (repeat refine And.intro (fun _ => rfl) ?_)
           refine ⟨[], [0, 1, 2, 3, 4, 5, 6, 7, 8, 9, 10, 11, 12, 13, 14, 21, 20], .agg [.lit .u8 2, .slice 16 .z 1 n' c', .slice 15 .z 3 N N], [.one 59 [.int .i64 9, .int .i64 35, .int .i64 6, .slice 2 .z 1 36 36, .fn 90 [.ptr 6 .z 1 0, .ptr 9 .z 1 0, .ptr 8 .z 1 0, .ptr 7 .z 1 0], .fn 91 [.ptr 8 .z 1 0, .ptr 9 .z 1 0, .ptr 6 .z 1 0, .ptr 7 .z 1 0], .fn 60 [], .int .i64 8, .int .i64 31, .int .i64 5, .slice 3 .z 1 29 29, .fn 64 [], .fn 65 [], .fn 63 [], .int .i64 9, .int .i64 52, .int .i64 6, .slice 4 .z 1 53 cm, .fn 90 [.ptr 11 .z 1 0, .ptr 14 .z 1 0, .ptr 13 .z 1 0, .ptr 12 .z 1 0], .fn 91 [.ptr 13 .z 1 0, .ptr 14 .z 1 0, .ptr 11 .z 1 0, .ptr 12 .z 1 0], .fn 62 []], .ro .i64 codes, .ints 124 .i16 cL, .ints 124 .i16 cB, .buf 124 .i16 cM cm, .ints 3 .i64 bL, .one 3 [.int .i64 16], .one 63 [.slice 5 .z 1 20 20], .ints 173 .i64 gL, .one 3 [.int .i64 0], .ints 3 .i64 bM, .one 3 [.int .i64 32], .one 63 [.slice 10 .z 1 21 21], .ints 173 .i64 gM, .one 3 [.int .i64 3], .arr 79 3 N (fun m => [.int .u8 (A m), .int .u8 (B m), .int .u16 (C m)]), .buf 5 .u8 l' c'], rfl, rfl, rfl, rfl, rfl, ?_, ?_⟩
           ·exact ⟨rfl, rfl, rfl, rfl, rfl, rfl, rfl, rfl, rfl, rfl, rfl, rfl, rfl, rfl, rfl, rfl, fun _ => rfl, rfl, trivial⟩
           ·exact .inl ⟨rfl, 2, l', N, A, B, C, c', c', N, N, hchs, by rw [hn']; rfl, rfl⟩
          ·cbv
           refine call_con (ρ := [(3, .z)]) hT ⟨by rfl, by rfl, by rfl, by cbv; exact ⟨view_refl _, trivial⟩⟩ ?_
           rintro v H R js ⟨rfl, rfl, rfl⟩
           cbv
           (repeat refine And.intro (fun _ => rfl) ?_)
           cbv
           have hchs0 := chs_zero (lg := 8) (most := 31) (codes := codes) hR0 (by rw [hlen]; decide) (fit_codes hFr hrM (fun s hs h0 => by rw [hlen]; exact hfit rfl s hs h0))
           rw [← hT0, hc] at hchs0
           refine ⟨[], [0, 1, 2, 3, 4, 5, 6, 7, 8, 9, 10, 11, 12, 13, 14, 17], .agg [.lit .u8 0, .val (.slice none 0 0), .slice 15 .z 3 N0 N0], [.one 59 [.int .i64 9, .int .i64 35, .int .i64 6, .slice 2 .z 1 36 36, .fn 90 [.ptr 6 .z 1 0, .ptr 9 .z 1 0, .ptr 8 .z 1 0, .ptr 7 .z 1 0], .fn 91 [.ptr 8 .z 1 0, .ptr 9 .z 1 0, .ptr 6 .z 1 0, .ptr 7 .z 1 0], .fn 60 [], .int .i64 8, .int .i64 31, .int .i64 5, .slice 3 .z 1 29 29, .fn 64 [], .fn 65 [], .fn 63 [], .int .i64 9, .int .i64 52, .int .i64 6, .slice 4 .z 1 53 cm, .fn 90 [.ptr 11 .z 1 0, .ptr 14 .z 1 0, .ptr 13 .z 1 0, .ptr 12 .z 1 0], .fn 91 [.ptr 13 .z 1 0, .ptr 14 .z 1 0, .ptr 11 .z 1 0, .ptr 12 .z 1 0], .fn 62 []], .ro .i64 codes, .ints 124 .i16 cL, .ints 124 .i16 cB, .buf 124 .i16 cM cm, .ints 3 .i64 bL, .one 3 [.int .i64 16], .one 63 [.slice 5 .z 1 20 20], .ints 173 .i64 gL, .one 3 [.int .i64 0], .ints 3 .i64 bM, .one 3 [.int .i64 32], .one 63 [.slice 10 .z 1 21 21], .ints 173 .i64 gM, .one 3 [.int .i64 3], .arr 79 3 N0 (fun m => [.int .u8 (A0 m), .int .u8 (B0 m), .int .u16 (C0 m)])], rfl, rfl, rfl, rfl, rfl, ?_, ?_⟩
           ·exact ⟨rfl, rfl, rfl, rfl, rfl, rfl, rfl, rfl, rfl, rfl, rfl, rfl, rfl, rfl, rfl, rfl, fun _ => rfl, trivial⟩
           ·exact .inr ⟨.agg [.int .u8 0, .slice 16 .z 1 0 0, .slice 15 .z 3 N0 N0], by rfl, ⟨fun _ => rfl, trivial⟩, fun σ h => by have h : σ 16 = none := h; simp [den, denL, gen, genL, h], rfl, 0, [], N0, A0, B0, C0, 0, 0, N0, N0, hchs0, rfl, rfl⟩
        ·cbv
         rw [elg]
         refine Cv.fold ((List.range' 93 16)) 17 [] (by exact Nat.le_refl _) (by exact Nat.le_of_ble_eq_true rfl) (by rfl) (by cbv) ?_
         intro js
         exact ⟨lg1, logs hlg.1 hlt9 hlg1, js, rfl⟩
theorem choose_2 (cL cB cM bL bM gL gM codes : List Int) (cm cap : Nat) (hc : cM = cntM) (h1 : 1 ≤ codes.length) (h2 : codes.length ≤ 100000) (hr : ∀ c ∈ codes, 0 ≤ c ∧ c < (53 : Nat)) :
  Con Try.prog 26 [.ptr 0 (.n 2) 7 0, .slice 1 .z 1 codes.length cap] (kC cL cB cM bL bM gL gM codes cm) (fun v H R => R = [] ∧ ∃ (way : Int) (hd : List Int) (N : Nat) (A B C : Nat → Int) (m1 c1 m2 c2 : Nat),
   Chs 9 52 6 cntM codes way hd ⟨N, A, B, C⟩ ∧ v = .agg [.int .u8 way, .slice 16 .z 1 hd.length m1, .slice 15 .z 3 N m2] ∧
   H = [.one 59 [.int .i64 9, .int .i64 35, .int .i64 6, .slice 2 .z 1 36 36, .fn 90 [.ptr 6 .z 1 0, .ptr 9 .z 1 0, .ptr 8 .z 1 0, .ptr 7 .z 1 0], .fn 91 [.ptr 8 .z 1 0, .ptr 9 .z 1 0, .ptr 6 .z 1 0, .ptr 7 .z 1 0], .fn 60 [], .int .i64 8, .int .i64 31, .int .i64 5, .slice 3 .z 1 29 29, .fn 64 [], .fn 65 [], .fn 63 [], .int .i64 9, .int .i64 52, .int .i64 6, .slice 4 .z 1 53 cm, .fn 90 [.ptr 11 .z 1 0, .ptr 14 .z 1 0, .ptr 13 .z 1 0, .ptr 12 .z 1 0], .fn 91 [.ptr 13 .z 1 0, .ptr 14 .z 1 0, .ptr 11 .z 1 0, .ptr 12 .z 1 0], .fn 62 []], .ro .i64 codes, .ints 124 .i16 cL, .ints 124 .i16 cB, .buf 124 .i16 cM cm, .ints 3 .i64 bL, .one 3 [.int .i64 16], .one 63 [.slice 5 .z 1 20 20], .ints 173 .i64 gL, .one 3 [.int .i64 0], .ints 3 .i64 bM, .one 3 [.int .i64 32], .one 63 [.slice 10 .z 1 21 21], .ints 173 .i64 gM, .one 3 [.int .i64 3], .bufA 79 3 N (fun m => [.int .u8 (A m), .int .u8 (B m), .int .u16 (C m)]) c2, .buf 5 .u8 hd c1]) := by
 have hT := table_ok cntM 6 cm cntM_16 (by decide) cntM_right
 have hlen : cM.length = 53 := by rw [hc]; rfl
 have hcl2 : cntM.length = 53 := by rfl
 rw [← hc] at hT
 obtain ⟨⟨N0, A0, B0, C0⟩, hT0⟩ : ∃ T : Tb, T = mkT cM 6 := ⟨_, rfl⟩
 replace hT : Con Try.prog 66 [.slice 0 .z 1 53 cm, .int .i64 6] [.ro .i16 cM] (fun v H R => R = [] ∧ v = .tup [.slice 1 .z 3 N0 N0, .int .i64 0] ∧ H = [.ro .i16 cM, .arr 79 3 N0 (fun m => [.int .u8 (A0 m), .int .u8 (B0 m), .int .u16 (C0 m)])]) := by
  rw [hlen] at hT
  simp only [mkT, Tb.mk.injEq] at hT0
  obtain ⟨rfl, rfl, rfl, rfl⟩ := hT0
  exact hT
 have hR0 : Right cM 6 := by rw [hc]; exact cntM_right
 have hCt := counts_con
 have hWr := write_ok
 have hTb : ∀ (l : List Int) (log : Int) (cap : Nat), (∀ c ∈ l, isI16 c) → (-9223372036854775808 ≤ log ∧ log ≤ 9223372036854775807) → Right l log → ∀ N A B C, (⟨N, A, B, C⟩ : Tb) = mkT l log →
   Con Try.prog 66 [.slice 0 .z 1 l.length cap, .int .i64 log] [.ro .i16 l] (fun v H R => R = [] ∧ v = .tup [.slice 1 .z 3 N N, .int .i64 0] ∧ H = [.ro .i16 l, .arr 79 3 N (fun m => [.int .u8 (A m), .int .u8 (B m), .int .u16 (C m)])]) := by
  intro l log cap h1 h2 h3 N A B C h
  simp only [mkT, Tb.mk.injEq] at h
  obtain ⟨rfl, rfl, rfl, rfl⟩ := h
  exact table_ok l log cap h1 h2 h3
 refine con_fresh 5 .u8 (con_rows (con_bufs 16 (con_gen (con_moves (con_drop (con_walk hmix fn26 ?_))))))
 intro vb vc vw vtoN vofN vaddN vsubN vmaxI vminI vcutN vgd vst vln vrep vsub vonto vsplice vstrEq vbyteV vnotB veqB hw qb qc qw qtoN qofN qaddN qsubN qmaxI qminI qcutN qgd qst qln qrep qsub qonto qsplice qstrEq qbyteV qnotB qeqB
 have hm := hmix; generalize Try.prog = P at *
 obtain ⟨n, hn⟩ : ∃ n, n = codes.length := ⟨_, rfl⟩
 rw [← hn] at h1 h2 ⊢
 have hofn : ∀ n, vofN n = (n : Int) := fun n => by simp only [qofN]
 have hto : ∀ i : Nat, vtoN (i : Int) = i := fun i => by simp only [qtoN, Int.toNat_natCast]
 have hadd0 : ∀ i, vaddN 0 i = i := fun i => by simp only [qaddN, Nat.zero_add]
 have hln : ∀ l, vln l = l.length := fun l => by simp only [qln]
 have hof2 : vofN 53 = 53 := by simp only [qofN]; rfl
 have hM1 : vb .add .i64 52 1 = 53 := by rw [qb]; exact add_i64 (by omega) (by omega)
 obtain ⟨M, hM⟩ : ∃ M : Nat, M = 53 := ⟨_, rfl⟩
 have hM5 : M ≤ 100000 := by rw [hM]; decide
 have eM : vtoN 53 = M := by simp only [qtoN]; rw [hM]; rfl
 obtain ⟨ni, hni⟩ : ∃ ni : Int, ni = n := ⟨_, rfl⟩
 have en : vofN n = ni := by rw [hofn, hni]
 obtain ⟨F0, hF0⟩ : ∃ F0, F0 = vrep M 0 := ⟨_, rfl⟩
 have hFr0 : Frq codes 0 M F0 0 := by rw [hF0]; simp only [qrep]; exact frq_nil codes M
 have hgc : ∀ i, vgd codes i = codes.getD i 0 := fun i => by simp only [qgd]
 have hrc : ∀ i, i < n → 0 ≤ codes.getD i 0 ∧ codes.getD i 0 < (M : Int) := fun i hi => by
  rw [hM]
  rw [List.getD_eq_getElem?_getD, List.getElem?_eq_getElem (by omega)]
  exact hr _ (List.getElem_mem _)
 have hin1 : (53 : Int) ≤ 100000 := by decide
 have hlc : vln codes = n := by rw [hln]; exact hn.symm
 cbv
 rw [hM1, eM, en, ← hF0]
 refine ⟨⟨by decide⟩, ⟨by decide⟩, ⟨by omega⟩, ⟨by omega⟩, ?_⟩
 refine loop_fam (α := Int × Int × Nat × List Int) ([8] ++ (List.range' 30 17)) [] (fun (ji, so, j, F) => [(29, .int .i64 ji), (6, .int .i64 so)]) (fun (ji, so, j, F) => [(16, .ints 128 .u32 F)])
  (fun (ji, so, j, F) => ji = j ∧ j ≤ n ∧ Frq codes j M F so) (fun (ji, so, j, F) => n - j) hw hm ?_ ?_
 ·refine Cv.genAt [29, 6] [] (Cv.fold ([8] ++ (List.range' 30 17)) 17 [] (by exact Nat.le_refl _) (by exact Nat.le_of_ble_eq_true rfl) (by rfl) (by cbv) ?_)
  intro js
  refine ⟨(0, 0, 0, F0), ?_, js, rfl⟩
  exact ⟨rfl, Nat.zero_le _, hFr0⟩
 ·rintro ⟨ji, so, j, F⟩ js ⟨hj, hjn, hFr⟩
  have hFl := hFr.len
  by_cases hlt : j < n
  ·have hl1 : vc .lss ji ni = true := by rw [qc, lss_true]; exact ltc hj hni hlt
   have etj : vtoN ji = j := by rw [hj]; exact hto j
   obtain ⟨c, hcv⟩ : ∃ c, c = codes.getD j 0 := ⟨_, rfl⟩
   have hcr := hrc j hlt
   rw [← hcv] at hcr
   obtain ⟨cn, hcn⟩ : ∃ cn : Nat, c = cn := ⟨c.toNat, by omega⟩
   have etc : vtoN c = cn := by rw [hcn]; exact hto cn
   obtain ⟨x, hx⟩ : ∃ x, x = F.getD cn 0 := ⟨_, rfl⟩
   have eF : vgd F cn = x := by simp only [qgd]; exact hx.symm
   have hxr := hFr.rng cn
   rw [← hx] at hxr
   have ex1 : vb .add .u32 x 1 = x + 1 := by rw [qb]; exact u32_one hxr hjn h2
   obtain ⟨F1, hF1⟩ : ∃ F1, F1 = F.set cn (x + 1) := ⟨_, rfl⟩
   have eS : vst F cn (x + 1) = F1 := by simp only [qst]; exact hF1.symm
   obtain ⟨ji1, hj1⟩ : ∃ ji1 : Int, ji1 = ((j + 1 : Nat) : Int) := ⟨_, rfl⟩
   have ej1 : vb .add .i64 ji 1 = ji1 := by rw [qb]; exact nextc hj hj1 (Nat.le_trans hjn (Nat.le_trans h2 (by decide)))
   have hgj : vgd codes j = c := by rw [hgc, hcv]
   have hst := frq_step (c := cn) hFr (by rw [← hcv, hcn]) (ltn hcn hcr.2)
   rw [← hx, ← hF1] at hst
   have hin2 : 0 ≤ ji ∧ ji < (n : Int) := inc0 hj hlt
   have hin3 : 0 ≤ c ∧ c < (M : Int) := hcr
   have hlF : vln F = M := by rw [hln]; exact hFl
   have hlF1 : vln F1 = M := by rw [hln, hF1, List.length_set]; exact hFl
   have hcM : cn < M := ltn hcn hcr.2
   have hso := (hFr.som ▸ somN_rg F M : 0 ≤ so ∧ so ≤ M)
   have hmu : n - (j + 1) < n - j := by omega
   have hj1n : j + 1 ≤ n := by omega
   cbv
   rw [hl1]
   cbv
   rw [etj]
   refine ⟨⟨hin2⟩, ⟨by rw [hadd0, hlc]; exact hlt⟩, ⟨by rw [hlc]; exact hlt⟩, ?_⟩
   rw [hgj, etc]
   refine ⟨⟨hin3⟩, ⟨by rw [hlF]; exact hcM⟩, ?_⟩
   rw [eF]
   have e10 : vb .add .i64 so 1 = so + 1 := by rw [qb]; exact one_more hso hM5
   obtain ⟨so1, hso1⟩ : ∃ so1, so1 = so + 1 := ⟨_, rfl⟩
   rw [← hso1] at e10
   cases hz : vc .eql x 0
   ·have hzn : x ≠ 0 := by rw [qc, eql_false] at hz; exact hz
    rw [if_neg hzn, Int.add_zero] at hst
    cbv
    rw [etc]
    repeat (first | refine And.intro ⟨hin3⟩ ?_ | refine And.intro ⟨by rw [hlF]; exact hcM⟩ ?_)
    rw [eF, ex1, eS, ej1]
    refine Cv.fold ([8] ++ (List.range' 30 17)) 17 [] (by exact Nat.le_refl _) (by exact Nat.le_of_ble_eq_true rfl) (by rfl) (by cbv) ?_
    intro js
    exact ⟨(ji1, so, j + 1, F1), ⟨⟨hj1, hj1n, hst⟩, hmu⟩, js, rfl⟩
   ·have hz0 : x = 0 := by rw [qc, eql_true] at hz; exact hz
    rw [if_pos hz0, ← hso1] at hst
    cbv
    rw [e10]
    rw [etc]
    repeat (first | refine And.intro ⟨hin3⟩ ?_ | refine And.intro ⟨by rw [hlF]; exact hcM⟩ ?_)
    rw [eF, ex1, eS, ej1]
    refine Cv.fold ([8] ++ (List.range' 30 17)) 17 [] (by exact Nat.le_refl _) (by exact Nat.le_of_ble_eq_true rfl) (by rfl) (by cbv) ?_
    intro js
    exact ⟨(ji1, so1, j + 1, F1), ⟨⟨hj1, hj1n, hst⟩, hmu⟩, js, rfl⟩
  ·have hl1 : vc .lss ji ni = false := by rw [qc, lss_false]; exact gec hj hni hlt
   have hjn2 : j = n := Nat.le_antisymm hjn (Nat.le_of_not_lt hlt)
   rw [hjn2, hn] at hFr
   have hS := hFr.som
   have hso := (hS ▸ somN_rg F M : 0 ≤ so ∧ so ≤ M)
   have hrM : ∀ c ∈ codes, 0 ≤ c ∧ c < (M : Int) := fun c hc => by rw [hM]; exact hr c hc
   have hlF : vln F = M := by rw [hln]; exact hFl
   clear hlt hj hjn hjn2
   by_cases h1s : so = 1
   ·have hone : vc .eql so 1 = true := by rw [qc, eql_true]; exact h1s
    subst h1s
    have hall := frq_one hFr hrM (by rw [← hn]; exact h1)
    obtain ⟨c, hcv⟩ : ∃ c, c = codes.getD 0 0 := ⟨_, rfl⟩
    have hc0 := hrc 0 (Nat.lt_of_lt_of_le Nat.zero_lt_one h1)
    rw [← hcv] at hall hc0
    have hin4 : (0 : Int) ≤ 0 ∧ (0 : Int) < (n : Int) := inc0 (a := 0) rfl (Nat.lt_of_lt_of_le Nat.zero_lt_one h1)
    have hg0 : vgd codes 0 = c := by rw [hgc, hcv]
    have hw8 : vw .u8 c = c := by rw [qw]; exact wrap_u8 hc0.1 (Int.lt_of_lt_of_le hc0.2 (by rw [hM]; decide))
    have h0n : 0 < n := h1
    cbv
    rw [hl1]
    cbv
    rw [hone]
    cbv
    refine ⟨⟨hin4⟩, ⟨by rw [hadd0, hlc]; exact h0n⟩, ⟨by rw [hlc]; exact h0n⟩, ⟨hin4⟩, ⟨by rw [hadd0, hlc]; exact h0n⟩, ⟨by rw [hlc]; exact h0n⟩, ?_⟩
    have hlt0 : Lt 0 (vln codes) ∧ True := ⟨⟨by rw [hlc]; exact h0n⟩, trivial⟩
    rw [hg0, hw8]
    have hchs := chs_one (lg := 9) (most := 52) (ah := 6) (c := c) (cnt := cntM) (codes := codes) ⟨hc0.1, Int.lt_add_one_iff.1 (Int.lt_of_lt_of_le hc0.2 (by rw [hM]; decide))⟩ (by decide) hall
    refine ⟨⟨hlt0, hlt0, hlt0, hlt0, ?_⟩, ⟨hlt0, hlt0, hlt0, hlt0, ?_⟩⟩
    ·refine ⟨[], [0, 1, 2, 3, 4, 5, 6, 7, 8, 9, 10, 11, 12, 13, 14, 18, 17], .agg [.lit .u8 1, .slice 16 .z 1 1 1, .slice 15 .z 3 1 1], [.one 59 [.int .i64 9, .int .i64 35, .int .i64 6, .slice 2 .z 1 36 36, .fn 90 [.ptr 6 .z 1 0, .ptr 9 .z 1 0, .ptr 8 .z 1 0, .ptr 7 .z 1 0], .fn 91 [.ptr 8 .z 1 0, .ptr 9 .z 1 0, .ptr 6 .z 1 0, .ptr 7 .z 1 0], .fn 60 [], .int .i64 8, .int .i64 31, .int .i64 5, .slice 3 .z 1 29 29, .fn 64 [], .fn 65 [], .fn 63 [], .int .i64 9, .int .i64 52, .int .i64 6, .slice 4 .z 1 53 cm, .fn 90 [.ptr 11 .z 1 0, .ptr 14 .z 1 0, .ptr 13 .z 1 0, .ptr 12 .z 1 0], .fn 91 [.ptr 13 .z 1 0, .ptr 14 .z 1 0, .ptr 11 .z 1 0, .ptr 12 .z 1 0], .fn 62 []], .ro .i64 codes, .ints 124 .i16 cL, .ints 124 .i16 cB, .buf 124 .i16 cM cm, .ints 3 .i64 bL, .one 3 [.int .i64 16], .one 63 [.slice 5 .z 1 20 20], .ints 173 .i64 gL, .one 3 [.int .i64 0], .ints 3 .i64 bM, .one 3 [.int .i64 32], .one 63 [.slice 10 .z 1 21 21], .ints 173 .i64 gM, .one 3 [.int .i64 3], .bufR 79 3 [.int .u8 c, .lit .u8 0, .lit .u16 0] 1, .ints 5 .u8 [c]], rfl, rfl, rfl, rfl, rfl, ?_, ?_⟩
     ·exact ⟨rfl, rfl, rfl, rfl, rfl, rfl, rfl, rfl, rfl, rfl, rfl, rfl, rfl, rfl, rfl, rfl, rfl, trivial⟩
     ·exact .inl ⟨rfl, 1, [c], 1, fun _ => c, fun _ => 0, fun _ => 0, 1, 1, 1, 1, hchs, rfl, rfl⟩
    ·refine ⟨[], [0, 1, 2, 3, 4, 5, 6, 7, 8, 9, 10, 11, 12, 13, 14, 17, 18], .agg [.lit .u8 1, .slice 16 .z 1 1 1, .slice 15 .z 3 1 1], [.one 59 [.int .i64 9, .int .i64 35, .int .i64 6, .slice 2 .z 1 36 36, .fn 90 [.ptr 6 .z 1 0, .ptr 9 .z 1 0, .ptr 8 .z 1 0, .ptr 7 .z 1 0], .fn 91 [.ptr 8 .z 1 0, .ptr 9 .z 1 0, .ptr 6 .z 1 0, .ptr 7 .z 1 0], .fn 60 [], .int .i64 8, .int .i64 31, .int .i64 5, .slice 3 .z 1 29 29, .fn 64 [], .fn 65 [], .fn 63 [], .int .i64 9, .int .i64 52, .int .i64 6, .slice 4 .z 1 53 cm, .fn 90 [.ptr 11 .z 1 0, .ptr 14 .z 1 0, .ptr 13 .z 1 0, .ptr 12 .z 1 0], .fn 91 [.ptr 13 .z 1 0, .ptr 14 .z 1 0, .ptr 11 .z 1 0, .ptr 12 .z 1 0], .fn 62 []], .ro .i64 codes, .ints 124 .i16 cL, .ints 124 .i16 cB, .buf 124 .i16 cM cm, .ints 3 .i64 bL, .one 3 [.int .i64 16], .one 63 [.slice 5 .z 1 20 20], .ints 173 .i64 gL, .one 3 [.int .i64 0], .ints 3 .i64 bM, .one 3 [.int .i64 32], .one 63 [.slice 10 .z 1 21 21], .ints 173 .i64 gM, .one 3 [.int .i64 3], .bufR 79 3 [.int .u8 c, .lit .u8 0, .lit .u16 0] 1, .ints 5 .u8 [c]], rfl, rfl, rfl, rfl, rfl, ?_, ?_⟩
     ·exact ⟨rfl, rfl, rfl, rfl, rfl, rfl, rfl, rfl, rfl, rfl, rfl, rfl, rfl, rfl, rfl, rfl, rfl, trivial⟩
     ·exact .inl ⟨rfl, 1, [c], 1, fun _ => c, fun _ => 0, fun _ => 0, 1, 1, 1, 1, hchs, rfl, rfl⟩
   ·have hone : vc .eql so 1 = false := by rw [qc, eql_false]; exact h1s
    obtain ⟨Mi, hMi⟩ : ∃ Mi : Int, Mi = M := ⟨_, rfl⟩
    have eMi : vofN M = Mi := by rw [hofn, hMi]
    cbv
    rw [hl1]
    cbv
    rw [hone]
    cbv
    rw [eMi]
    refine loop_fam (α := Int × Bool × Nat) ([10, 11] ++ (List.range' 64 29)) [] (fun (ki, b, k) => [(63, .int .i64 ki), (9, .bool b)]) (fun _ => [])
     (fun (ki, b, k) => ki = k ∧ k ≤ M ∧ (b = true → ∀ s : Nat, s < k → F.getD s 0 ≠ 0 → s < 53 ∧ cM.getD s 0 ≠ 0)) (fun (ki, b, k) => M - k) hw hm ?_ ?_
    ·refine Cv.genAt [63, 9] [] (Cv.fold ([10, 11] ++ (List.range' 64 29)) 17 [] (by exact Nat.le_refl _) (by exact Nat.le_of_ble_eq_true rfl) (by rfl) (by cbv) ?_)
     intro js
     refine ⟨(0, true, 0), ?_, js, rfl⟩
     exact ⟨rfl, Nat.zero_le _, fun _ s hs => absurd hs (Nat.not_lt_zero s)⟩
    ·rintro ⟨ki, b, k⟩ js ⟨hk, hkM, hfit⟩
     by_cases hlt : k < M
     ·have hl2 : vc .lss ki Mi = true := by rw [qc, lss_true]; exact ltc hk hMi hlt
      have etk : vtoN ki = k := by rw [hk]; exact hto k
      obtain ⟨x, hx⟩ : ∃ x, x = F.getD k 0 := ⟨_, rfl⟩
      have eF : vgd F k = x := by simp only [qgd]; exact hx.symm
      obtain ⟨ki1, hk1⟩ : ∃ ki1 : Int, ki1 = ((k + 1 : Nat) : Int) := ⟨_, rfl⟩
      have ek1 : vb .add .i64 ki 1 = ki1 := by rw [qb]; exact nextc hk hk1 (Nat.le_trans hkM (Nat.le_trans hM5 (by decide)))
      have hin5 : 0 ≤ ki ∧ ki < (M : Int) := inc0 hk hlt
      have hmu : M - (k + 1) < M - k := Nat.sub_lt_sub_left hlt (Nat.lt_succ_self k)
      have hlc2 : vln cM = 53 := by rw [hln]; exact hlen
      have hk1M : k + 1 ≤ M := hlt
      cbv
      rw [hl2]
      cbv
      rw [etk]
      refine ⟨⟨hin5⟩, ⟨by rw [hlF]; exact hlt⟩, ?_⟩
      rw [eF]
      cases b
      ·cbv
       rw [ek1]
       refine Cv.fold ([10, 11] ++ (List.range' 64 29)) 17 [] (by exact Nat.le_refl _) (by exact Nat.le_of_ble_eq_true rfl) (by rfl) (by cbv) ?_
       intro js
       exact ⟨(ki1, false, k + 1), ⟨⟨hk1, hk1M, fun h => by cases h⟩, hmu⟩, js, rfl⟩
      ·have hfit := hfit rfl
       cbv
       cases hz : vc .eql x 0
       ·have hzn : x ≠ 0 := by rw [qc, eql_false] at hz; exact hz
        cbv
        rw [hof2]
        cases hl3 : vc .lss ki 53
        ·cbv
         rw [ek1]
         refine Cv.fold ([10, 11] ++ (List.range' 64 29)) 17 [] (by exact Nat.le_refl _) (by exact Nat.le_of_ble_eq_true rfl) (by rfl) (by cbv) ?_
         intro js
         exact ⟨(ki1, false, k + 1), ⟨⟨hk1, hk1M, fun h => by cases h⟩, hmu⟩, js, rfl⟩
        ·have hkl : ki < 53 := by rw [qc, lss_true] at hl3; exact hl3
         have hkn : k < 53 := ltn (b := 53) hk hkl
         have hin6 : 0 ≤ ki ∧ ki < 53 := ⟨hin5.1, hkl⟩
         obtain ⟨y, hy⟩ : ∃ y, y = cM.getD k 0 := ⟨_, rfl⟩
         have eY : vgd cM k = y := by simp only [qgd]; exact hy.symm
         cbv
         rw [etk]
         repeat (first | refine And.intro ⟨hin6⟩ ?_ | refine And.intro ⟨by rw [hlc2]; exact hkn⟩ ?_ | refine And.intro ⟨by rw [hadd0, hlc2]; exact hkn⟩ ?_)
         rw [eY]
         rw [ek1]
         refine Cv.fold ([10, 11] ++ (List.range' 64 29)) 17 [] (by exact Nat.le_refl _) (by exact Nat.le_of_ble_eq_true rfl) (by rfl) (by cbv) ?_
         intro js
         exact ⟨(ki1, vc .neq y 0, k + 1), ⟨⟨hk1, hk1M, fun h => fit_step hfit (fun _ => ⟨hkn, by rw [qc, neq_true] at h; rw [← hy]; exact h⟩)⟩, hmu⟩, js, rfl⟩
       ·have hz0 : x = 0 := by rw [qc, eql_true] at hz; exact hz
        cbv
        rw [ek1]
        refine Cv.fold ([10, 11] ++ (List.range' 64 29)) 17 [] (by exact Nat.le_refl _) (by exact Nat.le_of_ble_eq_true rfl) (by rfl) (by cbv) ?_
        intro js
        exact ⟨(ki1, true, k + 1), ⟨⟨hk1, hk1M, fun _ => fit_step hfit (fun h => absurd (hx ▸ hz0 : F.getD k 0 = 0) h)⟩, hmu⟩, js, rfl⟩
     ·have hl2 : vc .lss ki Mi = false := by rw [qc, lss_false]; exact gec hk hMi hlt
      have hkM2 : k = M := Nat.le_antisymm hkM (Nat.le_of_not_lt hlt)
      subst hkM2
      clear hlt
      cbv
      rw [hl2]
      cbv
      refine loop_fam (α := Int) ((List.range' 93 16)) [] (fun lg => [(12, .int .i64 lg)]) (fun _ => []) (fun lg => 6 ≤ lg ∧ lg ≤ 9) (fun lg => (9 - lg).toNat) hw hm ?_ ?_
      ·refine Cv.genAt [12] [] (Cv.fold ((List.range' 93 16)) 17 [] (by exact Nat.le_refl _) (by exact Nat.le_of_ble_eq_true rfl) (by rfl) (by cbv) ?_)
       intro js
       refine ⟨6, ?_, js, rfl⟩
       exact ⟨by decide, by decide⟩
      ·rintro lg js hlg
       have hAb := able_frq hFr (by rw [hM]; decide) (lg := lg) ⟨hlg.1, Int.le_trans hlg.2 (by decide)⟩ (by rw [← hn]; exact h1) (by rw [← hn]; exact hrc)
       have hlog : -9223372036854775808 ≤ lg ∧ lg ≤ 9223372036854775807 := ⟨Int.le_trans (by decide) hlg.1, Int.le_trans hlg.2 (by decide)⟩
       have hCt := hCt F lg k (fun c hc => u32_of hFr hc (Nat.le_trans (Nat.le_of_eq hn.symm) h2)) hlog (by rw [hFl]; exact Nat.le_trans hM5 (by decide))
       rw [hFl] at hCt
       obtain ⟨lg1, hlg1⟩ : ∃ lg1, lg1 = lg + 1 := ⟨_, rfl⟩
       have hw64 : vw .u64 lg = lg := by rw [qw]; exact wrap_u64 (Int.le_trans (by decide) hlg.1) (Int.lt_of_le_of_lt hlg.2 (by decide))
       have elg : vb .add .i64 lg 1 = lg1 := by rw [qb]; exact logN ⟨hlg.1, Int.le_trans hlg.2 (by decide)⟩ hlg1
       cbv
       cases hlk : vc .lss lg 9
       ·cbv
        rw [en]
        cases h40 : vc .lss ni 40
        ·cbv
         refine call_con (ρ := [(16, .z)]) hCt ⟨by rfl, by rfl, by rfl, by cbv; exact ⟨view_refl _, trivial⟩⟩ ?_
         rintro v H R js ⟨rfl, (⟨hna, _⟩ | ⟨_, cs, ⟨hRc, hcl, hc16, hciff⟩, rfl, rfl⟩)⟩
         ·exact absurd hAb hna
         have hWr := fun cap => hWr cs lg cap hc16 hlog hRc
         obtain ⟨⟨N, A, B, C⟩, hTT⟩ : ∃ T : Tb, T = mkT cs lg := ⟨_, rfl⟩
         have hTb := fun cap => hTb cs lg cap hc16 hlog hRc N A B C hTT
         have hchs := chs_two (lg := 9) (most := 52) (ah := 6) (cnt := cntM) (codes := codes) hRc hlg.2 (by decide) (cl_le hcl hFl hM) (by decide) (fit_codes hFr hrM (fun s hs h0 => (hciff s (by rw [hFl]; exact hs)).1 (pos_of (hFr.rng s).1 h0)))
         obtain ⟨hdv, hhd⟩ : ∃ hd, hd = pack (wbits cs lg) := ⟨_, rfl⟩
         rw [← hTT, ← hhd] at hchs
         clear hRc hcl hc16 hciff hfit hTT
         obtain ⟨cl, hcl⟩ : ∃ cl, cl = cs.length := ⟨_, rfl⟩
         simp only [← hcl] at hWr hTb ⊢
         cbv
         (repeat refine And.intro (fun _ => rfl) ?_)
         cbv
         refine call_con (ρ := [(17, .z)]) (hWr cl) ⟨by rfl, by rfl, by rfl, by cbv; exact ⟨view_refl _, trivial⟩⟩ ?_
         rintro v H R js ⟨rfl, l', n', m', c, c', ⟨_, hl', hn', _⟩, rfl, rfl⟩
         rw [← hhd] at hl'
         subst hl'
         cbv
         (repeat refine And.intro (fun _ => rfl) ?_)
         cbv
         refine call_con (ρ := [(17, .z)]) (hTb cl) ⟨by rfl, by rfl, by rfl, by cbv; exact ⟨view_refl _, trivial⟩⟩ ?_
         rintro v H R js ⟨rfl, rfl, rfl⟩
         cbv
         (repeat refine And.intro (fun _ => rfl) ?_)
         refine ⟨[], [0, 1, 2, 3, 4, 5, 6, 7, 8, 9, 10, 11, 12, 13, 14, 21, 20], .agg [.lit .u8 2, .slice 16 .z 1 n' c', .slice 15 .z 3 N N], [.one 59 [.int .i64 9, .int .i64 35, .int .i64 6, .slice 2 .z 1 36 36, .fn 90 [.ptr 6 .z 1 0, .ptr 9 .z 1 0, .ptr 8 .z 1 0, .ptr 7 .z 1 0], .fn 91 [.ptr 8 .z 1 0, .ptr 9 .z 1 0, .ptr 6 .z 1 0, .ptr 7 .z 1 0], .fn 60 [], .int .i64 8, .int .i64 31, .int .i64 5, .slice 3 .z 1 29 29, .fn 64 [], .fn 65 [], .fn 63 [], .int .i64 9, .int .i64 52, .int .i64 6, .slice 4 .z 1 53 cm, .fn 90 [.ptr 11 .z 1 0, .ptr 14 .z 1 0, .ptr 13 .z 1 0, .ptr 12 .z 1 0], .fn 91 [.ptr 13 .z 1 0, .ptr 14 .z 1 0, .ptr 11 .z 1 0, .ptr 12 .z 1 0], .fn 62 []], .ro .i64 codes, .ints 124 .i16 cL, .ints 124 .i16 cB, .buf 124 .i16 cM cm, .ints 3 .i64 bL, .one 3 [.int .i64 16], .one 63 [.slice 5 .z 1 20 20], .ints 173 .i64 gL, .one 3 [.int .i64 0], .ints 3 .i64 bM, .one 3 [.int .i64 32], .one 63 [.slice 10 .z 1 21 21], .ints 173 .i64 gM, .one 3 [.int .i64 3], .arr 79 3 N (fun m => [.int .u8 (A m), .int .u8 (B m), .int .u16 (C m)]), .buf 5 .u8 l' c'], rfl, rfl, rfl, rfl, rfl, ?_, ?_⟩
         ·exact ⟨rfl, rfl, rfl, rfl, rfl, rfl, rfl, rfl, rfl, rfl, rfl, rfl, rfl, rfl, rfl, rfl, fun _ => rfl, rfl, trivial⟩
         ·exact .inl ⟨rfl, 2, l', N, A, B, C, c', c', N, N, hchs, by rw [hn']; rfl, rfl⟩
        ·cases b
         ·cbv
          refine call_con (ρ := [(16, .z)]) hCt ⟨by rfl, by rfl, by rfl, by cbv; exact ⟨view_refl _, trivial⟩⟩ ?_
          rintro v H R js ⟨rfl, (⟨hna, _⟩ | ⟨_, cs, ⟨hRc, hcl, hc16, hciff⟩, rfl, rfl⟩)⟩
          ·exact absurd hAb hna
          have hWr := fun cap => hWr cs lg cap hc16 hlog hRc
          obtain ⟨⟨N, A, B, C⟩, hTT⟩ : ∃ T : Tb, T = mkT cs lg := ⟨_, rfl⟩
          have hTb := fun cap => hTb cs lg cap hc16 hlog hRc N A B C hTT
          have hchs := chs_two (lg := 9) (most := 52) (ah := 6) (cnt := cntM) (codes := codes) hRc hlg.2 (by decide) (cl_le hcl hFl hM) (by decide) (fit_codes hFr hrM (fun s hs h0 => (hciff s (by rw [hFl]; exact hs)).1 (pos_of (hFr.rng s).1 h0)))
          obtain ⟨hdv, hhd⟩ : ∃ hd, hd = pack (wbits cs lg) := ⟨_, rfl⟩
          rw [← hTT, ← hhd] at hchs
          clear hRc hcl hc16 hciff hfit hTT
          obtain ⟨cl, hcl⟩ : ∃ cl, cl = cs.length := ⟨_, rfl⟩
          simp only [← hcl] at hWr hTb ⊢
          cbv
          (repeat refine And.intro (fun _ => rfl) ?_)
          cbv
          refine call_con (ρ := [(17, .z)]) (hWr cl) ⟨by rfl, by rfl, by rfl, by cbv; exact ⟨view_refl _, trivial⟩⟩ ?_
          rintro v H R js ⟨rfl, l', n', m', c, c', ⟨_, hl', hn', _⟩, rfl, rfl⟩
          rw [← hhd] at hl'
          subst hl'
          cbv
          (repeat refine And.intro (fun _ => rfl) ?_)
          cbv
          refine call_con (ρ := [(17, .z)]) (hTb cl) ⟨by rfl, by rfl, by rfl, by cbv; exact ⟨view_refl _, trivial⟩⟩ ?_
          rintro v H R js ⟨rfl, rfl, rfl⟩
          cbv
          (repeat refine And.intro (fun _ => rfl) ?_)
          refine ⟨[], [0, 1, 2, 3, 4, 5, 6, 7, 8, 9, 10, 11, 12, 13, 14, 21, 20], .agg [.lit .u8 2, .slice 16 .z 1 n' c', .slice 15 .z 3 N N], [.one 59 [.int .i64 9, .int .i64 35, .int .i64 6, .slice 2 .z 1 36 36, .fn 90 [.ptr 6 .z 1 0, .ptr 9 .z 1 0, .ptr 8 .z 1 0, .ptr 7 .z 1 0], .fn 91 [.ptr 8 .z 1 0, .ptr 9 .z 1 0, .ptr 6 .z 1 0, .ptr 7 .z 1 0], .fn 60 [], .int .i64 8, .int .i64 31, .int .i64 5, .slice 3 .z 1 29 29, .fn 64 [], .fn 65 [], .fn 63 [], .int .i64 9, .int .i64 52, .int .i64 6, .slice 4 .z 1 53 cm, .fn 90 [.ptr 11 .z 1 0, .ptr 14 .z 1 0, .ptr 13 .z 1 0, .ptr 12 .z 1 0], .fn 91 [.ptr 13 .z 1 0, .ptr 14 .z 1 0, .ptr 11 .z 1 0, .ptr 12 .z 1 0], .fn 62 []], .ro .i64 codes, .ints 124 .i16 cL, .ints 124 .i16 cB, .buf 124 .i16 cM cm, .ints 3 .i64 bL, .one 3 [.int .i64 16], .one 63 [.slice 5 .z 1 20 20], .ints 173 .i64 gL, .one 3 [.int .i64 0], .ints 3 .i64 bM, .one 3 [.int .i64 32], .one 63 [.slice 10 .z 1 21 21], .ints 173 .i64 gM, .one 3 [.int .i64 3], .arr 79 3 N (fun m => [.int .u8 (A m), .int .u8 (B m), .int .u16 (C m)]), .buf 5 .u8 l' c'], rfl, rfl, rfl, rfl, rfl, ?_, ?_⟩
          ·exact ⟨rfl, rfl, rfl, rfl, rfl, rfl, rfl, rfl, rfl, rfl, rfl, rfl, rfl, rfl, rfl, rfl, fun _ => rfl, rfl, trivial⟩
          ·exact .inl ⟨rfl, 2, l', N, A, B, C, c', c', N, N, hchs, by rw [hn']; rfl, rfl⟩
         ·cbv
          refine call_con (ρ := [(4, .z)]) hT ⟨by rfl, by rfl, by rfl, by cbv; exact ⟨view_refl _, trivial⟩⟩ ?_
          rintro v H R js ⟨rfl, rfl, rfl⟩
          cbv
          (repeat refine And.intro (fun _ => rfl) ?_)
          cbv
          have hchs0 := chs_zero (lg := 9) (most := 52) (codes := codes) hR0 (by rw [hlen]; decide) (fit_codes hFr hrM (fun s hs h0 => by rw [hlen]; exact hfit rfl s hs h0))
          rw [← hT0, hc] at hchs0
          refine ⟨[], [0, 1, 2, 3, 4, 5, 6, 7, 8, 9, 10, 11, 12, 13, 14, 17], .agg [.lit .u8 0, .val (.slice none 0 0), .slice 15 .z 3 N0 N0], [.one 59 [.int .i64 9, .int .i64 35, .int .i64 6, .slice 2 .z 1 36 36, .fn 90 [.ptr 6 .z 1 0, .ptr 9 .z 1 0, .ptr 8 .z 1 0, .ptr 7 .z 1 0], .fn 91 [.ptr 8 .z 1 0, .ptr 9 .z 1 0, .ptr 6 .z 1 0, .ptr 7 .z 1 0], .fn 60 [], .int .i64 8, .int .i64 31, .int .i64 5, .slice 3 .z 1 29 29, .fn 64 [], .fn 65 [], .fn 63 [], .int .i64 9, .int .i64 52, .int .i64 6, .slice 4 .z 1 53 cm, .fn 90 [.ptr 11 .z 1 0, .ptr 14 .z 1 0, .ptr 13 .z 1 0, .ptr 12 .z 1 0], .fn 91 [.ptr 13 .z 1 0, .ptr 14 .z 1 0, .ptr 11 .z 1 0, .ptr 12 .z 1 0], .fn 62 []], .ro .i64 codes, .ints 124 .i16 cL, .ints 124 .i16 cB, .buf 124 .i16 cM cm, .ints 3 .i64 bL, .one 3 [.int .i64 16], .one 63 [.slice 5 .z 1 20 20], .ints 173 .i64 gL, .one 3 [.int .i64 0], .ints 3 .i64 bM, .one 3 [.int .i64 32], .one 63 [.slice 10 .z 1 21 21], .ints 173 .i64 gM, .one 3 [.int .i64 3], .arr 79 3 N0 (fun m => [.int .u8 (A0 m), .int .u8 (B0 m), .int .u16 (C0 m)])], rfl, rfl, rfl, rfl, rfl, ?_, ?_⟩
          ·exact ⟨rfl, rfl, rfl, rfl, rfl, rfl, rfl, rfl, rfl, rfl, rfl, rfl, rfl, rfl, rfl, rfl, fun _ => rfl, trivial⟩
          ·exact .inr ⟨.agg [.int .u8 0, .slice 16 .z 1 0 0, .slice 15 .z 3 N0 N0], by rfl, ⟨fun _ => rfl, trivial⟩, fun σ h => by have h : σ 16 = none := h; simp [den, denL, gen, genL, h], rfl, 0, [], N0, A0, B0, C0, 0, 0, N0, N0, hchs0, rfl, rfl⟩
       ·have hlt9 : lg < 9 := by rw [qc, lss_true] at hlk; exact hlk
        cbv
        rw [en]
        refine ⟨⟨by rw [hw64]; exact Int.le_trans (by decide) hlg.1⟩, ?_⟩
        generalize vc .lss (vb .shl .i64 1 (vw .u64 lg)) ni = z
        cases z
        ·cbv
         rw [en]
         cases h40 : vc .lss ni 40
         ·cbv
          refine call_con (ρ := [(16, .z)]) hCt ⟨by rfl, by rfl, by rfl, by cbv; exact ⟨view_refl _, trivial⟩⟩ ?_
          rintro v H R js ⟨rfl, (⟨hna, _⟩ | ⟨_, cs, ⟨hRc, hcl, hc16, hciff⟩, rfl, rfl⟩)⟩
          ·exact absurd hAb hna
          have hWr := fun cap => hWr cs lg cap hc16 hlog hRc
          obtain ⟨⟨N, A, B, C⟩, hTT⟩ : ∃ T : Tb, T = mkT cs lg := ⟨_, rfl⟩
          have hTb := fun cap => hTb cs lg cap hc16 hlog hRc N A B C hTT
          have hchs := chs_two (lg := 9) (most := 52) (ah := 6) (cnt := cntM) (codes := codes) hRc hlg.2 (by decide) (cl_le hcl hFl hM) (by decide) (fit_codes hFr hrM (fun s hs h0 => (hciff s (by rw [hFl]; exact hs)).1 (pos_of (hFr.rng s).1 h0)))
          obtain ⟨hdv, hhd⟩ : ∃ hd, hd = pack (wbits cs lg) := ⟨_, rfl⟩
          rw [← hTT, ← hhd] at hchs
          clear hRc hcl hc16 hciff hfit hTT
          obtain ⟨cl, hcl⟩ : ∃ cl, cl = cs.length := ⟨_, rfl⟩
          simp only [← hcl] at hWr hTb ⊢
          cbv
          (repeat refine And.intro (fun _ => rfl) ?_)
          cbv
          refine call_con (ρ := [(17, .z)]) (hWr cl) ⟨by rfl, by rfl, by rfl, by cbv; exact ⟨view_refl _, trivial⟩⟩ ?_
          rintro v H R js ⟨rfl, l', n', m', c, c', ⟨_, hl', hn', _⟩, rfl, rfl⟩
          rw [← hhd] at hl'
          subst hl'
          cbv
          (repeat refine And.intro (fun _ => rfl) ?_)
          cbv
          refine call_con (ρ := [(17, .z)]) (hTb cl) ⟨by rfl, by rfl, by rfl, by cbv; exact ⟨view_refl _, trivial⟩⟩ ?_
          rintro v H R js ⟨rfl, rfl, rfl⟩
          cbv
          (repeat refine And.intro (fun _ => rfl) ?_)
          refine ⟨[], [0, 1, 2, 3, 4, 5, 6, 7, 8, 9, 10, 11, 12, 13, 14, 21, 20], .agg [.lit .u8 2, .slice 16 .z 1 n' c', .slice 15 .z 3 N N], [.one 59 [.int .i64 9, .int .i64 35, .int .i64 6, .slice 2 .z 1 36 36, .fn 90 [.ptr 6 .z 1 0, .ptr 9 .z 1 0, .ptr 8 .z 1 0, .ptr 7 .z 1 0], .fn 91 [.ptr 8 .z 1 0, .ptr 9 .z 1 0, .ptr 6 .z 1 0, .ptr 7 .z 1 0], .fn 60 [], .int .i64 8, .int .i64 31, .int .i64 5, .slice 3 .z 1 29 29, .fn 64 [], .fn 65 [], .fn 63 [], .int .i64 9, .int .i64 52, .int .i64 6, .slice 4 .z 1 53 cm, .fn 90 [.ptr 11 .z 1 0, .ptr 14 .z 1 0, .ptr 13 .z 1 0, .ptr 12 .z 1 0], .fn 91 [.ptr 13 .z 1 0, .ptr 14 .z 1 0, .ptr 11 .z 1 0, .ptr 12 .z 1 0], .fn 62 []], .ro .i64 codes, .ints 124 .i16 cL, .ints 124 .i16 cB, .buf 124 .i16 cM cm, .ints 3 .i64 bL, .one 3 [.int .i64 16], .one 63 [.slice 5 .z 1 20 20], .ints 173 .i64 gL, .one 3 [.int .i64 0], .ints 3 .i64 bM, .one 3 [.int .i64 32], .one 63 [.slice 10 .z 1 21 21], .ints 173 .i64 gM, .one 3 [.int .i64 3], .arr 79 3 N (fun m => [.int .u8 (A m), .int .u8 (B m), .int .u16 (C m)]), .buf 5 .u8 l' c'], rfl, rfl, rfl, rfl, rfl, ?_, ?_⟩
          ·exact ⟨rfl, rfl, rfl, rfl, rfl, rfl, rfl, rfl, rfl, rfl, rfl, rfl, rfl, rfl, rfl, rfl, fun _ => rfl, rfl, trivial⟩
          ·exact .inl ⟨rfl, 2, l', N, A, B, C, c', c', N, N, hchs, by rw [hn']; rfl, rfl⟩
         ·cases b
          ·cbv
           refine call_con (ρ := [(16, .z)]) hCt ⟨by rfl, by rfl, by rfl, by cbv; exact ⟨view_refl _, trivial⟩⟩ ?_
           rintro v H R js ⟨rfl, (⟨hna, _⟩ | ⟨_, cs, ⟨hRc, hcl, hc16, hciff⟩, rfl, rfl⟩)⟩
           ·exact absurd hAb hna
           have hWr := fun cap => hWr cs lg cap hc16 hlog hRc
           obtain ⟨⟨N, A, B, C⟩, hTT⟩ : ∃ T : Tb, T = mkT cs lg := ⟨_, rfl⟩
           have hTb := fun cap => hTb cs lg cap hc16 hlog hRc N A B C hTT
           have hchs := chs_two (lg := 9) (most := 52) (ah := 6) (cnt := cntM) (codes := codes) hRc hlg.2 (by decide) (cl_le hcl hFl hM) (by decide) (fit_codes hFr hrM (fun s hs h0 => (hciff s (by rw [hFl]; exact hs)).1 (pos_of (hFr.rng s).1 h0)))
           obtain ⟨hdv, hhd⟩ : ∃ hd, hd = pack (wbits cs lg) := ⟨_, rfl⟩
           rw [← hTT, ← hhd] at hchs
           clear hRc hcl hc16 hciff hfit hTT
           obtain ⟨cl, hcl⟩ : ∃ cl, cl = cs.length := ⟨_, rfl⟩
           simp only [← hcl] at hWr hTb ⊢
           cbv
           (repeat refine And.intro (fun _ => rfl) ?_)
           cbv
           refine call_con (ρ := [(17, .z)]) (hWr cl) ⟨by rfl, by rfl, by rfl, by cbv; exact ⟨view_refl _, trivial⟩⟩ ?_
           rintro v H R js ⟨rfl, l', n', m', c, c', ⟨_, hl', hn', _⟩, rfl, rfl⟩
           rw [← hhd] at hl'
           subst hl'
           cbv
           (repeat refine And.intro (fun _ => rfl) ?_)
           cbv
           refine call_con (ρ := [(17, .z)]) (hTb cl) ⟨by rfl, by rfl, by rfl, by cbv; exact ⟨view_refl _, trivial⟩⟩ ?_
           rintro v H R js ⟨rfl, rfl, rfl⟩
           cbv
           (repeat refine And.intro (fun _ => rfl) ?_)
           refine ⟨[], [0, 1, 2, 3, 4, 5, 6, 7, 8, 9, 10, 11, 12, 13, 14, 21, 20], .agg [.lit .u8 2, .slice 16 .z 1 n' c', .slice 15 .z 3 N N], [.one 59 [.int .i64 9, .int .i64 35, .int .i64 6, .slice 2 .z 1 36 36, .fn 90 [.ptr 6 .z 1 0, .ptr 9 .z 1 0, .ptr 8 .z 1 0, .ptr 7 .z 1 0], .fn 91 [.ptr 8 .z 1 0, .ptr 9 .z 1 0, .ptr 6 .z 1 0, .ptr 7 .z 1 0], .fn 60 [], .int .i64 8, .int .i64 31, .int .i64 5, .slice 3 .z 1 29 29, .fn 64 [], .fn 65 [], .fn 63 [], .int .i64 9, .int .i64 52, .int .i64 6, .slice 4 .z 1 53 cm, .fn 90 [.ptr 11 .z 1 0, .ptr 14 .z 1 0, .ptr 13 .z 1 0, .ptr 12 .z 1 0], .fn 91 [.ptr 13 .z 1 0, .ptr 14 .z 1 0, .ptr 11 .z 1 0, .ptr 12 .z 1 0], .fn 62 []], .ro .i64 codes, .ints 124 .i16 cL, .ints 124 .i16 cB, .buf 124 .i16 cM cm, .ints 3 .i64 bL, .one 3 [.int .i64 16], .one 63 [.slice 5 .z 1 20 20], .ints 173 .i64 gL, .one 3 [.int .i64 0], .ints 3 .i64 bM, .one 3 [.int .i64 32], .one 63 [.slice 10 .z 1 21 21], .ints 173 .i64 gM, .one 3 [.int .i64 3], .arr 79 3 N (fun m => [.int .u8 (A m), .int .u8 (B m), .int .u16 (C m)]), .buf 5 .u8 l' c'], rfl, rfl, rfl, rfl, rfl, ?_, ?_⟩
           ·exact ⟨rfl, rfl, rfl, rfl, rfl, rfl, rfl, rfl, rfl, rfl, rfl, rfl, rfl, rfl, rfl, rfl, fun _ => rfl, rfl, trivial⟩
           ·exact .inl ⟨rfl, 2, l', N, A, B, C, c', c', N, N, hchs, by rw [hn']; rfl, rfl⟩
          ·cbv
           refine call_con (ρ := [(4, .z)]) hT ⟨by rfl, by rfl, by rfl, by cbv; exact ⟨view_refl _, trivial⟩⟩ ?_
           rintro v H R js ⟨rfl, rfl, rfl⟩
           cbv
           (repeat refine And.intro (fun _ => rfl) ?_)
           cbv
           have hchs0 := chs_zero (lg := 9) (most := 52) (codes := codes) hR0 (by rw [hlen]; decide) (fit_codes hFr hrM (fun s hs h0 => by rw [hlen]; exact hfit rfl s hs h0))
           rw [← hT0, hc] at hchs0
           refine ⟨[], [0, 1, 2, 3, 4, 5, 6, 7, 8, 9, 10, 11, 12, 13, 14, 17], .agg [.lit .u8 0, .val (.slice none 0 0), .slice 15 .z 3 N0 N0], [.one 59 [.int .i64 9, .int .i64 35, .int .i64 6, .slice 2 .z 1 36 36, .fn 90 [.ptr 6 .z 1 0, .ptr 9 .z 1 0, .ptr 8 .z 1 0, .ptr 7 .z 1 0], .fn 91 [.ptr 8 .z 1 0, .ptr 9 .z 1 0, .ptr 6 .z 1 0, .ptr 7 .z 1 0], .fn 60 [], .int .i64 8, .int .i64 31, .int .i64 5, .slice 3 .z 1 29 29, .fn 64 [], .fn 65 [], .fn 63 [], .int .i64 9, .int .i64 52, .int .i64 6, .slice 4 .z 1 53 cm, .fn 90 [.ptr 11 .z 1 0, .ptr 14 .z 1 0, .ptr 13 .z 1 0, .ptr 12 .z 1 0], .fn 91 [.ptr 13 .z 1 0, .ptr 14 .z 1 0, .ptr 11 .z 1 0, .ptr 12 .z 1 0], .fn 62 []], .ro .i64 codes, .ints 124 .i16 cL, .ints 124 .i16 cB, .buf 124 .i16 cM cm, .ints 3 .i64 bL, .one 3 [.int .i64 16], .one 63 [.slice 5 .z 1 20 20], .ints 173 .i64 gL, .one 3 [.int .i64 0], .ints 3 .i64 bM, .one 3 [.int .i64 32], .one 63 [.slice 10 .z 1 21 21], .ints 173 .i64 gM, .one 3 [.int .i64 3], .arr 79 3 N0 (fun m => [.int .u8 (A0 m), .int .u8 (B0 m), .int .u16 (C0 m)])], rfl, rfl, rfl, rfl, rfl, ?_, ?_⟩
           ·exact ⟨rfl, rfl, rfl, rfl, rfl, rfl, rfl, rfl, rfl, rfl, rfl, rfl, rfl, rfl, rfl, rfl, fun _ => rfl, trivial⟩
           ·exact .inr ⟨.agg [.int .u8 0, .slice 16 .z 1 0 0, .slice 15 .z 3 N0 N0], by rfl, ⟨fun _ => rfl, trivial⟩, fun σ h => by have h : σ 16 = none := h; simp [den, denL, gen, genL, h], rfl, 0, [], N0, A0, B0, C0, 0, 0, N0, N0, hchs0, rfl, rfl⟩
        ·cbv
         rw [elg]
         refine Cv.fold ((List.range' 93 16)) 17 [] (by exact Nat.le_refl _) (by exact Nat.le_of_ble_eq_true rfl) (by rfl) (by cbv) ?_
         intro js
         exact ⟨lg1, logs hlg.1 hlt9 hlg1, js, rfl⟩
end Go.Proofs.Ytlclleihoampdaa
namespace Go.Proofs.Ytlclleihoampdaa
open Go Go.Sx Go.Proofs
set_option maxRecDepth 10000
set_option maxHeartbeats 4000000
theorem values_con (n cap i : Nat) (ii : Int) (f g h : Nat → Int) (hii : ii = i) (hi : i < n) :
  Con Try.prog 25 [.int .i64 ii, .ptr 0 .z 1 0] [.one 22 [.slice 1 .z 3 n cap], .roA 3 n (fun m => [.int .i64 (f m), .int .i64 (g m), .int .i64 (h m)])]
   (fun v H R => v = .agg [.int .i64 (f i), .int .i64 (h i), .int .i64 (g i)] ∧ H = [.one 22 [.slice 1 .z 3 n cap], .roA 3 n (fun m => [.int .i64 (f m), .int .i64 (g m), .int .i64 (h m)])] ∧ R = []) := by
 refine con_gen (con_cut 2 (by simp) (con_drop (con_walk hmix fn25 ?_)))
 intro vb vc vw vtoN vofN vaddN vsubN vmaxI vminI vcutN vgd vst vln vrep vsub vonto vsplice vstrEq vbyteV vnotB veqB hw qb qc qw qtoN qofN qaddN qsubN qmaxI qminI qcutN qgd qst qln qrep qsub qonto qsplice qstrEq qbyteV qnotB qeqB
 have hm := hmix; generalize Try.prog = P at *
 have hto : vtoN ii = i := by rw [hii]; simp only [qtoN, Int.toNat_natCast]
 have hin : 0 ≤ ii ∧ ii < (n : Int) := by omega
 have ha : vaddN 0 i < n := by simp only [qaddN]; omega
 have h0 : 0 < n := by omega
 have e0 : vrep 3 0 = [0, 0, 0] := by simp only [qrep]; rfl
 have e1 : ∀ x, vst [0, 0, 0] 0 x = [x, 0, 0] := fun x => by simp only [qst]; rfl
 have e2 : ∀ x y, vst [x, 0, 0] 1 y = [x, y, 0] := fun x y => by simp only [qst]; rfl
 have e3 : ∀ x y z, vst [x, y, 0] 2 z = [x, y, z] := fun x y z => by simp only [qst]; rfl
 have el : ∀ x y z, vln [x, y, z] = 3 := fun x y z => by simp only [qln]; rfl
 cbv
 rw [hto]
 refine ⟨fun _ => rfl, ⟨hin⟩, ⟨ha⟩, ⟨h0⟩, ⟨hi⟩, ⟨hin⟩, ⟨ha⟩, ⟨h0⟩, ⟨hi⟩, ⟨hin⟩, ⟨ha⟩, ⟨h0⟩, ⟨hi⟩, ?_⟩
 rw [e0, e1, e2, e3, el, el, el]
 refine ⟨⟨by decide⟩, ⟨by decide⟩, ⟨by decide⟩, ?_⟩
 cbv
 exact ⟨rfl, trivial⟩
theorem codeL_con (v : Int) (gL bL : List Int) (hg : gL = begL) (hb : bL = bitsL) (hv : 0 ≤ v ∧ v ≤ 131071) :
  Con Try.prog 91 [.int .i64 v, .ptr 0 .z 1 0, .ptr 1 .z 1 0, .ptr 2 .z 1 0, .ptr 3 .z 1 0] [.ints 173 .i64 gL, .one 3 [.int .i64 0], .one 3 [.int .i64 16], .one 63 [.slice 4 .z 1 20 20], .ints 3 .i64 bL]
   (fun r H R => H = [.ints 173 .i64 gL, .one 3 [.int .i64 0], .one 3 [.int .i64 16], .one 63 [.slice 4 .z 1 20 20], .ints 3 .i64 bL] ∧ R = [] ∧ ∃ c : Int, r = .int .i64 c ∧ CdOk ofL 35 c v) := by
 refine (code_con 16 0 v gL bL 20 20 (by rw [hg]; rfl) (by rw [hb]; rfl) (by decide) (by decide) ⟨hv.1, by omega⟩ (by decide) (by decide) (by rw [hg]; rfl)).mono ?_
 rintro r H R ⟨h1, h2, c, h3, h4⟩
 rw [hg] at h4
 exact ⟨h1, h2, c, h3, cdL hv h4⟩
theorem codeM_con (v : Int) (gM bM : List Int) (hg : gM = begM) (hb : bM = bitsM) (hv : 3 ≤ v ∧ v ≤ 131074) :
  Con Try.prog 91 [.int .i64 v, .ptr 0 .z 1 0, .ptr 1 .z 1 0, .ptr 2 .z 1 0, .ptr 3 .z 1 0] [.ints 173 .i64 gM, .one 3 [.int .i64 3], .one 3 [.int .i64 32], .one 63 [.slice 4 .z 1 21 21], .ints 3 .i64 bM]
   (fun r H R => H = [.ints 173 .i64 gM, .one 3 [.int .i64 3], .one 3 [.int .i64 32], .one 63 [.slice 4 .z 1 21 21], .ints 3 .i64 bM] ∧ R = [] ∧ ∃ c : Int, r = .int .i64 c ∧ CdOk ofM 52 c v) := by
 refine (code_con 32 3 v gM bM 21 21 (by rw [hg]; rfl) (by rw [hb]; rfl) (by decide) (by decide) ⟨by omega, by omega⟩ (by decide) (by decide) (by rw [hg]; rfl)).mono ?_
 rintro r H R ⟨h1, h2, c, h3, h4⟩
 rw [hg] at h4
 exact ⟨h1, h2, c, h3, cdM hv h4⟩
theorem codeB_con' (v : Int) (hv : 1 ≤ v ∧ v ≤ 268435456) : Con Try.prog 65 [.int .i64 v] [] (fun r H R => H = [] ∧ R = [] ∧ ∃ c : Int, r = .int .i64 c ∧ CdOk ofB 31 c v) := by
 refine (codeB_con v ⟨hv.1, by omega⟩).mono ?_
 rintro r H R ⟨h1, h2, c, n, h3, rfl, _, h4, h5⟩
 exact ⟨h1, h2, _, h3, cdB hv h4 h5⟩
theorem put_ws (bs l : List Int) (c n : Nat) (x k m : Int) (hx : 0 ≤ x ∧ x < 2 ^ 64) (hk : 0 ≤ k ∧ k ≤ 56) (h : WS bs l n m) (hl : bs.length ≤ 2 ^ 40) :
  Con Try.prog 29 [.ptr 0 .z 2 0, .int .u64 x, .int .i64 k] [.one 71 [.slice 1 .z 1 n c, .int .i64 m], .buf 5 .u8 l c]
   (fun v H R => R = [1] ∧ ∃ l' n' m' c', WS (bs ++ bitsN x k.toNat) l' n' m' ∧ v = .int .i64 0 ∧ H = [.one 71 [.slice 1 .z 1 n' c', .int .i64 m'], .buf 5 .u8 l' c']) := by
 obtain ⟨h1, rfl, rfl, rfl⟩ := h
 obtain ⟨j, rfl⟩ : ∃ j : Nat, k = j := ⟨k.toNat, by omega⟩
 refine con_gen ((put_con bs c x j (by omega) hx h1 hl).mono ?_)
 rintro v H R ⟨rfl, rfl, c', rfl⟩
 refine ⟨rfl, _, _, _, c', ⟨fun b hb => ?_, rfl, rfl, rfl⟩, rfl, rfl⟩
 rw [Int.toNat_natCast] at hb
 rcases List.mem_append.1 hb with hb | hb
 ·exact h1 b hb
 ·exact bitsN_bit _ _ b hb
theorem close_ws (bs l : List Int) (c n : Nat) (m : Int) (h : WS bs l n m) (hl : bs.length ≤ 2 ^ 40) :
  Con Try.prog 31 [.ptr 0 .z 2 0] [.one 71 [.slice 1 .z 1 n c, .int .i64 m], .buf 5 .u8 l c]
   (fun v H R => R = [1] ∧ ∃ l' n' c', l' = pack (bs ++ [1]) ∧ n' = l'.length ∧ v = .slice 1 .z 1 n' c' ∧ H = [.one 71 [.val (.slice none 0 0), .int .i64 0], .buf 5 .u8 l' c']) := by
 obtain ⟨h1, rfl, rfl, rfl⟩ := h
 refine (close_con bs c h1 hl).mono ?_
 rintro v H R ⟨rfl, c', rfl, rfl⟩
 exact ⟨rfl, _, _, c', rfl, rfl, rfl, rfl⟩
theorem chs_tf {lg most ah : Int} {cnt codes : List Int} {way : Int} {hd : List Int} {N : Nat} {A B C : Nat → Int} (h : Chs lg most ah cnt codes way hd ⟨N, A, B, C⟩) :
  ∃ e : Nat, N = 2 ^ e ∧ e ≤ 12 ∧ N ≤ 4096 ∧ 1 ≤ N ∧ (∀ k, k < N → 0 ≤ A k ∧ A k ≤ most ∧ 0 ≤ B k ∧ B k ≤ 12 ∧ 0 ≤ C k ∧ C k + 2 ^ (B k).toNat ≤ N) := by
 have hne : N ≠ 0 := h.ne
 obtain ⟨e, h1, h2, h3⟩ := h.tok.resolve_left hne
 have h1 : N = 2 ^ e := h1
 refine ⟨e, h1, h2, ?_, by omega, h3⟩
 rw [h1]
 exact Nat.le_trans (Nat.pow_le_pow_right (by decide) h2) (by decide)
structure TC (most : Int) (N : Nat) (A B C : Nat → Int) (c : Int) : Prop where
 n4 : N ≤ 4096
 cr : 0 ≤ c ∧ c < 256
 cm : c ≤ most
 ar : ∀ k, k < N → 0 ≤ A k ∧ A k < 256
 br : ∀ k, k < N → 0 ≤ B k ∧ B k ≤ 12 ∧ 0 ≤ C k ∧ C k < 4096
 any : ∃ k : Nat, k < N ∧ A k = c
 hit : ∀ v : Int, 0 ≤ v → v < N → ∃ k : Nat, k < N ∧ A k = c ∧ C k ≤ v ∧ v - C k < 2 ^ (B k).toNat
theorem tc_of {lg most ah : Int} {cnt codes : List Int} {way : Int} {hd : List Int} {N : Nat} {A B C : Nat → Int} (h : Chs lg most ah cnt codes way hd ⟨N, A, B, C⟩) {c : Int} (hc : c ∈ codes) (hr : 0 ≤ c ∧ c ≤ most) (hm : most ≤ 255) : TC most N A B C c := by
 obtain ⟨e, h1, h2, h3, h4, h5⟩ := chs_tf h
 have hh := h.hit c hc
 refine ⟨h3, ⟨hr.1, by omega⟩, hr.2, fun k hk => ?_, fun k hk => ?_, ?_, hh⟩
 ·have := h5 k hk; omega
 ·have := h5 k hk
  have hp : (0 : Int) < 2 ^ (B k).toNat := Int.pow_pos (by decide)
  omega
 ·obtain ⟨k, k1, k2, _⟩ := hh 0 (Int.le_refl 0) (by show (0 : Int) < (N : Int); omega)
  exact ⟨k, k1, k2⟩
end Go.Proofs.Ytlclleihoampdaa
namespace Go.Proofs.Ytlclleihoampdaa
open Go Go.Sx Go.Proofs
set_option maxRecDepth 10000
theorem key3w {A B C : Type} {Goal : Prop} (G Fc : A → B → C → Prop) (hm : (∀ a b c, Fc a b c → G a b c) → Goal) (hk : ∀ a b c, Fc a b c → G a b c) : Goal := hm hk
def Fit3 (x y z : Int) : Prop := (0 ≤ x ∧ x ≤ 131071) ∧ (3 ≤ y ∧ y ≤ 131074) ∧ 1 ≤ z ∧ z ≤ 268435456
def hdrS (n : Nat) : List Int := if n < 128 then [(n : Int)] else [(n : Int) / 256 + 128, (n : Int) % 256]
structure WOut (rows : List Row) (q : List Int) : Prop where
 ex : ∃ (w0 w1 w2 : Int) (h0 h1 h2 : List Int) (TL TB TM : Tb) (c0 c1 c2 : List Int) (lL lB lM : Nat) (sL sB sM : Nat) (bits : List Int),
  Chs 9 35 6 cntL c0 w0 h0 TL ∧ Chs 8 31 5 cntB c1 w1 h1 TB ∧ Chs 9 52 6 cntM c2 w2 h2 TM ∧ TL.n = 2 ^ lL ∧ TB.n = 2 ^ lB ∧ TM.n = 2 ^ lM ∧ lL ≤ 12 ∧ lB ≤ 12 ∧ lM ≤ 12 ∧
  Enc3 TL TB TM rows sL sB sM bits ∧
  q = hdrS rows.length ++ [w0 * 64 + w1 * 16 + w2 * 4] ++ h0 ++ h1 ++ h2 ++ pack (bits ++ bitsN sM lM ++ bitsN sB lB ++ bitsN sL lL ++ [1])
theorem ge_of {x y : Int} (h : ¬ x < y) : y ≤ x := by omega
theorem le_of {x y : Int} (h : ¬ y < x) : x ≤ y := by omega
theorem nextc9 {a n : Nat} {x y : Int} (hx : x = a) (hy : y = ((a + 1 : Nat) : Int)) (ha : a < n) (hn : n ≤ 3000 ∨ (65535 < n ∧ n ≤ 9223372036854775807)) : bV .add .i64 x 1 = y := by rw [add_i64 (by omega) (by omega)]; omega
theorem u8_one {n : Nat} {ni : Int} (h : ni = n) (hn : n < 128) : [IntKind.u8.wrap ni] = [(n : Int)] := by rw [wrap_u8 (by omega) (by omega), h]
theorem u8_two {n : Nat} {ni : Int} (h : ni = n) (hn : ¬ n < 128) (hn3 : n ≤ 3000) : [IntKind.u8.wrap (bV .add .i64 (bV .shr .i64 ni 8) 128), IntKind.u8.wrap ni] = [(n : Int) / 256 + 128, (n : Int) % 256] := by
 have e1 : bV .shr .i64 ni 8 = (n : Int) / 256 := by
  rw [shr_eq (by decide), h, show (2 : Int) ^ (8 : Int).toNat = 256 by decide]
 have e2 : IntKind.u8.wrap ni = (n : Int) % 256 := by subst h; simp [IntKind.wrap, IntKind.bits, IntKind.signed]
 rw [e1, e2, add_i64 (by omega) (by omega), wrap_u8 (by omega) (by omega)]
theorem fit_next {P : Nat → Prop} {i : Nat} (h : ∀ j, j < i → P j) (hi : P i) : ∀ j, j < i + 1 → P j := fun j hj => by
 by_cases e : j = i
 ·subst e; exact hi
 ·exact h j (by omega)
structure Cds (f g h : Nat → Int) (l0 l1 l2 : List Int) (i : Nat) : Prop where
 e0 : l0.length = i
 e1 : l1.length = i
 e2 : l2.length = i
 ok : ∀ j, j < i → CdOk ofL 35 (l0.getD j 0) (f j) ∧ CdOk ofB 31 (l1.getD j 0) (h j) ∧ CdOk ofM 52 (l2.getD j 0) (g j)
theorem fit8 {i n : Nat} (h : i < n) (hn : n ≤ 3000) : (i + 1) * 8 ≤ 140737488355328 := by omega
theorem getD_app {l : List Int} {c : Int} {j : Nat} : (l ++ [c]).getD j 0 = if j = l.length then c else l.getD j 0 := by
 rw [List.getD_eq_getElem?_getD, List.getD_eq_getElem?_getD]
 rcases Nat.lt_trichotomy j l.length with h | h | h
 ·rw [List.getElem?_append_left h, if_neg (by omega)]
 ·subst h; rw [List.getElem?_append_right (Nat.le_refl _)]; simp
 ·rw [if_neg (by omega), List.getElem?_eq_none (by simp; omega), List.getElem?_eq_none (by omega)]
theorem cds_next {f g h : Nat → Int} {l0 l1 l2 : List Int} {i : Nat} {c0 c1 c2 : Int} (H : Cds f g h l0 l1 l2 i) (h0 : CdOk ofL 35 c0 (f i)) (h1 : CdOk ofB 31 c1 (h i)) (h2 : CdOk ofM 52 c2 (g i)) :
  Cds f g h (l0 ++ [c0]) (l1 ++ [c1]) (l2 ++ [c2]) (i + 1) := by
 refine ⟨by simp [H.e0], by simp [H.e1], by simp [H.e2], fun j hj => ?_⟩
 rw [getD_app, getD_app, getD_app, H.e0, H.e1, H.e2]
 by_cases e : j = i
 ·subst e; simp only [if_true]; exact ⟨h0, h1, h2⟩
 ·rw [if_neg e, if_neg e, if_neg e]; exact H.ok j (by omega)
theorem cd_mem {of : Int → Int × Int} (most : Nat) {l : List Int} {v : Nat → Int} {n : Nat} (hl : l.length = n) (h : ∀ j, j < n → CdOk of most (l.getD j 0) (v j)) {c : Int} (hc : c ∈ l) : 0 ≤ c ∧ c < ((most + 1 : Nat) : Int) := by
 obtain ⟨i, hi, e⟩ := List.mem_iff_getElem.1 hc
 have h1 := h i (by omega)
 rw [List.getD_eq_getElem?_getD, List.getElem?_eq_getElem hi] at h1
 simp only [Option.getD_some, e] at h1
 have h2 := h1.1
 have h3 := h1.2.1
 omega
theorem ways_eq {a b c : Int} (ha : 0 ≤ a ∧ a ≤ 2) (hb : 0 ≤ b ∧ b ≤ 2) (hc : 0 ≤ c ∧ c ≤ 2) : bV .or .u8 (bV .or .u8 (bV .or .u8 0 (bV .shl .u8 a 6)) (bV .shl .u8 b 4)) (bV .shl .u8 c 2) = a * 64 + b * 16 + c * 4 := by
 have h3 : ∀ x : Int, 0 ≤ x ∧ x ≤ 2 → x = 0 ∨ x = 1 ∨ x = 2 := fun x h => by omega
 rcases h3 a ha with rfl | rfl | rfl <;> rcases h3 b hb with rfl | rfl | rfl <;> rcases h3 c hc with rfl | rfl | rfl <;> decide
theorem hdrS_len (n : Nat) : (hdrS n).length ≤ 2 := by unfold hdrS; split <;> simp
theorem fitq {a m : Nat} (h : a + m ≤ 100000) : (a + m) * 1 ≤ 140737488355328 := by omega
theorem sub_n1 {n : Nat} {ni m : Int} (h : ni = n) (hm : m = (n : Int) - 1) (hn : n ≤ 3000) : bV .sub .i64 ni 1 = m := by rw [sub_i64 (by omega) (by omega)]; omega
theorem getD_memL {l : List Int} {c : Int} {j : Nat} (h : c = l.getD j 0) (hj : j < l.length) : c ∈ l := by
 rw [h, List.getD_eq_getElem?_getD, List.getElem?_eq_getElem hj]
 exact List.getElem_mem _
theorem dx_facts {of : Int → Int × Int} {most c v f n dx : Int} (h : CdOk of most c v) (e : (f, n) = of c) (hn : 0 ≤ n ∧ n ≤ 31) (hf : 0 ≤ f ∧ f ≤ 2147483648) (hv : 0 ≤ v ∧ v ≤ 268435456) (hd : dx = v - f) :
  bV .sub .i64 v f = dx ∧ IntKind.u64.wrap dx = dx ∧ 0 ≤ dx ∧ dx < 2 ^ 64 := by
 have h1 := h.2.2.1
 rw [← e] at h1
 have h1 : f ≤ v := h1
 have e64 : (2 : Int) ^ 64 = 18446744073709551616 := by decide
 exact ⟨by rw [hd]; exact sub_i64 (by omega) (by omega), wrap_u64 (by omega) (by omega), by omega, by omega⟩
theorem range_n {p : Int × Int} {a b : Int} (h : 0 ≤ p.1 ∧ p.1 ≤ a ∧ 0 ≤ p.2 ∧ p.2 ≤ b) (hb : b ≤ 31 := by decide) : 0 ≤ p.2 ∧ p.2 ≤ 31 := ⟨h.2.2.1, by omega⟩
theorem range_f {p : Int × Int} {a b : Int} (h : 0 ≤ p.1 ∧ p.1 ≤ a ∧ 0 ≤ p.2 ∧ p.2 ≤ b) (ha : a ≤ 2147483648 := by decide) : 0 ≤ p.1 ∧ p.1 ≤ 2147483648 := ⟨h.1, by omega⟩
theorem ext_eq {N0 N1 N2 : Nat} {A0 B0 C0 A1 B1 C1 A2 B2 C2 : Nat → Int} {k0 k1 k2 : Nat} {e0 e1 e2 f0 f1 f2 n0 n1 n2 x y z d0 d1 d2 : Int} {bs b1 b2 b3 : List Int} (h0 : A0 k0 = e0) (h1 : A1 k1 = e1) (h2 : A2 k2 = e2)
  (o0 : (f0, n0) = ofL e0) (o1 : (f1, n1) = ofB e1) (o2 : (f2, n2) = ofM e2) (g0 : d0 = x - f0) (g1 : d1 = z - f1) (g2 : d2 = y - f2)
  (q1 : b1 = bs ++ bitsN d0 n0.toNat) (q2 : b2 = b1 ++ bitsN d2 n2.toNat) (q3 : b3 = b2 ++ bitsN d1 n1.toNat) : b3 = bs ++ extB ⟨N0, A0, B0, C0⟩ ⟨N1, A1, B1, C1⟩ ⟨N2, A2, B2, C2⟩ (x, y, z) k0 k1 k2 := by
 subst h0 h1 h2 q3 q2 q1 g0 g1 g2
 unfold extB
 simp only [← o0, ← o1, ← o2, List.append_assoc]
theorem row_ok {N0 N1 N2 : Nat} {A0 B0 C0 A1 B1 C1 A2 B2 C2 : Nat → Int} {k0 k1 k2 : Nat} {e0 e1 e2 x y z : Int} (h0 : A0 k0 = e0) (h1 : A1 k1 = e1) (h2 : A2 k2 = e2) (l0 : k0 < N0) (l1 : k1 < N1) (l2 : k2 < N2)
  (c0 : CdOk ofL 35 e0 x) (c1 : CdOk ofB 31 e1 z) (c2 : CdOk ofM 52 e2 y) : RowOk ⟨N0, A0, B0, C0⟩ ⟨N1, A1, B1, C1⟩ ⟨N2, A2, B2, C2⟩ (x, y, z) k0 k1 k2 := by
 subst h0 h1 h2
 exact ⟨l0, l1, l2, c0, c2, c1⟩
theorem drop_row {rows : List Row} {j : Nat} {x y z : Int} (hj : j < rows.length) (hx : x = (rows.getD j (0, 0, 0)).1) (hy : y = (rows.getD j (0, 0, 0)).2.1) (hz : z = (rows.getD j (0, 0, 0)).2.2) : rows.drop j = (x, y, z) :: rows.drop (j + 1) := by
 rw [List.drop_eq_getElem_cons hj]
 subst hx hy hz
 rw [List.getD_eq_getElem?_getD, List.getElem?_eq_getElem hj]
 rfl
theorem enc_one {rows : List Row} {T0 T1 T2 : Tb} {j k0 k1 k2 : Nat} {x y z : Int} {bs b3 : List Int} (hj : j + 1 = rows.length) (hx : x = (rows.getD j (0, 0, 0)).1) (hy : y = (rows.getD j (0, 0, 0)).2.1) (hz : z = (rows.getD j (0, 0, 0)).2.2)
  (hr : RowOk T0 T1 T2 (x, y, z) k0 k1 k2) (hb : bs = []) (h3 : b3 = bs ++ extB T0 T1 T2 (x, y, z) k0 k1 k2) : Enc3 T0 T1 T2 (rows.drop j) k0 k1 k2 b3 := by
 rw [drop_row (by omega) hx hy hz, List.drop_eq_nil_of_le (by omega), h3, hb, List.nil_append]
 exact .one hr
theorem enc_more {rows : List Row} {T0 T1 T2 : Tb} {j k0 k1 k2 p0 p1 p2 : Nat} {x y z : Int} {bs b3 : List Int} (hj : j < rows.length) (hx : x = (rows.getD j (0, 0, 0)).1) (hy : y = (rows.getD j (0, 0, 0)).2.1) (hz : z = (rows.getD j (0, 0, 0)).2.2)
  (hr : RowOk T0 T1 T2 (x, y, z) k0 k1 k2) (he : Enc3 T0 T1 T2 (rows.drop (j + 1)) p0 p1 p2 bs) (a0 : T0.c k0 ≤ p0) (b0 : p0 - T0.c k0 < 2 ^ (T0.b k0).toNat) (a1 : T1.c k1 ≤ p1) (b1 : p1 - T1.c k1 < 2 ^ (T1.b k1).toNat) (a2 : T2.c k2 ≤ p2) (b2 : p2 - T2.c k2 < 2 ^ (T2.b k2).toNat)
  (h3 : b3 = (bs ++ bitsN (p1 - T1.c k1) (T1.b k1).toNat ++ bitsN (p2 - T2.c k2) (T2.b k2).toNat ++ bitsN (p0 - T0.c k0) (T0.b k0).toNat) ++ extB T0 T1 T2 (x, y, z) k0 k1 k2) : Enc3 T0 T1 T2 (rows.drop j) k0 k1 k2 b3 := by
 rw [drop_row hj hx hy hz, h3]
 exact .cons he hr a0 b0 a1 b1 a2 b2
theorem bnd3 {a b c d n j : Nat} (h : a + 200 * (j + 1) ≤ 200 * n) (h1 : b ≤ a + 31) (h2 : c ≤ b + 31) (h3 : d ≤ c + 31) : d + 200 * j ≤ 200 * n := by omega
theorem dec1 {j : Nat} {ii m : Int} (h : ii = (j : Int)) (hm : m = (j : Int) - 1) (hj : j ≤ 100000) : bV .sub .i64 ii 1 = m := by rw [sub_i64 (by omega) (by omega)]; omega
theorem enc3_first {TL TB TM : Tb} {rows : List Row} {sL sB sM : Nat} {bits : List Int} (h : Enc3 TL TB TM rows sL sB sM bits) : sL < TL.n ∧ sB < TB.n ∧ sM < TM.n := by
 cases h with
 | one h => exact ⟨h.1, h.2.1, h.2.2.1⟩
 | cons _ h => exact ⟨h.1, h.2.1, h.2.2.1⟩
theorem st_rng {s : Int} {p N : Nat} (h : s = p) (hp : p < N) (hN : N ≤ 4096) : 0 ≤ s ∧ s < 4096 := by omega
theorem st_facts {s B C d : Int} (h : 0 ≤ B ∧ B ≤ 12 ∧ 0 ≤ C ∧ C < 4096) (h1 : C ≤ s) (hs : s < 4096) (hd : d = s - C) :
  IntKind.i64.wrap C = C ∧ IntKind.i64.wrap B = B ∧ bV .sub .i64 s C = d ∧ IntKind.u64.wrap d = d ∧ (0 ≤ d ∧ d < 2 ^ 64) ∧ 0 ≤ B ∧ B ≤ 56 := by
 have e64 : (2 : Int) ^ 64 = 18446744073709551616 := by decide
 exact ⟨wrap_i64 (by omega) (by omega), wrap_i64 (by omega) (by omega), by rw [hd]; exact sub_i64 (by omega) (by omega), wrap_u64 (by omega) (by omega), ⟨by omega, by omega⟩, by omega, by omega⟩
theorem puts_eq {B0 C0 B1 C1 B2 C2 : Nat → Int} {k0 k1 k2 p0 p1 p2 : Nat} {s0 s1 s2 d0 d1 d2 : Int} {bs b1 b2 b3 b6 E : List Int} (q0 : d0 = s0 - C0 k0) (q1 : d1 = s1 - C1 k1) (q2 : d2 = s2 - C2 k2) (e0 : s0 = p0) (e1 : s1 = p1) (e2 : s2 = p2)
  (h1 : b1 = bs ++ bitsN d1 (B1 k1).toNat) (h2 : b2 = b1 ++ bitsN d2 (B2 k2).toNat) (h3 : b3 = b2 ++ bitsN d0 (B0 k0).toNat) (h4 : b6 = b3 ++ E) :
  b6 = (bs ++ bitsN ((p1 : Int) - C1 k1) (B1 k1).toNat ++ bitsN ((p2 : Int) - C2 k2) (B2 k2).toNat ++ bitsN ((p0 : Int) - C0 k0) (B0 k0).toNat) ++ E := by
 subst h4 h3 h2 h1 q0 q1 q2 e0 e1 e2
 rfl
theorem bnd6 {a b c d e f g n j : Nat} (h : a + 200 * (j + 1) ≤ 200 * n) (h1 : b ≤ a + 12) (h2 : c ≤ b + 12) (h3 : d ≤ c + 12) (h4 : e ≤ d + 31) (h5 : f ≤ e + 31) (h6 : g ≤ f + 31) : g + 200 * j ≤ 200 * n := by omega
theorem lg_facts {xi : Int} {x : Nat} (h : xi = x) (hx : x ≤ 12) : xi.toNat ≤ 12 ∧ (0 ≤ xi ∧ xi ≤ 56) ∧ xi.toNat = x := by omega
theorem bs_add {bs b1 : List Int} {s : Int} {k : Nat} (h : b1 = bs ++ bitsN s k) (hk : k ≤ 12) : b1.length ≤ bs.length + 12 := by rw [h, List.length_append, bitsN_length]; omega
theorem le40 {a n k : Nat} (h : a ≤ 200 * n + k) (hn : n ≤ 3000) (hk : k ≤ 1000) : a ≤ 2 ^ 40 := by omega
theorem wout_of {rows : List Row} {n : Nat} {w0 w1 w2 W : Int} {hd0 hd1 hd2 hdr q1 q2 q3 q4 q5 pk bs bs1 bs2 bs3 l0 l1 l2 : List Int} {T0 T1 T2 : Tb} {x0 x1 x2 p0 p1 p2 : Nat} {s0 s1 s2 xi0 xi1 xi2 : Int}
  (hn : n = rows.length) (hhdr : hdr = hdrS n) (hW : W = w0 * 64 + w1 * 16 + w2 * 4) (hq1 : q1 = hdr ++ [W]) (hq2 : q2 = q1 ++ hd0) (hq3 : q3 = q2 ++ hd1) (hq4 : q4 = q3 ++ hd2) (hq5 : q5 = q4 ++ pk) (hpk : pk = pack (bs3 ++ [1]))
  (hb1 : bs1 = bs ++ bitsN s2 xi2.toNat) (hb2 : bs2 = bs1 ++ bitsN s1 xi1.toNat) (hb3 : bs3 = bs2 ++ bitsN s0 xi0.toNat) (hx0 : xi0 = x0) (hx1 : xi1 = x1) (hx2 : xi2 = x2) (hp0 : s0 = p0) (hp1 : s1 = p1) (hp2 : s2 = p2)
  (H0 : Chs 9 35 6 cntL l0 w0 hd0 T0) (H1 : Chs 8 31 5 cntB l1 w1 hd1 T1) (H2 : Chs 9 52 6 cntM l2 w2 hd2 T2) (n0 : T0.n = 2 ^ x0) (n1 : T1.n = 2 ^ x1) (n2 : T2.n = 2 ^ x2) (m0 : x0 ≤ 12) (m1 : x1 ≤ 12) (m2 : x2 ≤ 12)
  (henc : Enc3 T0 T1 T2 (rows.drop 0) p0 p1 p2 bs) : WOut rows q5 := by
 subst hp2 hp1 hp0 hx2 hx1 hx0 hb3 hb2 hb1 hpk hq5 hq4 hq3 hq2 hq1 hW hhdr hn
 rw [List.drop_zero] at henc
 exact ⟨w0, w1, w2, hd0, hd1, hd2, T0, T1, T2, l0, l1, l2, x0, x1, x2, p0, p1, p2, bs, H0, H1, H2, n0, n1, n2, m0, m1, m2, henc, by simp only [Int.toNat_natCast]⟩
theorem pk_len {bs3 pk : List Int} {npk n : Nat} (h : pk = pack (bs3 ++ [1])) (hn : npk = pk.length) (hb : bs3.length ≤ 200 * n + 36) (hn3 : n ≤ 3000) : npk ≤ 76000 := by
 rw [hn, h, pack_length, List.length_append, List.length_singleton]
 omega
end Go.Proofs.Ytlclleihoampdaa
