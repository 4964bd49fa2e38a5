import Derived.Test.YtlclleihoampdaaEC
import Derived.Test.YtlclleihoampdaaCode
import Derived.Test.YtlclleihoampdaaED
set_option linter.unusedVariables false
set_option linter.unusedSimpArgs false
namespace Go.Proofs.Ytlclleihoampdaa
open Go Go.Sx Go.Proofs
theorem hmix : Try.prog.follows .mixedOrders = true := by kernel_rfl
end Go.Proofs.Ytlclleihoampdaa
namespace Go.Proofs.Ytlclleihoampdaa
open Go Go.Sx Go.Proofs
def tbK : Tab := []
theorem tbK_ok : TabOk Try.prog tbK := trivial
set_option maxRecDepth 100000 in
set_option maxHeartbeats 4000000 in
theorem stepsL_con : Con Try.prog 61 [.int .i64 16, .int .i64 16, .slice 0 .z 1 20 20] [.ints 3 .i64 [1, 1, 1, 1, 2, 2, 3, 3, 4, 6, 7, 8, 9, 10, 11, 12, 13, 14, 15, 16]]
  (fun v H R => v = .tup [.fn 90 [.ptr 1 .z 1 0, .ptr 4 .z 1 0, .ptr 3 .z 1 0, .ptr 2 .z 1 0], .fn 91 [.ptr 3 .z 1 0, .ptr 4 .z 1 0, .ptr 1 .z 1 0, .ptr 2 .z 1 0]] ∧
   H = [.ints 3 .i64 [1, 1, 1, 1, 2, 2, 3, 3, 4, 6, 7, 8, 9, 10, 11, 12, 13, 14, 15, 16], .one 3 [.int .i64 16], .one 63 [.slice 0 .z 1 20 20],
    .ints 173 .i64 [16, 18, 20, 22, 24, 28, 32, 40, 48, 64, 128, 256, 512, 1024, 2048, 4096, 8192, 16384, 32768, 65536, 0, 0, 0, 0, 0, 0, 0, 0, 0, 0, 0, 0], .one 3 [.int .i64 0]] ∧ R = []) := by
 have hT := tbK_ok
 have hm := hmix
 refine con_gen (con_run 1000 tbK hmix hT fn61 ?_)
 generalize Try.prog = P at *
 cbv
 repeat (first | refine And.intro ⟨by decide⟩ ?_ | refine And.intro ⟨Nat.le_refl _⟩ ?_ | ((intro _ _ _; skip); cbv; done) | ((intro _ _ _; skip); cbv) | ((intro _ _; skip); cbv) | (intro _; cbv))
 trivial
set_option maxRecDepth 100000 in
set_option maxHeartbeats 4000000 in
theorem stepsM_con : Con Try.prog 61 [.int .i64 32, .int .i64 35, .slice 0 .z 1 21 21] [.ints 3 .i64 [1, 1, 1, 1, 2, 2, 3, 3, 4, 4, 5, 7, 8, 9, 10, 11, 12, 13, 14, 15, 16]]
  (fun v H R => v = .tup [.fn 90 [.ptr 1 .z 1 0, .ptr 4 .z 1 0, .ptr 3 .z 1 0, .ptr 2 .z 1 0], .fn 91 [.ptr 3 .z 1 0, .ptr 4 .z 1 0, .ptr 1 .z 1 0, .ptr 2 .z 1 0]] ∧
   H = [.ints 3 .i64 [1, 1, 1, 1, 2, 2, 3, 3, 4, 4, 5, 7, 8, 9, 10, 11, 12, 13, 14, 15, 16], .one 3 [.int .i64 32], .one 63 [.slice 0 .z 1 21 21],
    .ints 173 .i64 [35, 37, 39, 41, 43, 47, 51, 59, 67, 83, 99, 131, 259, 515, 1027, 2051, 4099, 8195, 16387, 32771, 65539, 0, 0, 0, 0, 0, 0, 0, 0, 0, 0, 0], .one 3 [.int .i64 3]] ∧ R = []) := by
 have hT := tbK_ok
 have hm := hmix
 refine con_gen (con_run 1000 tbK hmix hT fn61 ?_)
 generalize Try.prog = P at *
 cbv
 repeat (first | refine And.intro ⟨by decide⟩ ?_ | refine And.intro ⟨Nat.le_refl _⟩ ?_ | ((intro _ _ _; skip); cbv; done) | ((intro _ _ _; skip); cbv) | ((intro _ _; skip); cbv) | (intro _; cbv))
 trivial
end Go.Proofs.Ytlclleihoampdaa
namespace Go.Proofs.Ytlclleihoampdaa
open Go Go.Sx Go.Proofs
def cntL : List Int := [4, 3, 2, 2, 2, 2, 2, 2, 2, 2, 2, 2, 2, 1, 1, 1, 2, 2, 2, 2, 2, 2, 2, 2, 2, 3, 2, 1, 1, 1, 1, 1] ++ [-1, -1, -1, -1]
def cntB : List Int := [1, 1, 1, 1, 1, 1, 2, 2, 2, 1, 1, 1, 1, 1, 1, 1, 1, 1, 1, 1, 1, 1, 1, 1, -1, -1, -1, -1, -1]
def cntM : List Int := [1, 4, 3, 2, 2, 2, 2, 2, 2] ++ List.replicate 37 1 ++ List.replicate 7 (-1)
theorem cntM_len : cntM.length = 53 := by decide
theorem cntM_9 : cntM.take 9 = [1, 4, 3, 2, 2, 2, 2, 2, 2] := by decide
theorem cntM_next : ∀ k, k < 53 → 9 ≤ k → cntM.take (k + 1) = cntM.take k ++ [if 45 < k then -1 else 1] := by decide +kernel
theorem cntM_all : cntM.take 53 = cntM := by decide
def bitsL : List Int := [1, 1, 1, 1, 2, 2, 3, 3, 4, 6, 7, 8, 9, 10, 11, 12, 13, 14, 15, 16]
def bitsM : List Int := [1, 1, 1, 1, 2, 2, 3, 3, 4, 4, 5, 7, 8, 9, 10, 11, 12, 13, 14, 15, 16]
def begL : List Int := [16, 18, 20, 22, 24, 28, 32, 40, 48, 64, 128, 256, 512, 1024, 2048, 4096, 8192, 16384, 32768, 65536, 0, 0, 0, 0, 0, 0, 0, 0, 0, 0, 0, 0]
def begM : List Int := [35, 37, 39, 41, 43, 47, 51, 59, 67, 83, 99, 131, 259, 515, 1027, 2051, 4099, 8195, 16387, 32771, 65539, 0, 0, 0, 0, 0, 0, 0, 0, 0, 0, 0]
set_option maxRecDepth 100000 in
set_option maxHeartbeats 4000000 in
theorem kinds_con (cL cB cM bL bM gL gM : List Int) (hcL : cL = cntL) (hcB : cB = cntB) (hcM : cM = cntM) (hbL : bL = bitsL) (hbM : bM = bitsM) (hgL : gL = begL) (hgM : gM = begM) :
  Con Try.prog 24 [] [] (fun v H R => R = [] ∧ ∃ c, 
   v = .agg [.int .i64 9, .int .i64 35, .int .i64 6, .slice 0 .z 1 36 36, .fn 90 [.ptr 4 .z 1 0, .ptr 7 .z 1 0, .ptr 6 .z 1 0, .ptr 5 .z 1 0], .fn 91 [.ptr 6 .z 1 0, .ptr 7 .z 1 0, .ptr 4 .z 1 0, .ptr 5 .z 1 0], .fn 60 [],
    .int .i64 8, .int .i64 31, .int .i64 5, .slice 1 .z 1 29 29, .fn 64 [], .fn 65 [], .fn 63 [],
    .int .i64 9, .int .i64 52, .int .i64 6, .slice 2 .z 1 53 c, .fn 90 [.ptr 9 .z 1 0, .ptr 12 .z 1 0, .ptr 11 .z 1 0, .ptr 10 .z 1 0], .fn 91 [.ptr 11 .z 1 0, .ptr 12 .z 1 0, .ptr 9 .z 1 0, .ptr 10 .z 1 0], .fn 62 []] ∧
   H = [.ints 124 .i16 cL, .ints 124 .i16 cB, .buf 124 .i16 cM c, .ints 3 .i64 bL, .one 3 [.int .i64 16], .one 63 [.slice 3 .z 1 20 20], .ints 173 .i64 gL, .one 3 [.int .i64 0],
    .ints 3 .i64 bM, .one 3 [.int .i64 32], .one 63 [.slice 8 .z 1 21 21], .ints 173 .i64 gM, .one 3 [.int .i64 3]]) := by
 have e1 : bL = [1, 1, 1, 1, 2, 2, 3, 3, 4, 6, 7, 8, 9, 10, 11, 12, 13, 14, 15, 16] := hbL
 have e2 : bM = [1, 1, 1, 1, 2, 2, 3, 3, 4, 4, 5, 7, 8, 9, 10, 11, 12, 13, 14, 15, 16] := hbM
 have e3 : gL = [16, 18, 20, 22, 24, 28, 32, 40, 48, 64, 128, 256, 512, 1024, 2048, 4096, 8192, 16384, 32768, 65536, 0, 0, 0, 0, 0, 0, 0, 0, 0, 0, 0, 0] := hgL
 have e4 : gM = [35, 37, 39, 41, 43, 47, 51, 59, 67, 83, 99, 131, 259, 515, 1027, 2051, 4099, 8195, 16387, 32771, 65539, 0, 0, 0, 0, 0, 0, 0, 0, 0, 0, 0] := hgM
 have e5 : cL = [4, 3, 2, 2, 2, 2, 2, 2, 2, 2, 2, 2, 2, 1, 1, 1, 2, 2, 2, 2, 2, 2, 2, 2, 2, 3, 2, 1, 1, 1, 1, 1] ++ [-1, -1, -1, -1] := hcL
 have e6 : cB = [1, 1, 1, 1, 1, 1, 2, 2, 2, 1, 1, 1, 1, 1, 1, 1, 1, 1, 1, 1, 1, 1, 1, 1, -1, -1, -1, -1, -1] := hcB
 clear hcL hcB hbL hbM hgL hgM
 have hL := stepsL_con
 have hM := stepsM_con
 refine con_gen (con_picks (con_drop (con_walk hmix fn24 ?_)))
 intro vb vc vw vtoN vofN vaddN vsubN vmaxI vminI vcutN vgd vst vln vrep vsub vonto vsplice vstrEq vbyteV vnotB veqB hw qb qc qw qtoN qofN qaddN qsubN qmaxI qminI qcutN qgd qst qln qrep qsub qonto qsplice qstrEq qbyteV qnotB qeqB
 have hm := hmix; generalize Try.prog = P at *
 have hofn : ∀ n, vofN n = (n : Int) := fun n => by simp only [qofN]
 cbv
 refine call_con (ρ := [(3, .z)]) hL ⟨by rfl, by rfl, by rfl, by cbv⟩ ?_
 rintro v H R js ⟨rfl, rfl, rfl⟩
 cbv
 refine call_con (ρ := [(9, .z)]) hM ⟨by rfl, by rfl, by rfl, by cbv⟩ ?_
 rintro v H R js2 ⟨rfl, rfl, rfl⟩
 cbv
 refine loop_fam (α := Nat × Nat × List Int) ([3, 22] ++ (List.range' 24 14)) [14] (fun _ => []) (fun (k, c, ls) => [(8, .one 58 [.lit .i64 9, .lit .i64 52, .lit .i64 6, .slice 14 .z 1 k c, .fn 90 [.ptr 10 .z 1 0, .ptr 13 .z 1 0, .ptr 12 .z 1 0, .ptr 11 .z 1 0], .fn 91 [.ptr 12 .z 1 0, .ptr 13 .z 1 0, .ptr 10 .z 1 0, .ptr 11 .z 1 0], .fn 62 []]), (14, .buf 124 .i16 ls c)])
  (fun (k, c, ls) => ls = cntM.take k ∧ 9 ≤ k ∧ k ≤ 53) (fun (k, _) => 53 - k) hw hm ?_ ?_
 ·refine Cv.intsB 14 9 (by rfl) (by rfl) (Cv.fold ([3, 22] ++ (List.range' 24 14)) 15 [14] (by exact Nat.le_refl _) (by exact Nat.le_of_ble_eq_true rfl) (by rfl) (by cbv) ?_)
  intro js
  refine ⟨(9, 9, [1, 4, 3, 2, 2, 2, 2, 2, 2]), ?_, js, rfl⟩
  exact ⟨cntM_9.symm, Nat.le_refl _, by decide⟩
 ·rintro ⟨k, c, ls⟩ js ⟨hls, hk1, hk2⟩
  obtain ⟨ki, hki⟩ : ∃ ki : Int, ki = (k : Int) := ⟨_, rfl⟩
  have ek : vofN k = ki := by rw [hofn, hki]
  by_cases hk : k < 53
  ·have h1 : vc .lss ki 53 = true := by rw [qc, lss_true]; omega
   obtain ⟨x, hx⟩ : ∃ x : Int, x = if 45 < k then -1 else 1 := ⟨_, rfl⟩
   have hnx := cntM_next k hk hk1
   rw [← hls, ← hx] at hnx
   obtain ⟨ls1, hls1⟩ : ∃ ls1, ls1 = ls ++ [x] := ⟨_, rfl⟩
   have hll : ls.length = k := by rw [hls, List.length_take, cntM_len]; omega
   have honto : vonto ls k (vsub [x] 0 1) = ls1 := by simp only [qonto, qsub]; rw [hls1, ← hll]; simp
   have hadd1 : vaddN k 1 = k + 1 := by simp only [qaddN]
   have hadd0 : vaddN 0 1 = 1 := by simp only [qaddN]
   have hln : vln ls = k := by simp only [qln]; exact hll
   have hln1 : vln [x] = 1 := by simp only [qln]; rfl
   have hmu : 53 - (k + 1) < 53 - k := by omega
   have hinv : ls1 = cntM.take (k + 1) ∧ 9 ≤ k + 1 ∧ k + 1 ≤ 53 := ⟨by rw [hnx, hls1], by omega, by omega⟩
   by_cases h45 : 45 < k
   ·have h2 : vc .gtr ki 45 = true := by rw [qc, gtr_true]; omega
    rw [if_pos h45] at hx
    cbv
    rw [ek]
    rw [h1]
    cbv
    rw [ek, h2]
    cbv
    rw [← hx]
    refine ⟨⟨by rw [hadd0, hln1]; exact Nat.le_refl _⟩, ⟨by rw [hln]; exact Nat.le_refl _⟩, ⟨Nat.le_refl _⟩, ⟨by rw [hadd1]; omega⟩, ?_⟩
    intro c1 js1 hle1
    cbv
    rw [honto, hadd1]
    refine Cv.fold ([3, 22] ++ (List.range' 24 14)) 15 [14] (by exact Nat.le_refl _) (by exact Nat.le_of_ble_eq_true rfl) (by rfl) (by cbv) ?_
    intro js
    refine ⟨(k + 1, c1, ls1), ?_, js, rfl⟩
    exact ⟨hinv, hmu⟩
   ·have h2 : vc .gtr ki 45 = false := by rw [qc, gtr_false]; omega
    rw [if_neg h45] at hx
    cbv
    rw [ek]
    rw [h1]
    cbv
    rw [ek, h2]
    cbv
    rw [← hx]
    refine ⟨⟨by rw [hadd0, hln1]; exact Nat.le_refl _⟩, ⟨by rw [hln]; exact Nat.le_refl _⟩, ⟨Nat.le_refl _⟩, ⟨by rw [hadd1]; omega⟩, ?_⟩
    intro c1 js1 hle1
    cbv
    rw [honto, hadd1]
    refine Cv.fold ([3, 22] ++ (List.range' 24 14)) 15 [14] (by exact Nat.le_refl _) (by exact Nat.le_of_ble_eq_true rfl) (by rfl) (by cbv) ?_
    intro js
    refine ⟨(k + 1, c1, ls1), ?_, js, rfl⟩
    exact ⟨hinv, hmu⟩
  ·have h1 : vc .lss ki 53 = false := by rw [qc, lss_false]; omega
   obtain rfl : k = 53 := by omega
   rw [cntM_all, ← hcM] at hls
   cbv
   rw [ek, h1]
   cbv
   refine ⟨[1, 15, 14, 3, 4, 5, 6, 7, 9, 10, 11, 12, 13], .agg [.lit .i64 9, .lit .i64 35, .lit .i64 6, .slice 0 .z 1 36 36, .fn 90 [.ptr 4 .z 1 0, .ptr 7 .z 1 0, .ptr 6 .z 1 0, .ptr 5 .z 1 0], .fn 91 [.ptr 6 .z 1 0, .ptr 7 .z 1 0, .ptr 4 .z 1 0, .ptr 5 .z 1 0], .fn 60 [],
    .lit .i64 8, .lit .i64 31, .lit .i64 5, .slice 1 .z 1 29 29, .fn 64 [], .fn 65 [], .fn 63 [],
    .lit .i64 9, .lit .i64 52, .lit .i64 6, .slice 2 .z 1 53 c, .fn 90 [.ptr 9 .z 1 0, .ptr 12 .z 1 0, .ptr 11 .z 1 0, .ptr 10 .z 1 0], .fn 91 [.ptr 11 .z 1 0, .ptr 12 .z 1 0, .ptr 9 .z 1 0, .ptr 10 .z 1 0], .fn 62 []],
    [.ints 124 .i16 cL, .ints 124 .i16 cB, .buf 124 .i16 ls c, .ints 3 .i64 bL, .one 3 [.int .i64 16], .one 63 [.slice 3 .z 1 20 20], .ints 173 .i64 gL, .one 3 [.int .i64 0],
    .ints 3 .i64 bM, .one 3 [.int .i64 32], .one 63 [.slice 8 .z 1 21 21], .ints 173 .i64 gM, .one 3 [.int .i64 3]], ?_⟩
   rw [e1, e2, e3, e4, e5, e6]
   exact ⟨rfl, rfl, rfl, rfl, ⟨rfl, rfl, rfl, rfl, rfl, rfl, rfl, rfl, rfl, rfl, rfl, rfl, rfl, trivial⟩, rfl, c, rfl, by rw [← hls]; rfl⟩
end Go.Proofs.Ytlclleihoampdaa
namespace Go.Proofs.Ytlclleihoampdaa
open Go Go.Sx
def bval (l : List Int) : Nat → Nat → Int
 | _, 0 => 0
 | i, n + 1 => bval l i n + l.getD (i + n) 0 * 2 ^ n
def pack (bs : List Int) : List Int := (List.range ((bs.length + 7) / 8)).map fun i => bval bs (8 * i) 8
def bitsN (x : Int) (n : Nat) : List Int := (List.range n).map fun k => x / 2 ^ k % 2
def isBit (b : Int) : Prop := b = 0 ∨ b = 1
theorem pack_length (bs : List Int) : (pack bs).length = (bs.length + 7) / 8 := by simp [pack]
theorem bval_bound (l : List Int) (h : ∀ b ∈ l, isBit b) (i : Nat) : ∀ n, 0 ≤ bval l i n ∧ bval l i n < 2 ^ n
 | 0 => by simp [bval]
 | n + 1 => by
  obtain ⟨h0, h1⟩ := bval_bound l h i n
  have hb : l.getD (i + n) 0 = 0 ∨ l.getD (i + n) 0 = 1 := by
   rw [List.getD_eq_getElem?_getD]
   cases hg : l[i + n]? with
   | none => left; rfl
   | some b => exact h b (List.mem_of_getElem? hg)
  have hp : (2 : Int) ^ (n + 1) = 2 ^ n + 2 ^ n := by rw [Int.pow_succ]; omega
  simp only [bval]
  rcases hb with hb | hb <;> rw [hb, hp] <;> constructor <;> omega
theorem bval_snoc (bs : List Int) (b : Int) (i : Nat) : ∀ n, bval (bs ++ [b]) i n = bval bs i n + (if i ≤ bs.length ∧ bs.length < i + n then b * 2 ^ (bs.length - i) else 0)
 | 0 => by
  simp only [bval]
  rw [if_neg (by omega)]
  rfl
 | n + 1 => by
  simp only [bval]
  rw [bval_snoc bs b i n]
  rcases Nat.lt_trichotomy (i + n) bs.length with h | h | h
  ·have e : (bs ++ [b]).getD (i + n) 0 = bs.getD (i + n) 0 := by
    simp [List.getD_eq_getElem?_getD, List.getElem?_append_left h]
   rw [e, if_neg (by omega), if_neg (by omega)]
   omega
  ·have e : (bs ++ [b]).getD (i + n) 0 = b := by
    rw [h]; simp [List.getD_eq_getElem?_getD]
   have e0 : bs.getD (i + n) 0 = 0 := by
    rw [h]; simp [List.getD_eq_getElem?_getD]
   rw [e, e0, if_neg (by omega), if_pos (by omega)]
   have : bs.length - i = n := by omega
   rw [this]
   omega
  ·have e : (bs ++ [b]).getD (i + n) 0 = 0 := by
    simp [List.getD_eq_getElem?_getD, List.getElem?_eq_none (show (bs ++ [b]).length ≤ i + n by simp; omega)]
   have e0 : bs.getD (i + n) 0 = 0 := by
    simp [List.getD_eq_getElem?_getD, List.getElem?_eq_none (show bs.length ≤ i + n by omega)]
   rw [e, e0]
   by_cases hc : i ≤ bs.length ∧ bs.length < i + n
   ·rw [if_pos hc, if_pos (by omega)]; omega
   ·rw [if_neg hc, if_neg (by omega)]; omega
theorem bval_none (bs : List Int) (i : Nat) (h : bs.length ≤ i) : ∀ n, bval bs i n = 0
 | 0 => rfl
 | n + 1 => by
  simp only [bval]
  rw [bval_none bs i h n]
  simp [List.getD_eq_getElem?_getD, List.getElem?_eq_none (show bs.length ≤ i + n by omega)]
theorem pack_snoc (bs : List Int) (b : Int) : pack (bs ++ [b]) =
  (if bs.length % 8 = 0 then pack bs ++ [0] else pack bs).set (bs.length / 8) ((if bs.length % 8 = 0 then pack bs ++ [0] else pack bs).getD (bs.length / 8) 0 + b * 2 ^ (bs.length % 8)) := by
 have hl : (if bs.length % 8 = 0 then pack bs ++ [0] else pack bs).length = (bs.length + 1 + 7) / 8 := by
  split <;> simp [pack_length] <;> omega
 have hg : ∀ i, i < (bs.length + 1 + 7) / 8 → (if bs.length % 8 = 0 then pack bs ++ [0] else pack bs)[i]? = some (bval bs (8 * i) 8) := by
  intro i hi
  split
  ·rename_i h8
   by_cases hlt : i < (bs.length + 7) / 8
   ·rw [List.getElem?_append_left (by rw [pack_length]; exact hlt)]
    simp [pack, hlt]
   ·have : i = (pack bs).length := by rw [pack_length]; omega
    rw [this]
    simp
    rw [bval_none bs _ (by rw [pack_length]; omega)]
  ·rename_i h8
   have hlt : i < (bs.length + 7) / 8 := by omega
   simp [pack, hlt]
 refine List.ext_getElem? fun i => ?_
 by_cases hi : i < (bs.length + 1 + 7) / 8
 ·rw [List.getElem?_set]
  have hL : (pack (bs ++ [b]))[i]? = some (bval (bs ++ [b]) (8 * i) 8) := by
   have : i < ((bs ++ [b]).length + 7) / 8 := by simpa using hi
   simp only [pack, List.getElem?_map, List.getElem?_range this, Option.map_some]
  rw [hL, bval_snoc]
  by_cases he : bs.length / 8 = i
  ·subst he
   rw [if_pos (show 8 * (bs.length / 8) ≤ bs.length ∧ bs.length < 8 * (bs.length / 8) + 8 by omega), if_pos rfl, if_pos (by rw [hl]; exact hi), List.getD_eq_getElem?_getD, hg _ hi]
   have : bs.length - 8 * (bs.length / 8) = bs.length % 8 := by omega
   simp [this]
  ·rw [if_neg he, hg i hi, if_neg (by omega)]
   simp
 ·rw [List.getElem?_eq_none (by rw [pack_length]; simp; omega), List.getElem?_eq_none (by rw [List.length_set, hl]; omega)]
theorem bitsN_succ (x : Int) (n : Nat) : bitsN x (n + 1) = bitsN x n ++ [x / 2 ^ n % 2] := by
 simp [bitsN, List.range_succ]
theorem bitsN_length (x : Int) (n : Nat) : (bitsN x n).length = n := by simp [bitsN]
theorem bitsN_zero (x : Int) : bitsN x 0 = [] := rfl
theorem isBit_mod (x : Int) : isBit (x % 2) := by unfold isBit; omega
theorem bitsN_bit (x : Int) (n : Nat) : ∀ b ∈ bitsN x n, isBit b := by
 intro b hb
 obtain ⟨k, _, rfl⟩ := List.mem_map.1 hb
 exact isBit_mod _
theorem bval_stop (bs : List Int) (i k : Nat) (h : bs.length ≤ i + k) : ∀ n, k ≤ n → bval bs i n = bval bs i k
 | 0, hn => by rw [Nat.le_zero.1 hn]
 | n + 1, hn => by
  by_cases he : k = n + 1
  ·rw [he]
  ·simp only [bval]
   rw [bval_stop bs i k h n (by omega)]
   simp [List.getD_eq_getElem?_getD, List.getElem?_eq_none (show bs.length ≤ i + n by omega)]
def room (bs : List Int) : List Int := if bs.length % 8 = 0 then pack bs ++ [0] else pack bs
theorem room_length (bs : List Int) : (room bs).length = bs.length / 8 + 1 := by
 unfold room
 split <;> simp [pack_length] <;> omega
theorem room_last (bs : List Int) : (room bs).getD (bs.length / 8) 0 = bval bs (8 * (bs.length / 8)) 8 := by
 unfold room
 rw [List.getD_eq_getElem?_getD]
 split
 ·rename_i h8
  have : bs.length / 8 = (pack bs).length := by rw [pack_length]; omega
  rw [this]
  simp
  rw [bval_none bs _ (by rw [pack_length]; omega)]
 ·rename_i h8
  have hlt : bs.length / 8 < (bs.length + 7) / 8 := by omega
  simp [pack, hlt]
theorem room_bound (bs : List Int) (hb : ∀ b ∈ bs, isBit b) : 0 ≤ (room bs).getD (bs.length / 8) 0 ∧ (room bs).getD (bs.length / 8) 0 < 2 ^ (bs.length % 8) := by
 rw [room_last, bval_stop bs _ (bs.length % 8) (by omega) 8 (by omega)]
 exact bval_bound bs hb _ _
theorem pow_le_128 {i : Nat} (h : i < 8) : (2 : Int) ^ i ≤ 128 := by
 have : i = 0 ∨ i = 1 ∨ i = 2 ∨ i = 3 ∨ i = 4 ∨ i = 5 ∨ i = 6 ∨ i = 7 := by omega
 rcases this with rfl | rfl | rfl | rfl | rfl | rfl | rfl | rfl <;> decide
theorem pack_step (bs : List Int) (b m : Int) (hb : ∀ b ∈ bs, isBit b) (hbit : isBit b) (hm : m = bs.length) :
  (room bs).set (m / 8).toNat (bV .or .u8 ((room bs).getD (m / 8).toNat 0) (bV .shl .u8 b (m % 8))) = pack (bs ++ [b]) := by
 have e1 : (m / 8).toNat = bs.length / 8 := by omega
 have e2 : (m % 8).toNat = bs.length % 8 := by omega
 obtain ⟨h0, h1⟩ := room_bound bs hb
 have hp := pow_le_128 (show bs.length % 8 < 8 by omega)
 have hp0 : (0 : Int) < 2 ^ (bs.length % 8) := Int.pow_pos (by decide)
 have hb2 : 0 ≤ b ∧ b * 2 ^ (bs.length % 8) ≤ 2 ^ (bs.length % 8) ∧ 0 ≤ b * 2 ^ (bs.length % 8) := by
  rcases hbit with rfl | rfl <;> omega
 rw [e1, shl_u rfl hb2.1 (by show m % 8 ≤ ((8 : Nat) : Int); omega) (by rw [e2]; show _ < (2 : Int) ^ 8; omega), e2, or_add rfl _ h0 h1 hb2.1 (by show _ < (2 : Int) ^ 8; omega), pack_snoc]
 rfl
end Go.Proofs.Ytlclleihoampdaa
namespace Go.Proofs.Ytlclleihoampdaa
open Go Go.Sx Go.Proofs
set_option maxHeartbeats 2000000 in
theorem put_con (bs : List Int) (c : Nat) (x : Int) (n : Nat) (hn : n ≤ 56) (hx : 0 ≤ x ∧ x < 2 ^ 64) (hb : ∀ b ∈ bs, isBit b) (hl : bs.length ≤ 2 ^ 40) :
  Con Try.prog 29 [.ptr 0 .z 2 0, .int .u64 x, .int .i64 n] [.one 71 [.slice 1 .z 1 (pack bs).length c, .int .i64 bs.length], .buf 5 .u8 (pack bs) c]
   (fun v H R => v = .lit .i64 0 ∧ R = [1] ∧ ∃ c', H = [.one 71 [.slice 1 .z 1 (pack (bs ++ bitsN x n)).length c', .int .i64 (bs ++ bitsN x n).length], .buf 5 .u8 (pack (bs ++ bitsN x n)) c']) := by
 refine con_cut 2 (by simp) (con_red [1] (con_walk hmix fn29 ?_))
 intro vb vc vw vtoN vofN vaddN vsubN vmaxI vminI vcutN vgd vst vln vrep vsub vonto vsplice vstrEq vbyteV vnotB veqB hw qb qc qw qtoN qofN qaddN qsubN qmaxI qminI qcutN qgd qst qln qrep qsub qonto qsplice qstrEq qbyteV qnotB qeqB
 have hm := hmix
 have f36 := fn69
 have f42 := fn98
 generalize Try.prog = P at *
 generalize hl0 : pack bs = l0
 generalize hm0 : (bs.length : Int) = m0
 generalize hn0 : (n : Int) = n0
 generalize hlen0 : l0.length = len0
 cbv
 have e1 : vc .lss n0 0 = false := by subst_vars; try simp only [nc] at *; simp [cV]
 have e2 : vc .gtr n0 56 = false := by subst_vars; try simp only [nc] at *; simp [cV]; omega
 rw [e1]
 cbv
 rw [e2]
 cbv
 refine inl_walk hw hm f36 (by rfl) ?_
 cbv
 intro js
 refine range_rule (by rfl) (by rfl) (by cbv) (by cbv) (by rfl) ?_
 refine inl_walk hw hm f42 (by rfl) ?_
 cbv
 refine loop_fam (α := Int × Int × List Int × Nat × Nat) [4, 7, 8, 9, 10, 11, 12, 13, 14, 15, 16, 17, 18, 19] [1]
  (fun (k, mk, l, len, c) => [(6, .int .i64 k)]) (fun (k, mk, l, len, c) => [(0, .one 71 [.slice 1 .z 1 len c, .int .i64 mk]), (1, .buf 5 .u8 l c)])
  (fun (k, mk, l, len, c) => ∃ i : Nat, k = i ∧ i ≤ n ∧ mk = (bs ++ bitsN x i).length ∧ l = pack (bs ++ bitsN x i) ∧ len = l.length) (fun (k, _) => n - k.toNat) hw hm ?_ ?_
 ·refine Cv.genAt [6] [] (Cv.fold [4, 7, 8, 9, 10, 11, 12, 13, 14, 15, 16, 17, 18, 19] 7 [1] (by exact Nat.le_refl _) (by exact Nat.le_refl _) (by rfl) (by cbv) ?_)
  intro js
  refine ⟨(_, _, _, _, _), ?_, js, rfl⟩
  refine ⟨0, rfl, by omega, ?_, ?_, ?_⟩
  ·subst_vars; try simp only [nc] at *; simp [bitsN_zero]
  ·subst_vars; try simp only [nc] at *; simp [bitsN_zero]
  ·exact hlen0.symm
 ·rintro ⟨k, mk, l, len, c⟩ js ⟨i, hk, hi, hmk, hl', hlen⟩
  have hbs : ∀ b ∈ bs ++ bitsN x i, isBit b := fun b h => (List.mem_append.1 h).elim (hb b) (bitsN_bit x i b)
  have hlb : (bs ++ bitsN x i).length ≤ 2 ^ 40 + 56 := by simp [bitsN_length]; omega
  generalize hBS : bs ++ bitsN x i = BS at *
  have hll : l.length = (BS.length + 7) / 8 := by rw [hl', pack_length]
  cbv
  split
  ·rename_i hlt
   have hlt : i < n := by subst_vars; try simp only [nc] at *; simpa [cV] using hlt
   have hcv : vw .u64 k = k := by subst_vars; try simp only [nc] at *; exact wrap_u64 (by omega) (by omega)
   have hbit : vw .u8 (vb .and .u64 (vb .shr .u64 x (vw .u64 k)) 1) = x / 2 ^ i % 2 := by
    subst_vars
    try simp only [nc] at *
    rw [hcv, shr_eq (by show (i : Int) ≤ ((64 : Nat) : Int); omega)]
    have h1 : 0 ≤ x / 2 ^ i := Int.ediv_nonneg hx.1 (Int.le_of_lt (Int.pow_pos (by decide)))
    have h2 : x / 2 ^ i ≤ x := Int.ediv_le_self _ hx.1
    rw [Int.toNat_natCast, and_one rfl h1 (by show _ < (2 : Int) ^ 64; omega)]
    exact wrap_u8 (by omega) (by omega)
   generalize hbb : x / 2 ^ i % 2 = bit at *
   have hbi : isBit bit := by rw [← hbb]; exact isBit_mod _
   have hnext : bs ++ bitsN x (i + 1) = BS ++ [bit] := by rw [bitsN_succ, ← List.append_assoc, hBS, hbb]
   have hrem : vb .rem .i64 mk 8 = mk % 8 := by subst_vars; try simp only [nc] at *; exact rem_i64 (by omega)
   have hquo : vtoN (vb .quo .i64 mk 8) = BS.length / 8 := by
    subst_vars
    try simp only [nc] at *
    rw [quo_i64 (by omega) (by omega) (by omega)]
    show Int.toNat _ = _
    omega
   have hmodw : vw .u64 (mk % 8) = mk % 8 := by rw [qw]; simp only [nc] at *; exact wrap_u64 (by omega) (by omega)
   have hpack : (room BS).set (BS.length / 8) (bV .or .u8 ((room BS).getD (BS.length / 8) 0) (bV .shl .u8 bit (mk % 8))) = pack (BS ++ [bit]) := by
    have := pack_step BS bit mk hbs hbi hmk
    have e : (mk / 8).toNat = BS.length / 8 := by simp only [nc] at *; omega
    rw [e] at this
    exact this
   have hd8 : BS.length / 8 < (room BS).length := by rw [room_length]; omega
   cbv
   refine ⟨⟨?_⟩, yield_walk hw hm (by rfl) ?_⟩
   ·rw [hcv]; subst_vars; simp only [nc] at *; omega
   cbv
   split
   ·rename_i hr8
    have h8 : BS.length % 8 = 0 := by rw [hrem, qc, eql_true] at hr8; simp only [nc] at *; omega
    have hroom : room BS = l ++ [0] := by rw [room, if_pos h8, hl']
    have hsub : vsub [0] 0 1 = [0] := by subst_vars; rfl
    have honto : vonto l len [0] = room BS := by rw [hroom]; subst_vars; simp
    have hin : 0 ≤ vb .quo .i64 mk 8 ∧ vb .quo .i64 mk 8 < (vaddN len 1 : Nat) := by
     have hq : vb .quo .i64 mk 8 = mk / 8 := by subst_vars; simp only [nc] at *; rw [quo_i64 (by omega) (by omega) (by omega)]
     rw [hq]; subst_vars; simp only [nc] at *; omega
    have hlt2 : vtoN (vb .quo .i64 mk 8) < vln (vonto l len (vsub [0] 0 1)) := by rw [hquo, hsub, honto]; subst_vars; simp only [nc] at *; omega
    have hlt3 : vaddN 0 (vtoN (vb .quo .i64 mk 8)) < vln (vonto l len (vsub [0] 0 1)) := by rw [qaddN]; simpa using hlt2
    have hnn : 0 ≤ vw .u64 (vb .rem .i64 mk 8) := by rw [hrem]; subst_vars; simp only [nc] at *; rw [wrap_u64 (by omega) (by omega)]; omega
    cbv
    refine ⟨⟨?_⟩, ⟨?_⟩, ⟨?_⟩, ⟨?_⟩, ?_⟩
    ·subst_vars; decide
    ·subst_vars; exact Nat.le_refl _
    ·exact Nat.le_refl _
    ·subst_vars; simp only [nc] at *; omega
    intro c1 js1 hle
    cbv
    refine ⟨⟨hin⟩, ⟨hlt3⟩, ⟨hlt2⟩, ⟨hnn⟩, ⟨hin⟩, ⟨hlt3⟩, ⟨hlt2⟩, ?_⟩
    intro js1
    cbv
    have e3 : vnotB true = false := by subst_vars; rfl
    rw [e3]
    cbv
    refine Cv.genAt [6] [] (Cv.fold [4, 7, 8, 9, 10, 11, 12, 13, 14, 15, 16, 17, 18, 19] 7 [1] (by exact Nat.le_refl _) (by exact Nat.le_succ _) (by rfl) (by cbv) ?_)
    intro js
    refine ⟨(_, _, _, _, _), ?_, js, rfl⟩
    refine ⟨⟨i + 1, ?_, by omega, ?_, ?_, ?_⟩, ?_⟩
    ·rw [qb, add_i64 (by simp only [nc] at *; omega) (by simp only [nc] at *; omega)]; simp only [nc] at *; omega
    ·rw [qb, add_i64 (by simp only [nc] at *; omega) (by simp only [nc] at *; omega), hnext]; simp only [nc, List.length_append] at *; simp; omega
    ·rw [hsub, honto, hbit, hquo, hrem, hmodw, hnext, ← hpack]; subst_vars; rfl
    ·rw [hsub, honto, qst]; simp only [List.length_set]; rw [hroom]; subst_vars; simp
    ·show n - (vb .add .i64 k 1).toNat < n - k.toNat
     rw [qb, add_i64 (by simp only [nc] at *; omega) (by simp only [nc] at *; omega)]; simp only [nc] at *; omega
   ·rename_i hr8
    have h8 : BS.length % 8 ≠ 0 := by rw [hrem, qc, eql_false] at hr8; simp only [nc] at *; omega
    have hroom : room BS = l := by rw [room, if_neg h8, hl']
    have hin : 0 ≤ vb .quo .i64 mk 8 ∧ vb .quo .i64 mk 8 < len := by
     have hq : vb .quo .i64 mk 8 = mk / 8 := by subst_vars; simp only [nc] at *; rw [quo_i64 (by omega) (by omega) (by omega)]
     rw [hq]; rw [hroom] at hd8; subst_vars; simp only [nc] at *; omega
    have hlt2 : vtoN (vb .quo .i64 mk 8) < vln l := by rw [hquo]; rw [hroom] at hd8; subst_vars; simp only [nc] at *; omega
    have hlt3 : vaddN 0 (vtoN (vb .quo .i64 mk 8)) < vln l := by rw [qaddN]; simpa using hlt2
    have hnn : 0 ≤ vw .u64 (vb .rem .i64 mk 8) := by rw [hrem]; subst_vars; simp only [nc] at *; rw [wrap_u64 (by omega) (by omega)]; omega
    cbv
    refine ⟨⟨hin⟩, ⟨hlt3⟩, ⟨hlt2⟩, ⟨hnn⟩, ⟨hin⟩, ⟨hlt3⟩, ⟨hlt2⟩, ?_⟩
    intro js1
    cbv
    have e3 : vnotB true = false := by subst_vars; rfl
    rw [e3]
    cbv
    refine Cv.genAt [6] [] (Cv.fold [4, 7, 8, 9, 10, 11, 12, 13, 14, 15, 16, 17, 18, 19] 7 [1] (by exact Nat.le_refl _) (by exact Nat.le_refl _) (by rfl) (by cbv) ?_)
    intro js
    refine ⟨(_, _, _, _, _), ?_, js, rfl⟩
    refine ⟨⟨i + 1, ?_, by omega, ?_, ?_, ?_⟩, ?_⟩
    ·rw [qb, add_i64 (by simp only [nc] at *; omega) (by simp only [nc] at *; omega)]; simp only [nc] at *; omega
    ·rw [qb, add_i64 (by simp only [nc] at *; omega) (by simp only [nc] at *; omega), hnext]; simp only [nc, List.length_append] at *; simp; omega
    ·rw [hbit, hquo, hrem, hmodw, hnext, ← hpack, hroom]; subst_vars; rfl
    ·rw [qst]; simp only [List.length_set]; exact hlen
    ·show n - (vb .add .i64 k 1).toNat < n - k.toNat
     rw [qb, add_i64 (by simp only [nc] at *; omega) (by simp only [nc] at *; omega)]; simp only [nc] at *; omega
  ·rename_i hge
   have hin : i = n := by rw [qc, lss_false] at hge; simp only [nc] at *; omega
   subst hin
   cbv
   intro js1
   cbv
   refine ⟨c, ?_⟩
   subst_vars
   rfl
end Go.Proofs.Ytlclleihoampdaa
namespace Go.Proofs.Ytlclleihoampdaa
open Go Go.Sx Go.Proofs
def bitAt (b : List Int) (k : Int) : Int := if 0 ≤ k then b.getD (k / 8).toNat 0 / 2 ^ (k % 8).toNat % 2 else 0
def rd (b : List Int) (p : Int) : Nat → Int
 | 0 => 0
 | n + 1 => rd b p n * 2 + bitAt b (p - 1 - n)
def isByte (x : Int) : Prop := 0 ≤ x ∧ x < 256
theorem bitAt_bit (b : List Int) (k : Int) : 0 ≤ bitAt b k ∧ bitAt b k < 2 := by unfold bitAt; split <;> omega
theorem rd_bound (b : List Int) (p : Int) : ∀ n, 0 ≤ rd b p n ∧ rd b p n < 2 ^ n
 | 0 => by simp [rd]
 | n + 1 => by
  have h := rd_bound b p n
  have h2 := bitAt_bit b (p - 1 - n)
  have hp : (2 : Int) ^ (n + 1) = 2 ^ n * 2 := Int.pow_succ _ _
  simp only [rd]
  omega
theorem pow_le_56 {n : Nat} (h : n ≤ 56) : (2 : Int) ^ n ≤ 72057594037927936 := by
 have : (2 : Int) ^ n ≤ 2 ^ 56 := by exact_mod_cast Nat.pow_le_pow_right (by decide) h
 exact this
theorem or_comm_u {k : IntKind} (h : k.signed = false) {x y : Int} : bV .or k x y = bV .or k y x := by
 show k.wrap _ = k.wrap _
 rw [BitVec.or_comm]
def clampN (n : Int) : Nat := (if (if 0 > n then 0 else n) > 56 then 56 else (if 0 > n then 0 else n)).toNat
theorem clampN_le (n : Int) : clampN n ≤ 56 := by unfold clampN; split <;> split <;> omega
def floorP (p : Int) : Int := if p < -1099511627776 then -1099511627776 else p
set_option maxHeartbeats 2000000 in
theorem bits_con (b : List Int) (cap : Nat) (p n : Int) (hb : ∀ x ∈ b, isByte x) (hp : -1099511627776 ≤ p ∧ p ≤ 8 * b.length) (hl : b.length ≤ 2 ^ 48) :
  Con Try.prog 36 [.ptr 0 .z 2 0, .int .i64 n] [.one 143 [.slice 1 .z 1 b.length cap, .int .i64 p], .ro .u8 b]
   (fun v H R => v = .int .u64 (rd b p (clampN n)) ∧ R = [] ∧ H = [.one 143 [.slice 1 .z 1 b.length cap, .int .i64 (floorP (p - clampN n))], .ro .u8 b]) := by
 refine con_gen (con_cut 2 (by simp) (con_red [] (con_walk hmix fn36 ?_)))
 intro vb vc vw vtoN vofN vaddN vsubN vmaxI vminI vcutN vgd vst vln vrep vsub vonto vsplice vstrEq vbyteV vnotB veqB hw qb qc qw qtoN qofN qaddN qsubN qmaxI qminI qcutN qgd qst qln qrep qsub qonto qsplice qstrEq qbyteV qnotB qeqB
 have hm := hmix
 generalize Try.prog = P at *
 generalize hlen : b.length = len at *
 generalize hF : floorP (p - clampN n) = F
 generalize hV : rd b p (clampN n) = V
 cbv
 have hN : vminI (vmaxI n 0) 56 = (clampN n : Nat) := by rw [qmaxI, qminI]; unfold clampN; simp only [nc]; split <;> split <;> omega
 have hN56 := clampN_le n
 generalize clampN n = N at *
 rw [hN]
 generalize hNN : ((N : Nat) : Int) = N0 at *
 refine loop_fam (α := Int × Int) [6, 7, 15, 16, 17, 18, 19, 20, 21, 22, 23, 24, 25, 26, 27, 28, 29, 30, 31, 32, 33, 34, 35, 36, 37, 38, 39, 40, 41, 42, 43, 44, 45] []
  (fun (x, k) => [(5, .int .u64 x), (14, .int .i64 k)]) (fun (x, k) => [])
  (fun (x, k) => ∃ i : Nat, k = i ∧ i ≤ N ∧ x = rd b p i) (fun (x, k) => N - k.toNat) hw hm ?_ ?_
 ·refine Cv.genAt [5, 14] [] (Cv.fold [6, 7, 15, 16, 17, 18, 19, 20, 21, 22, 23, 24, 25, 26, 27, 28, 29, 30, 31, 32, 33, 34, 35, 36, 37, 38, 39, 40, 41, 42, 43, 44, 45] 2 [] (by exact Nat.le_refl _) (by exact Nat.le_refl _) (by rfl) (by cbv) ?_)
  intro js
  refine ⟨(_, _), ?_, js, rfl⟩
  exact ⟨0, rfl, by omega, rfl⟩
 ·rintro ⟨x, k⟩ js ⟨i, hk, hi, hx⟩
  cbv
  have hx2 := rd_bound b p i
  split
  ·rename_i hlt
   have hlt : i < N := by rw [qc, lss_true] at hlt; simp only [nc] at *; omega
   have hpk : vb .sub .i64 (vb .sub .i64 p 1) k = p - 1 - i := by
    simp only [nc] at *
    rw [qb, sub_i64 (x := p) (by omega) (by omega), sub_i64 (by omega) (by omega), hk]
   have hk1 : vb .add .i64 k 1 = ((i + 1 : Nat) : Int) := by simp only [nc] at *; rw [qb, add_i64 (by omega) (by omega)]; omega
   have hp56 := pow_le_56 (show i ≤ 56 by omega)
   have hshl : vb .shl .u64 x 1 = rd b p i * 2 := by
    rw [qb, hx, shl_u rfl hx2.1 (by decide) (by show _ * (2 : Int) ^ 1 < 2 ^ 64; omega)]; rfl
   cbv
   split
   ·rename_i hge
    have hge : 0 ≤ p - 1 - (i : Int) := by rw [qc, hpk, geq_true] at hge; simp only [nc] at *; exact hge
    have hbit : bitAt b (p - 1 - i) = b.getD ((p - 1 - i) / 8).toNat 0 / 2 ^ ((p - 1 - i) % 8).toNat % 2 := by unfold bitAt; rw [if_pos hge]
    generalize hz : p - 1 - (i : Int) = z at *
    have hz8 : vb .quo .i64 z 8 = z / 8 := by simp only [nc] at *; rw [qb, quo_i64 (by omega) (by omega) (by omega)]
    have hr8 : vb .rem .i64 z 8 = z % 8 := by simp only [nc] at *; rw [qb, rem_i64 (by omega)]
    have hw8 : vw .u64 (z % 8) = z % 8 := by simp only [nc] at *; rw [qw]; exact wrap_u64 (by omega) (by omega)
    have hin : 0 ≤ vb .quo .i64 z 8 ∧ vb .quo .i64 z 8 < len := by rw [hz8]; simp only [nc] at *; omega
    have hlt2 : vtoN (vb .quo .i64 z 8) < vln b := by rw [hz8, qtoN, qln]; simp only [nc] at *; omega
    have hlt3 : vaddN 0 (vtoN (vb .quo .i64 z 8)) < vln b := by rw [qaddN]; simpa using hlt2
    have hnn : 0 ≤ vw .u64 (vb .rem .i64 z 8) := by rw [hr8, hw8]; omega
    have hval : vb .or .u64 (vb .shl .u64 x 1) (vb .and .u64 (vw .u64 (vb .shr .u8 (vgd b (vtoN (vb .quo .i64 z 8))) (vw .u64 (vb .rem .i64 z 8)))) 1) = rd b p (i + 1) := by
     rw [hshl, hr8, hw8, hz8, qb, shr_eq (by show z % 8 ≤ ((8 : Nat) : Int); omega), qgd, qtoN, qw]
     show bV .or .u64 (rd b p i * 2) (bV .and .u64 (IntKind.u64.wrap (b.getD (z / 8).toNat 0 / 2 ^ (z % 8).toNat)) 1) = _
     have hbyte : isByte (b.getD (z / 8).toNat 0) := by
      rw [List.getD_eq_getElem?_getD]
      cases hg : b[(z / 8).toNat]? with
      | none => exact ⟨by simp, by simp⟩
      | some y => exact hb y (List.mem_of_getElem? hg)
     generalize b.getD (z / 8).toNat 0 = y at *
     have h1 : 0 ≤ y / 2 ^ (z % 8).toNat := Int.ediv_nonneg hbyte.1 (Int.le_of_lt (Int.pow_pos (by decide)))
     have h2 : y / 2 ^ (z % 8).toNat ≤ y := Int.ediv_le_self _ hbyte.1
     have h3 := hbyte.2
     rw [wrap_u64 h1 (by omega), and_one rfl h1 (by show _ < (2 : Int) ^ 64; omega)]
     have e : rd b p (i + 1) = rd b p i * 2 + y / 2 ^ (z % 8).toNat % 2 := by rw [rd, hz, hbit]
     rw [e]
     have h4 : 0 ≤ y / 2 ^ (z % 8).toNat % 2 ∧ y / 2 ^ (z % 8).toNat % 2 < 2 := by omega
     generalize y / 2 ^ (z % 8).toNat % 2 = t at *
     have := or_add (k := .u64) rfl (x := t) (b := rd b p i) 1 h4.1 (by omega) hx2.1 (by show _ < (2 : Int) ^ 64; omega)
     rw [or_comm_u rfl]
     simpa [Int.add_comm] using this
    cbv
    rw [hpk]
    refine ⟨⟨hin⟩, ⟨hlt3⟩, ⟨hlt2⟩, ⟨hnn⟩, ?_⟩
    refine Cv.genAt [5, 14] [] (Cv.fold [6, 7, 15, 16, 17, 18, 19, 20, 21, 22, 23, 24, 25, 26, 27, 28, 29, 30, 31, 32, 33, 34, 35, 36, 37, 38, 39, 40, 41, 42, 43, 44, 45] 2 [] (by exact Nat.le_refl _) (by exact Nat.le_refl _) (by rfl) (by cbv) ?_)
    intro js
    refine ⟨(_, _), ?_, js, rfl⟩
    exact ⟨⟨i + 1, hk1, hlt, hval⟩, by show N - (vb .add .i64 k 1).toNat < N - k.toNat; rw [hk1, hk]; simp only [nc] at *; omega⟩
   ·rename_i hge
    have hge : ¬ 0 ≤ p - 1 - (i : Int) := by rw [qc, hpk, geq_false] at hge; simp only [nc] at *; exact hge
    have hbit : bitAt b (p - 1 - i) = 0 := by unfold bitAt; rw [if_neg hge]
    have hval : vb .shl .u64 x 1 = rd b p (i + 1) := by rw [hshl, rd, hbit]; omega
    cbv
    refine Cv.genAt [5, 14] [] (Cv.fold [6, 7, 15, 16, 17, 18, 19, 20, 21, 22, 23, 24, 25, 26, 27, 28, 29, 30, 31, 32, 33, 34, 35, 36, 37, 38, 39, 40, 41, 42, 43, 44, 45] 2 [] (by exact Nat.le_refl _) (by exact Nat.le_refl _) (by rfl) (by cbv) ?_)
    intro js
    refine ⟨(_, _), ?_, js, rfl⟩
    exact ⟨⟨i + 1, hk1, hlt, hval⟩, by show N - (vb .add .i64 k 1).toNat < N - k.toNat; rw [hk1, hk]; simp only [nc] at *; omega⟩
  ·rename_i hge
   have hin : i = N := by rw [qc, lss_false] at hge; simp only [nc] at *; omega
   subst hin
   have hs : vb .sub .i64 p N0 = p - N0 := by simp only [nc] at *; rw [qb, sub_i64 (by omega) (by omega)]
   cbv
   split
   ·rename_i hf
    have hf : floorP (p - N0) = -1099511627776 := by rw [qc, hs, lss_true] at hf; unfold floorP; rw [if_pos hf]
    cbv
    refine ⟨?_, ?_⟩ <;> simp only [hx, hV, show F = -1099511627776 by rw [← hF, ← hf, ← hNN]]
   ·rename_i hf
    have hf : floorP (p - N0) = p - N0 := by rw [qc, hs, lss_false] at hf; unfold floorP; rw [if_neg hf]
    cbv
    refine ⟨?_, ?_⟩ <;> simp only [hx, hV, hs, show F = p - N0 by rw [← hF, ← hf, ← hNN]]
end Go.Proofs.Ytlclleihoampdaa
namespace Go.Proofs.Ytlclleihoampdaa
open Go Go.Sx Go.Proofs
theorem view_refl (l : List Int) : View 0 l l := ⟨⟨by omega, fun i _ => by rw [Nat.zero_add]⟩⟩
theorem left_con (b : List Int) (len cap : Nat) (p : Int) : Con Try.prog 37 [.ptr 0 .z 2 0] [.one 143 [.slice 1 .z 1 len cap, .int .i64 p], .ro .u8 b]
      (fun v H R => v = .int .i64 p ∧ R = [] ∧ H = [.one 143 [.slice 1 .z 1 len cap, .int .i64 p], .ro .u8 b]) := by
  refine con_walk hmix fn37 ?_
  intro vb vc vw vtoN vofN vaddN vsubN vmaxI vminI vcutN vgd vst vln vrep vsub vonto vsplice vstrEq vbyteV vnotB veqB hw qb qc qw qtoN qofN qaddN qsubN qmaxI qminI qcutN qgd qst qln qrep qsub qonto qsplice qstrEq qbyteV qnotB qeqB
  generalize Try.prog = P at *
  cbv
theorem close_con (bs : List Int) (c : Nat) (hb : ∀ b ∈ bs, isBit b) (hl : bs.length ≤ 2 ^ 40) :
    Con Try.prog 31 [.ptr 0 .z 2 0] [.one 71 [.slice 1 .z 1 (pack bs).length c, .int .i64 bs.length], .buf 5 .u8 (pack bs) c]
      (fun v H R => R = [1] ∧ ∃ c', v = .slice 1 .z 1 (pack (bs ++ [1])).length c' ∧ H = [.one 71 [.val (.slice none 0 0), .int .i64 0], .buf 5 .u8 (pack (bs ++ [1])) c']) := by
  have hput := put_con bs c 1 1 (by decide) (by decide) hb hl
  have e1 : bitsN 1 1 = [1] := by decide
  rw [e1] at hput
  refine con_gen (con_cut 2 (by simp) (con_red [1] (con_walk hmix fn31 ?_)))
  intro vb vc vw vtoN vofN vaddN vsubN vmaxI vminI vcutN vgd vst vln vrep vsub vonto vsplice vstrEq vbyteV vnotB veqB hw qb qc qw qtoN qofN qaddN qsubN qmaxI qminI qcutN qgd qst qln qrep qsub qonto qsplice qstrEq qbyteV qnotB qeqB
  generalize Try.prog = P at *
  generalize pack bs = l0 at *
  generalize pack (bs ++ [1]) = l1 at *
  generalize l0.length = n0 at *
  generalize (bs.length : Int) = m0 at *
  generalize ((bs ++ [1]).length : Int) = m1 at *
  generalize hn1 : l1.length = n1 at *
  cbv
  refine call_con (ρ := [(0, .z), (1, .z)]) hput ⟨by rfl, by rfl, by rfl, by cbv⟩ ?_
  rintro v H R js ⟨rfl, rfl, c', rfl⟩
  cbv
  exact ⟨c', rfl, rfl⟩
def len8 (x : Int) : Int := if x < 1 then 0 else if x < 2 then 1 else if x < 4 then 2 else if x < 8 then 3 else if x < 16 then 4 else if x < 32 then 5 else if x < 64 then 6 else if x < 128 then 7 else 8
def lenTab : List Int := [0, 1, 2, 2, 3, 3, 3, 3, 4, 4, 4, 4, 4, 4, 4, 4, 5, 5, 5, 5, 5, 5, 5, 5, 5, 5, 5, 5, 5, 5, 5, 5, 6, 6, 6, 6, 6, 6, 6, 6, 6, 6, 6, 6, 6, 6, 6, 6, 6, 6, 6, 6, 6, 6, 6, 6, 6, 6, 6, 6, 6, 6, 6, 6, 7, 7, 7, 7, 7, 7, 7, 7, 7, 7, 7, 7, 7, 7, 7, 7, 7, 7, 7, 7, 7, 7, 7, 7, 7, 7, 7, 7, 7, 7, 7, 7, 7, 7, 7, 7, 7, 7, 7, 7, 7, 7, 7, 7, 7, 7, 7, 7, 7, 7, 7, 7, 7, 7, 7, 7, 7, 7, 7, 7, 7, 7, 7, 7, 8, 8, 8, 8, 8, 8, 8, 8, 8, 8, 8, 8, 8, 8, 8, 8, 8, 8, 8, 8, 8, 8, 8, 8, 8, 8, 8, 8, 8, 8, 8, 8, 8, 8, 8, 8, 8, 8, 8, 8, 8, 8, 8, 8, 8, 8, 8, 8, 8, 8, 8, 8, 8, 8, 8, 8, 8, 8, 8, 8, 8, 8, 8, 8, 8, 8, 8, 8, 8, 8, 8, 8, 8, 8, 8, 8, 8, 8, 8, 8, 8, 8, 8, 8, 8, 8, 8, 8, 8, 8, 8, 8, 8, 8, 8, 8, 8, 8, 8, 8, 8, 8, 8, 8, 8, 8, 8, 8, 8, 8, 8, 8, 8, 8, 8, 8, 8, 8, 8, 8, 8, 8, 8, 8, 8, 8, 8, 8]
set_option maxRecDepth 100000 in
theorem lenTab_eq (n : Fin 256) : IntKind.i64.wrap (((UInt8.ofNat (lenTab.getD n.val 0).toNat).toNat : Nat) : Int) = len8 (n.val : Int) := by
  revert n
  decide +kernel
set_option maxRecDepth 100000 in
theorem len8_con (x : Int) (hx : isByte x) : Con Try.prog 71 [.int .u8 x] [] (fun v H R => v = .int .i64 (len8 x) ∧ H = [] ∧ R = []) := by
  obtain ⟨n, rfl⟩ : ∃ n : Nat, x = n := ⟨x.toNat, by have := hx.1; omega⟩
  have hn : n < 256 := by have := hx.2; omega
  have hL := lenTab_eq ⟨n, hn⟩
  refine con_walk hmix fn71 ?_
  intro vb vc vw vtoN vofN vaddN vsubN vmaxI vminI vcutN vgd vst vln vrep vsub vonto vsplice vstrEq vbyteV vnotB veqB hw qb qc qw qtoN qofN qaddN qsubN qmaxI qminI qcutN qgd qst qln qrep qsub qonto qsplice qstrEq qbyteV qnotB qeqB
  generalize Try.prog = P at *
  generalize len8 (n : Int) = L at *
  generalize hnn : (n : Int) = x at *
  have hx35 : x71 = (.seq (.ops [⟨(some 2), .mv (.k (.lit .i64 0)), none, []⟩])
    (.seq (.ops [⟨(some 3), .mv (.t 0), none, []⟩,
      ⟨(some 4), .idxS (.k (.str lenTab)) (.t 3), none, []⟩,
      ⟨(some 5), .conv .i64 (.t 4), none, []⟩,
      ⟨(some 2), .mv (.t 5), none, []⟩])
    (.ret))) := rfl
  rw [hx35]
  have hl : lenTab.length = 256 := by rfl
  generalize lenTab = T at *
  cbv
  refine ⟨⟨?_⟩, ?_⟩
  · simp only [qln, hl]; simp only [nc] at *; omega
  · rw [qw, qbyteV, qgd, qtoN]
    subst hnn
    exact ⟨congrArg (SV.int .i64) hL, trivial⟩
theorem getLastD_eq (b : List Int) : b.getLastD 0 = b.getD (b.length - 1) 0 := by
  rw [List.getLastD_eq_getLast?, List.getLast?_eq_getElem?, List.getD_eq_getElem?_getD]
theorem new_bad (b : List Int) (cap : Nat) (hb : b.getLastD 0 = 0) (hl : b.length ≤ 2 ^ 48) : Con Try.prog 35 [.slice 0 .z 1 b.length cap] [.ro .u8 b] (fun v H R => v = .tup [.val (.pointer none), .lit .i64 11] ∧ H = [.ro .u8 b] ∧ R = []) := by
  refine con_cut 1 (by simp) (con_red [] (con_walk hmix fn35 ?_))
  intro vb vc vw vtoN vofN vaddN vsubN vmaxI vminI vcutN vgd vst vln vrep vsub vonto vsplice vstrEq vbyteV vnotB veqB hw qb qc qw qtoN qofN qaddN qsubN qmaxI qminI qcutN qgd qst qln qrep qsub qonto qsplice qstrEq qbyteV qnotB qeqB
  generalize Try.prog = P at *
  rw [getLastD_eq] at hb
  generalize hlen : b.length = len at *
  cbv
  generalize h0 : vc .eql (vofN len) 0 = z0
  cases z0
  rotate_left
  · cbv
  · have h0 : 1 ≤ len := by rw [qc, qofN, eql_false] at h0; simp only [nc] at *; omega
    have hsub : vb .sub .i64 (vofN len) 1 = len - 1 := by rw [qb, qofN]; simp only [nc] at *; rw [sub_i64 (by omega) (by omega)]
    have hin : 0 ≤ vb .sub .i64 (vofN len) 1 ∧ vb .sub .i64 (vofN len) 1 < len := by rw [hsub]; simp only [nc] at *; omega
    have hi : vtoN (vb .sub .i64 (vofN len) 1) = len - 1 := by rw [hsub, qtoN]; simp only [nc] at *; omega
    have hlt2 : vtoN (vb .sub .i64 (vofN len) 1) < vln b := by rw [hi, qln]; simp only [nc] at *; omega
    have hlt3 : vaddN 0 (vtoN (vb .sub .i64 (vofN len) 1)) < vln b := by rw [qaddN]; simpa using hlt2
    cbv
    refine ⟨⟨hin⟩, ⟨hlt3⟩, ⟨hlt2⟩, ?_⟩
    have hz : vc .eql (vgd b (vtoN (vb .sub .i64 (vofN len) 1))) 0 = true := by rw [hi, qgd, qc, eql_true]; exact hb
    rw [hz]
    cbv
theorem new_good (b : List Int) (cap : Nat) (hb : b.getLastD 0 ≠ 0) (hby : ∀ x ∈ b, isByte x) (hl : b.length ≤ 140737488355328) : Con Try.prog 35 [.slice 0 .z 1 b.length cap] [.ro .u8 b]
    (fun v H R => v = .tup [.ptr 2 .z 2 0, .lit .i64 0] ∧ R = [1] ∧ ∃ c', H = [.ro .u8 b, .buf 5 .u8 b c', .one 143 [.slice 1 .z 1 b.length c', .int .i64 (8 * (b.length - 1) + (len8 (b.getLastD 0) - 1))]]) := by
  have hbyte : isByte (b.getLastD 0) := by
    rw [getLastD_eq, List.getD_eq_getElem?_getD]
    cases hg : b[b.length - 1]? with
    | none => exact ⟨by simp, by simp⟩
    | some y => exact hby y (List.mem_of_getElem? hg)
  have hlen8 := len8_con (b.getLastD 0) hbyte
  have hL8 : 0 ≤ len8 (b.getLastD 0) ∧ len8 (b.getLastD 0) ≤ 8 := by unfold len8; (repeat' split) <;> omega
  refine con_cut 3 (by simp) (con_red [1] (con_walk hmix fn35 ?_))
  intro vb vc vw vtoN vofN vaddN vsubN vmaxI vminI vcutN vgd vst vln vrep vsub vonto vsplice vstrEq vbyteV vnotB veqB hw qb qc qw qtoN qofN qaddN qsubN qmaxI qminI qcutN qgd qst qln qrep qsub qonto qsplice qstrEq qbyteV qnotB qeqB
  generalize Try.prog = P at *
  generalize len8 (b.getLastD 0) = L at *
  generalize hF : (8 * ((b.length : Int) - 1) + (L - 1)) = F
  rw [getLastD_eq] at *
  have h0 : 1 ≤ b.length := by
    rcases b with _ | ⟨x, b⟩
    · exact absurd rfl hb
    · simp
  generalize hlen : b.length = len at *
  generalize hlast : b.getD (len - 1) 0 = last at *
  cbv
  have e0 : vc .eql (vofN len) 0 = false := by rw [qc, qofN, eql_false]; simp only [nc] at *; omega
  rw [e0]
  have hsub : vb .sub .i64 (vofN len) 1 = len - 1 := by rw [qb, qofN]; simp only [nc] at *; rw [sub_i64 (by omega) (by omega)]
  have hin : 0 ≤ vb .sub .i64 (vofN len) 1 ∧ vb .sub .i64 (vofN len) 1 < len := by rw [hsub]; simp only [nc] at *; omega
  have hi : vtoN (vb .sub .i64 (vofN len) 1) = len - 1 := by rw [hsub, qtoN]; simp only [nc] at *; omega
  have hlt2 : vtoN (vb .sub .i64 (vofN len) 1) < vln b := by rw [hi, qln]; simp only [nc] at *; omega
  have hlt3 : vaddN 0 (vtoN (vb .sub .i64 (vofN len) 1)) < vln b := by rw [qaddN]; simpa using hlt2
  have hval : vgd b (vtoN (vb .sub .i64 (vofN len) 1)) = last := by rw [hi, qgd]; exact hlast
  have hz : vc .eql (vgd b (vtoN (vb .sub .i64 (vofN len) 1))) 0 = false := by rw [hval, qc, eql_false]; exact hb
  cbv
  refine ⟨⟨hin⟩, ⟨hlt3⟩, ⟨hlt2⟩, ?_⟩
  rw [hz]
  cbv
  refine ⟨⟨hin⟩, ⟨hlt3⟩, ⟨hlt2⟩, ?_⟩
  rw [hval]
  refine call_con (ρ := []) hlen8 ⟨by rfl, by rfl, by rfl, by cbv⟩ ?_
  rintro v H R js ⟨rfl, rfl, rfl⟩
  cbv
  have ha : vaddN 0 len = len := by simp only [qaddN, Nat.zero_add]
  have hpay : vonto [] 0 (vsub b 0 len) = b := by simp only [qonto, qsub]; simp [← hlen]
  have hpos : vb .add .i64 (vb .mul .i64 8 (vb .sub .i64 (vofN len) 1)) (vb .sub .i64 L 1) = F := by
    rw [hsub, ← hF]; simp only [nc] at *
    rw [qb, mul_i64 (by omega) (by omega), sub_i64 (x := L) (by omega) (by omega), add_i64 (by omega) (by omega)]
  refine ⟨⟨?_⟩, ⟨?_⟩, ⟨?_⟩, ⟨?_⟩, ?_⟩
  · rw [ha, qln]; exact Nat.le_of_eq hlen.symm
  · exact Nat.zero_le _
  · exact Nat.zero_le _
  · rw [ha]; omega
  intro c1 js1 hle
  cbv
  rw [ha, hpay, hpos]
  exact ⟨c1, rfl⟩
end Go.Proofs.Ytlclleihoampdaa
namespace Go.Proofs.Ytlclleihoampdaa
open Go Go.Sx
def putBits (bs : List Int) (x n : Int) : List Int := if 0 ≤ n ∧ n ≤ 56 then bs ++ bitsN x n.toNat else bs
theorem putBits_bit {bs : List Int} {x n : Int} (h : ∀ b ∈ bs, isBit b) : ∀ b ∈ putBits bs x n, isBit b := by
 unfold putBits
 split
 ·exact fun b hb => (List.mem_append.1 hb).elim (h b) (bitsN_bit x _ b)
 ·exact h
theorem bval_bit (l : List Int) (h : ∀ b ∈ l, isBit b) (i : Nat) : ∀ n j, j < n → bval l i n / 2 ^ j % 2 = l.getD (i + j) 0
 | 0, j, hj => by omega
 | n + 1, j, hj => by
  have hg : l.getD (i + n) 0 = 0 ∨ l.getD (i + n) 0 = 1 := by
   rw [List.getD_eq_getElem?_getD]
   cases hg : l[i + n]? with
   | none => left; rfl
   | some b => exact h b (List.mem_of_getElem? hg)
  have hb := bval_bound l h i n
  simp only [bval]
  by_cases hjn : j = n
  ·subst hjn
   have hp : (0 : Int) < 2 ^ j := Int.pow_pos (by decide)
   rw [Int.add_mul_ediv_right _ _ (by omega), Int.ediv_eq_zero_of_lt hb.1 hb.2]
   rcases hg with hg | hg <;> rw [hg] <;> decide
  ·have hj' : j < n := by omega
   have e : (2 : Int) ^ n = 2 ^ (n - j - 1) * 2 * 2 ^ j := by
    rw [← Int.pow_succ, ← Int.pow_add]; congr 1; omega
   have hp : (0 : Int) < 2 ^ j := Int.pow_pos (by decide)
   rw [e, ← Int.mul_assoc, Int.add_mul_ediv_right _ _ (by omega), ← Int.mul_assoc]
   rw [Int.add_mul_emod_self_right]
   exact bval_bit l h i n j hj'
theorem pack_getD (bs : List Int) (i : Nat) : (pack bs).getD i 0 = bval bs (8 * i) 8 := by
 rw [List.getD_eq_getElem?_getD]
 by_cases hi : i < (bs.length + 7) / 8
 ·simp [pack, hi]
 ·rw [List.getElem?_eq_none (by rw [pack_length]; omega), bval_none bs _ (by omega)]
  rfl
theorem pack_byte (bs : List Int) (h : ∀ b ∈ bs, isBit b) : ∀ x ∈ pack bs, isByte x := by
 intro x hx
 obtain ⟨i, _, rfl⟩ := List.mem_map.1 hx
 exact bval_bound bs h _ 8
theorem bitAt_pack (bs : List Int) (h : ∀ b ∈ bs, isBit b) (k : Nat) : bitAt (pack bs) k = bs.getD k 0 := by
 unfold bitAt
 rw [if_pos (by omega), pack_getD]
 have e1 : ((k : Int) / 8).toNat = k / 8 := by omega
 have e2 : ((k : Int) % 8).toNat = k % 8 := by omega
 rw [e1, e2, bval_bit bs h _ 8 (k % 8) (by omega)]
 congr 1
 omega
theorem half_mod (y m : Int) : y / 2 % m * 2 + y % 2 = y % (2 * m) := by
 rw [Int.emod_def y (2 * m), Int.emod_def (y / 2) m, Int.mul_assoc, ← Int.ediv_ediv_of_nonneg (by decide)]
 generalize m * (y / 2 / m) = q
 omega
theorem rd_bits (bs pre : List Int) (x : Int) (n : Nat) (hx : 0 ≤ x) (h : ∀ b ∈ bs, isBit b) (hp : ∀ j, j < n → bs.getD (pre.length + j) 0 = x / 2 ^ j % 2) :
  ∀ i, i ≤ n → rd (pack bs) ((pre.length : Int) + n) i = x / 2 ^ (n - i) % 2 ^ i
 | 0, _ => by simp [rd, Int.emod_one]
 | i + 1, hi => by
  simp only [rd]
  rw [rd_bits bs pre x n hx h hp i (by omega)]
  have e1 : (pre.length : Int) + n - 1 - i = ((pre.length + (n - 1 - i) : Nat) : Int) := by omega
  rw [e1, bitAt_pack bs h, hp _ (by omega)]
  have e2 : n - i = (n - (i + 1)) + 1 := by omega
  have e3 : n - 1 - i = n - (i + 1) := by omega
  rw [e2, e3, Int.pow_succ, ← Int.ediv_ediv_of_nonneg (Int.le_of_lt (Int.pow_pos (by decide)))]
  generalize x / 2 ^ (n - (i + 1)) = y
  rw [Int.pow_succ, Int.mul_comm (2 ^ i) 2, half_mod]
theorem rd_put (pre rest : List Int) (x : Int) (n : Nat) (hx : 0 ≤ x) (h : ∀ b ∈ pre ++ bitsN x n ++ rest, isBit b) :
  rd (pack (pre ++ bitsN x n ++ rest)) ((pre ++ bitsN x n).length : Nat) n = x % 2 ^ n := by
 have := rd_bits (pre ++ bitsN x n ++ rest) pre x n hx h (fun j hj => by
  rw [List.getD_eq_getElem?_getD, List.getElem?_append_left (by simp [bitsN_length]; omega), List.getElem?_append_right (by omega)]
  simp [bitsN, hj]) n (Nat.le_refl n)
 rw [Nat.sub_self] at this
 simpa [bitsN_length] using this
theorem mark_last (bs : List Int) (h : ∀ b ∈ bs, isBit b) : (pack (bs ++ [1])).getLastD 0 = bval bs (8 * (bs.length / 8)) (bs.length % 8) + 2 ^ (bs.length % 8) ∧ (pack (bs ++ [1])).length = bs.length / 8 + 1 := by
 have hl : (pack (bs ++ [1])).length = bs.length / 8 + 1 := by rw [pack_length]; simp; omega
 refine ⟨?_, hl⟩
 rw [getLastD_eq, hl, pack_getD, Nat.add_sub_cancel, bval_snoc, if_pos (by omega), bval_stop bs _ (bs.length % 8) (by omega) 8 (by omega)]
 have : bs.length - 8 * (bs.length / 8) = bs.length % 8 := by omega
 rw [this]
 omega
theorem len8_top {x : Int} {j : Nat} (hj : j < 8) (h0 : 2 ^ j ≤ x) (h1 : x < 2 ^ j + 2 ^ j) : len8 x = j + 1 := by
 have : j = 0 ∨ j = 1 ∨ j = 2 ∨ j = 3 ∨ j = 4 ∨ j = 5 ∨ j = 6 ∨ j = 7 := by omega
 rcases this with rfl | rfl | rfl | rfl | rfl | rfl | rfl | rfl <;> simp only [Int.reducePow] at h0 h1 <;> unfold len8 <;> (repeat' split) <;> omega
theorem mark_at (bs : List Int) (h : ∀ b ∈ bs, isBit b) : (pack (bs ++ [1])).getLastD 0 ≠ 0 ∧ 8 * (((pack (bs ++ [1])).length : Int) - 1) + (len8 ((pack (bs ++ [1])).getLastD 0) - 1) = bs.length := by
 obtain ⟨h1, h2⟩ := mark_last bs h
 have hb := bval_bound bs h (8 * (bs.length / 8)) (bs.length % 8)
 have hp : (0 : Int) < 2 ^ (bs.length % 8) := Int.pow_pos (by decide)
 rw [h1, h2]
 refine ⟨by omega, ?_⟩
 rw [len8_top (j := bs.length % 8) (by omega) (by omega) (by omega)]
 omega
end Go.Proofs.Ytlclleihoampdaa
namespace Go.Proofs.Ytlclleihoampdaa
open Go Go.Sx Go.Proofs
def putErr (n : Int) : Int := if 0 ≤ n ∧ n ≤ 56 then 0 else 2
end Go.Proofs.Ytlclleihoampdaa
namespace Go.Proofs.Ytlclleihoampdaa
open Go Go.Sx
theorem take_snoc {l : List Int} {i : Nat} (h : i < l.length) : l.take (i + 1) = l.take i ++ [l.getD i 0] := by
 rw [List.take_succ_eq_append_getElem h]
 simp [List.getD_eq_getElem?_getD, h]
end Go.Proofs.Ytlclleihoampdaa
namespace Go.Proofs.Ytlclleihoampdaa
open Go Go.Sx Go.Proofs
def bitsOf (b : List Int) (k : Nat) : List Int := (List.range k).map fun (i : Nat) => bitAt b (i : Int)
theorem bitsOf_get (b : List Int) (k i : Nat) (h : i < k) : (bitsOf b k).getD i 0 = bitAt b i := by simp [bitsOf, List.getD_eq_getElem?_getD, h]
def markAt (b : List Int) : Int := 8 * ((b.length : Int) - 1) + (len8 (b.getLastD 0) - 1)
theorem mark_byte {x : Int} (h0 : 0 < x) (h1 : x < 256) : 1 ≤ len8 x ∧ len8 x ≤ 8 ∧ x / 2 ^ (len8 x - 1).toNat % 2 = 1 ∧ ∀ j : Nat, len8 x ≤ j → x / 2 ^ j = 0 := by
 have hlt : x < 2 ^ (len8 x).toNat := by unfold len8; (repeat' split) <;> first | omega | (simp; omega)
 have h8 : 1 ≤ len8 x ∧ len8 x ≤ 8 := by unfold len8; (repeat' split) <;> omega
 refine ⟨h8.1, h8.2, ?_, fun j hj => ?_⟩
 ·unfold len8
  (repeat' split) <;> simp <;> omega
 ·have hp : (2 : Int) ^ (len8 x).toNat ≤ 2 ^ j := by exact_mod_cast Nat.pow_le_pow_right (by decide) (by omega)
  exact Int.ediv_eq_zero_of_lt (by omega) (by omega)
theorem markAt_spec (b : List Int) (hb : b.getLastD 0 ≠ 0) (hby : ∀ x ∈ b, isByte x) : ∃ P : Nat, markAt b = P ∧ P < 8 * b.length ∧ bitAt b P = 1 ∧ ∀ k : Nat, P < k → k < 8 * b.length → bitAt b k = 0 := by
 have hbyte : isByte (b.getLastD 0) := by
  rw [getLastD_eq, List.getD_eq_getElem?_getD]
  cases hg : b[b.length - 1]? with
  | none => exact ⟨by simp, by simp⟩
  | some y => exact hby y (List.mem_of_getElem? hg)
 have h0 : 1 ≤ b.length := by
  rcases b with _ | ⟨x, b⟩
  ·exact absurd rfl hb
  ·simp
 obtain ⟨h1, h2, h3, h4⟩ := mark_byte (x := b.getLastD 0) (by have := hbyte.1; omega) hbyte.2
 have hlast := getLastD_eq b
 unfold markAt
 generalize b.getLastD 0 = x at *
 refine ⟨8 * (b.length - 1) + (len8 x - 1).toNat, by omega, by omega, ?_, fun k hk1 hk2 => ?_⟩
 ·unfold bitAt
  rw [if_pos (by omega)]
  have e1 : ((((8 * (b.length - 1) + (len8 x - 1).toNat : Nat)) : Int) / 8).toNat = b.length - 1 := by omega
  have e2 : ((((8 * (b.length - 1) + (len8 x - 1).toNat : Nat)) : Int) % 8).toNat = (len8 x - 1).toNat := by omega
  rw [e1, e2, ← hlast]
  exact h3
 ·unfold bitAt
  rw [if_pos (by omega)]
  have e1 : ((k : Int) / 8).toNat = b.length - 1 := by omega
  rw [e1, ← hlast, h4 _ (by omega)]
  rfl
theorem byte_bit {b : List Int} (hby : ∀ x ∈ b, isByte x) (i : Nat) : isByte (b.getD i 0) := by
 rw [List.getD_eq_getElem?_getD]
 cases hg : b[i]? with
 | none => exact ⟨by simp, by simp⟩
 | some y => exact hby y (List.mem_of_getElem? hg)
end Go.Proofs.Ytlclleihoampdaa
namespace Go.Proofs.Ytlclleihoampdaa
open Go Go.Sx
theorem bval_split (l : List Int) (i n : Nat) : ∀ m, bval l i (n + m) = bval l i n + bval l (i + n) m * 2 ^ n
 | 0 => by simp [bval]
 | m + 1 => by
  rw [show n + (m + 1) = (n + m) + 1 from rfl]
  simp only [bval]
  rw [bval_split l i n m, Int.pow_add, Int.add_mul, Nat.add_assoc]
  have : l.getD (i + (n + m)) 0 * (2 ^ n * 2 ^ m) = l.getD (i + (n + m)) 0 * 2 ^ m * 2 ^ n := by rw [Int.mul_comm (2 ^ n), Int.mul_assoc]
  omega
def bitL (b : List Int) : List Int := bitsOf b (8 * b.length)
theorem bitL_bit (b : List Int) : ∀ x ∈ bitL b, isBit x := by
 intro x hx
 obtain ⟨i, _, rfl⟩ := List.mem_map.1 hx
 have := bitAt_bit b (i : Int)
 unfold isBit
 omega
theorem bitL_get (b : List Int) (i : Nat) (h : i < 8 * b.length) : (bitL b).getD i 0 = bitAt b i := bitsOf_get b _ i h
theorem byte_bits {x : Int} (h : isByte x) : x / 2 ^ 0 % 2 * 2 ^ 0 + x / 2 ^ 1 % 2 * 2 ^ 1 + x / 2 ^ 2 % 2 * 2 ^ 2 + x / 2 ^ 3 % 2 * 2 ^ 3 + x / 2 ^ 4 % 2 * 2 ^ 4 + x / 2 ^ 5 % 2 * 2 ^ 5 + x / 2 ^ 6 % 2 * 2 ^ 6 + x / 2 ^ 7 % 2 * 2 ^ 7 = x := by
 obtain ⟨h0, h1⟩ := h
 simp only [Int.reducePow]
 omega
theorem bitL_byte (b : List Int) (hby : ∀ x ∈ b, isByte x) (i : Nat) (h : i < b.length) : bval (bitL b) (8 * i) 8 = b.getD i 0 := by
 have hg : ∀ j : Nat, j < 8 → (bitL b).getD (8 * i + j) 0 = b.getD i 0 / 2 ^ j % 2 := fun j hj => by
  rw [bitL_get b _ (by omega)]
  unfold bitAt
  rw [if_pos (by omega)]
  have e1 : (((8 * i + j : Nat) : Int) / 8).toNat = i := by omega
  have e2 : (((8 * i + j : Nat) : Int) % 8).toNat = j := by omega
  rw [e1, e2]
 have hb := byte_bits (byte_bit hby i)
 simp only [bval]
 rw [hg 0 (by omega), hg 1 (by omega), hg 2 (by omega), hg 3 (by omega), hg 4 (by omega), hg 5 (by omega), hg 6 (by omega), hg 7 (by omega)]
 rw [Int.zero_add]
 exact hb
theorem bval_mod (l : List Int) (h : ∀ b ∈ l, isBit b) (i n m : Nat) : bval l i (n + m) % 2 ^ n = bval l i n ∧ bval l i (n + m) / 2 ^ n = bval l (i + n) m := by
 have hb := bval_bound l h i n
 have hp : (0 : Int) < 2 ^ n := Int.pow_pos (by decide)
 rw [bval_split]
 constructor
 ·rw [Int.add_mul_emod_self_right]
  exact Int.emod_eq_of_lt hb.1 hb.2
 ·rw [Int.add_mul_ediv_right _ _ (by omega), Int.ediv_eq_zero_of_lt hb.1 hb.2]
  omega
end Go.Proofs.Ytlclleihoampdaa
namespace Go.Proofs.Ytlclleihoampdaa
open Go Go.Sx Go.Proofs
theorem next_ok (b : List Int) (at' cap : Nat) (h : at' < b.length) (hl : b.length ≤ 2 ^ 60) :
  Con Try.prog 121 [.ptr 0 .z 1 0, .ptr 1 .z 1 0] [.one 3 [.int .i64 at'], .one 25 [.slice 2 .z 1 b.length cap], .ro .u8 b]
   (fun v H R => v = .tup [.int .u8 (b.getD at' 0), .bool true] ∧ R = [] ∧ H = [.one 3 [.int .i64 ((at' + 1 : Nat) : Int)], .one 25 [.slice 2 .z 1 b.length cap], .ro .u8 b]) := by
 refine con_walk hmix fn121 ?_
 intro vb vc vw vtoN vofN vaddN vsubN vmaxI vminI vcutN vgd vst vln vrep vsub vonto vsplice vstrEq vbyteV vnotB veqB hw qb qc qw qtoN qofN qaddN qsubN qmaxI qminI qcutN qgd qst qln qrep qsub qonto qsplice qstrEq qbyteV qnotB qeqB
 generalize Try.prog = P at *
 generalize hlen : b.length = len at *
 generalize hv : b.getD at' 0 = v0
 generalize ha1 : ((at' + 1 : Nat) : Int) = a1
 generalize ha : ((at' : Nat) : Int) = a0
 cbv
 have e1 : vc .geq a0 (vofN len) = false := by simp only [qc, qofN]; rw [geq_false]; simp only [nc] at *; omega
 have e2 : vb .add .i64 a0 1 = a1 := by simp only [nc] at *; rw [qb, add_i64 (by omega) (by omega)]; omega
 have e3 : vb .sub .i64 a1 1 = a0 := by simp only [nc] at *; rw [qb, sub_i64 (by omega) (by omega)]; omega
 have hin : 0 ≤ a0 ∧ a0 < len := by simp only [nc] at *; omega
 have ht : vtoN a0 = at' := by simp only [qtoN]; simp only [nc] at *; omega
 have hlt : vtoN a0 < vln b := by rw [ht]; simp only [qln]; omega
 have hlt2 : vaddN 0 (vtoN a0) < vln b := by simp only [qaddN, Nat.zero_add]; exact hlt
 have hval : vgd b (vtoN a0) = v0 := by rw [ht]; simp only [qgd]; exact hv
 rw [e1]
 cbv
 rw [e2, e3, hval]
 exact ⟨⟨hin⟩, ⟨hlt2⟩, ⟨hlt⟩, rfl, rfl⟩
theorem next_end (b : List Int) (cap : Nat) (hl : b.length ≤ 2 ^ 60) :
  Con Try.prog 121 [.ptr 0 .z 1 0, .ptr 1 .z 1 0] [.one 3 [.int .i64 b.length], .one 25 [.slice 2 .z 1 b.length cap], .ro .u8 b]
   (fun v H R => v = .tup [.lit .u8 0, .bool false] ∧ R = [] ∧ H = [.one 3 [.int .i64 b.length], .one 25 [.slice 2 .z 1 b.length cap], .ro .u8 b]) := by
 refine con_walk hmix fn121 ?_
 intro vb vc vw vtoN vofN vaddN vsubN vmaxI vminI vcutN vgd vst vln vrep vsub vonto vsplice vstrEq vbyteV vnotB veqB hw qb qc qw qtoN qofN qaddN qsubN qmaxI qminI qcutN qgd qst qln qrep qsub qonto qsplice qstrEq qbyteV qnotB qeqB
 generalize Try.prog = P at *
 generalize hlen : b.length = len at *
 generalize ha : ((len : Nat) : Int) = a0
 cbv
 have e1 : vc .geq a0 (vofN len) = true := by simp only [qc, qofN]; rw [geq_true]; simp only [nc] at *; omega
 rw [e1]
 cbv
theorem bleft_con (b : List Int) (at' cap : Nat) (h : at' ≤ b.length) (hl : b.length ≤ 2 ^ 50) :
  Con Try.prog 122 [.ptr 1 .z 1 0, .ptr 0 .z 1 0] [.one 3 [.int .i64 at'], .one 25 [.slice 2 .z 1 b.length cap], .ro .u8 b]
   (fun v H R => v = .int .i64 (8 * ((b.length : Int) - at')) ∧ R = [] ∧ H = [.one 3 [.int .i64 at'], .one 25 [.slice 2 .z 1 b.length cap], .ro .u8 b]) := by
 refine con_walk hmix fn122 ?_
 intro vb vc vw vtoN vofN vaddN vsubN vmaxI vminI vcutN vgd vst vln vrep vsub vonto vsplice vstrEq vbyteV vnotB veqB hw qb qc qw qtoN qofN qaddN qsubN qmaxI qminI qcutN qgd qst qln qrep qsub qonto qsplice qstrEq qbyteV qnotB qeqB
 generalize Try.prog = P at *
 generalize hlen : b.length = len at *
 generalize hr : 8 * ((len : Int) - at') = r
 generalize ha : ((at' : Nat) : Int) = a0
 have e1 : vb .mul .i64 8 (vb .sub .i64 (vofN len) a0) = r := by simp only [qb, qofN]; rw [sub_i64 (by omega) (by omega), mul_i64 (by omega) (by omega)]; omega
 cbv
 rw [e1]
 trivial
set_option maxHeartbeats 4000000 in
theorem fill_ok (b : List Int) (pos at' cap n : Nat) (hby : ∀ x ∈ b, isByte x) (hl : b.length ≤ 2 ^ 50) (hp : pos ≤ 8 * at') (hp2 : 8 * at' ≤ pos + 63) (ha : at' ≤ b.length) (hn : n ≤ 56) (hen : pos + n ≤ 8 * b.length) :
  Con Try.prog 123 [.ptr 0 .z 4 0, .int .i64 n] [(.one 215 [.fn 121 [.ptr 1 .z 1 0, .ptr 2 .z 1 0], .int .u64 (bval (bitL b) pos (8 * at' - pos)), .int .i64 (((8 * at' - pos : Nat) : Int)), .fn 122 [.ptr 2 .z 1 0, .ptr 1 .z 1 0]]), .one 3 [.int .i64 at'], .one 25 [.slice 3 .z 1 b.length cap], .ro .u8 b]
   (fun v H R => v = .bool true ∧ R = [] ∧ ∃ a2 : Nat, pos + n ≤ 8 * a2 ∧ 8 * a2 ≤ pos + 63 ∧ a2 ≤ b.length ∧ H = [(.one 215 [.fn 121 [.ptr 1 .z 1 0, .ptr 2 .z 1 0], .int .u64 (bval (bitL b) pos (8 * a2 - pos)), .int .i64 (((8 * a2 - pos : Nat) : Int)), .fn 122 [.ptr 2 .z 1 0, .ptr 1 .z 1 0]]), .one 3 [.int .i64 a2], .one 25 [.slice 3 .z 1 b.length cap], .ro .u8 b]) := by
 have hnext := fun a h => next_ok b a cap h (by omega)
 refine con_cut 4 (by simp) (con_red [] (con_walk hmix fn123 ?_))
 intro vb vc vw vtoN vofN vaddN vsubN vmaxI vminI vcutN vgd vst vln vrep vsub vonto vsplice vstrEq vbyteV vnotB veqB hw qb qc qw qtoN qofN qaddN qsubN qmaxI qminI qcutN qgd qst qln qrep qsub qonto qsplice qstrEq qbyteV qnotB qeqB
 have hm := hmix
 generalize Try.prog = P at *
 generalize hacc : bval (bitL b) pos (8 * at' - pos) = acc
 generalize hhave : ((8 * at' - pos : Nat) : Int) = have0
 generalize ha0 : ((at' : Nat) : Int) = a0
 generalize hn0 : ((n : Nat) : Int) = n0
 generalize hlen : b.length = len at *
 cbv
 refine loop_fam (α := Int × Int × Int) [5, 6, 7, 8, 9, 10, 11, 12, 13, 14, 15, 16, 17, 18, 19, 20, 21, 22, 23, 24, 25, 26, 27, 28, 29, 30, 31, 32, 33, 34, 35, 36, 37, 38, 39, 40, 41, 42, 43, 44] []
  (fun (x, k, a) => []) (fun (x, k, a) => [(0, (.one 215 [.fn 121 [.ptr 1 .z 1 0, .ptr 2 .z 1 0], .int .u64 (x), .int .i64 (k), .fn 122 [.ptr 2 .z 1 0, .ptr 1 .z 1 0]])), (1, .one 3 [.int .i64 a])])
  (fun (x, k, a) => ∃ i : Nat, pos ≤ 8 * i ∧ 8 * i ≤ pos + 63 ∧ i ≤ len ∧ x = bval (bitL b) pos (8 * i - pos) ∧ k = ((8 * i - pos : Nat) : Int) ∧ a = i) (fun (x, k, a) => len - a.toNat) hw hm ?_ ?_
 ·refine Cv.fold [5, 6, 7, 8, 9, 10, 11, 12, 13, 14, 15, 16, 17, 18, 19, 20, 21, 22, 23, 24, 25, 26, 27, 28, 29, 30, 31, 32, 33, 34, 35, 36, 37, 38, 39, 40, 41, 42, 43, 44] 4 [] (by exact Nat.le_refl _) (by exact Nat.le_of_ble_eq_true rfl) (by rfl) (by cbv) ?_
  intro js
  refine ⟨(_, _, _), ?_, js, rfl⟩
  exact ⟨at', hp, hp2, ha, hacc.symm, hhave.symm, ha0.symm⟩
 ·rintro ⟨x, k, a⟩ js ⟨i, hi1, hi2, hi3, hx, hk, hai⟩
  cbv
  split
  ·rename_i hlt
   have hlt : 8 * i < pos + n := by rw [qc, lss_true] at hlt; simp only [nc] at *; omega
   have hil : i < len := by omega
   have hnext' := hnext i hil
   have hbyte := byte_bit hby i
   have hbb := bitL_byte b hby i (by omega)
   simp only [nc] at hnext' hai
   rw [← hai] at hnext'
   generalize hy : b.getD i 0 = y at *
   generalize ha1 : ((i + 1 : Nat) : Int) = a1 at *
   have hw1 : vw .u64 y = y := by simp only [qw]; exact wrap_u64 hbyte.1 (by have := hbyte.2; omega)
   have hw2 : vw .u64 k = k := by simp only [nc] at *; simp only [qw]; exact wrap_u64 (by omega) (by omega)
   have hk0 : 0 ≤ vw .u64 k := by rw [hw2]; simp only [nc] at *; omega
   have hk1 : vb .add .i64 k 8 = ((8 * (i + 1) - pos : Nat) : Int) := by simp only [nc] at *; rw [qb, add_i64 (by omega) (by omega)]; omega
   have hval : vb .or .u64 x (vb .shl .u64 (vw .u64 y) (vw .u64 k)) = bval (bitL b) pos (8 * (i + 1) - pos) := by
    have hbd := bval_bound (bitL b) (bitL_bit b) pos (8 * i - pos)
    have hp56 := pow_le_56 (show 8 * i - pos ≤ 56 by omega)
    have hpp : (0 : Int) < 2 ^ (8 * i - pos) := Int.pow_pos (by decide)
    have hkn : k.toNat = 8 * i - pos := by simp only [nc] at *; omega
    have hyb : y * 2 ^ (8 * i - pos) ≤ 255 * 2 ^ (8 * i - pos) := Int.mul_le_mul_of_nonneg_right (by have := hbyte.2; omega) (Int.le_of_lt hpp)
    have e : 8 * (i + 1) - pos = (8 * i - pos) + 8 := by omega
    rw [hw1, hw2, qb, shl_u rfl hbyte.1 (by show k ≤ ((64 : Nat) : Int); simp only [nc] at *; omega) (by rw [hkn]; show _ < (2 : Int) ^ 64; omega), hkn, hx, e, bval_split]
    have e2 : pos + (8 * i - pos) = 8 * i := by omega
    rw [e2, hbb, or_add rfl _ hbd.1 hbd.2 hbyte.1 (by show _ < (2 : Int) ^ 64; omega)]
   cbv
   refine call_con (ρ := [(1, .z), (2, .z), (3, .z)]) hnext' ⟨by rfl, by rfl, by rfl, by cbv; exact ⟨view_refl _, trivial⟩⟩ ?_
   rintro v H R js ⟨rfl, rfl, rfl⟩
   have e4 : vnotB true = false := by simp only [qnotB]; rfl
   cbv
   rw [e4]
   cbv
   refine ⟨⟨hk0⟩, ?_⟩
   refine Cv.fold [5, 6, 7, 8, 9, 10, 11, 12, 13, 14, 15, 16, 17, 18, 19, 20, 21, 22, 23, 24, 25, 26, 27, 28, 29, 30, 31, 32, 33, 34, 35, 36, 37, 38, 39, 40, 41, 42, 43, 44] 4 [] (by exact Nat.le_refl _) (by exact Nat.le_of_ble_eq_true rfl) (by rfl) (by cbv) ?_
   intro js
   refine ⟨(_, _, _), ?_, js, rfl⟩
   exact ⟨⟨i + 1, by omega, by omega, by omega, hval, hk1, ha1.symm⟩, by show len - a1.toNat < len - a.toNat; simp only [nc] at *; omega⟩
  ·rename_i hge
   have hge : pos + n ≤ 8 * i := by rw [qc, lss_false] at hge; simp only [nc] at *; omega
   cbv
   refine ⟨i, hge, hi2, hi3, ?_⟩
   rw [hx, hk, hai]
   rfl
set_option maxHeartbeats 4000000 in
theorem fill_end (b : List Int) (pos at' cap n : Nat) (hby : ∀ x ∈ b, isByte x) (hl : b.length ≤ 2 ^ 50) (hp : pos ≤ 8 * at') (hp2 : 8 * at' ≤ pos + 63) (ha : at' ≤ b.length) (hn : n ≤ 56) (hen : 8 * b.length < pos + n) :
  Con Try.prog 123 [.ptr 0 .z 4 0, .int .i64 n] [(.one 215 [.fn 121 [.ptr 1 .z 1 0, .ptr 2 .z 1 0], .int .u64 (bval (bitL b) pos (8 * at' - pos)), .int .i64 (((8 * at' - pos : Nat) : Int)), .fn 122 [.ptr 2 .z 1 0, .ptr 1 .z 1 0]]), .one 3 [.int .i64 at'], .one 25 [.slice 3 .z 1 b.length cap], .ro .u8 b]
   (fun v H R => v = .bool false ∧ R = [] ∧ H = [(.one 215 [.fn 121 [.ptr 1 .z 1 0, .ptr 2 .z 1 0], .int .u64 (bval (bitL b) pos (8 * b.length - pos)), .int .i64 (((8 * b.length - pos : Nat) : Int)), .fn 122 [.ptr 2 .z 1 0, .ptr 1 .z 1 0]]), .one 3 [.int .i64 b.length], .one 25 [.slice 3 .z 1 b.length cap], .ro .u8 b]) := by
 have hnext := fun a h => next_ok b a cap h (by omega)
 have hend := next_end b cap (by omega)
 refine con_cut 4 (by simp) (con_red [] (con_walk hmix fn123 ?_))
 intro vb vc vw vtoN vofN vaddN vsubN vmaxI vminI vcutN vgd vst vln vrep vsub vonto vsplice vstrEq vbyteV vnotB veqB hw qb qc qw qtoN qofN qaddN qsubN qmaxI qminI qcutN qgd qst qln qrep qsub qonto qsplice qstrEq qbyteV qnotB qeqB
 have hm := hmix
 generalize Try.prog = P at *
 generalize hacc : bval (bitL b) pos (8 * at' - pos) = acc
 generalize hhave : ((8 * at' - pos : Nat) : Int) = have0
 generalize hacc2 : bval (bitL b) pos (8 * b.length - pos) = acc2
 generalize hhave2 : ((8 * b.length - pos : Nat) : Int) = have2
 generalize ha0 : ((at' : Nat) : Int) = a0
 generalize hn0 : ((n : Nat) : Int) = n0
 generalize hlI : ((b.length : Nat) : Int) = lI at *
 generalize hlen : b.length = len at *
 cbv
 refine loop_fam (α := Int × Int × Int) [5, 6, 7, 8, 9, 10, 11, 12, 13, 14, 15, 16, 17, 18, 19, 20, 21, 22, 23, 24, 25, 26, 27, 28, 29, 30, 31, 32, 33, 34, 35, 36, 37, 38, 39, 40, 41, 42, 43, 44] []
  (fun (x, k, a) => []) (fun (x, k, a) => [(0, (.one 215 [.fn 121 [.ptr 1 .z 1 0, .ptr 2 .z 1 0], .int .u64 (x), .int .i64 (k), .fn 122 [.ptr 2 .z 1 0, .ptr 1 .z 1 0]])), (1, .one 3 [.int .i64 a])])
  (fun (x, k, a) => ∃ i : Nat, pos ≤ 8 * i ∧ 8 * i ≤ pos + 63 ∧ i ≤ len ∧ x = bval (bitL b) pos (8 * i - pos) ∧ k = ((8 * i - pos : Nat) : Int) ∧ a = i) (fun (x, k, a) => len - a.toNat) hw hm ?_ ?_
 ·refine Cv.fold [5, 6, 7, 8, 9, 10, 11, 12, 13, 14, 15, 16, 17, 18, 19, 20, 21, 22, 23, 24, 25, 26, 27, 28, 29, 30, 31, 32, 33, 34, 35, 36, 37, 38, 39, 40, 41, 42, 43, 44] 4 [] (by exact Nat.le_refl _) (by exact Nat.le_of_ble_eq_true rfl) (by rfl) (by cbv) ?_
  intro js
  refine ⟨(_, _, _), ?_, js, rfl⟩
  exact ⟨at', hp, hp2, ha, hacc.symm, hhave.symm, ha0.symm⟩
 ·rintro ⟨x, k, a⟩ js ⟨i, hi1, hi2, hi3, hx, hk, hai⟩
  have hc : vc .lss k n0 = true := by rw [qc, lss_true]; simp only [nc] at *; omega
  cbv
  rw [hc]
  by_cases hil : i < len
  ·have hnext' := hnext i hil
   have hbyte := byte_bit hby i
   have hbb := bitL_byte b hby i (by omega)
   simp only [nc] at hnext' hai
   rw [← hai] at hnext'
   generalize hy : b.getD i 0 = y at *
   generalize ha1 : ((i + 1 : Nat) : Int) = a1 at *
   have hw1 : vw .u64 y = y := by simp only [qw]; exact wrap_u64 hbyte.1 (by have := hbyte.2; omega)
   have hw2 : vw .u64 k = k := by simp only [nc] at *; simp only [qw]; exact wrap_u64 (by omega) (by omega)
   have hk0 : 0 ≤ vw .u64 k := by rw [hw2]; simp only [nc] at *; omega
   have hk1 : vb .add .i64 k 8 = ((8 * (i + 1) - pos : Nat) : Int) := by simp only [nc] at *; rw [qb, add_i64 (by omega) (by omega)]; omega
   have hval : vb .or .u64 x (vb .shl .u64 (vw .u64 y) (vw .u64 k)) = bval (bitL b) pos (8 * (i + 1) - pos) := by
    have hbd := bval_bound (bitL b) (bitL_bit b) pos (8 * i - pos)
    have hp56 := pow_le_56 (show 8 * i - pos ≤ 56 by omega)
    have hpp : (0 : Int) < 2 ^ (8 * i - pos) := Int.pow_pos (by decide)
    have hkn : k.toNat = 8 * i - pos := by simp only [nc] at *; omega
    have hyb : y * 2 ^ (8 * i - pos) ≤ 255 * 2 ^ (8 * i - pos) := Int.mul_le_mul_of_nonneg_right (by have := hbyte.2; omega) (Int.le_of_lt hpp)
    have e : 8 * (i + 1) - pos = (8 * i - pos) + 8 := by omega
    rw [hw1, hw2, qb, shl_u rfl hbyte.1 (by show k ≤ ((64 : Nat) : Int); simp only [nc] at *; omega) (by rw [hkn]; show _ < (2 : Int) ^ 64; omega), hkn, hx, e, bval_split]
    have e2 : pos + (8 * i - pos) = 8 * i := by omega
    rw [e2, hbb, or_add rfl _ hbd.1 hbd.2 hbyte.1 (by show _ < (2 : Int) ^ 64; omega)]
   cbv
   refine call_con (ρ := [(1, .z), (2, .z), (3, .z)]) hnext' ⟨by rfl, by rfl, by rfl, by cbv; exact ⟨view_refl _, trivial⟩⟩ ?_
   rintro v H R js ⟨rfl, rfl, rfl⟩
   have e4 : vnotB true = false := by simp only [qnotB]; rfl
   cbv
   rw [e4]
   cbv
   refine ⟨⟨hk0⟩, ?_⟩
   refine Cv.fold [5, 6, 7, 8, 9, 10, 11, 12, 13, 14, 15, 16, 17, 18, 19, 20, 21, 22, 23, 24, 25, 26, 27, 28, 29, 30, 31, 32, 33, 34, 35, 36, 37, 38, 39, 40, 41, 42, 43, 44] 4 [] (by exact Nat.le_refl _) (by exact Nat.le_of_ble_eq_true rfl) (by rfl) (by cbv) ?_
   intro js
   refine ⟨(_, _, _), ?_, js, rfl⟩
   exact ⟨⟨i + 1, by omega, by omega, by omega, hval, hk1, ha1.symm⟩, by show len - a1.toNat < len - a.toNat; simp only [nc] at *; omega⟩
  ·have hil : i = len := by omega
   have e4 : vnotB false = true := by simp only [qnotB]; rfl
   have hai2 : a = lI := by rw [hai, hil]; exact hlI
   have hx2 : x = acc2 := by rw [hx, hil, hacc2]
   have hk2 : k = have2 := by rw [hk, hil]; exact hhave2
   rw [hai2, hx2, hk2]
   cbv
   refine call_con (ρ := [(1, .z), (2, .z), (3, .z)]) hend ⟨by rfl, by rfl, by rfl, by cbv; exact ⟨view_refl _, trivial⟩⟩ ?_
   rintro v H R js ⟨rfl, rfl, rfl⟩
   cbv
   rw [e4]
   cbv
end Go.Proofs.Ytlclleihoampdaa
namespace Go.Proofs.Ytlclleihoampdaa
open Go Go.Sx Go.Proofs
theorem rb_bad (b : List Int) (pos at' cap : Nat) (n : Int) (hn : ¬ (0 ≤ n ∧ n ≤ 56)) :
  Con Try.prog 100 [.ptr 0 .z 4 0, .int .i64 n] [(.one 215 [.fn 121 [.ptr 1 .z 1 0, .ptr 2 .z 1 0], .int .u64 (bval (bitL b) pos (8 * at' - pos)), .int .i64 (((8 * at' - pos : Nat) : Int)), .fn 122 [.ptr 2 .z 1 0, .ptr 1 .z 1 0]]), .one 3 [.int .i64 at'], .one 25 [.slice 3 .z 1 b.length cap], .ro .u8 b]
   (fun v H R => v = .tup [.lit .u64 0, .lit .i64 2] ∧ R = [] ∧ H = [(.one 215 [.fn 121 [.ptr 1 .z 1 0, .ptr 2 .z 1 0], .int .u64 (bval (bitL b) pos (8 * at' - pos)), .int .i64 (((8 * at' - pos : Nat) : Int)), .fn 122 [.ptr 2 .z 1 0, .ptr 1 .z 1 0]]), .one 3 [.int .i64 at'], .one 25 [.slice 3 .z 1 b.length cap], .ro .u8 b]) := by
 refine con_walk hmix fn100 ?_
 intro vb vc vw vtoN vofN vaddN vsubN vmaxI vminI vcutN vgd vst vln vrep vsub vonto vsplice vstrEq vbyteV vnotB veqB hw qb qc qw qtoN qofN qaddN qsubN qmaxI qminI qcutN qgd qst qln qrep qsub qonto qsplice qstrEq qbyteV qnotB qeqB
 generalize Try.prog = P at *
 generalize hacc : bval (bitL b) pos (8 * at' - pos) = acc at *
 generalize hhave : ((8 * at' - pos : Nat) : Int) = have0 at *
 generalize ha0 : ((at' : Nat) : Int) = a0 at *
 generalize b.length = len at *
 cbv
 generalize h1 : vc .lss n 0 = z1
 cases z1
 ·cbv
  have h2 : vc .gtr n 56 = true := by rw [qc, lss_false] at h1; rw [qc, gtr_true]; omega
  rw [h2]
  cbv
 ·cbv
theorem rb_short (b : List Int) (pos at' cap n : Nat) (hby : ∀ x ∈ b, isByte x) (hl : b.length ≤ 2 ^ 50) (hp : pos ≤ 8 * at') (hp2 : 8 * at' ≤ pos + 63) (ha : at' ≤ b.length) (hn : n ≤ 56) (hen : 8 * b.length < pos + n) :
  Con Try.prog 100 [.ptr 0 .z 4 0, .int .i64 n] [(.one 215 [.fn 121 [.ptr 1 .z 1 0, .ptr 2 .z 1 0], .int .u64 (bval (bitL b) pos (8 * at' - pos)), .int .i64 (((8 * at' - pos : Nat) : Int)), .fn 122 [.ptr 2 .z 1 0, .ptr 1 .z 1 0]]), .one 3 [.int .i64 at'], .one 25 [.slice 3 .z 1 b.length cap], .ro .u8 b]
   (fun v H R => v = .tup [.lit .u64 0, .lit .i64 10] ∧ R = [] ∧ H = [(.one 215 [.fn 121 [.ptr 1 .z 1 0, .ptr 2 .z 1 0], .int .u64 (bval (bitL b) (pos) (8 * b.length - (pos))), .int .i64 (((8 * b.length - (pos) : Nat) : Int)), .fn 122 [.ptr 2 .z 1 0, .ptr 1 .z 1 0]]), .one 3 [.int .i64 b.length], .one 25 [.slice 3 .z 1 b.length cap], .ro .u8 b]) := by
 have hfill := fill_end b pos at' cap n hby hl hp hp2 ha hn hen
 refine con_walk hmix fn100 ?_
 intro vb vc vw vtoN vofN vaddN vsubN vmaxI vminI vcutN vgd vst vln vrep vsub vonto vsplice vstrEq vbyteV vnotB veqB hw qb qc qw qtoN qofN qaddN qsubN qmaxI qminI qcutN qgd qst qln qrep qsub qonto qsplice qstrEq qbyteV qnotB qeqB
 generalize Try.prog = P at *
 generalize hacc2 : bval (bitL b) pos (8 * b.length - pos) = acc2 at *
 generalize hhave2 : ((8 * b.length - pos : Nat) : Int) = have2 at *
 generalize hlI : ((b.length : Nat) : Int) = lI at *
 generalize hacc : bval (bitL b) pos (8 * at' - pos) = acc at *
 generalize hhave : ((8 * at' - pos : Nat) : Int) = have0 at *
 generalize ha0 : ((at' : Nat) : Int) = a0 at *
 generalize hn0 : ((n : Nat) : Int) = n0 at *
 generalize b.length = len at *
 cbv
 have e1 : vc .lss n0 0 = false := by rw [qc, lss_false]; simp only [nc] at *; omega
 have e2 : vc .gtr n0 56 = false := by rw [qc, gtr_false]; simp only [nc] at *; omega
 have e4 : vnotB false = true := by simp only [qnotB]; rfl
 rw [e1]
 cbv
 rw [e2]
 cbv
 refine call_con (ρ := [(0, .z), (1, .z), (2, .z), (3, .z)]) hfill ⟨by rfl, by rfl, by rfl, by cbv; exact ⟨view_refl _, trivial⟩⟩ ?_
 rintro v H R js ⟨rfl, rfl, rfl⟩
 cbv
 rw [e4]
 cbv
theorem rb_ok (b : List Int) (pos at' cap n : Nat) (hby : ∀ x ∈ b, isByte x) (hl : b.length ≤ 2 ^ 50) (hp : pos ≤ 8 * at') (hp2 : 8 * at' ≤ pos + 63) (ha : at' ≤ b.length) (hn : n ≤ 56) (hen : pos + n ≤ 8 * b.length) :
  Con Try.prog 100 [.ptr 0 .z 4 0, .int .i64 n] [(.one 215 [.fn 121 [.ptr 1 .z 1 0, .ptr 2 .z 1 0], .int .u64 (bval (bitL b) pos (8 * at' - pos)), .int .i64 (((8 * at' - pos : Nat) : Int)), .fn 122 [.ptr 2 .z 1 0, .ptr 1 .z 1 0]]), .one 3 [.int .i64 at'], .one 25 [.slice 3 .z 1 b.length cap], .ro .u8 b]
   (fun v H R => v = .tup [.int .u64 (bval (bitL b) pos n), .lit .i64 0] ∧ R = [] ∧ ∃ a2 : Nat, pos + n ≤ 8 * a2 ∧ 8 * a2 ≤ pos + n + 63 ∧ a2 ≤ b.length ∧ H = [(.one 215 [.fn 121 [.ptr 1 .z 1 0, .ptr 2 .z 1 0], .int .u64 (bval (bitL b) (pos + n) (8 * a2 - (pos + n))), .int .i64 (((8 * a2 - (pos + n) : Nat) : Int)), .fn 122 [.ptr 2 .z 1 0, .ptr 1 .z 1 0]]), .one 3 [.int .i64 a2], .one 25 [.slice 3 .z 1 b.length cap], .ro .u8 b]) := by
 have hfill := fill_ok b pos at' cap n hby hl hp hp2 ha hn hen
 refine con_walk hmix fn100 ?_
 intro vb vc vw vtoN vofN vaddN vsubN vmaxI vminI vcutN vgd vst vln vrep vsub vonto vsplice vstrEq vbyteV vnotB veqB hw qb qc qw qtoN qofN qaddN qsubN qmaxI qminI qcutN qgd qst qln qrep qsub qonto qsplice qstrEq qbyteV qnotB qeqB
 generalize Try.prog = P at *
 generalize hacc : bval (bitL b) pos (8 * at' - pos) = acc at *
 generalize hhave : ((8 * at' - pos : Nat) : Int) = have0 at *
 generalize ha0 : ((at' : Nat) : Int) = a0 at *
 generalize hn0 : ((n : Nat) : Int) = n0 at *
 generalize hX : bval (bitL b) pos n = X
 generalize b.length = len at *
 cbv
 have e1 : vc .lss n0 0 = false := by rw [qc, lss_false]; simp only [nc] at *; omega
 have e2 : vc .gtr n0 56 = false := by rw [qc, gtr_false]; simp only [nc] at *; omega
 have e4 : vnotB true = false := by simp only [qnotB]; rfl
 have hwn : vw .u64 n0 = n0 := by simp only [nc] at *; simp only [qw]; exact wrap_u64 (by omega) (by omega)
 have hnn : 0 ≤ vw .u64 n0 := by rw [hwn]; simp only [nc] at *; omega
 rw [e1]
 cbv
 rw [e2]
 cbv
 simp only [nc] at hfill
 refine call_con (ρ := [(0, .z), (1, .z), (2, .z), (3, .z)]) hfill ⟨by rfl, by rfl, by rfl, by cbv; exact ⟨view_refl _, trivial⟩⟩ ?_
 rintro v H R js ⟨rfl, rfl, a2, h1, h2, h3, rfl⟩
 generalize hacc2 : bval (bitL b) pos (8 * a2 - pos) = acc2
 generalize hhave2 : ((8 * a2 - pos : Nat) : Int) = have2
 generalize hai2 : ((a2 : Nat) : Int) = ai2
 have hbm := bval_mod (bitL b) (bitL_bit b) pos n (8 * a2 - pos - n)
 have hbd := bval_bound (bitL b) (bitL_bit b) pos (8 * a2 - pos)
 rw [show n + (8 * a2 - pos - n) = 8 * a2 - pos by omega] at hbm
 rw [hacc2, hX] at hbm
 rw [hacc2] at hbd
 have hlt64 : acc2 < 2 ^ 64 := by
  have : (2 : Int) ^ (8 * a2 - pos) ≤ 2 ^ 64 := by exact_mod_cast Nat.pow_le_pow_right (by decide) (by omega)
  omega
 have hpn := pow_le_56 hn
 have hp0 : (0 : Int) < 2 ^ n := Int.pow_pos (by decide)
 have hn00 : n0.toNat = n := by simp only [nc] at *; omega
 have hx : vb .and .u64 acc2 (vb .sub .u64 (vb .shl .u64 1 (vw .u64 n0)) 1) = X := by
  have e1 : vb .shl .u64 1 n0 = 2 ^ n := by
   rw [qb, shl_u rfl (by decide) (by show n0 ≤ ((64 : Nat) : Int); simp only [nc] at *; omega) (by rw [hn00]; show _ < (2 : Int) ^ 64; omega), hn00]; omega
  have e2 : vb .sub .u64 (2 ^ n) 1 = 2 ^ n - 1 := by rw [qb]; exact wrap_u64 (by omega) (by omega)
  rw [hwn, e1, e2, qb, and_mask (k := .u64) rfl n (by show n ≤ 64; omega) hbd.1 hlt64]
  exact hbm.1
 have hsh : vb .shr .u64 acc2 (vw .u64 n0) = bval (bitL b) (pos + n) (8 * a2 - pos - n) := by
  rw [hwn, qb, shr_eq (by show n0 ≤ ((64 : Nat) : Int); simp only [nc] at *; omega), hn00]
  exact hbm.2
 have hhs : vb .sub .i64 have2 n0 = ((8 * a2 - (pos + n) : Nat) : Int) := by
  simp only [nc] at *; rw [qb, sub_i64 (by omega) (by omega)]; omega
 cbv
 rw [e4]
 cbv
 refine ⟨⟨hnn⟩, ⟨hnn⟩, ?_⟩
 rw [hx, hsh, hhs]
 refine ⟨rfl, a2, h1, by omega, h3, ?_⟩
 rw [show 8 * a2 - pos - n = 8 * a2 - (pos + n) by omega, ← hai2]
 rfl
def rbX (b : List Int) (pos : Nat) (n : Int) : Int := if 0 ≤ n ∧ n ≤ 56 ∧ pos + n ≤ 8 * b.length then bval (bitL b) pos n.toNat else 0
def rbE (b : List Int) (pos : Nat) (n : Int) : Int := if 0 ≤ n ∧ n ≤ 56 then (if pos + n ≤ 8 * b.length then 0 else 10) else 2
def rbP (b : List Int) (pos : Nat) (n : Int) : Nat := if 0 ≤ n ∧ n ≤ 56 ∧ pos + n ≤ 8 * b.length then pos + n.toNat else pos
theorem rbits_con (b : List Int) (pos at' cap : Nat) (n : Int) (hby : ∀ x ∈ b, isByte x) (hl : b.length ≤ 2 ^ 50) (hp : pos ≤ 8 * at') (hp2 : 8 * at' ≤ pos + 63) (ha : at' ≤ b.length) :
  Con Try.prog 100 [.ptr 0 .z 4 0, .int .i64 n] [(.one 215 [.fn 121 [.ptr 1 .z 1 0, .ptr 2 .z 1 0], .int .u64 (bval (bitL b) pos (8 * at' - pos)), .int .i64 (((8 * at' - pos : Nat) : Int)), .fn 122 [.ptr 2 .z 1 0, .ptr 1 .z 1 0]]), .one 3 [.int .i64 at'], .one 25 [.slice 3 .z 1 b.length cap], .ro .u8 b]
   (fun v H R => v = .tup [.int .u64 (rbX b pos n), .int .i64 (rbE b pos n)] ∧ R = [] ∧ ∃ a2 : Nat, rbP b pos n ≤ 8 * a2 ∧ 8 * a2 ≤ rbP b pos n + 63 ∧ a2 ≤ b.length ∧ H = [(.one 215 [.fn 121 [.ptr 1 .z 1 0, .ptr 2 .z 1 0], .int .u64 (bval (bitL b) (rbP b pos n) (8 * a2 - (rbP b pos n))), .int .i64 (((8 * a2 - (rbP b pos n) : Nat) : Int)), .fn 122 [.ptr 2 .z 1 0, .ptr 1 .z 1 0]]), .one 3 [.int .i64 a2], .one 25 [.slice 3 .z 1 b.length cap], .ro .u8 b]) := by
 by_cases hn : 0 ≤ n ∧ n ≤ 56
 ·obtain ⟨m, rfl⟩ : ∃ m : Nat, n = m := ⟨n.toNat, by omega⟩
  by_cases hen : pos + m ≤ 8 * b.length
  ·have e1 : rbX b pos m = bval (bitL b) pos m := by unfold rbX; rw [if_pos ⟨hn.1, hn.2, by omega⟩]; rfl
   have e2 : rbE b pos m = 0 := by unfold rbE; rw [if_pos hn, if_pos (by omega)]
   have e3 : rbP b pos m = pos + m := by unfold rbP; rw [if_pos ⟨hn.1, hn.2, by omega⟩]; rfl
   rw [e1, e2, e3]
   refine con_gen ((rb_ok b pos at' cap m hby hl hp hp2 ha (by omega) hen).mono ?_)
   rintro v H R ⟨rfl, rfl, a2, h1, h2, h3, rfl⟩
   exact ⟨rfl, rfl, a2, h1, h2, h3, rfl⟩
  ·have e1 : rbX b pos m = 0 := by unfold rbX; rw [if_neg (by omega)]
   have e2 : rbE b pos m = 10 := by unfold rbE; rw [if_pos hn, if_neg (by omega)]
   have e3 : rbP b pos m = pos := by unfold rbP; rw [if_neg (by omega)]
   rw [e1, e2, e3]
   refine con_gen ((rb_short b pos at' cap m hby hl hp hp2 ha (by omega) (by omega)).mono ?_)
   rintro v H R ⟨rfl, rfl, rfl⟩
   exact ⟨rfl, rfl, b.length, by omega, by omega, Nat.le_refl _, rfl⟩
 ·have e1 : rbX b pos n = 0 := by unfold rbX; rw [if_neg (by omega)]
  have e2 : rbE b pos n = 2 := by unfold rbE; rw [if_neg hn]
  have e3 : rbP b pos n = pos := by unfold rbP; rw [if_neg (by omega)]
  rw [e1, e2, e3]
  refine con_gen ((rb_bad b pos at' cap n hn).mono ?_)
  rintro v H R ⟨rfl, rfl, rfl⟩
  exact ⟨rfl, rfl, at', hp, hp2, ha, rfl⟩
end Go.Proofs.Ytlclleihoampdaa
namespace Go.Proofs.Ytlclleihoampdaa
open Go Go.Sx Go.Proofs
theorem rleft_con (b : List Int) (pos at' cap : Nat) (hl : b.length ≤ 2 ^ 50) (hp : pos ≤ 8 * at') (ha : at' ≤ b.length) :
  Con Try.prog 101 [.ptr 0 .z 4 0] [(.one 215 [.fn 121 [.ptr 1 .z 1 0, .ptr 2 .z 1 0], .int .u64 (bval (bitL b) pos (8 * at' - pos)), .int .i64 (((8 * at' - pos : Nat) : Int)), .fn 122 [.ptr 2 .z 1 0, .ptr 1 .z 1 0]]), .one 3 [.int .i64 at'], .one 25 [.slice 3 .z 1 b.length cap], .ro .u8 b]
   (fun v H R => v = .int .i64 (8 * b.length - pos) ∧ R = [] ∧ H = [(.one 215 [.fn 121 [.ptr 1 .z 1 0, .ptr 2 .z 1 0], .int .u64 (bval (bitL b) pos (8 * at' - pos)), .int .i64 (((8 * at' - pos : Nat) : Int)), .fn 122 [.ptr 2 .z 1 0, .ptr 1 .z 1 0]]), .one 3 [.int .i64 at'], .one 25 [.slice 3 .z 1 b.length cap], .ro .u8 b]) := by
 have hleft := bleft_con b at' cap ha hl
 refine con_walk hmix fn101 ?_
 intro vb vc vw vtoN vofN vaddN vsubN vmaxI vminI vcutN vgd vst vln vrep vsub vonto vsplice vstrEq vbyteV vnotB veqB hw qb qc qw qtoN qofN qaddN qsubN qmaxI qminI qcutN qgd qst qln qrep qsub qonto qsplice qstrEq qbyteV qnotB qeqB
 generalize Try.prog = P at *
 generalize hr : 8 * ((b.length : Int) - at') = r at *
 generalize hacc : bval (bitL b) pos (8 * at' - pos) = acc at *
 generalize hhave : ((8 * at' - pos : Nat) : Int) = have0 at *
 generalize ha0 : ((at' : Nat) : Int) = a0 at *
 generalize hL : (8 * (b.length : Int) - pos) = L
 generalize hlen : b.length = len at *
 have e1 : vb .add .i64 have0 r = L := by rw [qb, add_i64 (by omega) (by omega)]; omega
 cbv
 refine call_con (ρ := [(1, .z), (2, .z), (3, .z)]) hleft ⟨by rfl, by rfl, by rfl, by cbv; exact ⟨view_refl _, trivial⟩⟩ ?_
 rintro v H R js ⟨rfl, rfl, rfl⟩
 cbv
 rw [e1]
 exact ⟨rfl, trivial⟩
theorem rnew_con (b : List Int) (cap : Nat) (hl : b.length ≤ 140737488355328) : Con Try.prog 99 [.slice 0 .z 1 b.length cap] [.ro .u8 b]
  (fun v H R => v = .ptr 4 .z 4 0 ∧ R = [1] ∧ ∃ c, H = [.ro .u8 b, .buf 5 .u8 b c, .one 25 [.slice 1 .z 1 b.length c], .one 3 [.int .i64 0], .one 215 [.fn 121 [.ptr 3 .z 1 0, .ptr 2 .z 1 0], .int .u64 0, .int .i64 0, .fn 122 [.ptr 2 .z 1 0, .ptr 3 .z 1 0]]]) := by
 refine con_gen (con_walk hmix fn99 ?_)
 intro vb vc vw vtoN vofN vaddN vsubN vmaxI vminI vcutN vgd vst vln vrep vsub vonto vsplice vstrEq vbyteV vnotB veqB hw qb qc qw qtoN qofN qaddN qsubN qmaxI qminI qcutN qgd qst qln qrep qsub qonto qsplice qstrEq qbyteV qnotB qeqB
 generalize Try.prog = P at *
 generalize hlen : b.length = len at *
 have ha : vaddN 0 len = len := by simp only [qaddN, Nat.zero_add]
 have hpay : vonto [] 0 (vsub b 0 len) = b := by simp only [qonto, qsub]; simp [← hlen]
 cbv
 refine ⟨⟨by rw [ha]; simp only [qln]; omega⟩, ⟨Nat.zero_le _⟩, ⟨Nat.zero_le _⟩, ⟨by rw [ha]; omega⟩, ?_⟩
 intro c1 js1 hle
 cbv
 rw [ha, hpay]
 exact ⟨c1, rfl⟩
end Go.Proofs.Ytlclleihoampdaa
namespace Go.Proofs.Ytlclleihoampdaa
open Go Go.Sx Go.Proofs
set_option maxHeartbeats 2000000 in
theorem bput_con (bs : List Int) (c : Nat) (x : Int) (n : Nat) (hn : n ≤ 56) (hx : 0 ≤ x ∧ x < 2 ^ 64) (hb : ∀ b ∈ bs, isBit b) (hl : bs.length ≤ 2 ^ 40) :
  Con Try.prog 96 [.ptr 0 .z 2 0, .int .u64 x, .int .i64 n] [.one 184 [.slice 1 .z 1 (pack bs).length c, .int .i64 bs.length], .buf 5 .u8 (pack bs) c]
   (fun v H R => v = .lit .i64 0 ∧ R = [1] ∧ ∃ c', H = [.one 184 [.slice 1 .z 1 (pack (bs ++ bitsN x n)).length c', .int .i64 (bs ++ bitsN x n).length], .buf 5 .u8 (pack (bs ++ bitsN x n)) c']) := by
 refine con_cut 2 (by simp) (con_red [1] (con_walk hmix fn96 ?_))
 intro vb vc vw vtoN vofN vaddN vsubN vmaxI vminI vcutN vgd vst vln vrep vsub vonto vsplice vstrEq vbyteV vnotB veqB hw qb qc qw qtoN qofN qaddN qsubN qmaxI qminI qcutN qgd qst qln qrep qsub qonto qsplice qstrEq qbyteV qnotB qeqB
 have hm := hmix
 have f37 := fn120
 have f43 := fn133
 generalize Try.prog = P at *
 generalize hl0 : pack bs = l0
 generalize hm0 : (bs.length : Int) = m0
 generalize hn0 : (n : Int) = n0
 generalize hlen0 : l0.length = len0
 cbv
 have e1 : vc .lss n0 0 = false := by subst_vars; try simp only [nc] at *; simp [cV]
 have e2 : vc .gtr n0 56 = false := by subst_vars; try simp only [nc] at *; simp [cV]; omega
 rw [e1]
 cbv
 rw [e2]
 cbv
 refine inl_walk hw hm f37 (by rfl) ?_
 cbv
 intro js
 refine range_rule (by rfl) (by rfl) (by cbv) (by cbv) (by rfl) ?_
 refine inl_walk hw hm f43 (by rfl) ?_
 cbv
 refine loop_fam (α := Int × Int × Int × List Int × Nat × Nat) [4, 5, 6, 7, 8, 9, 10, 11, 12, 13, 14, 15] [1]
  (fun (xx, nn, mk, l, len, c) => []) (fun (xx, nn, mk, l, len, c) => [(0, .one 184 [.slice 1 .z 1 len c, .int .i64 mk]), (1, .buf 5 .u8 l c), (3, .one 76 [.int .u64 xx]), (4, .one 3 [.int .i64 nn])])
  (fun (xx, nn, mk, l, len, c) => ∃ i : Nat, xx = x / 2 ^ i ∧ nn = (n : Int) - i ∧ i ≤ n ∧ mk = (bs ++ bitsN x i).length ∧ l = pack (bs ++ bitsN x i) ∧ len = l.length) (fun (xx, nn, _) => nn.toNat) hw hm ?_ ?_
 ·refine Cv.fold [4, 5, 6, 7, 8, 9, 10, 11, 12, 13, 14, 15] 7 [1] (by exact Nat.le_refl _) (by exact Nat.le_of_ble_eq_true rfl) (by rfl) (by cbv) ?_
  intro js
  refine ⟨(_, _, _, _, _, _), ?_, js, rfl⟩
  refine ⟨0, ?_, ?_, by omega, ?_, ?_, ?_⟩
  ·rw [Int.pow_zero, Int.ediv_one]
  ·simp only [nc] at *; omega
  ·subst_vars; try simp only [nc] at *; simp [bitsN_zero]
  ·subst_vars; try simp only [nc] at *; simp [bitsN_zero]
  ·exact hlen0.symm
 ·rintro ⟨xx, nn, mk, l, len, c⟩ js ⟨i, hxx, hnn1, hi, hmk, hl', hlen⟩
  have hbs : ∀ b ∈ bs ++ bitsN x i, isBit b := fun b h => (List.mem_append.1 h).elim (hb b) (bitsN_bit x i b)
  have hlb : (bs ++ bitsN x i).length ≤ 2 ^ 40 + 56 := by simp [bitsN_length]; omega
  generalize hBS : bs ++ bitsN x i = BS at *
  have hll : l.length = (BS.length + 7) / 8 := by rw [hl', pack_length]
  have hx0 : 0 ≤ xx ∧ xx < 2 ^ 64 := by
   have h1 : 0 ≤ x / 2 ^ i := Int.ediv_nonneg hx.1 (Int.le_of_lt (Int.pow_pos (by decide)))
   have h2 : x / 2 ^ i ≤ x := Int.ediv_le_self _ hx.1
   omega
  cbv
  split
  ·rename_i hlt
   have hlt : i < n := by rw [qc, gtr_true] at hlt; simp only [nc] at *; omega
   have hx1 : vb .shr .u64 xx 1 = x / 2 ^ (i + 1) := by
    rw [qb, shr_eq (by decide), hxx, Int.ediv_ediv_of_nonneg (Int.le_of_lt (Int.pow_pos (by decide))), Int.pow_succ]
    rfl
   have hn1 : vb .sub .i64 nn 1 = (n : Int) - ((i + 1 : Nat) : Int) := by simp only [nc] at *; rw [qb, sub_i64 (by omega) (by omega)]; omega
   have hmu : (vb .sub .i64 nn 1).toNat < nn.toNat := by rw [hn1, hnn1]; simp only [nc] at *; omega
   have hbit : vw .u8 (vb .and .u64 xx 1) = x / 2 ^ i % 2 := by
    rw [qb, and_one rfl hx0.1 (by show _ < (2 : Int) ^ 64; omega), hxx]
    simp only [qw]
    exact wrap_u8 (by omega) (by omega)
   generalize hbb : x / 2 ^ i % 2 = bit at *
   have hbi : isBit bit := by rw [← hbb]; exact isBit_mod _
   have hnext : bs ++ bitsN x (i + 1) = BS ++ [bit] := by rw [bitsN_succ, ← List.append_assoc, hBS, hbb]
   have hrem : vb .rem .i64 mk 8 = mk % 8 := by subst_vars; try simp only [nc] at *; exact rem_i64 (by omega)
   have hquo : vtoN (vb .quo .i64 mk 8) = BS.length / 8 := by
    subst_vars
    try simp only [nc] at *
    rw [quo_i64 (by omega) (by omega) (by omega)]
    show Int.toNat _ = _
    omega
   have hmodw : vw .u64 (mk % 8) = mk % 8 := by rw [qw]; simp only [nc] at *; exact wrap_u64 (by omega) (by omega)
   have hpack : (room BS).set (BS.length / 8) (bV .or .u8 ((room BS).getD (BS.length / 8) 0) (bV .shl .u8 bit (mk % 8))) = pack (BS ++ [bit]) := by
    have := pack_step BS bit mk hbs hbi hmk
    have e : (mk / 8).toNat = BS.length / 8 := by simp only [nc] at *; omega
    rw [e] at this
    exact this
   have hd8 : BS.length / 8 < (room BS).length := by rw [room_length]; omega
   cbv
   refine yield_walk hw hm (by rfl) ?_
   cbv
   split
   ·rename_i hr8
    have h8 : BS.length % 8 = 0 := by rw [hrem, qc, eql_true] at hr8; simp only [nc] at *; omega
    have hroom : room BS = l ++ [0] := by rw [room, if_pos h8, hl']
    have hsub : vsub [0] 0 1 = [0] := by subst_vars; rfl
    have honto : vonto l len [0] = room BS := by rw [hroom]; subst_vars; simp
    have hin : 0 ≤ vb .quo .i64 mk 8 ∧ vb .quo .i64 mk 8 < (vaddN len 1 : Nat) := by
     have hq : vb .quo .i64 mk 8 = mk / 8 := by subst_vars; simp only [nc] at *; rw [quo_i64 (by omega) (by omega) (by omega)]
     rw [hq]; subst_vars; simp only [nc] at *; omega
    have hlt2 : vtoN (vb .quo .i64 mk 8) < vln (vonto l len (vsub [0] 0 1)) := by rw [hquo, hsub, honto]; subst_vars; simp only [nc] at *; omega
    have hlt3 : vaddN 0 (vtoN (vb .quo .i64 mk 8)) < vln (vonto l len (vsub [0] 0 1)) := by rw [qaddN]; simpa using hlt2
    have hnn : 0 ≤ vw .u64 (vb .rem .i64 mk 8) := by rw [hrem]; subst_vars; simp only [nc] at *; rw [wrap_u64 (by omega) (by omega)]; omega
    cbv
    refine ⟨⟨?_⟩, ⟨?_⟩, ⟨?_⟩, ⟨?_⟩, ?_⟩
    ·subst_vars; decide
    ·subst_vars; exact Nat.le_refl _
    ·exact Nat.le_refl _
    ·subst_vars; simp only [nc] at *; omega
    intro c1 js1 hle
    cbv
    refine ⟨⟨hin⟩, ⟨hlt3⟩, ⟨hlt2⟩, ⟨hnn⟩, ⟨hin⟩, ⟨hlt3⟩, ⟨hlt2⟩, ?_⟩
    intro js1
    cbv
    have e3 : vnotB true = false := by subst_vars; rfl
    rw [e3]
    cbv
    refine Cv.fold [4, 5, 6, 7, 8, 9, 10, 11, 12, 13, 14, 15] 7 [1] (by exact Nat.le_refl _) (by exact Nat.le_of_ble_eq_true rfl) (by rfl) (by cbv) ?_
    intro js
    refine ⟨(_, _, _, _, _, _), ?_, js, rfl⟩
    refine ⟨⟨i + 1, hx1, hn1, by omega, ?_, ?_, ?_⟩, hmu⟩
    ·rw [qb, add_i64 (by simp only [nc] at *; omega) (by simp only [nc] at *; omega), hnext]; simp only [nc, List.length_append] at *; simp; omega
    ·rw [hsub, honto, hbit, hquo, hrem, hmodw, hnext, ← hpack]; subst_vars; rfl
    ·rw [hsub, honto, qst]; simp only [List.length_set]; rw [hroom]; subst_vars; simp
   ·rename_i hr8
    have h8 : BS.length % 8 ≠ 0 := by rw [hrem, qc, eql_false] at hr8; simp only [nc] at *; omega
    have hroom : room BS = l := by rw [room, if_neg h8, hl']
    have hin : 0 ≤ vb .quo .i64 mk 8 ∧ vb .quo .i64 mk 8 < len := by
     have hq : vb .quo .i64 mk 8 = mk / 8 := by subst_vars; simp only [nc] at *; rw [quo_i64 (by omega) (by omega) (by omega)]
     rw [hq]; rw [hroom] at hd8; subst_vars; simp only [nc] at *; omega
    have hlt2 : vtoN (vb .quo .i64 mk 8) < vln l := by rw [hquo]; rw [hroom] at hd8; subst_vars; simp only [nc] at *; omega
    have hlt3 : vaddN 0 (vtoN (vb .quo .i64 mk 8)) < vln l := by rw [qaddN]; simpa using hlt2
    have hnn : 0 ≤ vw .u64 (vb .rem .i64 mk 8) := by rw [hrem]; subst_vars; simp only [nc] at *; rw [wrap_u64 (by omega) (by omega)]; omega
    cbv
    refine ⟨⟨hin⟩, ⟨hlt3⟩, ⟨hlt2⟩, ⟨hnn⟩, ⟨hin⟩, ⟨hlt3⟩, ⟨hlt2⟩, ?_⟩
    intro js1
    cbv
    have e3 : vnotB true = false := by subst_vars; rfl
    rw [e3]
    cbv
    refine Cv.fold [4, 5, 6, 7, 8, 9, 10, 11, 12, 13, 14, 15] 7 [1] (by exact Nat.le_refl _) (by exact Nat.le_of_ble_eq_true rfl) (by rfl) (by cbv) ?_
    intro js
    refine ⟨(_, _, _, _, _, _), ?_, js, rfl⟩
    refine ⟨⟨i + 1, hx1, hn1, by omega, ?_, ?_, ?_⟩, hmu⟩
    ·rw [qb, add_i64 (by simp only [nc] at *; omega) (by simp only [nc] at *; omega), hnext]; simp only [nc, List.length_append] at *; simp; omega
    ·rw [hbit, hquo, hrem, hmodw, hnext, ← hpack, hroom]; subst_vars; rfl
    ·rw [qst]; simp only [List.length_set]; exact hlen
  ·rename_i hge
   have hin : i = n := by rw [qc, gtr_false] at hge; simp only [nc] at *; omega
   subst hin
   cbv
   intro js1
   cbv
   refine ⟨c, ?_⟩
   subst_vars
   rfl
end Go.Proofs.Ytlclleihoampdaa
namespace Go.Proofs.Ytlclleihoampdaa
open Go Go.Sx Go.Proofs
theorem bputA_con (bs : List Int) (c : Nat) (x n : Int) (hx : 0 ≤ x ∧ x < 2 ^ 64) (hb : ∀ b ∈ bs, isBit b) (hl : bs.length ≤ 2 ^ 40) :
  Con Try.prog 96 [.ptr 0 .z 2 0, .int .u64 x, .int .i64 n] [.one 184 [.slice 1 .z 1 (pack bs).length c, .int .i64 bs.length], .buf 5 .u8 (pack bs) c]
   (fun v H R => v = .int .i64 (putErr n) ∧ R = [1] ∧ ∃ c', H = [.one 184 [.slice 1 .z 1 (pack (putBits bs x n)).length c', .int .i64 (putBits bs x n).length], .buf 5 .u8 (pack (putBits bs x n)) c']) := by
 by_cases hn : 0 ≤ n ∧ n ≤ 56
 ·obtain ⟨m, rfl⟩ : ∃ m : Nat, n = m := ⟨n.toNat, by omega⟩
  refine con_gen ((bput_con bs c x m (by omega) hx hb hl).mono ?_)
  rintro v H R ⟨rfl, rfl, c', rfl⟩
  have e : putBits bs x m = bs ++ bitsN x m := by unfold putBits; rw [if_pos hn]; rfl
  have e2 : putErr m = 0 := by unfold putErr; rw [if_pos hn]
  rw [e, e2]
  exact ⟨rfl, rfl, c', rfl⟩
 ·have e : putBits bs x n = bs := by unfold putBits; rw [if_neg hn]
  have e2 : putErr n = 2 := by unfold putErr; rw [if_neg hn]
  rw [e, e2]
  refine con_gen (con_cut 2 (by simp) (con_red [1] (con_walk hmix fn96 ?_)))
  intro vb vc vw vtoN vofN vaddN vsubN vmaxI vminI vcutN vgd vst vln vrep vsub vonto vsplice vstrEq vbyteV vnotB veqB hw qb qc qw qtoN qofN qaddN qsubN qmaxI qminI qcutN qgd qst qln qrep qsub qonto qsplice qstrEq qbyteV qnotB qeqB
  generalize Try.prog = P at *
  generalize pack bs = l0 at *
  generalize l0.length = len0 at *
  generalize (bs.length : Int) = m0 at *
  cbv
  generalize h1 : vc .lss n 0 = z1
  cases z1
  ·cbv
   have h2 : vc .gtr n 56 = true := by rw [qc, lss_false] at h1; rw [qc, gtr_true]; omega
   rw [h2]
   cbv
   exact ⟨c, rfl⟩
  ·cbv
   exact ⟨c, rfl⟩
theorem bbytes_con (bs : List Int) (c : Nat) (hl : bs.length ≤ 2 ^ 40) :
  Con Try.prog 97 [.ptr 0 .z 2 0] [.one 184 [.slice 1 .z 1 (pack bs).length c, .int .i64 bs.length], .buf 5 .u8 (pack bs) c]
   (fun v H R => R = [2] ∧ ∃ c', v = .slice 2 .z 1 (pack bs).length c' ∧ H = [.one 184 [.slice 1 .z 1 (pack bs).length c, .int .i64 bs.length], .buf 5 .u8 (pack bs) c, .buf 5 .u8 (pack bs) c']) := by
 have hpl : (pack bs).length ≤ 2 ^ 40 := by rw [pack_length]; omega
 refine con_red [2] (con_walk hmix fn97 ?_)
 intro vb vc vw vtoN vofN vaddN vsubN vmaxI vminI vcutN vgd vst vln vrep vsub vonto vsplice vstrEq vbyteV vnotB veqB hw qb qc qw qtoN qofN qaddN qsubN qmaxI qminI qcutN qgd qst qln qrep qsub qonto qsplice qstrEq qbyteV qnotB qeqB
 generalize Try.prog = P at *
 generalize pack bs = l0 at *
 generalize hlen0 : l0.length = len0 at *
 generalize (bs.length : Int) = m0 at *
 have ha : vaddN 0 len0 = len0 := by simp only [qaddN, Nat.zero_add]
 have hpay : vonto [] 0 (vsub l0 0 len0) = l0 := by simp only [qonto, qsub]; simp [← hlen0]
 cbv
 refine ⟨⟨by rw [ha]; simp only [qln]; omega⟩, ⟨Nat.zero_le _⟩, ⟨Nat.zero_le _⟩, ⟨by rw [ha]; omega⟩, ?_⟩
 intro c1 js1 hle
 cbv
 rw [ha, hpay]
 exact ⟨c1, rfl, rfl⟩
end Go.Proofs.Ytlclleihoampdaa
namespace Go.Proofs.Ytlclleihoampdaa
open Go Go.Sx Go.Proofs
def RS (b : List Int) (pos : Nat) (acc hv ai : Int) : Prop := ∃ at' : Nat, pos ≤ 8 * at' ∧ 8 * at' ≤ pos + 63 ∧ at' ≤ b.length ∧ acc = bval (bitL b) pos (8 * at' - pos) ∧ hv = ((8 * at' - pos : Nat) : Int) ∧ ai = at'
theorem RS.start (b : List Int) : RS b 0 0 0 0 := ⟨0, by omega, by omega, by omega, rfl, rfl, rfl⟩
theorem rbits_rs (b : List Int) (pos cap : Nat) (n acc hv ai : Int) (hby : ∀ x ∈ b, isByte x) (hl : b.length ≤ 2 ^ 50) (h : RS b pos acc hv ai) :
  Con Try.prog 100 [.ptr 0 .z 4 0, .int .i64 n] [(.one 215 [.fn 121 [.ptr 1 .z 1 0, .ptr 2 .z 1 0], .int .u64 (acc), .int .i64 (hv), .fn 122 [.ptr 2 .z 1 0, .ptr 1 .z 1 0]]), .one 3 [.int .i64 ai], .one 25 [.slice 3 .z 1 b.length cap], .ro .u8 b]
   (fun v H R => v = .tup [.int .u64 (rbX b pos n), .int .i64 (rbE b pos n)] ∧ R = [] ∧ ∃ acc2 hv2 ai2, RS b (rbP b pos n) acc2 hv2 ai2 ∧ H = [(.one 215 [.fn 121 [.ptr 1 .z 1 0, .ptr 2 .z 1 0], .int .u64 (acc2), .int .i64 (hv2), .fn 122 [.ptr 2 .z 1 0, .ptr 1 .z 1 0]]), .one 3 [.int .i64 ai2], .one 25 [.slice 3 .z 1 b.length cap], .ro .u8 b]) := by
 obtain ⟨at', h1, h2, h3, rfl, rfl, rfl⟩ := h
 refine (rbits_con b pos at' cap n hby hl h1 h2 h3).mono ?_
 rintro v H R ⟨e1, e2, a2, e3, e4, e5, e6⟩
 exact ⟨e1, e2, _, _, _, ⟨a2, e3, e4, e5, rfl, rfl, rfl⟩, e6⟩
theorem rleft_rs (b : List Int) (pos cap : Nat) (acc hv ai : Int) (hl : b.length ≤ 2 ^ 50) (h : RS b pos acc hv ai) :
  Con Try.prog 101 [.ptr 0 .z 4 0] [(.one 215 [.fn 121 [.ptr 1 .z 1 0, .ptr 2 .z 1 0], .int .u64 (acc), .int .i64 (hv), .fn 122 [.ptr 2 .z 1 0, .ptr 1 .z 1 0]]), .one 3 [.int .i64 ai], .one 25 [.slice 3 .z 1 b.length cap], .ro .u8 b]
   (fun v H R => v = .int .i64 (8 * b.length - pos) ∧ R = [] ∧ H = [(.one 215 [.fn 121 [.ptr 1 .z 1 0, .ptr 2 .z 1 0], .int .u64 (acc), .int .i64 (hv), .fn 122 [.ptr 2 .z 1 0, .ptr 1 .z 1 0]]), .one 3 [.int .i64 ai], .one 25 [.slice 3 .z 1 b.length cap], .ro .u8 b]) := by
 obtain ⟨at', h1, h2, h3, rfl, rfl, rfl⟩ := h
 exact rleft_con b pos at' cap hl h1 h3
end Go.Proofs.Ytlclleihoampdaa
namespace Go.Proofs.Ytlclleihoampdaa
open Go Go.Sx Go.Proofs
def partsN (c : Int) : Int := if c < 0 then 1 else c
def isI16 (c : Int) : Prop := -32768 ≤ c ∧ c ≤ 32767
def sumP (l : List Int) : Int := (l.map partsN).sum
def Right (l : List Int) (log : Int) : Prop := 5 ≤ log ∧ log ≤ 12 ∧ 1 ≤ l.length ∧ l.length ≤ 256 ∧ l.getD (l.length - 1) 0 ≠ 0 ∧ (∀ c ∈ l, -1 ≤ c) ∧ sumP l = 2 ^ log.toNat
instance (l : List Int) (log : Int) : Decidable (Right l log) := by unfold Right; infer_instance
theorem sumP_snoc (l : List Int) (c : Int) : sumP (l ++ [c]) = sumP l + partsN c := by simp [sumP]
theorem partsN_le {c : Int} (h : isI16 c) : 0 ≤ partsN c ∧ partsN c ≤ 32767 := by unfold partsN isI16 at *; split <;> omega
theorem sumP_le {l : List Int} (h : ∀ c ∈ l, isI16 c) : 0 ≤ sumP l ∧ sumP l ≤ 32767 * l.length := by
 induction l with
 | nil => simp [sumP]
 | cons c l ih =>
  have h1 := partsN_le (h c (by simp))
  have h2 := ih (fun x hx => h x (by simp [hx]))
  simp only [sumP, List.map_cons, List.sum_cons, List.length_cons] at *
  omega
theorem parts_con (c : Int) (hc : isI16 c) : Con Try.prog 94 [.int .i16 c] [] (fun v H R => v = .int .i64 (partsN c) ∧ H = [] ∧ R = []) := by
 refine con_gen (con_walk hmix fn94 ?_)
 intro vb vc vw vtoN vofN vaddN vsubN vmaxI vminI vcutN vgd vst vln vrep vsub vonto vsplice vstrEq vbyteV vnotB veqB hw qb qc qw qtoN qofN qaddN qsubN qmaxI qminI qcutN qgd qst qln qrep qsub qonto qsplice qstrEq qbyteV qnotB qeqB
 generalize Try.prog = P at *
 have hp : partsN c = if c < 0 then 1 else c := rfl
 generalize partsN c = p at *
 cbv
 split
 ·rename_i h
  rw [qc, lss_true] at h
  cbv
  rw [hp, if_pos h]
  exact ⟨rfl, trivial⟩
 ·rename_i h
  rw [qc, lss_false] at h
  have e : vw .i64 c = c := by unfold isI16 at hc; simp only [qw]; exact wrap_i64 (by omega) (by omega)
  cbv
  rw [e, hp, if_neg h]
  exact ⟨rfl, trivial⟩
theorem one_shl {x : Int} (h0 : 0 ≤ x) (h1 : x ≤ 12) : bV .shl .i64 1 x = 2 ^ x.toNat := by
 obtain ⟨n, rfl⟩ : ∃ n : Nat, x = n := ⟨x.toNat, by omega⟩
 have hn : n ≤ 12 := by omega
 have : ∀ n : Fin 13, bV .shl .i64 1 ((n.1 : Nat) : Int) = 2 ^ ((n.1 : Nat) : Int).toNat := by decide
 exact this ⟨n, by omega⟩
set_option maxHeartbeats 2000000 in
theorem right_con (l : List Int) (log : Int) (cap : Nat) (hl : ∀ c ∈ l, isI16 c) (hlog : -9223372036854775808 ≤ log ∧ log ≤ 9223372036854775807) :
  Con Try.prog 93 [.slice 0 .z 1 l.length cap, .int .i64 log] [.ro .i16 l] (fun v H R => v = .bool (decide (Right l log)) ∧ H = [.ro .i16 l] ∧ R = []) := by
 have hparts := fun c h => parts_con c h
 refine con_gen (con_walk hmix fn93 ?_)
 intro vb vc vw vtoN vofN vaddN vsubN vmaxI vminI vcutN vgd vst vln vrep vsub vonto vsplice vstrEq vbyteV vnotB veqB hw qb qc qw qtoN qofN qaddN qsubN qmaxI qminI qcutN qgd qst qln qrep qsub qonto qsplice qstrEq qbyteV qnotB qeqB
 have hm := hmix
 generalize Try.prog = P at *
 have hR : decide (Right l log) = true ↔ (5 ≤ log ∧ log ≤ 12 ∧ 1 ≤ l.length ∧ l.length ≤ 256 ∧ l.getD (l.length - 1) 0 ≠ 0 ∧ (∀ c ∈ l, -1 ≤ c) ∧ sumP l = 2 ^ log.toNat) := by
  rw [decide_eq_true_iff]; exact Iff.rfl
 generalize decide (Right l log) = rb at *
 have hRf : ∀ p : Prop, (rb = true → False) → rb = false := fun _ h => by cases rb with | false => rfl | true => exact (h rfl).elim
 have hl16 := hl
 have hsum : ∀ i, 0 ≤ sumP (l.take i) ∧ sumP (l.take i) ≤ 32767 * i := by
  intro i
  have h1 := sumP_le (l := l.take i) (fun c hc => hl c (List.mem_of_mem_take hc))
  have h2 : (l.take i).length ≤ i := by rw [List.length_take]; omega
  omega
 generalize hn : l.length = n at *
 cbv
 generalize h1 : vc .lss log 5 = z1
 cases z1
 rotate_left
 ·rw [qc, lss_true] at h1
  cbv
  rw [hRf True (fun h => by have := (hR.1 h).1; omega)]
  exact ⟨rfl, trivial⟩
 rw [qc, lss_false] at h1
 cbv
 generalize h2 : vc .gtr log 12 = z2
 cases z2
 rotate_left
 ·rw [qc, gtr_true] at h2
  cbv
  rw [hRf True (fun h => by have := (hR.1 h).2.1; omega)]
  exact ⟨rfl, trivial⟩
 rw [qc, gtr_false] at h2
 cbv
 generalize h3 : vc .eql (vofN n) 0 = z3
 cases z3
 rotate_left
 ·rw [qc, qofN, eql_true] at h3
  cbv
  rw [hRf True (fun h => by have := (hR.1 h).2.2.1; simp only [nc] at *; omega)]
  exact ⟨rfl, trivial⟩
 rw [qc, qofN, eql_false] at h3
 cbv
 generalize h4 : vc .gtr (vofN n) 256 = z4
 cases z4
 rotate_left
 ·rw [qc, qofN, gtr_true] at h4
  cbv
  rw [hRf True (fun h => by have := (hR.1 h).2.2.2.1; simp only [nc] at *; omega)]
  exact ⟨rfl, trivial⟩
 rw [qc, qofN, gtr_false] at h4
 have hn1 : vb .sub .i64 (vofN n) 1 = ((n - 1 : Nat) : Int) := by simp only [nc] at *; simp only [qofN]; rw [qb, sub_i64 (by omega) (by omega)]; omega
 have hin1 : 0 ≤ vb .sub .i64 (vofN n) 1 ∧ vb .sub .i64 (vofN n) 1 < n := by rw [hn1]; simp only [nc] at *; omega
 have hto1 : vtoN (vb .sub .i64 (vofN n) 1) = n - 1 := by rw [hn1]; simp only [qtoN]; omega
 have hlt1 : n - 1 < vln l := by simp only [qln]; simp only [nc] at *; omega
 have hlt1' : vaddN 0 (n - 1) < vln l := by simp only [qaddN, Nat.zero_add]; exact hlt1
 have hld : vgd l (n - 1) = l.getD (n - 1) 0 := by simp only [qgd]
 cbv
 rw [hto1]
 refine ⟨⟨hin1⟩, ⟨hlt1'⟩, ⟨hlt1⟩, ?_⟩
 generalize h5 : vc .eql (vgd l (n - 1)) 0 = z5
 cases z5
 rotate_left
 ·rw [qc, eql_true, hld] at h5
  cbv
  rw [hRf True (fun h => (hR.1 h).2.2.2.2.1 h5)]
  exact ⟨rfl, trivial⟩
 rw [qc, eql_false, hld] at h5
 cbv
 refine loop_fam (α := Int × Int) [7, 36, 37, 38, 39, 40, 41, 42, 43, 44, 45] []
  (fun (k, m) => [(35, .int .i64 k), (5, .int .i64 m)]) (fun (k, m) => [])
  (fun (k, m) => ∃ i : Nat, k = i ∧ i ≤ n ∧ m = sumP (l.take i) ∧ ∀ c ∈ l.take i, -1 ≤ c) (fun (k, _) => n - k.toNat) hw hm ?_ ?_
 ·refine Cv.genAt [35, 5] [] (Cv.fold [7, 36, 37, 38, 39, 40, 41, 42, 43, 44, 45] 1 [] (by exact Nat.le_refl _) (by exact Nat.le_of_ble_eq_true rfl) (by rfl) (by cbv) ?_)
  intro js
  refine ⟨(_, _), ?_, js, rfl⟩
  exact ⟨0, rfl, by omega, by simp [sumP], by simp⟩
 ·rintro ⟨k, m⟩ js ⟨i, hk, hi, hs, hall⟩
  have hsi := hsum i
  cbv
  split
  ·rename_i hlt
   have hlt : i < n := by rw [qc, lss_true] at hlt; simp only [qofN] at hlt; simp only [nc] at *; omega
   have hti : vtoN k = i := by simp only [qtoN]; simp only [nc] at *; omega
   have hin : 0 ≤ k ∧ k < (n : Int) := by simp only [nc] at *; omega
   have hlt2 : i < vln l := by simp only [qln]; omega
   have hlt3 : vaddN 0 i < vln l := by simp only [qaddN, Nat.zero_add]; exact hlt2
   have hil : i < l.length := by omega
   have hgd : vgd l i = l.getD i 0 := by simp only [qgd]
   have hmem : l.getD i 0 ∈ l := by rw [List.getD_eq_getElem?_getD, List.getElem?_eq_getElem hil]; exact List.getElem_mem hil
   have hc16 := hl16 _ hmem
   have hpl := partsN_le hc16
   have hsn : sumP (l.take (i + 1)) = m + partsN (l.getD i 0) := by rw [take_snoc hil, sumP_snoc, ← hs]
   have hpc := hparts _ hc16
   have hk1 : vb .add .i64 k 1 = ((i + 1 : Nat) : Int) := by simp only [nc] at *; rw [qb, add_i64 (by omega) (by omega)]; omega
   have hmu : n - (vb .add .i64 k 1).toNat < n - k.toNat := by rw [hk1, hk]; simp only [nc] at *; omega
   rw [← hgd] at hpc hsn
   have hadd : vb .add .i64 m (partsN (vgd l i)) = m + partsN (vgd l i) := by simp only [nc] at *; rw [hgd]; rw [qb, add_i64 (by omega) (by omega)]
   generalize partsN (vgd l i) = pc at hpc hsn hadd
   cbv
   rw [hti]
   cbv
   refine ⟨⟨hin⟩, ⟨hlt3⟩, ⟨hlt2⟩, ?_⟩
   generalize hcd : vgd l i = cd at *
   split
   ·rename_i hlo
    rw [qc, lss_true] at hlo
    cbv
    rw [hRf True (fun h => by have := (hR.1 h).2.2.2.2.2.1 _ hmem; rw [← hgd] at this; omega)]
    exact ⟨rfl, trivial⟩
   ·rename_i hlo
    rw [qc, lss_false] at hlo
    cbv
    refine call_con (ρ := []) hpc ⟨by rfl, by rfl, by rfl, by cbv⟩ ?_
    rintro v H R js ⟨rfl, rfl, rfl⟩
    cbv
    rw [hadd]
    refine Cv.fold [7, 36, 37, 38, 39, 40, 41, 42, 43, 44, 45] 1 [] (by exact Nat.le_refl _) (by exact Nat.le_of_ble_eq_true rfl) (by rfl) (by cbv) ?_
    intro js
    refine ⟨(_, _), ?_, js, rfl⟩
    refine ⟨⟨i + 1, hk1, hlt, hsn.symm, fun c hc => ?_⟩, hmu⟩
    rw [take_snoc hil] at hc
    rcases List.mem_append.1 hc with hc | hc
    ·exact hall c hc
    ·rw [List.mem_singleton.1 hc, ← hgd]; omega
  ·rename_i hge
   have hin : i = n := by rw [qc, lss_false] at hge; simp only [qofN] at hge; simp only [nc] at *; omega
   have hl0 : l.take i = l := List.take_of_length_le (by omega)
   rw [hl0] at hs hall
   have hlg : vw .u64 log = log := by simp only [qw]; exact wrap_u64 (by omega) (by omega)
   have hnn : 0 ≤ vw .u64 log := by rw [hlg]; omega
   have hsh : vb .shl .i64 1 (vw .u64 log) = 2 ^ log.toNat := by
    rw [hlg, qb, one_shl (by omega) (by omega)]
   have hfin : vc .eql m (vb .shl .i64 1 (vw .u64 log)) = rb := by
    rw [hsh]
    cases hrb : rb
    ·rw [qc, eql_false]
     intro he
     have := hR.2 ⟨by omega, by omega, by simp only [nc] at *; omega, by simp only [nc] at *; omega, h5, hall, by rw [← hs]; exact he⟩
     rw [hrb] at this; cases this
    ·rw [qc, eql_true]
     have := (hR.1 hrb).2.2.2.2.2.2
     rw [← hs] at this; exact this
   cbv
   rw [hfin]
   exact ⟨⟨hnn⟩, rfl, trivial⟩
end Go.Proofs.Ytlclleihoampdaa
namespace Go.Proofs.Ytlclleihoampdaa
open Go Go.Sx Go.Proofs
def blen (x : Int) : Int := if x ≤ 0 then 0 else (Nat.log2 x.toNat : Int) + 1
theorem blen_of {x : Int} {k : Nat} (h0 : 2 ^ k ≤ x) (h1 : x < 2 ^ (k + 1)) : blen x = k + 1 := by
 have hp : (0 : Int) < 2 ^ k := Int.pow_pos (by omega)
 unfold blen
 rw [if_neg (by omega)]
 obtain ⟨n, rfl⟩ : ∃ n : Nat, x = n := ⟨x.toNat, by omega⟩
 have a : 2 ^ k ≤ n := by exact_mod_cast h0
 have b : n < 2 ^ (k + 1) := by exact_mod_cast h1
 have hn : n ≠ 0 := by have : 0 < 2 ^ k := Nat.pow_pos (by omega); omega
 have c1 : n.log2 < k + 1 := (Nat.log2_lt hn).2 b
 have c2 : k ≤ n.log2 := (Nat.le_log2 hn).2 a
 simp only [Int.toNat_natCast]
 omega
theorem blen_spec {x : Int} (h : 0 < x) : ∃ k : Nat, blen x = k + 1 ∧ 2 ^ k ≤ x ∧ x < 2 ^ (k + 1) := by
 obtain ⟨n, rfl⟩ : ∃ n : Nat, x = n := ⟨x.toNat, by omega⟩
 have hn : n ≠ 0 := by omega
 refine ⟨n.log2, ?_, ?_, ?_⟩
 ·unfold blen; rw [if_neg (by omega)]; simp
 ·exact_mod_cast (Nat.le_log2 hn).1 (Nat.le_refl _)
 ·exact_mod_cast (Nat.log2_lt hn).1 (Nat.lt_succ_self _)
theorem blen_half {x : Int} (h : 0 < x) : blen x = blen (x / 2) + 1 := by
 obtain ⟨k, h1, h2, h3⟩ := blen_spec h
 cases k with
 | zero =>
  have : x = 1 := by omega
  subst this; rfl
 | succ k =>
  have e : blen (x / 2) = k + 1 := blen_of (by rw [Int.pow_succ] at h2; omega) (by rw [Int.pow_succ] at h3; omega)
  rw [h1, e]; push_cast; omega
theorem blen_nonpos {x : Int} (h : x ≤ 0) : blen x = 0 := by unfold blen; rw [if_pos h]
theorem blen_range {x : Int} {n : Nat} (h0 : 0 ≤ x) (h : x < 2 ^ n) : 0 ≤ blen x ∧ blen x ≤ n := by
 rcases Int.lt_or_le 0 x with hx | hx
 ·obtain ⟨k, h1, h2, h3⟩ := blen_spec hx
  have : k < n := by
   apply Classical.byContradiction
   intro hk
   have : (2 : Int) ^ n ≤ 2 ^ k := by exact_mod_cast Nat.pow_le_pow_right (by omega : 0 < 2) (by omega : n ≤ k)
   omega
  omega
 ·rw [blen_nonpos hx]; omega
theorem blen_16 {x : Int} (h0 : 0 ≤ x) (h : x < 65536) : 0 ≤ blen x ∧ blen x ≤ 16 := blen_range (n := 16) h0 h
theorem blen_8 {x : Int} (h0 : 0 ≤ x) (h : x < 256) : 0 ≤ blen x ∧ blen x ≤ 8 := blen_range (n := 8) h0 h
set_option maxRecDepth 100000 in
theorem lenTab_blen (n : Fin 256) : IntKind.i64.wrap (((UInt8.ofNat (lenTab.getD n.val 0).toNat).toNat : Nat) : Int) = blen (n.val : Int) := by
 revert n
 decide +kernel
theorem blen_256 {x : Int} (h : 256 ≤ x) : blen x = 8 + blen (x / 256) := by
 have e : x / 256 = x / 2 / 2 / 2 / 2 / 2 / 2 / 2 / 2 := by omega
 rw [e, blen_half (x := x) (by omega), blen_half (x := x / 2) (by omega), blen_half (x := x / 2 / 2) (by omega), blen_half (x := x / 2 / 2 / 2) (by omega), blen_half (x := x / 2 / 2 / 2 / 2) (by omega),
  blen_half (x := x / 2 / 2 / 2 / 2 / 2) (by omega), blen_half (x := x / 2 / 2 / 2 / 2 / 2 / 2) (by omega), blen_half (x := x / 2 / 2 / 2 / 2 / 2 / 2 / 2) (by omega)]
 omega
set_option maxRecDepth 100000 in
theorem len64_con (x : Int) (hx : 0 ≤ x ∧ x < 65536) : Con Try.prog 106 [.int .u64 x] [] (fun v H R => v = .int .i64 (blen x) ∧ H = [] ∧ R = []) := by
 refine con_gen (con_walk hmix fn106 ?_)
 intro vb vc vw vtoN vofN vaddN vsubN vmaxI vminI vcutN vgd vst vln vrep vsub vonto vsplice vstrEq vbyteV vnotB veqB hw qb qc qw qtoN qofN qaddN qsubN qmaxI qminI qcutN qgd qst qln qrep qsub qonto qsplice qstrEq qbyteV qnotB qeqB
 have hm := hmix
 generalize Try.prog = P at *
 have hl : lenTab.length = 256 := by rfl
 have key : ∀ y : Int, 0 ≤ y → y < 256 → vw .i64 (vbyteV (vgd lenTab (vtoN y))) = blen y := by
  intro y h0 h1
  obtain ⟨n, rfl⟩ : ∃ n : Nat, y = n := ⟨y.toNat, by omega⟩
  rw [qw, qbyteV, qgd, qtoN]
  exact lenTab_blen ⟨n, by omega⟩
 have hb256 := @blen_256 x
 have hbr := @blen_8 (x / 256) (by omega) (by omega)
 have hbx := @blen_16 x (by omega) (by omega)
 have e1 : x106 = (.seq (.ops [⟨(some 2), .mv (.k (.lit .i64 0)), none, []⟩])
  (.seq (.seq (.ops [⟨(some 3), .mv (.t 0), none, []⟩,
   ⟨(some 4), .cmp .geq (.t 3) (.k (.lit .u64 4294967296)), none, []⟩])
  (.cond (.t 4) (.seq (.ops [⟨(some 5), .mv (.t 0), none, []⟩,
   ⟨(some 6), .bin .shr .u64 (.t 5) (.k (.lit .u64 32)), none, []⟩,
   ⟨(some 0), .mv (.t 6), none, []⟩])
  (.ops [⟨(some 2), .mv (.k (.lit .i64 32)), none, []⟩])) (.skip)))
  (.seq (.seq (.ops [⟨(some 7), .mv (.t 0), none, []⟩,
   ⟨(some 8), .cmp .geq (.t 7) (.k (.lit .u64 65536)), none, []⟩])
  (.cond (.t 8) (.seq (.ops [⟨(some 9), .mv (.t 0), none, []⟩,
   ⟨(some 10), .bin .shr .u64 (.t 9) (.k (.lit .u64 16)), none, []⟩,
   ⟨(some 0), .mv (.t 10), none, []⟩])
  (.ops [⟨(some 11), .mv (.t 2), none, []⟩,
   ⟨(some 12), .bin .add .i64 (.t 11) (.k (.lit .i64 16)), none, []⟩,
   ⟨(some 2), .mv (.t 12), none, []⟩])) (.skip)))
  (.seq (.seq (.ops [⟨(some 13), .mv (.t 0), none, []⟩,
   ⟨(some 14), .cmp .geq (.t 13) (.k (.lit .u64 256)), none, []⟩])
  (.cond (.t 14) (.seq (.ops [⟨(some 15), .mv (.t 0), none, []⟩,
   ⟨(some 16), .bin .shr .u64 (.t 15) (.k (.lit .u64 8)), none, []⟩,
   ⟨(some 0), .mv (.t 16), none, []⟩])
  (.ops [⟨(some 17), .mv (.t 2), none, []⟩,
   ⟨(some 18), .bin .add .i64 (.t 17) (.k (.lit .i64 8)), none, []⟩,
   ⟨(some 2), .mv (.t 18), none, []⟩])) (.skip)))
  (.seq (.ops [⟨(some 19), .mv (.t 2), none, []⟩,
   ⟨(some 20), .mv (.t 0), none, []⟩,
   ⟨(some 21), .conv .u8 (.t 20), none, []⟩,
   ⟨(some 22), .idxS (.k (.str lenTab)) (.t 21), none, []⟩,
   ⟨(some 23), .conv .i64 (.t 22), none, []⟩,
   ⟨(some 24), .bin .add .i64 (.t 19) (.t 23), none, []⟩,
   ⟨(some 2), .mv (.t 24), none, []⟩])
  (.ret)))))) := rfl
 rw [e1]
 have hll : vln lenTab = 256 := by rw [qln]; exact hl
 generalize lenTab = T at *
 have d1 : vc .geq x 4294967296 = false := by rw [qc, geq_false]; omega
 have d2 : vc .geq x 65536 = false := by rw [qc, geq_false]; omega
 generalize hbl : blen x = bl at *
 generalize hbl2 : blen (x / 256) = bl2 at *
 cbv
 rw [d1]
 cbv
 rw [d2]
 cbv
 generalize d3 : vc .geq x 256 = z
 cases z
 ·rw [qc, geq_false] at d3
  have w1 : vw .u8 x = x := by rw [qw]; exact wrap_u8 (by omega) (by omega)
  have hk := key x (by omega) (by omega)
  cbv
  rw [w1, hk, hbl]
  refine ⟨⟨?_⟩, ?_, trivial⟩
  ·rw [hll]; omega
  ·congr 1
   rw [qb, add_i64 (by omega) (by omega)]; omega
 ·rw [qc, geq_true] at d3
  have s1 : vb .shr .u64 x 8 = x / 256 := by rw [qb]; show x.fdiv (2 ^ 8) = _; rw [Int.fdiv_eq_ediv_of_nonneg _ (by omega)]; rfl
  have w1 : vw .u8 (x / 256) = x / 256 := by rw [qw]; exact wrap_u8 (by omega) (by omega)
  have hk := key (x / 256) (by omega) (by omega)
  have := hb256 (by omega)
  cbv
  rw [s1, w1, hk, hbl2]
  refine ⟨⟨?_⟩, ?_, trivial⟩
  ·rw [hll]; omega
  ·congr 1
   rw [qb, add_i64 (by omega) (by omega)]; omega
theorem len_con (x : Int) (hx : 0 ≤ x ∧ x < 65536) : Con Try.prog 78 [.int .u64 x] [] (fun v H R => v = .int .i64 (blen x) ∧ H = [] ∧ R = []) := by
 have hc := len64_con x hx
 refine con_gen (con_walk hmix fn78 ?_)
 intro vb vc vw vtoN vofN vaddN vsubN vmaxI vminI vcutN vgd vst vln vrep vsub vonto vsplice vstrEq vbyteV vnotB veqB hw qb qc qw qtoN qofN qaddN qsubN qmaxI qminI qcutN qgd qst qln qrep qsub qonto qsplice qstrEq qbyteV qnotB qeqB
 have hm := hmix
 generalize Try.prog = P at *
 generalize blen x = bl at *
 cbv
 refine call_con (ρ := []) hc ⟨by rfl, by rfl, by rfl, by cbv⟩ ?_
 rintro v H R js ⟨rfl, rfl, rfl⟩
 cbv
end Go.Proofs.Ytlclleihoampdaa
namespace Go.Proofs.Ytlclleihoampdaa
open Go Go.Sx Go.Proofs
def WS (bs l : List Int) (n : Nat) (m : Int) : Prop := (∀ b ∈ bs, isBit b) ∧ l = pack bs ∧ n = l.length ∧ m = bs.length
theorem WS.nil : WS [] [] 0 0 := ⟨by simp, (show pack [] = [] by decide).symm, rfl, rfl⟩
theorem bput_ws (bs l : List Int) (c n : Nat) (x k m : Int) (hx : 0 ≤ x ∧ x < 2 ^ 64) (hk : 0 ≤ k ∧ k ≤ 56) (h : WS bs l n m) (hl : bs.length ≤ 2 ^ 40) :
  Con Try.prog 96 [.ptr 0 .z 2 0, .int .u64 x, .int .i64 k] [.one 184 [.slice 1 .z 1 n c, .int .i64 m], .buf 5 .u8 l c]
   (fun v H R => R = [1] ∧ ∃ l' n' m' c', WS (bs ++ bitsN x k.toNat) l' n' m' ∧ v = .int .i64 0 ∧ H = [.one 184 [.slice 1 .z 1 n' c', .int .i64 m'], .buf 5 .u8 l' c']) := by
 obtain ⟨h1, rfl, rfl, rfl⟩ := h
 refine (bputA_con bs c x k hx h1 hl).mono ?_
 rintro v H R ⟨rfl, rfl, c', rfl⟩
 have e : putBits bs x k = bs ++ bitsN x k.toNat := by unfold putBits; rw [if_pos hk]
 have e2 : putErr k = 0 := by unfold putErr; rw [if_pos hk]
 have h2 := putBits_bit (x := x) (n := k) h1
 rw [e] at h2
 rw [e, e2]
 exact ⟨rfl, _, _, _, c', ⟨h2, rfl, rfl, rfl⟩, rfl, rfl⟩
theorem bbytes_ws (bs l : List Int) (c n : Nat) (m : Int) (h : WS bs l n m) (hl : bs.length ≤ 2 ^ 40) :
  Con Try.prog 97 [.ptr 0 .z 2 0] [.one 184 [.slice 1 .z 1 n c, .int .i64 m], .buf 5 .u8 l c]
   (fun v H R => R = [2] ∧ ∃ c', v = .slice 2 .z 1 n c' ∧ H = [.one 184 [.slice 1 .z 1 n c, .int .i64 m], .buf 5 .u8 l c, .buf 5 .u8 l c']) := by
 obtain ⟨h1, rfl, rfl, rfl⟩ := h
 exact bbytes_con bs c hl
def putV (v most : Int) : List Int :=
 if v < 2 ^ (blen most).toNat - 1 - most then bitsN v (blen most - 1).toNat
 else if v < 2 ^ (blen most - 1).toNat then bitsN v (blen most).toNat
 else bitsN (v + (2 ^ (blen most).toNat - 1 - most)) (blen most).toNat
def wgo : Option Nat → List Int → Int → List Int
 | _, [], _ => []
 | none, c :: l, left => if left ≤ 0 then [] else putV (c + 1) (left + 1) ++ wgo (if c = 0 then some 0 else none) l (left - partsN c)
 | some k, c :: l, left => if c = 0 then (if k = 2 then bitsN 3 2 ++ wgo (some 0) l left else wgo (some (k + 1)) l left)
  else bitsN k 2 ++ (if left ≤ 0 then [] else putV (c + 1) (left + 1) ++ wgo none l (left - partsN c))
theorem putV_length {v most : Int} (h0 : 0 ≤ most) (h1 : most < 65536) : (putV v most).length ≤ 16 := by
 have := blen_16 h0 h1
 unfold putV
 split
 ·rw [bitsN_length]; omega
 ·split
  ·rw [bitsN_length]; omega
  ·rw [bitsN_length]; omega
theorem partsN_nonneg {c : Int} (h : -1 ≤ c) : 0 ≤ partsN c := by unfold partsN; split <;> omega
theorem wgo_length : ∀ (l : List Int) (o : Option Nat) (left : Int), (∀ c ∈ l, -1 ≤ c) → left ≤ 4096 → (wgo o l left).length ≤ 18 * l.length
 | [], o, left, _, _ => by cases o <;> simp [wgo]
 | c :: l, o, left, h, hl => by
  have hc := partsN_nonneg (h c (by simp))
  have ih := fun o left (hl : left ≤ 4096) => wgo_length l o left (fun c hc => h c (by simp [hc])) hl
  cases o with
  | none =>
   simp only [wgo]
   split
   ·simp
   ·have := putV_length (v := c + 1) (most := left + 1) (by omega) (by omega)
    have := ih (if c = 0 then some 0 else none) (left - partsN c) (by omega)
    simp only [List.length_append, List.length_cons]; omega
  | some k =>
   simp only [wgo]
   split
   ·split
    ·have := ih (some 0) left hl
     simp only [List.length_append, List.length_cons, bitsN_length]; omega
    ·have := ih (some (k + 1)) left hl
     simp only [List.length_cons]; omega
   ·split
    ·simp only [List.length_append, List.length_cons, bitsN_length, List.length_nil]; omega
    ·have := putV_length (v := c + 1) (most := left + 1) (by omega) (by omega)
     have := ih none (left - partsN c) (by omega)
     simp only [List.length_append, List.length_cons, bitsN_length]; omega
def wbits (l : List Int) (log : Int) : List Int := bitsN (log - 5) 4 ++ wgo none l (2 ^ log.toNat)
theorem pow_log {log : Int} (h : 5 ≤ log ∧ log ≤ 12) : (32 : Int) ≤ 2 ^ log.toNat ∧ (2 : Int) ^ log.toNat ≤ 4096 := by
 obtain ⟨n, rfl⟩ : ∃ n : Nat, log = n := ⟨log.toNat, by omega⟩
 have : n = 5 ∨ n = 6 ∨ n = 7 ∨ n = 8 ∨ n = 9 ∨ n = 10 ∨ n = 11 ∨ n = 12 := by omega
 rcases this with rfl | rfl | rfl | rfl | rfl | rfl | rfl | rfl <;> decide
theorem wbits_length {l : List Int} {log : Int} (h : Right l log) : (wbits l log).length ≤ 5000 := by
 have h1 := wgo_length l none (2 ^ log.toNat) h.2.2.2.2.2.1 (pow_log ⟨h.1, h.2.1⟩).2
 have := h.2.2.2.1
 unfold wbits
 rw [List.length_append, bitsN_length]; omega
theorem sumP_take_le {l : List Int} (h : ∀ c ∈ l, -1 ≤ c) (i : Nat) : 0 ≤ sumP (l.take i) ∧ sumP (l.take i) ≤ sumP l := by
 induction l generalizing i with
 | nil => simp [sumP]
 | cons c l ih =>
  have hc := partsN_nonneg (h c (by simp))
  have h2 := ih (fun x hx => h x (by simp [hx]))
  cases i with
  | zero =>
   have := h2 l.length
   simp only [sumP, List.take_zero, List.map_nil, List.sum_nil, List.map_cons, List.sum_cons, List.take_length] at *
   omega
  | succ i =>
   have := h2 i
   simp only [sumP, List.take_succ_cons, List.map_cons, List.sum_cons] at *
   omega
theorem drop_cons {l : List Int} {i : Nat} (h : i < l.length) : l.drop i = l.getD i 0 :: l.drop (i + 1) := by
 rw [List.drop_eq_getElem_cons h, List.getD_eq_getElem?_getD, List.getElem?_eq_getElem h]; rfl
theorem wgo_done {l : List Int} {left : Int} (h : left ≤ 0) : wgo none l left = [] := by
 cases l with
 | nil => rfl
 | cons c l => simp only [wgo]; rw [if_pos h]
theorem one_shl62 {x : Int} (h0 : 0 ≤ x) (h1 : x ≤ 62) : bV .shl .i64 1 x = 2 ^ x.toNat := by
 obtain ⟨n, rfl⟩ : ∃ n : Nat, x = n := ⟨x.toNat, by omega⟩
 have hn : n ≤ 62 := by omega
 show IntKind.i64.wrap (1 * 2 ^ (min ((n : Int).toNat) IntKind.i64.bits)) = 2 ^ ((n : Int).toNat)
 have e : min ((n : Int).toNat) IntKind.i64.bits = n := by simp [IntKind.bits]; omega
 have hp : (2 : Int) ^ n ≤ 2 ^ 62 := by exact_mod_cast Nat.pow_le_pow_right (by omega : 0 < 2) hn
 have hp0 : (0 : Int) < 2 ^ n := Int.pow_pos (by omega)
 rw [e, Int.one_mul, Int.toNat_natCast]
 exact wrap_i64 (by omega) (by omega)
end Go.Proofs.Ytlclleihoampdaa
