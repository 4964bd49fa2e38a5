import Derived.Test.YtkkddgdcmdnnmaaA2
set_option linter.unusedVariables false
set_option linter.unusedSimpArgs false
namespace Go.Proofs.Ytkkddgdcmdnnmaa
open Go Go.Sx Go.Proofs
/-! Read$1's round, told once. -/
set_option maxRecDepth 10000
set_option maxHeartbeats 4000000
theorem body26_one (js0 : Nat → Value) (T : List SV) (b : List Int) (bl cap : Nat) (acc hv ai size sk : Int) (one : Int) (lens : List Int) (rl cl : Nat) (left l m : Int) (hT : scL 15 T = true) (hm1 : 1 ≤ m) (hm2 : m ≤ 1000000) (hlr : 0 ≤ l ∧ l ≤ 15) (hrl : rl = lens.length) (hrc : rl ≤ cl) (hrs : (rl : Int) < size) (hsz : size ≤ 1024) (hleft : 0 < left ∧ left ≤ 32768) :
    YieldX Try.prog 14 [.int .u8 l, .int .i64 m] { t := T, h := [.one 33 [.ptr 2 .z 4 0], .one 3 [.int .i64 size], (.one 81 [.fn 39 [.ptr 3 .z 1 0, .ptr 4 .z 1 0], .int .u64 acc, .int .i64 hv, .fn 40 [.ptr 4 .z 1 0, .ptr 3 .z 1 0]]), .one 3 [.int .i64 ai], .one 22 [.slice 5 .z 1 bl cap], .ro .u8 b, .one 24 [.val (.slice none 0 0), .lit .i64 0], .one 24 [.val (.slice none 0 0), .int .i64 one], .buf 5 .u8 lens cl, .one 24 [.slice 8 .z 1 rl cl, .lit .i64 0], .one 3 [.int .i64 left], .one 33 [.ptr 2 .z 4 0], .one 24 [.val (.slice none 0 0), .int .i64 one], .defd, .loop .ready none (.ptr 0 .z 1 0 :: .ptr 1 .z 1 0 :: .ptr 6 .z 2 0 :: .int .i64 sk :: .ptr 7 .z 2 0 :: .ptr 9 .z 2 0 :: .ptr 10 .z 1 0 :: .undef :: .undef :: .val (js0 9) :: .val (js0 10) :: .val (js0 11) :: .val (js0 12) :: .val (js0 13) :: .val (js0 14) :: .val (js0 15) :: .val (js0 16) :: .val (js0 17) :: .val (js0 18) :: .val (js0 19) :: .val (js0 20) :: .val (js0 21) :: .val (js0 22) :: .val (js0 23) :: .fn 58 [.ptr 11 .z 1 0, .ptr 12 .z 2 0] :: .undef :: .undef :: .undef :: .undef :: .undef :: .undef :: .undef :: .undef :: .undef :: .undef :: .undef :: .undef :: .undef :: .undef :: .undef :: .undef :: .undef :: .undef :: .undef :: .undef :: .undef :: .undef :: .undef :: .undef :: .undef :: .undef :: .undef :: .undef :: .undef :: .undef :: .undef :: .undef :: .undef :: .undef :: .undef :: .undef :: .undef :: .undef :: .undef :: .undef :: .undef :: .undef :: .undef :: .undef :: .undef :: .undef :: .undef :: .undef :: .undef :: .undef :: []) [25, 26] rasg26 rbody26], r := [8], d := [], rd := none }
      (fun v s' => ∃ (rl2 cl2 : Nat) (lens2 : List Int) (left2 : Int) (js2 : Nat → Value), lens2 = lens ++ List.replicate m.toNat l ∧ rl2 = lens2.length ∧ rl2 ≤ cl2 ∧ left2 = left - m * pw l ∧ (rl2 : Int) ≤ size ∧ (rl2 : Int) = rl + m ∧
        ((v = .bool true ∧ ¬ (left2 ≤ 0 ∨ (rl2 : Int) = size) ∧ s' = { t := scrL [8] js2 0 T, h := [.one 33 [.ptr 2 .z 4 0], .one 3 [.int .i64 size], (.one 81 [.fn 39 [.ptr 3 .z 1 0, .ptr 4 .z 1 0], .int .u64 acc, .int .i64 hv, .fn 40 [.ptr 4 .z 1 0, .ptr 3 .z 1 0]]), .one 3 [.int .i64 ai], .one 22 [.slice 5 .z 1 bl cap], .ro .u8 b, .one 24 [.val (.slice none 0 0), .lit .i64 0], .one 24 [.val (.slice none 0 0), .int .i64 one], .buf 5 .u8 lens2 cl2, .one 24 [.slice 8 .z 1 rl2 cl2, .lit .i64 0], .one 3 [.int .i64 left2], .one 33 [.ptr 2 .z 4 0], .one 24 [.val (.slice none 0 0), .int .i64 one], .defd, .loop .ready none (.ptr 0 .z 1 0 :: .ptr 1 .z 1 0 :: .ptr 6 .z 2 0 :: .int .i64 sk :: .ptr 7 .z 2 0 :: .ptr 9 .z 2 0 :: .ptr 10 .z 1 0 :: .undef :: .undef :: .val (js0 9) :: .val (js0 10) :: .val (js0 11) :: .val (js0 12) :: .val (js0 13) :: .val (js0 14) :: .val (js0 15) :: .val (js0 16) :: .val (js0 17) :: .val (js0 18) :: .val (js0 19) :: .val (js0 20) :: .val (js0 21) :: .val (js0 22) :: .val (js0 23) :: .fn 58 [.ptr 11 .z 1 0, .ptr 12 .z 2 0] :: .undef :: .undef :: .undef :: .undef :: .undef :: .undef :: .undef :: .undef :: .undef :: .undef :: .undef :: .undef :: .undef :: .undef :: .undef :: .undef :: .undef :: .undef :: .undef :: .undef :: .undef :: .undef :: .undef :: .undef :: .undef :: .undef :: .undef :: .undef :: .undef :: .undef :: .undef :: .undef :: .undef :: .undef :: .undef :: .undef :: .undef :: .undef :: .undef :: .undef :: .undef :: .undef :: .undef :: .undef :: .undef :: .undef :: .undef :: .undef :: .undef :: .undef :: []) [25, 26] rasg26 rbody26], r := [8], d := [], rd := none }) ∨
         (v = .bool false ∧ (left2 ≤ 0 ∨ (rl2 : Int) = size) ∧ s' = { t := scrL [8] js2 0 T, h := [.one 33 [.ptr 2 .z 4 0], .one 3 [.int .i64 size], (.one 81 [.fn 39 [.ptr 3 .z 1 0, .ptr 4 .z 1 0], .int .u64 acc, .int .i64 hv, .fn 40 [.ptr 4 .z 1 0, .ptr 3 .z 1 0]]), .one 3 [.int .i64 ai], .one 22 [.slice 5 .z 1 bl cap], .ro .u8 b, .one 24 [.val (.slice none 0 0), .lit .i64 0], .one 24 [.val (.slice none 0 0), .int .i64 one], .buf 5 .u8 lens2 cl2, .one 24 [.slice 8 .z 1 rl2 cl2, .lit .i64 0], .one 3 [.int .i64 left2], .one 33 [.ptr 2 .z 4 0], .one 24 [.val (.slice none 0 0), .int .i64 one], .defd, .loop .done (some (.exit 0)) (.ptr 0 .z 1 0 :: .ptr 1 .z 1 0 :: .ptr 6 .z 2 0 :: .int .i64 sk :: .ptr 7 .z 2 0 :: .ptr 9 .z 2 0 :: .ptr 10 .z 1 0 :: .undef :: .undef :: .val (js0 9) :: .val (js0 10) :: .val (js0 11) :: .val (js0 12) :: .val (js0 13) :: .val (js0 14) :: .val (js0 15) :: .val (js0 16) :: .val (js0 17) :: .val (js0 18) :: .val (js0 19) :: .val (js0 20) :: .val (js0 21) :: .val (js0 22) :: .val (js0 23) :: .fn 58 [.ptr 11 .z 1 0, .ptr 12 .z 2 0] :: .undef :: .undef :: .undef :: .undef :: .undef :: .undef :: .undef :: .undef :: .undef :: .undef :: .undef :: .undef :: .undef :: .undef :: .undef :: .undef :: .undef :: .undef :: .undef :: .undef :: .undef :: .undef :: .undef :: .undef :: .undef :: .undef :: .undef :: .undef :: .undef :: .undef :: .undef :: .undef :: .undef :: .undef :: .undef :: .undef :: .undef :: .undef :: .undef :: .undef :: .undef :: .undef :: .undef :: .undef :: .undef :: .undef :: .undef :: .undef :: .undef :: .undef :: []) [25, 26] rasg26 rbody26], r := [8], d := [], rd := none })))
      (fun e s' => e = .panic (.iface 75 (.agg [.int .i64 11])) ∧ ¬ ((rl : Int) + m ≤ size) ∧ ∃ js2, s' = { t := scrL [] js2 0 T, h := [.one 33 [.ptr 2 .z 4 0], .one 3 [.int .i64 size], (.one 81 [.fn 39 [.ptr 3 .z 1 0, .ptr 4 .z 1 0], .int .u64 acc, .int .i64 hv, .fn 40 [.ptr 4 .z 1 0, .ptr 3 .z 1 0]]), .one 3 [.int .i64 ai], .one 22 [.slice 5 .z 1 bl cap], .ro .u8 b, .one 24 [.val (.slice none 0 0), .lit .i64 0], .one 24 [.val (.slice none 0 0), .int .i64 one], .buf 5 .u8 lens cl, .one 24 [.slice 8 .z 1 rl cl, .lit .i64 0], .one 3 [.int .i64 left], .one 33 [.ptr 2 .z 4 0], .one 24 [.val (.slice none 0 0), .int .i64 one], .defd, .loop .busy none (.ptr 0 .z 1 0 :: .ptr 1 .z 1 0 :: .ptr 6 .z 2 0 :: .int .i64 sk :: .ptr 7 .z 2 0 :: .ptr 9 .z 2 0 :: .ptr 10 .z 1 0 :: .undef :: .undef :: .val (js0 9) :: .val (js0 10) :: .val (js0 11) :: .val (js0 12) :: .val (js0 13) :: .val (js0 14) :: .val (js0 15) :: .val (js0 16) :: .val (js0 17) :: .val (js0 18) :: .val (js0 19) :: .val (js0 20) :: .val (js0 21) :: .val (js0 22) :: .val (js0 23) :: .fn 58 [.ptr 11 .z 1 0, .ptr 12 .z 2 0] :: .undef :: .undef :: .undef :: .undef :: .undef :: .undef :: .undef :: .undef :: .undef :: .undef :: .undef :: .undef :: .undef :: .undef :: .undef :: .undef :: .undef :: .undef :: .undef :: .undef :: .undef :: .undef :: .undef :: .undef :: .undef :: .undef :: .undef :: .undef :: .undef :: .undef :: .undef :: .undef :: .undef :: .undef :: .undef :: .undef :: .undef :: .undef :: .undef :: .undef :: .undef :: .undef :: .undef :: .undef :: .undef :: .undef :: .undef :: .undef :: .undef :: .undef :: []) [25, 26] rasg26 rbody26], r := [8], d := [], rd := none }) := by
  have hmust := mustX_con
  have pw_p := fun x => pw_nonneg x
  have pw_d : l > 0 → pw l = 2 ^ (15 - l).toNat := fun h => by unfold pw; rw [if_pos h]
  have pw_z : ¬ l > 0 → pw l = 0 := fun h => by unfold pw; rw [if_neg h]
  have pw_u : pw l ≤ 16384 := pw_le
  generalize pw = PW at *
  refine withWords ?_
  intro vb vc vw vtoN vofN vaddN vsubN vmaxI vminI vcutN vgd vst vln vrep vsub vonto vsplice vstrEq vbyteV vnotB veqB hw qb qc qw qtoN qofN qaddN qsubN qmaxI qminI qcutN qgd qst qln qrep qsub qonto qsplice qstrEq qbyteV qnotB qeqB
  have hm := hmix; generalize Try.prog = P at *
  have hto : ∀ i : Nat, vtoN (i : Int) = i := fun i => by simp only [qtoN, Int.toNat_natCast]
  have hlnq : ∀ l, vln l = l.length := fun l => by rw [qln]
  obtain ⟨rlI, hrlI⟩ : ∃ rlI : Int, rlI = rl := ⟨_, rfl⟩
  have hofn : vofN rl = rlI := by rw [qofN]; exact hrlI.symm
  obtain ⟨s1, hs1⟩ : ∃ s1 : Int, s1 = rlI + m := ⟨_, rfl⟩
  have es1 : vb .add .i64 rlI m = s1 := by rw [qb, add_i64 (by omega) (by omega)]; exact hs1.symm
  refine yield_walk hw hm (by exact hT) ?_
  cbv
  rw [hofn, es1]
  refine call_conX (ρ := []) (hmust _) ⟨by rfl, by rfl, by rfl, by cbv⟩ ?_ ?_
  rotate_left
  · rintro v H R js ⟨hz, rfl, rfl, rfl⟩
    have hz2 : ¬ ((rl : Int) + m ≤ size) := by rw [qc, leq_false] at hz; simp only [nc] at *; omega
    cbv
    intro js2
    refine keep0 ?_
    exact ⟨rfl, hz2, js2, rfl⟩
  rintro v H R js ⟨hz, rfl, rfl, rfl⟩
  have hz2 : (rl : Int) + m ≤ size := by rw [qc, leq_true] at hz; simp only [nc] at *; omega
  obtain ⟨mN, hmN⟩ : ∃ mN : Nat, (mN : Int) = m := ⟨m.toNat, by omega⟩
  have hmt : m.toNat = mN := by omega
  have hpwr : 0 ≤ PW l ∧ PW l ≤ 16384 := ⟨pw_p l, pw_u⟩
  cbv
  refine loop_fam (α := Int × List Int × Nat × Nat × Int) (28 :: [37, 38, 39, 40, 41, 42, 43, 44, 45, 46, 47, 48, 49, 50, 51, 52]) [8]
    (fun (k, l2, rl2, c2, left2) => [(36, .int .i64 k)])
    (fun (k, l2, rl2, c2, left2) => [(8, .buf 5 .u8 l2 c2), (9, .one 24 [.slice 8 .z 1 rl2 c2, .lit .i64 0]), (10, .one 3 [.int .i64 left2])])
    (fun (k, l2, rl2, c2, left2) => ∃ i : Nat, k = i ∧ i ≤ mN ∧ rl2 = rl + i ∧ rl2 ≤ c2 ∧ l2 = lens ++ List.replicate i l ∧ left2 = left - i * PW l)
    (fun (k, l2, rl2, c2, left2) => mN - k.toNat) hw hm ?_ ?_
  · refine Cv.genAt [36] [] (Cv.fold (28 :: [37, 38, 39, 40, 41, 42, 43, 44, 45, 46, 47, 48, 49, 50, 51, 52]) 15 [8] (by exact Nat.le_refl _) (by exact Nat.le_of_ble_eq_true rfl) (by rfl) (by cbv) ?_)
    intro js
    refine ⟨(_, _, _, _, _), ?_, js, rfl⟩
    exact ⟨0, rfl, by omega, rfl, by omega, by simp, by simp⟩
  rintro ⟨k, l2, rl2, c2, left2⟩ js2 ⟨i, hk, hi, hrl2, hrc2, hl2, hleft2⟩
  have hti : vtoN k = i := by rw [hk]; exact hto i
  have hiP : (i : Int) * PW l ≤ mN * PW l := Int.mul_le_mul_of_nonneg_right (by omega) hpwr.1
  have hiP0 : 0 ≤ (i : Int) * PW l := Int.mul_nonneg (by omega) hpwr.1
  have hmP : (mN : Int) * PW l ≤ 1024 * 16384 := by
    have h1 : (mN : Int) * PW l ≤ mN * 16384 := Int.mul_le_mul_of_nonneg_left hpwr.2 (by omega)
    have h2 : (mN : Int) ≤ 1024 := by simp only [nc] at *; omega
    omega
  have hl2l : l2.length = rl2 := by rw [hl2, hrl2, List.length_append, List.length_replicate, hrl]
  have hmu : ∀ kn : Int, kn = ((i + 1 : Nat) : Int) → i < mN → mN - kn.toNat < mN - k.toNat := fun kn h1 h2 => by simp only [nc] at *; omega
  cbv
  split
  · rename_i hlt
    have hlt : i < mN := by rw [qc, lss_true] at hlt; simp only [nc] at *; omega
    have hsub : vsub [l] 0 1 = [l] := by simp only [qsub]; rfl
    have honto : vonto l2 rl2 [l] = l2 ++ [l] := by rw [qonto, ← hl2l]; simp
    have ha1 : vaddN rl2 1 = rl2 + 1 := by simp only [qaddN]
    have ha01 : vaddN 0 1 = 1 := by simp only [qaddN]
    have hln1 : vln [l] = 1 := by rw [hlnq]; rfl
    have hvl : vln l2 = rl2 := by rw [hlnq, hl2l]
    obtain ⟨l3, hl3⟩ : ∃ l3, l3 = l2 ++ [l] := ⟨_, rfl⟩
    rw [← hl3] at honto
    obtain ⟨rl3, hrl3⟩ : ∃ rl3, rl3 = rl2 + 1 := ⟨_, rfl⟩
    have hl3e : l3 = lens ++ List.replicate (i + 1) l := by rw [hl3, hl2, List.append_assoc, ← List.replicate_succ']
    obtain ⟨kn, hkn⟩ : ∃ kn : Int, kn = ((i + 1 : Nat) : Int) := ⟨_, rfl⟩
    have ek : vb .add .i64 k 1 = kn := by simp only [nc] at *; rw [qb, add_i64 (by omega) (by omega)]; omega
    have hmu := hmu kn hkn hlt
    have hfit : rl2 + 1 ≤ 1024 := by simp only [nc] at *; omega
    rw [← hrl3] at ha1
    cbv
    refine ⟨⟨by rw [ha01, hln1]; exact Nat.le_refl _⟩, ⟨by rw [hvl]; exact Nat.le_refl _⟩, ⟨Nat.le_refl _⟩, ⟨by rw [ha1]; omega⟩, ?_⟩
    intro c3 js5 hc3
    have hc3 : vaddN rl2 1 ≤ c3 := hc3.1
    rw [ha1] at hc3
    have hl10 : vc .gtr l 0 = true ∨ vc .gtr l 0 = false := by cases vc .gtr l 0 <;> simp
    cbv
    rw [hsub, honto, ha1]
    rcases hl10 with hg | hg
    · rw [hg]
      have hl0 : l > 0 := by rw [qc, gtr_true] at hg; exact hg
      obtain ⟨d, hd⟩ : ∃ d : Int, d = 15 - l := ⟨_, rfl⟩
      have e15 : vb .sub .u8 15 l = d := by rw [qb, hd]; exact wrap_u8 (by omega) (by omega)
      have ewd : vw .u64 d = d := by rw [qw]; exact wrap_u64 (by omega) (by omega)
      have hpd := pw_d hl0
      rw [← hd] at hpd
      obtain ⟨w1, hw1⟩ : ∃ w1, w1 = PW l := ⟨_, rfl⟩
      rw [← hw1] at hpd hpwr hiP hmP hiP0 hleft2
      have esh : vb .shl .i64 1 d = w1 := by
        have hd2 : d = 0 ∨ d = 1 ∨ d = 2 ∨ d = 3 ∨ d = 4 ∨ d = 5 ∨ d = 6 ∨ d = 7 ∨ d = 8 ∨ d = 9 ∨ d = 10 ∨ d = 11 ∨ d = 12 ∨ d = 13 ∨ d = 14 := by omega
        rw [qb, hpd]
        rcases hd2 with rfl | rfl | rfl | rfl | rfl | rfl | rfl | rfl | rfl | rfl | rfl | rfl | rfl | rfl | rfl <;> decide
      obtain ⟨left3, hleft3⟩ : ∃ left3, left3 = left2 - w1 := ⟨_, rfl⟩
      have esb : vb .sub .i64 left2 w1 = left3 := by rw [qb, sub_i64 (by omega) (by omega)]; exact hleft3.symm
      have hleft3e : left3 = left - ((i + 1 : Nat) : Int) * PW l := by
        rw [hleft3, hleft2, ← hw1, show ((i + 1 : Nat) : Int) = (i : Int) + 1 from rfl, Int.add_mul, Int.one_mul, Int.sub_sub]
      cbv
      rw [e15, ewd, esh, esb, ek]
      refine ⟨⟨by omega⟩, ?_⟩
      refine Cv.fold (28 :: [37, 38, 39, 40, 41, 42, 43, 44, 45, 46, 47, 48, 49, 50, 51, 52]) 15 [8] (by exact Nat.le_refl _) (by exact Nat.le_of_ble_eq_true rfl) (by rfl) (by cbv) ?_
      intro js
      refine ⟨(_, _, _, _, _), ?_, js, rfl⟩
      exact ⟨⟨i + 1, hkn, hlt, by omega, hc3, hl3e, hleft3e⟩, hmu⟩
    · rw [hg]
      have hl0 : ¬ l > 0 := by rw [qc, gtr_false] at hg; omega
      have hpz := pw_z hl0
      have hleft3e : left2 = left - ((i + 1 : Nat) : Int) * PW l := by
        rw [hleft2, hpz]; simp
      cbv
      rw [ek]
      refine Cv.fold (28 :: [37, 38, 39, 40, 41, 42, 43, 44, 45, 46, 47, 48, 49, 50, 51, 52]) 15 [8] (by exact Nat.le_refl _) (by exact Nat.le_of_ble_eq_true rfl) (by rfl) (by cbv) ?_
      intro js
      refine ⟨(_, _, _, _, _), ?_, js, rfl⟩
      exact ⟨⟨i + 1, hkn, hlt, by omega, hc3, hl3e, hleft3e⟩, hmu⟩
  · rename_i hge
    have hin : i = mN := by rw [qc, lss_false] at hge; simp only [nc] at *; omega
    subst hin
    obtain ⟨rI2, hrI2⟩ : ∃ rI2 : Int, rI2 = rl2 := ⟨_, rfl⟩
    have hof2 : vofN rl2 = rI2 := by rw [qofN]; exact hrI2.symm
    have hl2f : l2 = lens ++ List.replicate m.toNat l := by rw [hmt]; exact hl2
    have hleft2f : left2 = left - m * PW l := by rw [← hmN]; exact hleft2
    have hrle : (rl2 : Int) ≤ size := by simp only [nc] at *; omega
    have hrle2 : (rl2 : Int) = rl + m := by simp only [nc] at *; omega
    cbv
    by_cases hle : left2 ≤ 0
    · have elq : vc .leq left2 0 = true := by rw [qc, leq_true]; exact hle
      rw [elq]
      cbv
      intro js6
      refine keep0 ?_
      exact ⟨rl2, c2, l2, left2, js6, hl2f, hl2l.symm, hrc2, hleft2f, hrle, hrle2, .inr ⟨rfl, .inl hle, rfl⟩⟩
    · have elq : vc .leq left2 0 = false := by rw [qc, leq_false]; omega
      rw [elq]
      cbv
      rw [hof2]
      by_cases heq : (rl2 : Int) = size
      · have ee : vc .eql rI2 size = true := by rw [qc, eql_true, hrI2]; exact heq
        rw [ee]
        cbv
        intro js6
        refine keep0 ?_
        exact ⟨rl2, c2, l2, left2, js6, hl2f, hl2l.symm, hrc2, hleft2f, hrle, hrle2, .inr ⟨rfl, .inr heq, rfl⟩⟩
      · have ee : vc .eql rI2 size = false := by rw [qc, eql_false, hrI2]; exact heq
        rw [ee]
        cbv
        intro js6
        refine keep0 ?_
        exact ⟨rl2, c2, l2, left2, js6, hl2f, hl2l.symm, hrc2, hleft2f, hrle, hrle2, .inl ⟨rfl, fun h => h.elim hle heq, rfl⟩⟩
theorem body26_len (js0 : Nat → Value) (T : List SV) (b : List Int) (bl cap : Nat) (acc hv ai size sk : Int) (L : List Int) (ll : Nat) (lens : List Int) (rl cl : Nat) (left l m : Int) (hT : scL 16 T = true) (hm1 : 1 ≤ m) (hm2 : m ≤ 1000000) (hlr : 0 ≤ l ∧ l ≤ 15) (hrl : rl = lens.length) (hrc : rl ≤ cl) (hrs : (rl : Int) < size) (hsz : size ≤ 1024) (hleft : 0 < left ∧ left ≤ 32768) :
    YieldX Try.prog 15 [.int .u8 l, .int .i64 m] { t := T, h := [.one 33 [.ptr 2 .z 4 0], .one 3 [.int .i64 size], (.one 81 [.fn 39 [.ptr 3 .z 1 0, .ptr 4 .z 1 0], .int .u64 acc, .int .i64 hv, .fn 40 [.ptr 4 .z 1 0, .ptr 3 .z 1 0]]), .one 3 [.int .i64 ai], .one 22 [.slice 5 .z 1 bl cap], .ro .u8 b, .one 24 [.val (.slice none 0 0), .lit .i64 0], .ints 5 .u8 L, .one 24 [.slice 7 .z 1 ll ll, .int .i64 0], .buf 5 .u8 lens cl, .one 24 [.slice 9 .z 1 rl cl, .lit .i64 0], .one 3 [.int .i64 left], .one 33 [.ptr 2 .z 4 0], .one 24 [.slice 7 .z 1 ll ll, .int .i64 0], .defd, .loop .ready none (.ptr 0 .z 1 0 :: .ptr 1 .z 1 0 :: .ptr 6 .z 2 0 :: .int .i64 sk :: .ptr 8 .z 2 0 :: .ptr 10 .z 2 0 :: .ptr 11 .z 1 0 :: .undef :: .undef :: .val (js0 9) :: .val (js0 10) :: .val (js0 11) :: .val (js0 12) :: .val (js0 13) :: .val (js0 14) :: .val (js0 15) :: .val (js0 16) :: .val (js0 17) :: .val (js0 18) :: .val (js0 19) :: .val (js0 20) :: .val (js0 21) :: .val (js0 22) :: .val (js0 23) :: .fn 58 [.ptr 12 .z 1 0, .ptr 13 .z 2 0] :: .undef :: .undef :: .undef :: .undef :: .undef :: .undef :: .undef :: .undef :: .undef :: .undef :: .undef :: .undef :: .undef :: .undef :: .undef :: .undef :: .undef :: .undef :: .undef :: .undef :: .undef :: .undef :: .undef :: .undef :: .undef :: .undef :: .undef :: .undef :: .undef :: .undef :: .undef :: .undef :: .undef :: .undef :: .undef :: .undef :: .undef :: .undef :: .undef :: .undef :: .undef :: .undef :: .undef :: .undef :: .undef :: .undef :: .undef :: .undef :: .undef :: .undef :: []) [25, 26] rasg26 rbody26], r := [9], d := [], rd := none }
      (fun v s' => ∃ (rl2 cl2 : Nat) (lens2 : List Int) (left2 : Int) (js2 : Nat → Value), lens2 = lens ++ List.replicate m.toNat l ∧ rl2 = lens2.length ∧ rl2 ≤ cl2 ∧ left2 = left - m * pw l ∧ (rl2 : Int) ≤ size ∧ (rl2 : Int) = rl + m ∧
        ((v = .bool true ∧ ¬ (left2 ≤ 0 ∨ (rl2 : Int) = size) ∧ s' = { t := scrL [9] js2 0 T, h := [.one 33 [.ptr 2 .z 4 0], .one 3 [.int .i64 size], (.one 81 [.fn 39 [.ptr 3 .z 1 0, .ptr 4 .z 1 0], .int .u64 acc, .int .i64 hv, .fn 40 [.ptr 4 .z 1 0, .ptr 3 .z 1 0]]), .one 3 [.int .i64 ai], .one 22 [.slice 5 .z 1 bl cap], .ro .u8 b, .one 24 [.val (.slice none 0 0), .lit .i64 0], .ints 5 .u8 L, .one 24 [.slice 7 .z 1 ll ll, .int .i64 0], .buf 5 .u8 lens2 cl2, .one 24 [.slice 9 .z 1 rl2 cl2, .lit .i64 0], .one 3 [.int .i64 left2], .one 33 [.ptr 2 .z 4 0], .one 24 [.slice 7 .z 1 ll ll, .int .i64 0], .defd, .loop .ready none (.ptr 0 .z 1 0 :: .ptr 1 .z 1 0 :: .ptr 6 .z 2 0 :: .int .i64 sk :: .ptr 8 .z 2 0 :: .ptr 10 .z 2 0 :: .ptr 11 .z 1 0 :: .undef :: .undef :: .val (js0 9) :: .val (js0 10) :: .val (js0 11) :: .val (js0 12) :: .val (js0 13) :: .val (js0 14) :: .val (js0 15) :: .val (js0 16) :: .val (js0 17) :: .val (js0 18) :: .val (js0 19) :: .val (js0 20) :: .val (js0 21) :: .val (js0 22) :: .val (js0 23) :: .fn 58 [.ptr 12 .z 1 0, .ptr 13 .z 2 0] :: .undef :: .undef :: .undef :: .undef :: .undef :: .undef :: .undef :: .undef :: .undef :: .undef :: .undef :: .undef :: .undef :: .undef :: .undef :: .undef :: .undef :: .undef :: .undef :: .undef :: .undef :: .undef :: .undef :: .undef :: .undef :: .undef :: .undef :: .undef :: .undef :: .undef :: .undef :: .undef :: .undef :: .undef :: .undef :: .undef :: .undef :: .undef :: .undef :: .undef :: .undef :: .undef :: .undef :: .undef :: .undef :: .undef :: .undef :: .undef :: .undef :: .undef :: []) [25, 26] rasg26 rbody26], r := [9], d := [], rd := none }) ∨
         (v = .bool false ∧ (left2 ≤ 0 ∨ (rl2 : Int) = size) ∧ s' = { t := scrL [9] js2 0 T, h := [.one 33 [.ptr 2 .z 4 0], .one 3 [.int .i64 size], (.one 81 [.fn 39 [.ptr 3 .z 1 0, .ptr 4 .z 1 0], .int .u64 acc, .int .i64 hv, .fn 40 [.ptr 4 .z 1 0, .ptr 3 .z 1 0]]), .one 3 [.int .i64 ai], .one 22 [.slice 5 .z 1 bl cap], .ro .u8 b, .one 24 [.val (.slice none 0 0), .lit .i64 0], .ints 5 .u8 L, .one 24 [.slice 7 .z 1 ll ll, .int .i64 0], .buf 5 .u8 lens2 cl2, .one 24 [.slice 9 .z 1 rl2 cl2, .lit .i64 0], .one 3 [.int .i64 left2], .one 33 [.ptr 2 .z 4 0], .one 24 [.slice 7 .z 1 ll ll, .int .i64 0], .defd, .loop .done (some (.exit 0)) (.ptr 0 .z 1 0 :: .ptr 1 .z 1 0 :: .ptr 6 .z 2 0 :: .int .i64 sk :: .ptr 8 .z 2 0 :: .ptr 10 .z 2 0 :: .ptr 11 .z 1 0 :: .undef :: .undef :: .val (js0 9) :: .val (js0 10) :: .val (js0 11) :: .val (js0 12) :: .val (js0 13) :: .val (js0 14) :: .val (js0 15) :: .val (js0 16) :: .val (js0 17) :: .val (js0 18) :: .val (js0 19) :: .val (js0 20) :: .val (js0 21) :: .val (js0 22) :: .val (js0 23) :: .fn 58 [.ptr 12 .z 1 0, .ptr 13 .z 2 0] :: .undef :: .undef :: .undef :: .undef :: .undef :: .undef :: .undef :: .undef :: .undef :: .undef :: .undef :: .undef :: .undef :: .undef :: .undef :: .undef :: .undef :: .undef :: .undef :: .undef :: .undef :: .undef :: .undef :: .undef :: .undef :: .undef :: .undef :: .undef :: .undef :: .undef :: .undef :: .undef :: .undef :: .undef :: .undef :: .undef :: .undef :: .undef :: .undef :: .undef :: .undef :: .undef :: .undef :: .undef :: .undef :: .undef :: .undef :: .undef :: .undef :: .undef :: []) [25, 26] rasg26 rbody26], r := [9], d := [], rd := none })))
      (fun e s' => e = .panic (.iface 75 (.agg [.int .i64 11])) ∧ ¬ ((rl : Int) + m ≤ size) ∧ ∃ js2, s' = { t := scrL [] js2 0 T, h := [.one 33 [.ptr 2 .z 4 0], .one 3 [.int .i64 size], (.one 81 [.fn 39 [.ptr 3 .z 1 0, .ptr 4 .z 1 0], .int .u64 acc, .int .i64 hv, .fn 40 [.ptr 4 .z 1 0, .ptr 3 .z 1 0]]), .one 3 [.int .i64 ai], .one 22 [.slice 5 .z 1 bl cap], .ro .u8 b, .one 24 [.val (.slice none 0 0), .lit .i64 0], .ints 5 .u8 L, .one 24 [.slice 7 .z 1 ll ll, .int .i64 0], .buf 5 .u8 lens cl, .one 24 [.slice 9 .z 1 rl cl, .lit .i64 0], .one 3 [.int .i64 left], .one 33 [.ptr 2 .z 4 0], .one 24 [.slice 7 .z 1 ll ll, .int .i64 0], .defd, .loop .busy none (.ptr 0 .z 1 0 :: .ptr 1 .z 1 0 :: .ptr 6 .z 2 0 :: .int .i64 sk :: .ptr 8 .z 2 0 :: .ptr 10 .z 2 0 :: .ptr 11 .z 1 0 :: .undef :: .undef :: .val (js0 9) :: .val (js0 10) :: .val (js0 11) :: .val (js0 12) :: .val (js0 13) :: .val (js0 14) :: .val (js0 15) :: .val (js0 16) :: .val (js0 17) :: .val (js0 18) :: .val (js0 19) :: .val (js0 20) :: .val (js0 21) :: .val (js0 22) :: .val (js0 23) :: .fn 58 [.ptr 12 .z 1 0, .ptr 13 .z 2 0] :: .undef :: .undef :: .undef :: .undef :: .undef :: .undef :: .undef :: .undef :: .undef :: .undef :: .undef :: .undef :: .undef :: .undef :: .undef :: .undef :: .undef :: .undef :: .undef :: .undef :: .undef :: .undef :: .undef :: .undef :: .undef :: .undef :: .undef :: .undef :: .undef :: .undef :: .undef :: .undef :: .undef :: .undef :: .undef :: .undef :: .undef :: .undef :: .undef :: .undef :: .undef :: .undef :: .undef :: .undef :: .undef :: .undef :: .undef :: .undef :: .undef :: .undef :: []) [25, 26] rasg26 rbody26], r := [9], d := [], rd := none }) := by
  have hmust := mustX_con
  have pw_p := fun x => pw_nonneg x
  have pw_d : l > 0 → pw l = 2 ^ (15 - l).toNat := fun h => by unfold pw; rw [if_pos h]
  have pw_z : ¬ l > 0 → pw l = 0 := fun h => by unfold pw; rw [if_neg h]
  have pw_u : pw l ≤ 16384 := pw_le
  generalize pw = PW at *
  refine withWords ?_
  intro vb vc vw vtoN vofN vaddN vsubN vmaxI vminI vcutN vgd vst vln vrep vsub vonto vsplice vstrEq vbyteV vnotB veqB hw qb qc qw qtoN qofN qaddN qsubN qmaxI qminI qcutN qgd qst qln qrep qsub qonto qsplice qstrEq qbyteV qnotB qeqB
  have hm := hmix; generalize Try.prog = P at *
  have hto : ∀ i : Nat, vtoN (i : Int) = i := fun i => by simp only [qtoN, Int.toNat_natCast]
  have hlnq : ∀ l, vln l = l.length := fun l => by rw [qln]
  obtain ⟨rlI, hrlI⟩ : ∃ rlI : Int, rlI = rl := ⟨_, rfl⟩
  have hofn : vofN rl = rlI := by rw [qofN]; exact hrlI.symm
  obtain ⟨s1, hs1⟩ : ∃ s1 : Int, s1 = rlI + m := ⟨_, rfl⟩
  have es1 : vb .add .i64 rlI m = s1 := by rw [qb, add_i64 (by omega) (by omega)]; exact hs1.symm
  refine yield_walk hw hm (by exact hT) ?_
  cbv
  rw [hofn, es1]
  refine call_conX (ρ := []) (hmust _) ⟨by rfl, by rfl, by rfl, by cbv⟩ ?_ ?_
  rotate_left
  · rintro v H R js ⟨hz, rfl, rfl, rfl⟩
    have hz2 : ¬ ((rl : Int) + m ≤ size) := by rw [qc, leq_false] at hz; simp only [nc] at *; omega
    cbv
    intro js2
    refine keep0 ?_
    exact ⟨rfl, hz2, js2, rfl⟩
  rintro v H R js ⟨hz, rfl, rfl, rfl⟩
  have hz2 : (rl : Int) + m ≤ size := by rw [qc, leq_true] at hz; simp only [nc] at *; omega
  obtain ⟨mN, hmN⟩ : ∃ mN : Nat, (mN : Int) = m := ⟨m.toNat, by omega⟩
  have hmt : m.toNat = mN := by omega
  have hpwr : 0 ≤ PW l ∧ PW l ≤ 16384 := ⟨pw_p l, pw_u⟩
  cbv
  refine loop_fam (α := Int × List Int × Nat × Nat × Int) (28 :: [37, 38, 39, 40, 41, 42, 43, 44, 45, 46, 47, 48, 49, 50, 51, 52]) [9]
    (fun (k, l2, rl2, c2, left2) => [(36, .int .i64 k)])
    (fun (k, l2, rl2, c2, left2) => [(9, .buf 5 .u8 l2 c2), (10, .one 24 [.slice 9 .z 1 rl2 c2, .lit .i64 0]), (11, .one 3 [.int .i64 left2])])
    (fun (k, l2, rl2, c2, left2) => ∃ i : Nat, k = i ∧ i ≤ mN ∧ rl2 = rl + i ∧ rl2 ≤ c2 ∧ l2 = lens ++ List.replicate i l ∧ left2 = left - i * PW l)
    (fun (k, l2, rl2, c2, left2) => mN - k.toNat) hw hm ?_ ?_
  · refine Cv.genAt [36] [] (Cv.fold (28 :: [37, 38, 39, 40, 41, 42, 43, 44, 45, 46, 47, 48, 49, 50, 51, 52]) 16 [9] (by exact Nat.le_refl _) (by exact Nat.le_of_ble_eq_true rfl) (by rfl) (by cbv) ?_)
    intro js
    refine ⟨(_, _, _, _, _), ?_, js, rfl⟩
    exact ⟨0, rfl, by omega, rfl, by omega, by simp, by simp⟩
  rintro ⟨k, l2, rl2, c2, left2⟩ js2 ⟨i, hk, hi, hrl2, hrc2, hl2, hleft2⟩
  have hti : vtoN k = i := by rw [hk]; exact hto i
  have hiP : (i : Int) * PW l ≤ mN * PW l := Int.mul_le_mul_of_nonneg_right (by omega) hpwr.1
  have hiP0 : 0 ≤ (i : Int) * PW l := Int.mul_nonneg (by omega) hpwr.1
  have hmP : (mN : Int) * PW l ≤ 1024 * 16384 := by
    have h1 : (mN : Int) * PW l ≤ mN * 16384 := Int.mul_le_mul_of_nonneg_left hpwr.2 (by omega)
    have h2 : (mN : Int) ≤ 1024 := by simp only [nc] at *; omega
    omega
  have hl2l : l2.length = rl2 := by rw [hl2, hrl2, List.length_append, List.length_replicate, hrl]
  have hmu : ∀ kn : Int, kn = ((i + 1 : Nat) : Int) → i < mN → mN - kn.toNat < mN - k.toNat := fun kn h1 h2 => by simp only [nc] at *; omega
  cbv
  split
  · rename_i hlt
    have hlt : i < mN := by rw [qc, lss_true] at hlt; simp only [nc] at *; omega
    have hsub : vsub [l] 0 1 = [l] := by simp only [qsub]; rfl
    have honto : vonto l2 rl2 [l] = l2 ++ [l] := by rw [qonto, ← hl2l]; simp
    have ha1 : vaddN rl2 1 = rl2 + 1 := by simp only [qaddN]
    have ha01 : vaddN 0 1 = 1 := by simp only [qaddN]
    have hln1 : vln [l] = 1 := by rw [hlnq]; rfl
    have hvl : vln l2 = rl2 := by rw [hlnq, hl2l]
    obtain ⟨l3, hl3⟩ : ∃ l3, l3 = l2 ++ [l] := ⟨_, rfl⟩
    rw [← hl3] at honto
    obtain ⟨rl3, hrl3⟩ : ∃ rl3, rl3 = rl2 + 1 := ⟨_, rfl⟩
    have hl3e : l3 = lens ++ List.replicate (i + 1) l := by rw [hl3, hl2, List.append_assoc, ← List.replicate_succ']
    obtain ⟨kn, hkn⟩ : ∃ kn : Int, kn = ((i + 1 : Nat) : Int) := ⟨_, rfl⟩
    have ek : vb .add .i64 k 1 = kn := by simp only [nc] at *; rw [qb, add_i64 (by omega) (by omega)]; omega
    have hmu := hmu kn hkn hlt
    have hfit : rl2 + 1 ≤ 1024 := by simp only [nc] at *; omega
    rw [← hrl3] at ha1
    cbv
    refine ⟨⟨by rw [ha01, hln1]; exact Nat.le_refl _⟩, ⟨by rw [hvl]; exact Nat.le_refl _⟩, ⟨Nat.le_refl _⟩, ⟨by rw [ha1]; omega⟩, ?_⟩
    intro c3 js5 hc3
    have hc3 : vaddN rl2 1 ≤ c3 := hc3.1
    rw [ha1] at hc3
    have hl10 : vc .gtr l 0 = true ∨ vc .gtr l 0 = false := by cases vc .gtr l 0 <;> simp
    cbv
    rw [hsub, honto, ha1]
    rcases hl10 with hg | hg
    · rw [hg]
      have hl0 : l > 0 := by rw [qc, gtr_true] at hg; exact hg
      obtain ⟨d, hd⟩ : ∃ d : Int, d = 15 - l := ⟨_, rfl⟩
      have e15 : vb .sub .u8 15 l = d := by rw [qb, hd]; exact wrap_u8 (by omega) (by omega)
      have ewd : vw .u64 d = d := by rw [qw]; exact wrap_u64 (by omega) (by omega)
      have hpd := pw_d hl0
      rw [← hd] at hpd
      obtain ⟨w1, hw1⟩ : ∃ w1, w1 = PW l := ⟨_, rfl⟩
      rw [← hw1] at hpd hpwr hiP hmP hiP0 hleft2
      have esh : vb .shl .i64 1 d = w1 := by
        have hd2 : d = 0 ∨ d = 1 ∨ d = 2 ∨ d = 3 ∨ d = 4 ∨ d = 5 ∨ d = 6 ∨ d = 7 ∨ d = 8 ∨ d = 9 ∨ d = 10 ∨ d = 11 ∨ d = 12 ∨ d = 13 ∨ d = 14 := by omega
        rw [qb, hpd]
        rcases hd2 with rfl | rfl | rfl | rfl | rfl | rfl | rfl | rfl | rfl | rfl | rfl | rfl | rfl | rfl | rfl <;> decide
      obtain ⟨left3, hleft3⟩ : ∃ left3, left3 = left2 - w1 := ⟨_, rfl⟩
      have esb : vb .sub .i64 left2 w1 = left3 := by rw [qb, sub_i64 (by omega) (by omega)]; exact hleft3.symm
      have hleft3e : left3 = left - ((i + 1 : Nat) : Int) * PW l := by
        rw [hleft3, hleft2, ← hw1, show ((i + 1 : Nat) : Int) = (i : Int) + 1 from rfl, Int.add_mul, Int.one_mul, Int.sub_sub]
      cbv
      rw [e15, ewd, esh, esb, ek]
      refine ⟨⟨by omega⟩, ?_⟩
      refine Cv.fold (28 :: [37, 38, 39, 40, 41, 42, 43, 44, 45, 46, 47, 48, 49, 50, 51, 52]) 16 [9] (by exact Nat.le_refl _) (by exact Nat.le_of_ble_eq_true rfl) (by rfl) (by cbv) ?_
      intro js
      refine ⟨(_, _, _, _, _), ?_, js, rfl⟩
      exact ⟨⟨i + 1, hkn, hlt, by omega, hc3, hl3e, hleft3e⟩, hmu⟩
    · rw [hg]
      have hl0 : ¬ l > 0 := by rw [qc, gtr_false] at hg; omega
      have hpz := pw_z hl0
      have hleft3e : left2 = left - ((i + 1 : Nat) : Int) * PW l := by
        rw [hleft2, hpz]; simp
      cbv
      rw [ek]
      refine Cv.fold (28 :: [37, 38, 39, 40, 41, 42, 43, 44, 45, 46, 47, 48, 49, 50, 51, 52]) 16 [9] (by exact Nat.le_refl _) (by exact Nat.le_of_ble_eq_true rfl) (by rfl) (by cbv) ?_
      intro js
      refine ⟨(_, _, _, _, _), ?_, js, rfl⟩
      exact ⟨⟨i + 1, hkn, hlt, by omega, hc3, hl3e, hleft3e⟩, hmu⟩
  · rename_i hge
    have hin : i = mN := by rw [qc, lss_false] at hge; simp only [nc] at *; omega
    subst hin
    obtain ⟨rI2, hrI2⟩ : ∃ rI2 : Int, rI2 = rl2 := ⟨_, rfl⟩
    have hof2 : vofN rl2 = rI2 := by rw [qofN]; exact hrI2.symm
    have hl2f : l2 = lens ++ List.replicate m.toNat l := by rw [hmt]; exact hl2
    have hleft2f : left2 = left - m * PW l := by rw [← hmN]; exact hleft2
    have hrle : (rl2 : Int) ≤ size := by simp only [nc] at *; omega
    have hrle2 : (rl2 : Int) = rl + m := by simp only [nc] at *; omega
    cbv
    by_cases hle : left2 ≤ 0
    · have elq : vc .leq left2 0 = true := by rw [qc, leq_true]; exact hle
      rw [elq]
      cbv
      intro js6
      refine keep0 ?_
      exact ⟨rl2, c2, l2, left2, js6, hl2f, hl2l.symm, hrc2, hleft2f, hrle, hrle2, .inr ⟨rfl, .inl hle, rfl⟩⟩
    · have elq : vc .leq left2 0 = false := by rw [qc, leq_false]; omega
      rw [elq]
      cbv
      rw [hof2]
      by_cases heq : (rl2 : Int) = size
      · have ee : vc .eql rI2 size = true := by rw [qc, eql_true, hrI2]; exact heq
        rw [ee]
        cbv
        intro js6
        refine keep0 ?_
        exact ⟨rl2, c2, l2, left2, js6, hl2f, hl2l.symm, hrc2, hleft2f, hrle, hrle2, .inr ⟨rfl, .inr heq, rfl⟩⟩
      · have ee : vc .eql rI2 size = false := by rw [qc, eql_false, hrI2]; exact heq
        rw [ee]
        cbv
        intro js6
        refine keep0 ?_
        exact ⟨rl2, c2, l2, left2, js6, hl2f, hl2l.symm, hrc2, hleft2f, hrle, hrle2, .inl ⟨rfl, fun h => h.elim hle heq, rfl⟩⟩
end Go.Proofs.Ytkkddgdcmdnnmaa
namespace Go.Proofs.Ytkkddgdcmdnnmaa
open Go Go.Sx Go.Proofs
/-! symbols.inner. -/
set_option maxRecDepth 10000
set_option maxHeartbeats 4000000
theorem order_con : Con Try.prog 45 [] [] (fun v H R => v = .agg [.int .i64 1, .int .i64 2, .int .i64 3, .int .i64 4, .int .i64 0, .int .i64 5, .int .i64 17, .int .i64 6, .int .i64 16, .int .i64 7, .int .i64 8, .int .i64 9, .int .i64 10, .int .i64 11, .int .i64 12, .int .i64 13, .int .i64 14, .int .i64 15] ∧ H = [] ∧ R = []) := by
  refine con_gen (con_cut 0 (by simp) (con_drop (con_walk hmix fn45 ?_)))
  intro vb vc vw vtoN vofN vaddN vsubN vmaxI vminI vcutN vgd vst vln vrep vsub vonto vsplice vstrEq vbyteV vnotB veqB hw qb qc qw qtoN qofN qaddN qsubN qmaxI qminI qcutN qgd qst qln qrep qsub qonto qsplice qstrEq qbyteV qnotB qeqB
  have hm := hmix; generalize Try.prog = P at *
  subst qln qst qrep qgd qtoN
  cbv
  repeat (refine And.intro ⟨by decide⟩ ?_)
  exact ⟨rfl, trivial⟩
theorem innerX_con (b : List Int) (pos cap sk : Nat) (acc hv ai : Int) (hby : ∀ x ∈ b, isByte x) (hl : b.length ≤ 2 ^ 50) (h : RS b pos acc hv ai) (hs : sk ≤ 3) :
    ConX Try.prog 29 [.ptr 0 .z 4 0, .int .i64 sk] [(.one 81 [.fn 39 [.ptr 1 .z 1 0, .ptr 2 .z 1 0], .int .u64 acc, .int .i64 hv, .fn 40 [.ptr 2 .z 1 0, .ptr 1 .z 1 0]]), .one 3 [.int .i64 ai], .one 22 [.slice 3 .z 1 b.length cap], .ro .u8 b] (CdPost b (innerR b sk pos) (fun a h i => [(.one 81 [.fn 39 [.ptr 1 .z 1 0, .ptr 2 .z 1 0], .int .u64 a, .int .i64 h, .fn 40 [.ptr 2 .z 1 0, .ptr 1 .z 1 0]]), .one 3 [.int .i64 i], .one 22 [.slice 3 .z 1 b.length cap], .ro .u8 b])) (PanR (innerR b sk pos) (fun a h i => [(.one 81 [.fn 39 [.ptr 1 .z 1 0, .ptr 2 .z 1 0], .int .u64 a, .int .i64 h, .fn 40 [.ptr 2 .z 1 0, .ptr 1 .z 1 0]]), .one 3 [.int .i64 i], .one 22 [.slice 3 .z 1 b.length cap], .ro .u8 b])) := by
  have gs := fun pos acc hv ai h => smallX_con b pos cap acc hv ai hby hl h
  have hx := fun p x q h => smR_ok (b := b) (p := p) (x := x) (q := q) h
  have hmust := mustX_con
  have hord := order_con
  obtain ⟨skI, hskI⟩ : ∃ skI : Int, skI = sk := ⟨_, rfl⟩
  rw [← hskI]
  have k0 : ∀ e, innR b (18 - sk) sk pos (List.replicate 18 0) 32 0 0 = .error e → innerR b sk pos = .error e := fun e h => by unfold innerR; rw [h]
  have k1 : ∀ L left one q, innR b (18 - sk) sk pos (List.replicate 18 0) 32 0 0 = .ok ((L, left, 1, one), q) → innerR b sk pos = .ok (.inl one, q) := fun L left one q h => by unfold innerR; rw [h]; rfl
  have k2 : ∀ L cnt one q, innR b (18 - sk) sk pos (List.replicate 18 0) 32 0 0 = .ok ((L, 0, cnt, one), q) → cnt ≠ 1 → innerR b sk pos = .ok (.inr L, q) := fun L cnt one q h h1 => by unfold innerR; rw [h]; simp only [if_neg h1, if_true]
  have k3 : ∀ L left cnt one q, innR b (18 - sk) sk pos (List.replicate 18 0) 32 0 0 = .ok ((L, left, cnt, one), q) → cnt ≠ 1 → left ≠ 0 → innerR b sk pos = .error 11 := fun L left cnt one q h h1 h2 => by unfold innerR; rw [h]; simp only [if_neg h1, if_neg h2]
  have s0 : ∀ i p L left cnt one, innR b 0 i p L left cnt one = .ok ((L, left, cnt, one), p) := fun _ _ _ _ _ _ => rfl
  have s1 : ∀ k i p L left cnt one e, smR b p = .error e → innR b (k + 1) i p L left cnt one = .error e := fun k i p L left cnt one e h => by simp only [innR, h]
  have s2 : ∀ k i p L left cnt one q, smR b p = .ok (0, q) → innR b (k + 1) i p L left cnt one = innR b k (i + 1) q L left cnt one := fun k i p L left cnt one q h => by simp only [innR, h]; rfl
  have s3 : ∀ k i p L left cnt one x q, smR b p = .ok (x, q) → x ≠ 0 → left - 32 / 2 ^ x.toNat ≤ 0 → innR b (k + 1) i p L left cnt one = .ok ((L.set (ordL.getD i 0).toNat x, left - 32 / 2 ^ x.toNat, cnt + 1, ordL.getD i 0), q) := fun k i p L left cnt one x q h h1 h2 => by simp only [innR, h, if_neg h1, if_pos h2]
  have s4 : ∀ k i p L left cnt one x q, smR b p = .ok (x, q) → x ≠ 0 → ¬ left - 32 / 2 ^ x.toNat ≤ 0 → innR b (k + 1) i p L left cnt one = innR b k (i + 1) q (L.set (ordL.getD i 0).toNat x) (left - 32 / 2 ^ x.toNat) (cnt + 1) (ordL.getD i 0) := fun k i p L left cnt one x q h h1 h2 => by simp only [innR, h, if_neg h1, if_neg h2]
  obtain ⟨r1, hr1⟩ : ∃ r1, innR b (18 - sk) sk pos (List.replicate 18 0) 32 0 0 = r1 := ⟨_, rfl⟩
  rw [hr1] at k0 k1 k2 k3
  obtain ⟨L0, hL0⟩ : ∃ L0, L0 = List.replicate 18 (0 : Int) := ⟨_, rfl⟩
  have hL0l : L0.length = 18 := by rw [hL0]; rfl
  rw [← hL0] at hr1
  have horr := ordL_range
  have hordL : ordL = [1, 2, 3, 4, 0, 5, 17, 6, 16, 7, 8, 9, 10, 11, 12, 13, 14, 15] := rfl
  generalize innerR b sk pos = r at *
  generalize innR b = IN at *
  generalize smR b = SM at *
  generalize ordL = OL at *
  refine conX_gen (conX_picks (conX_drop (conX_walk hmix fn29 ?_)))
  intro vb vc vw vtoN vofN vaddN vsubN vmaxI vminI vcutN vgd vst vln vrep vsub vonto vsplice vstrEq vbyteV vnotB veqB hw qb qc qw qtoN qofN qaddN qsubN qmaxI qminI qcutN qgd qst qln qrep qsub qonto qsplice qstrEq qbyteV qnotB qeqB
  have hm := hmix; generalize Try.prog = P at *
  obtain ⟨bl, hbl⟩ : ∃ bl, bl = b.length := ⟨_, rfl⟩
  rw [← hbl] at gs ⊢
  clear hbl hl hby
  have hto : ∀ i : Nat, vtoN (i : Int) = i := fun i => by simp only [qtoN, Int.toNat_natCast]
  have hts : vtoN skI = sk := by rw [hskI]; exact hto sk
  have hlnq : ∀ l, vln l = l.length := fun l => by rw [qln]
  have hgd : ∀ l j, vgd l j = l.getD j 0 := fun l j => by rw [qgd]
  have hst : ∀ L i v, vst L i v = L.set i v := fun L i v => by rw [qst]
  have hadd0 : ∀ i, vaddN 0 i = i := fun i => by simp only [qaddN, Nat.zero_add]
  have hrep : vrep 18 0 = L0 := by rw [qrep, hL0]
  have ht18 : vtoN 18 = 18 := hto 18
  have hcut : vcutN 0 sk 18 = sk := by rw [qcutN]; simp only; rw [if_neg (by omega)]; omega
  have hsub : vsubN 18 sk = 18 - sk := by rw [qsubN]
  obtain ⟨n, hn⟩ : ∃ n, n = 18 - sk := ⟨_, rfl⟩
  rw [← hn] at hsub hr1
  obtain ⟨nI, hnI⟩ : ∃ nI : Int, nI = n := ⟨_, rfl⟩
  have hofn : vofN n = nI := by rw [qofN]; exact hnI.symm
  cbv
  rw [ht18, hrep]
  refine ⟨⟨by decide⟩, ⟨by decide⟩, ⟨by decide⟩, ⟨by decide⟩, ?_⟩
  refine call_con (ρ := []) hord ⟨by rfl, by rfl, by rfl, by cbv⟩ ?_
  rintro v H R js ⟨rfl, rfl, rfl⟩
  cbv
  repeat (refine And.intro ⟨by simp only [hlnq, hst, hrep, List.length_set, hL0l]; decide⟩ ?_)
  rw [show (vst (vst (vst (vst (vst (vst (vst (vst (vst (vst (vst (vst (vst (vst (vst (vst (vst (vst (vrep 18 0) 0 1) 1 2) 2 3) 3 4) 4 0) 5 5) 6 17) 7 6) 8 16) 9 7) 10 8) 11 9) 12 10) 13 11) 14 12) 15 13) 16 14) 17 15) = [1, 2, 3, 4, 0, 5, 17, 6, 16, 7, 8, 9, 10, 11, 12, 13, 14, 15] by simp only [hst, hrep]; rw [hL0]; rfl, hts, hcut, hsub, hofn]
  refine ⟨⟨by simp only [nc] at *; omega⟩, ?_⟩
  refine loop_fam (α := Int × List Int × Int × Int × Int × Nat × Int × Int × Int) ([10, 11] ++ [19, 20, 21, 22, 23, 24, 25, 26, 27, 28, 29, 30, 31, 32, 33, 34, 35, 36, 37, 38, 39, 40, 41]) []
    (fun (k, L, left, cnt, one, p, acc, hv, ai) => [(18, .int .i64 k), (6, .int .i64 left), (7, .int .i64 cnt)])
    (fun (k, L, left, cnt, one, p, acc, hv, ai) => [(0, .one 81 [.fn 39 [.ptr 1 .z 1 0, .ptr 2 .z 1 0], .int .u64 acc, .int .i64 hv, .fn 40 [.ptr 2 .z 1 0, .ptr 1 .z 1 0]]), (1, .one 3 [.int .i64 ai]), (5, .ints 5 .u8 L), (6, .one 24 [.slice 5 .z 1 18 18, .int .i64 one])])
    (fun (k, L, left, cnt, one, p, acc, hv, ai) => ∃ i : Nat, k = i ∧ i ≤ n ∧ L.length = 18 ∧ RS b p acc hv ai ∧ IN (n - i) (sk + i) p L left cnt one = r1 ∧ 0 < left ∧ left ≤ 32 ∧ 0 ≤ cnt ∧ cnt ≤ i)
    (fun (k, L, left, cnt, one, p, acc, hv, ai) => n - k.toNat) hw hm ?_ ?_
  · refine Cv.genAt [18, 6, 7] [0, 1, 6] (Cv.fold ([10, 11] ++ [19, 20, 21, 22, 23, 24, 25, 26, 27, 28, 29, 30, 31, 32, 33, 34, 35, 36, 37, 38, 39, 40, 41]) 8 [] (by exact Nat.le_refl _) (by exact Nat.le_of_ble_eq_true rfl) (by rfl) (by cbv) ?_)
    intro js
    refine ⟨(_, _, _, _, _, pos, _, _, _), ?_, js, rfl⟩
    exact ⟨0, rfl, by omega, hL0l, h, hr1, by decide, by decide, by decide, by decide⟩
  rintro ⟨k, L, left, cnt, one, p, acc2, hv2, ai2⟩ js ⟨i, hk, hi, hLl, h2, hIN, hleft0, hleft, hcnt0, hcnt⟩
  have hti : vtoN k = i := by rw [hk]; exact hto i
  obtain ⟨si, hsi⟩ : ∃ si, si = sk + i := ⟨_, rfl⟩
  have haddi : vaddN sk i = si := by rw [qaddN, hsi]
  have hgsp := gs p acc2 hv2 ai2 h2
  rw [← hsi] at hIN
  have hlO : vln [1, 2, 3, 4, 0, 5, 17, 6, 16, 7, 8, 9, 10, 11, 12, 13, 14, 15] = 18 := by rw [hlnq]; rfl
  cbv
  split
  · rename_i hlt
    have hlt : i < n := by rw [qc, lss_true] at hlt; simp only [nc] at *; omega
    obtain ⟨m, hm1⟩ : ∃ m, n - i = m + 1 := ⟨n - i - 1, by omega⟩
    rw [hm1] at hIN
    have hinR : 0 ≤ k ∧ k < (n : Int) := by simp only [nc] at *; omega
    obtain ⟨s, hs2⟩ : ∃ s, s = OL.getD si 0 := ⟨_, rfl⟩
    have hgO : vgd [1, 2, 3, 4, 0, 5, 17, 6, 16, 7, 8, 9, 10, 11, 12, 13, 14, 15] si = s := by rw [hgd, hs2, hordL]
    have hsr := horr si
    rw [← hs2] at hsr
    cbv
    rw [hti, haddi, hgO]
    refine ⟨⟨by constructor <;> simp only [nc] at * <;> omega⟩, ⟨by rw [hlO]; omega⟩, ?_⟩
    refine call_conX (ρ := [(0, .z), (1, .z), (2, .z), (3, .z)]) hgsp ⟨by rfl, by rfl, by rfl, by cbv; exact ⟨view_refl _, trivial⟩⟩ ?_ ?_
    rotate_left
    · rintro v H R js3 ⟨e, hge, rfl, rfl, a, h, i2, rfl⟩
      have hS1 : r1 = .error e := by rw [← hIN]; exact s1 _ _ _ _ _ _ _ _ hge
      cbv
      exact ⟨[0, 1, 2, 3], .iface 75 (.agg [.int .i64 e]), [(.one 81 [.fn 39 [.ptr 1 .z 1 0, .ptr 2 .z 1 0], .int .u64 a, .int .i64 h, .fn 40 [.ptr 2 .z 1 0, .ptr 1 .z 1 0]]), .one 3 [.int .i64 i2], .one 22 [.slice 3 .z 1 bl cap], .ro .u8 b], rfl, rfl, rfl, rfl, ⟨rfl, rfl, rfl, rfl, trivial⟩, e, k0 e hS1, rfl, rfl, a, h, i2, rfl⟩
    rintro v H R js3 ⟨x, q, hgx, rfl, rfl, acc3, hv3, ai3, h3, rfl⟩
    have hxr := hx p x q hgx
    obtain ⟨kn, hkn⟩ : ∃ kn : Int, kn = ((i + 1 : Nat) : Int) := ⟨_, rfl⟩
    have ek : vb .add .i64 k 1 = kn := by simp only [nc] at *; rw [qb, add_i64 (by omega) (by omega)]; omega
    have hmu : n - kn.toNat < n - k.toNat := by simp only [nc] at *; omega
    cbv
    by_cases hx0 : x = 0
    · subst hx0
      have e00 : vc .eql 0 0 = true := by rw [qc]; rfl
      have hS1 : IN m (si + 1) q L left cnt one = r1 := by rw [← hIN]; exact (s2 _ _ _ _ _ _ _ _ hgx).symm
      rw [e00]
      cbv
      rw [ek]
      refine Cv.fold ([10, 11] ++ [19, 20, 21, 22, 23, 24, 25, 26, 27, 28, 29, 30, 31, 32, 33, 34, 35, 36, 37, 38, 39, 40, 41]) 8 [] (by exact Nat.le_refl _) (by exact Nat.le_of_ble_eq_true rfl) (by rfl) (by cbv) ?_
      intro js
      refine ⟨(_, _, _, _, _, q, _, _, _), ?_, js, rfl⟩
      exact ⟨⟨i + 1, hkn, hlt, hLl, h3, by rw [show n - (i + 1) = m by omega, show sk + (i + 1) = si + 1 by omega]; exact hS1, hleft0, hleft, hcnt0, by omega⟩, hmu⟩
    · have e0 : vc .eql x 0 = false := by rw [qc]; exact eql_false.2 hx0
      obtain ⟨sh, hsh⟩ : ∃ sh : Int, sh = 32 / 2 ^ x.toNat := ⟨_, rfl⟩
      have s3' := s3 m si p L left cnt one x q hgx hx0
      have s4' := s4 m si p L left cnt one x q hgx hx0
      rw [← hsh, ← hs2] at s3' s4'
      have hx5 : x = 1 ∨ x = 2 ∨ x = 3 ∨ x = 4 ∨ x = 5 := by omega
      have esh : vb .shr .i64 32 x = sh := by rw [qb, hsh]; rcases hx5 with rfl | rfl | rfl | rfl | rfl <;> decide
      have hshr : 1 ≤ sh ∧ sh ≤ 16 := by rw [hsh]; rcases hx5 with rfl | rfl | rfl | rfl | rfl <;> decide
      obtain ⟨L2, hL2⟩ : ∃ L2, L2 = L.set s.toNat x := ⟨_, rfl⟩
      have hL2l : L2.length = 18 := by rw [hL2, List.length_set]; exact hLl
      have hts2 : vtoN s = s.toNat := by rw [qtoN]
      obtain ⟨left2, hleft2⟩ : ∃ left2, left2 = left - sh := ⟨_, rfl⟩
      obtain ⟨c2, hc2⟩ : ∃ c2, c2 = cnt + 1 := ⟨_, rfl⟩
      rw [← hL2, ← hleft2, ← hc2] at s3' s4'
      have el : vb .sub .i64 left sh = left2 := by rw [qb, sub_i64 (by omega) (by omega)]; omega
      have ec : vb .add .i64 cnt 1 = c2 := by simp only [nc] at *; rw [qb, add_i64 (by omega) (by omega)]; omega
      have hvL : vln L = 18 := by rw [hlnq]; exact hLl
      have hsS : s.toNat < 18 := by omega
      rw [e0]
      cbv
      rw [hts2, hst, ← hL2]
      refine ⟨⟨by constructor <;> simp only [nc] at * <;> omega⟩, ⟨by rw [hvL]; exact hsS⟩, ⟨hxr.1⟩, ?_⟩
      rw [ec, esh, el]
      by_cases hle : left2 ≤ 0
      · have elq : vc .leq left2 0 = true := by rw [qc, leq_true]; exact hle
        have hr1' := s3' hle
        rw [hIN] at hr1'
        rw [elq]
        cbv
        by_cases hc1 : c2 = 1
        · have e1 : vc .eql c2 1 = true := by rw [qc]; exact eql_true.2 hc1
          rw [hc1] at hr1'
          rw [e1]
          cbv
          exact ⟨[0, 1, 2, 3], .agg [.val (.slice none 0 0), .int .i64 s], [(.one 81 [.fn 39 [.ptr 1 .z 1 0, .ptr 2 .z 1 0], .int .u64 acc3, .int .i64 hv3, .fn 40 [.ptr 2 .z 1 0, .ptr 1 .z 1 0]]), .one 3 [.int .i64 ai3], .one 22 [.slice 3 .z 1 bl cap], .ro .u8 b], rfl, rfl, rfl, rfl, ⟨rfl, rfl, rfl, rfl, trivial⟩, .inl s, q, k1 _ _ _ _ hr1', rfl, acc3, hv3, ai3, h3, .inl ⟨_, rfl, rfl, rfl⟩⟩
        · have e1 : vc .eql c2 1 = false := by rw [qc]; exact eql_false.2 hc1
          rw [e1]
          cbv
          refine call_conX (ρ := []) (hmust _) ⟨by rfl, by rfl, by rfl, by cbv⟩ ?_ ?_
          rotate_left
          · rintro v H R js4 ⟨hz, rfl, rfl, rfl⟩
            have hz3 : left2 ≠ 0 := by intro h0; rw [qc, eql_false] at hz; exact hz h0
            have hk := k3 _ _ _ _ _ hr1' hc1 hz3
            cbv
            exact ⟨[0, 1, 2, 3], .iface 75 (.agg [.int .i64 11]), [(.one 81 [.fn 39 [.ptr 1 .z 1 0, .ptr 2 .z 1 0], .int .u64 acc3, .int .i64 hv3, .fn 40 [.ptr 2 .z 1 0, .ptr 1 .z 1 0]]), .one 3 [.int .i64 ai3], .one 22 [.slice 3 .z 1 bl cap], .ro .u8 b], rfl, rfl, rfl, rfl, ⟨rfl, rfl, rfl, rfl, trivial⟩, 11, hk, rfl, rfl, acc3, hv3, ai3, rfl⟩
          rintro v H R js4 ⟨hz, rfl, rfl, rfl⟩
          have hz3 : left2 = 0 := by rw [qc, eql_true] at hz; exact hz
          rw [hz3] at hr1'
          have hk := k2 _ _ _ _ hr1' hc1
          cbv
          exact ⟨[0, 1, 2, 3, 5], .agg [.slice 4 .z 1 18 18, .lit .i64 0], [(.one 81 [.fn 39 [.ptr 1 .z 1 0, .ptr 2 .z 1 0], .int .u64 acc3, .int .i64 hv3, .fn 40 [.ptr 2 .z 1 0, .ptr 1 .z 1 0]]), .one 3 [.int .i64 ai3], .one 22 [.slice 3 .z 1 bl cap], .ro .u8 b, .ints 5 .u8 L2], rfl, rfl, rfl, rfl, ⟨rfl, rfl, rfl, rfl, rfl, trivial⟩, .inr L2, q, hk, rfl, acc3, hv3, ai3, h3, .inr ⟨_, rfl, by rw [hL2l]; rfl, rfl⟩⟩
      · have elq : vc .leq left2 0 = false := by rw [qc, leq_false]; omega
        have hS1 := s4' hle
        rw [hIN] at hS1
        rw [elq]
        cbv
        rw [ek]
        refine Cv.fold ([10, 11] ++ [19, 20, 21, 22, 23, 24, 25, 26, 27, 28, 29, 30, 31, 32, 33, 34, 35, 36, 37, 38, 39, 40, 41]) 8 [] (by exact Nat.le_refl _) (by exact Nat.le_of_ble_eq_true rfl) (by rfl) (by cbv) ?_
        intro js
        refine ⟨(_, _, _, _, _, q, _, _, _), ?_, js, rfl⟩
        exact ⟨⟨i + 1, hkn, hlt, hL2l, h3, by rw [show n - (i + 1) = m by omega, show sk + (i + 1) = si + 1 by omega]; exact hS1.symm, by omega, by omega, by omega, by omega⟩, hmu⟩
  · rename_i hge
    have hin : i = n := by rw [qc, lss_false] at hge; simp only [nc] at *; omega
    have hr1' : r1 = .ok ((L, left, cnt, one), p) := by rw [← hIN, hin, Nat.sub_self]; exact s0 _ _ _ _ _ _
    cbv
    by_cases hc1 : cnt = 1
    · have e1 : vc .eql cnt 1 = true := by rw [qc]; exact eql_true.2 hc1
      rw [hc1] at hr1'
      rw [e1]
      cbv
      exact ⟨[0, 1, 2, 3], .agg [.val (.slice none 0 0), .int .i64 one], [(.one 81 [.fn 39 [.ptr 1 .z 1 0, .ptr 2 .z 1 0], .int .u64 acc2, .int .i64 hv2, .fn 40 [.ptr 2 .z 1 0, .ptr 1 .z 1 0]]), .one 3 [.int .i64 ai2], .one 22 [.slice 3 .z 1 bl cap], .ro .u8 b], rfl, rfl, rfl, rfl, ⟨rfl, rfl, rfl, rfl, trivial⟩, .inl one, p, k1 _ _ _ _ hr1', rfl, acc2, hv2, ai2, h2, .inl ⟨_, rfl, rfl, rfl⟩⟩
    · have e1 : vc .eql cnt 1 = false := by rw [qc]; exact eql_false.2 hc1
      rw [e1]
      cbv
      refine call_conX (ρ := []) (hmust _) ⟨by rfl, by rfl, by rfl, by cbv⟩ ?_ ?_
      rotate_left
      · rintro v H R js4 ⟨hz, rfl, rfl, rfl⟩
        have hz3 : left ≠ 0 := by intro h0; rw [qc, eql_false] at hz; exact hz h0
        have hk := k3 _ _ _ _ _ hr1' hc1 hz3
        cbv
        exact ⟨[0, 1, 2, 3], .iface 75 (.agg [.int .i64 11]), [(.one 81 [.fn 39 [.ptr 1 .z 1 0, .ptr 2 .z 1 0], .int .u64 acc2, .int .i64 hv2, .fn 40 [.ptr 2 .z 1 0, .ptr 1 .z 1 0]]), .one 3 [.int .i64 ai2], .one 22 [.slice 3 .z 1 bl cap], .ro .u8 b], rfl, rfl, rfl, rfl, ⟨rfl, rfl, rfl, rfl, trivial⟩, 11, hk, rfl, rfl, acc2, hv2, ai2, rfl⟩
      rintro v H R js4 ⟨hz, rfl, rfl, rfl⟩
      have hz3 : left = 0 := by rw [qc, eql_true] at hz; exact hz
      rw [hz3] at hr1'
      have hk := k2 _ _ _ _ hr1' hc1
      cbv
      exact ⟨[0, 1, 2, 3, 5], .agg [.slice 4 .z 1 18 18, .lit .i64 0], [(.one 81 [.fn 39 [.ptr 1 .z 1 0, .ptr 2 .z 1 0], .int .u64 acc2, .int .i64 hv2, .fn 40 [.ptr 2 .z 1 0, .ptr 1 .z 1 0]]), .one 3 [.int .i64 ai2], .one 22 [.slice 3 .z 1 bl cap], .ro .u8 b, .ints 5 .u8 L], rfl, rfl, rfl, rfl, ⟨rfl, rfl, rfl, rfl, rfl, trivial⟩, .inr L, p, hk, rfl, acc2, hv2, ai2, h2, .inr ⟨_, rfl, by rw [hLl]; rfl, rfl⟩⟩
end Go.Proofs.Ytkkddgdcmdnnmaa
