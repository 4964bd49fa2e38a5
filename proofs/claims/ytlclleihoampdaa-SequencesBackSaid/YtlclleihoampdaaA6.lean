import Derived.Test.YtlclleihoampdaaA5
set_option linter.unusedVariables false
set_option linter.unusedSimpArgs false
namespace Go.Proofs.Ytlclleihoampdaa
open Go Go.Sx Go.Proofs
set_option maxRecDepth 10000
set_option maxHeartbeats 40000000
theorem write13 (PT : SV → List SB → List Nat → Prop) (n cap : Nat) (f g h : Nat → Int) (rows : List Row) (hf : f = fun m => (rows.getD m (0, 0, 0)).1) (hg : g = fun m => (rows.getD m (0, 0, 0)).2.1) (hh : h = fun m => (rows.getD m (0, 0, 0)).2.2)
  (hn : n = rows.length) (hn3 : n ≤ 3000 ∨ (65535 < n ∧ n ≤ 9223372036854775807))
  (hB : (∃ j, j < n ∧ ¬ Fit3 (f j) (g j) (h j)) → PT (.tup [.val (.slice none 0 0), .int .i64 2]) [.roA 3 n (fun m => [.int .i64 (f m), .int .i64 (g m), .int .i64 (h m)])] [])
  (hL : (∀ j, j < n → Fit3 (f j) (g j) (h j)) → 65535 < n → PT (.tup [.val (.slice none 0 0), .int .i64 3]) [.roA 3 n (fun m => [.int .i64 (f m), .int .i64 (g m), .int .i64 (h m)])] [])
  (hZ : n = 0 → PT (.tup [.slice 1 .z 1 1 1, .int .i64 0]) [.roA 3 n (fun m => [.int .i64 (f m), .int .i64 (g m), .int .i64 (h m)]), .ints 5 .u8 [0]] [])
  (hG : (∀ j, j < n → Fit3 (f j) (g j) (h j)) → 1 ≤ n → n ≤ 3000 → ∀ (q : List Int) (ql c c' : Nat), ql = q.length → ql ≤ c → WOut rows q → PT (.tup [.slice 1 .z 1 ql c, .int .i64 0]) [.roA 3 n (fun m => [.int .i64 (f m), .int .i64 (g m), .int .i64 (h m)]), .buf 5 .u8 q c'] []) :
  Con Try.prog 10 [.slice 0 .z 3 n cap] [.roA 3 n (fun m => [.int .i64 (f m), .int .i64 (g m), .int .i64 (h m)])] PT := by
 obtain ⟨cL, hcL⟩ : ∃ x, x = cntL := ⟨_, rfl⟩
 obtain ⟨cB, hcB⟩ : ∃ x, x = cntB := ⟨_, rfl⟩
 obtain ⟨cM, hcM⟩ : ∃ x, x = cntM := ⟨_, rfl⟩
 obtain ⟨bL, hbL⟩ : ∃ x, x = bitsL := ⟨_, rfl⟩
 obtain ⟨bM, hbM⟩ : ∃ x, x = bitsM := ⟨_, rfl⟩
 obtain ⟨gL, hgL⟩ : ∃ x, x = begL := ⟨_, rfl⟩
 obtain ⟨gM, hgM⟩ : ∃ x, x = begM := ⟨_, rfl⟩
 have hk := kinds_con cL cB cM bL bM gL gM hcL hcB hcM hbL hbM hgL hgM
 have f24 := fn24
 have hch0 := fun q c => choose_0 cL cB cM bL bM gL gM q c
 have hch1 := fun q c => choose_1 cL cB cM bL bM gL gM q c
 have hch2 := fun q c => choose_2 cL cB cM bL bM gL gM q c
 have hval := fun cap i ii => values_con n cap i ii f g h
 have hlog := fun k n c => log_con k n c
 have hofL := fun c f n => ofL_con' c f n gL bL hgL hbL
 have hofM := fun c f n => ofM_con' c f n gM bM hgM hbM
 have hofB := fun c f n => ofB_con' c f n
 have hany := anyState_con
 have hahd := ahead_roA
 have hputw := put_ws
 have hclw := close_ws
 have hcdL := fun v => codeL_con v gL bL hgL hbL
 have hcdM := fun v => codeM_con v gM bM hgM hbM
 have hcdB := fun v => codeB_con' v
 have hput := fun bs c x n => put_con bs c x n
 have hclose := fun bs c => close_con bs c
 refine con_gen (con_moves (con_drop (con_walk hmix fn10 ?_)))
 intro vb vc vw vtoN vofN vaddN vsubN vmaxI vminI vcutN vgd vst vln vrep vsub vonto vsplice vstrEq vbyteV vnotB veqB hw qb qc qw qtoN qofN qaddN qsubN qmaxI qminI qcutN qgd qst qln qrep qsub qonto qsplice qstrEq qbyteV qnotB qeqB
 have hm := hmix; generalize Try.prog = P at *
 have hofn : ∀ n, vofN n = (n : Int) := fun n => by simp only [qofN]
 have hto : ∀ i : Nat, vtoN (i : Int) = i := fun i => by simp only [qtoN, Int.toNat_natCast]
 have hadd0 : ∀ i, vaddN 0 i = i := fun i => by simp only [qaddN, Nat.zero_add]
 obtain ⟨ni, hni⟩ : ∃ ni : Int, ni = n := ⟨_, rfl⟩
 have en : vofN n = ni := by rw [hofn, hni]
 have hln : ∀ l, vln l = l.length := fun l => by simp only [qln]
 cbv
 rw [en]
 repeat refine And.intro (fun _ => rfl) ?_
 refine loop_fam (α := Int × Nat) ([5] ++ (List.range' 35 32)) [] (fun (ii, i) => [(34, .int .i64 ii)]) (fun _ => []) (fun (ii, i) => ii = i ∧ i ≤ n ∧ ∀ j, j < i → Fit3 (f j) (g j) (h j)) (fun (ii, i) => n - i) hw hm ?_ ?_
 ·refine Cv.genAt [34] [] (Cv.fold ([5] ++ (List.range' 35 32)) 2 [] (by exact Nat.le_refl _) (by exact Nat.le_of_ble_eq_true rfl) (by rfl) (by cbv) ?_)
  intro js
  exact ⟨(0, 0), ⟨rfl, Nat.zero_le _, fun j hj => absurd hj (Nat.not_lt_zero j)⟩, js, rfl⟩
 ·rintro ⟨ii, i⟩ js ⟨hi, hin, hfit⟩
  by_cases hlt : i < n
  ·have hl1 : vc .lss ii ni = true := by rw [qc, lss_true]; exact ltc hi hni hlt
   have eti : vtoN ii = i := by rw [hi]; exact hto i
   have hinr : 0 ≤ ii ∧ ii < (n : Int) := inc0 hi hlt
   obtain ⟨ii1, hi1⟩ : ∃ ii1 : Int, ii1 = ((i + 1 : Nat) : Int) := ⟨_, rfl⟩
   have ei1 : vb .add .i64 ii 1 = ii1 := by rw [qb]; exact nextc9 hi hi1 hlt hn3
   have hmu : n - (i + 1) < n - i := Nat.sub_lt_sub_left hlt (Nat.lt_succ_self i)
   have hrow : ∃ x y z, x = f i ∧ y = g i ∧ z = h i := ⟨_, _, _, rfl, rfl, rfl⟩
   obtain ⟨x, y, z, hx, hy, hz⟩ := hrow
   have hai : vaddN 0 i < n := by rw [hadd0]; exact hlt
   have h0n : 0 < n := Nat.lt_of_le_of_lt (Nat.zero_le _) hlt
   cbv
   rw [hl1]
   cbv
   rw [eti]
   refine ⟨⟨hinr⟩, ⟨hai⟩, ⟨hlt⟩, ⟨hlt⟩, ⟨hlt⟩, fun _ => rfl, ?_⟩
   rw [← hx, ← hy, ← hz]
   cases h0 : vc .lss x 0
   ·cbv
    cases h1 : vc .gtr x 131071
    ·cbv
     cases h2 : vc .lss y 3
     ·cbv
      cases h3 : vc .gtr y 131074
      ·cbv
       cases h4 : vc .lss z 1
       ·cbv
        cases h5 : vc .gtr z 268435456
        ·cbv
         cbv
         rw [ei1]
         refine Cv.fold ([5] ++ (List.range' 35 32)) 2 [] (by exact Nat.le_refl _) (by exact Nat.le_of_ble_eq_true rfl) (by rfl) (by cbv) ?_
         intro js
         exact ⟨(ii1, i + 1), ⟨⟨hi1, hlt, fit_next hfit (by rw [← hx, ← hy, ← hz]; exact ⟨⟨(ge_of (by rw [qc, lss_false] at h0; exact h0)), (le_of (by rw [qc, gtr_false] at h1; exact h1))⟩, ⟨(ge_of (by rw [qc, lss_false] at h2; exact h2)), (le_of (by rw [qc, gtr_false] at h3; exact h3))⟩, (ge_of (by rw [qc, lss_false] at h4; exact h4)), (le_of (by rw [qc, gtr_false] at h5; exact h5))⟩)⟩, hmu⟩, js, rfl⟩
        ·cbv
         refine ⟨[], [0], .tup [.val (.slice none 0 0), .lit .i64 2], [.roA 3 n (fun m => [.int .i64 (f m), .int .i64 (g m), .int .i64 (h m)])], rfl, rfl, rfl, rfl, rfl, ?_, ?_⟩
         ·exact ⟨rfl, fun _ => rfl, trivial⟩
         ·exact hB ⟨i, hlt, by rw [← hx, ← hy, ← hz]; exact (fun hf => absurd hf.2.2.2 (Int.not_le.2 (by rw [qc, gtr_true] at h5; exact h5)))⟩
       ·cbv
        refine ⟨[], [0], .tup [.val (.slice none 0 0), .lit .i64 2], [.roA 3 n (fun m => [.int .i64 (f m), .int .i64 (g m), .int .i64 (h m)])], rfl, rfl, rfl, rfl, rfl, ?_, ?_⟩
        ·exact ⟨rfl, fun _ => rfl, trivial⟩
        ·exact hB ⟨i, hlt, by rw [← hx, ← hy, ← hz]; exact (fun hf => absurd hf.2.2.1 (Int.not_le.2 (by rw [qc, lss_true] at h4; exact h4)))⟩
      ·cbv
       refine ⟨[], [0], .tup [.val (.slice none 0 0), .lit .i64 2], [.roA 3 n (fun m => [.int .i64 (f m), .int .i64 (g m), .int .i64 (h m)])], rfl, rfl, rfl, rfl, rfl, ?_, ?_⟩
       ·exact ⟨rfl, fun _ => rfl, trivial⟩
       ·exact hB ⟨i, hlt, by rw [← hx, ← hy, ← hz]; exact (fun hf => absurd hf.2.1.2 (Int.not_le.2 (by rw [qc, gtr_true] at h3; exact h3)))⟩
     ·cbv
      refine ⟨[], [0], .tup [.val (.slice none 0 0), .lit .i64 2], [.roA 3 n (fun m => [.int .i64 (f m), .int .i64 (g m), .int .i64 (h m)])], rfl, rfl, rfl, rfl, rfl, ?_, ?_⟩
      ·exact ⟨rfl, fun _ => rfl, trivial⟩
      ·exact hB ⟨i, hlt, by rw [← hx, ← hy, ← hz]; exact (fun hf => absurd hf.2.1.1 (Int.not_le.2 (by rw [qc, lss_true] at h2; exact h2)))⟩
    ·cbv
     refine ⟨[], [0], .tup [.val (.slice none 0 0), .lit .i64 2], [.roA 3 n (fun m => [.int .i64 (f m), .int .i64 (g m), .int .i64 (h m)])], rfl, rfl, rfl, rfl, rfl, ?_, ?_⟩
     ·exact ⟨rfl, fun _ => rfl, trivial⟩
     ·exact hB ⟨i, hlt, by rw [← hx, ← hy, ← hz]; exact (fun hf => absurd hf.1.2 (Int.not_le.2 (by rw [qc, gtr_true] at h1; exact h1)))⟩
   ·cbv
    refine ⟨[], [0], .tup [.val (.slice none 0 0), .lit .i64 2], [.roA 3 n (fun m => [.int .i64 (f m), .int .i64 (g m), .int .i64 (h m)])], rfl, rfl, rfl, rfl, rfl, ?_, ?_⟩
    ·exact ⟨rfl, fun _ => rfl, trivial⟩
    ·exact hB ⟨i, hlt, by rw [← hx, ← hy, ← hz]; exact (fun hf => absurd hf.1.1 (Int.not_le.2 (by rw [qc, lss_true] at h0; exact h0)))⟩
  ·have hl1 : vc .lss ii ni = false := by rw [qc, lss_false]; exact gec hi hni hlt
   have hin2 : i = n := Nat.le_antisymm hin (Nat.le_of_not_lt hlt)
   rw [hin2] at hfit
   clear hlt hi hin hin2
   by_cases hnl : 65535 < n
   ·have h65 : vc .gtr ni 65535 = true := by rw [qc, gtr_true, hni]; exact Int.ofNat_lt.2 hnl
    cbv
    rw [hl1]
    cbv
    rw [en, h65]
    cbv
    refine ⟨[], [0], .tup [.val (.slice none 0 0), .lit .i64 3], [.roA 3 n (fun m => [.int .i64 (f m), .int .i64 (g m), .int .i64 (h m)])], rfl, rfl, rfl, rfl, rfl, ?_, ?_⟩
    ·exact ⟨rfl, fun _ => rfl, trivial⟩
    ·exact hL hfit hnl
   have hn30 : n ≤ 3000 := hn3.resolve_right (fun h => hnl h.1)
   have h65 : vc .gtr ni 65535 = false := by rw [qc, gtr_false, hni]; exact fun h => hnl (Int.ofNat_lt.1 h)
   by_cases hn0 : n = 0
   ·have h0 : vc .eql ni 0 = true := by rw [qc, eql_true, hni, hn0]; rfl
    cbv
    rw [hl1]
    cbv
    rw [en, h65]
    cbv
    rw [h0]
    cbv
    repeat refine And.intro (fun _ => rfl) ?_
    refine ⟨[], [0, 2], .tup [.slice 1 .z 1 1 1, .lit .i64 0], [.roA 3 n (fun m => [.int .i64 (f m), .int .i64 (g m), .int .i64 (h m)]), .ints 5 .u8 [0]], rfl, rfl, rfl, rfl, rfl, ?_, ?_⟩
    ·exact ⟨rfl, fun _ => rfl, rfl, trivial⟩
    ·exact hZ hn0
   have h0 : vc .eql ni 0 = false := by rw [qc, eql_false, hni]; exact fun h => hn0 (Int.ofNat_eq_zero.1 h)
   have hn1 : 1 ≤ n := Nat.one_le_iff_ne_zero.2 hn0
   refine' key3w _ (fun (js : Nat → Value) (hdr : List Int) (hl : Nat) => hdr = hdrS n ∧ hl = hdr.length) (fun key => ?_) ?_
   rotate_left
   ·by_cases hn128 : n < 128
    ·have h128 : vc .lss ni 128 = true := by rw [qc, lss_true, hni]; exact Int.ofNat_lt.2 hn128
     obtain ⟨hdr, hhdr⟩ : ∃ hdr, hdr = hdrS n := ⟨_, rfl⟩
     have hb1 : [vw .u8 ni] = hdr := by rw [hhdr, hdrS, if_pos hn128, qw]; exact u8_one hni hn128
     obtain ⟨hl, hhl⟩ : ∃ hl, hl = hdr.length := ⟨_, rfl⟩
     have hl1' : hl = 1 := by rw [hhl, ← hb1]; rfl
     cbv
     rw [hl1]
     cbv
     rw [en, h65]
     cbv
     rw [h0]
     cbv
     rw [h128]
     cbv
     rw [hb1]
     (repeat refine And.intro (fun _ => rfl) ?_)
     refine CallX.cv f24.go (Cv.intsB 2 hl (by rfl) hhl.symm (Cv.slotEq 7 (.slice 2 .z 1 hl hl) (by rfl) (fun σ => by rw [hl1']) (Cv.fold [1032068] 3 [] (by exact Nat.le_refl _) (by exact Nat.le_of_ble_eq_true rfl) (by rfl) (by cbv) ?_))) (by rfl)
     intro js2
     cbv
     exact key js2 hdr hl ⟨hhdr, hhl⟩
    ·have h128 : vc .lss ni 128 = false := by rw [qc, lss_false, hni]; exact fun h => hn128 (Int.ofNat_lt.1 h)
     have h325 : vc .lss ni 32512 = true := by rw [qc, lss_true, hni]; exact Int.lt_of_le_of_lt (Int.ofNat_le.2 hn30) (by decide)
     obtain ⟨hdr, hhdr⟩ : ∃ hdr, hdr = hdrS n := ⟨_, rfl⟩
     have hb1 : [vw .u8 (vb .add .i64 (vb .shr .i64 ni 8) 128), vw .u8 ni] = hdr := by rw [hhdr, hdrS, if_neg hn128, qw, qb]; exact u8_two hni hn128 hn30
     obtain ⟨hl, hhl⟩ : ∃ hl, hl = hdr.length := ⟨_, rfl⟩
     have hl1' : hl = 2 := by rw [hhl, ← hb1]; rfl
     cbv
     rw [hl1]
     cbv
     rw [en, h65]
     cbv
     rw [h0]
     cbv
     rw [h128]
     cbv
     rw [h325]
     cbv
     rw [hb1]
     (repeat refine And.intro (fun _ => rfl) ?_)
     refine CallX.cv f24.go (Cv.intsB 2 hl (by rfl) hhl.symm (Cv.slotEq 7 (.slice 2 .z 1 hl hl) (by rfl) (fun σ => by rw [hl1']) (Cv.fold [1032068] 3 [] (by exact Nat.le_refl _) (by exact Nat.le_of_ble_eq_true rfl) (by rfl) (by cbv) ?_))) (by rfl)
     intro js2
     cbv
     exact key js2 hdr hl ⟨hhdr, hhl⟩
   ·intro js hdr hl ⟨hhdr, hhl⟩
    cbv
    refine call_con (ρ := []) hk ⟨by rfl, by rfl, by rfl, by cbv; (repeat' first | (refine And.intro ?_ ?_) | exact trivial | exact ⟨Nat.le_refl _⟩ | exact view_refl _ | exact fun _ => rfl | (simp only [renL3]; done) | (show SB.roA _ _ _ = SB.roA _ _ _; rfl) | exact funext fun _ => rfl)⟩ ?_
    rintro v H R js2 ⟨rfl, cm, rfl, rfl⟩
    cbv
    (repeat refine And.intro (fun _ => rfl) ?_)
    cbv
    rw [en]
    (repeat refine And.intro (fun _ => rfl) ?_)
    refine WX.cv (Cv.nilB 17 0 3 .i64 (by rfl) (by cbv; (repeat' first | (refine And.intro ?_ ?_) | exact trivial | exact ⟨Nat.le_refl _⟩ | exact view_refl _ | exact fun _ => rfl | (simp only [renL3]; done) | (show SB.roA _ _ _ = SB.roA _ _ _; rfl) | exact funext fun _ => rfl)) (Cv.nilB 17 1 3 .i64 (by rfl) (by cbv; (repeat' first | (refine And.intro ?_ ?_) | exact trivial | exact ⟨Nat.le_refl _⟩ | exact view_refl _ | exact fun _ => rfl | (simp only [renL3]; done) | (show SB.roA _ _ _ = SB.roA _ _ _; rfl) | exact funext fun _ => rfl)) (Cv.nilB 17 2 3 .i64 (by rfl) (by cbv; (repeat' first | (refine And.intro ?_ ?_) | exact trivial | exact ⟨Nat.le_refl _⟩ | exact view_refl _ | exact fun _ => rfl | (simp only [renL3]; done) | (show SB.roA _ _ _ = SB.roA _ _ _; rfl) | exact funext fun _ => rfl)) (Cv.here ?_))))
    refine loop_fam (α := Int × Nat × List Int × List Int × List Int × Nat × Nat × Nat) [11, 12, 13, 1105024] [18, 19, 20] (fun (ii, i, l0, l1, l2, k0, k1, k2) => [(104, .int .i64 ii)])
     (fun (ii, i, l0, l1, l2, k0, k1, k2) => [(17, .one 64 [.slice 18 .z 1 i k0, .slice 19 .z 1 i k1, .slice 20 .z 1 i k2]), (18, .buf 3 .i64 l0 k0), (19, .buf 3 .i64 l1 k1), (20, .buf 3 .i64 l2 k2)])
     (fun (ii, i, l0, l1, l2, k0, k1, k2) => ii = i ∧ i ≤ n ∧ Cds f g h l0 l1 l2 i) (fun (ii, i, l0, l1, l2, k0, k1, k2) => n - i) hw hm ?_ ?_
    ·refine Cv.genAt [104] [17] (Cv.fold [11, 12, 13, 1105024] 21 [18, 19, 20] (by exact Nat.le_refl _) (by exact Nat.le_of_ble_eq_true rfl) (by rfl) (by cbv) ?_)
     intro js
     exact ⟨(0, 0, [], [], [], 0, 0, 0), ⟨rfl, Nat.zero_le _, rfl, rfl, rfl, fun j hj => absurd hj (Nat.not_lt_zero j)⟩, js, rfl⟩
    ·rintro ⟨ii, i, l0, l1, l2, k0, k1, k2⟩ js ⟨hi, hin, hcds⟩
     by_cases hlt : i < n
     ·have hl1 : vc .lss ii ni = true := by rw [qc, lss_true]; exact ltc hi hni hlt
      have hvl := fun cap => hval cap i ii hi hlt
      obtain ⟨x, hx⟩ : ∃ x, x = f i := ⟨_, rfl⟩
      obtain ⟨y, hy⟩ : ∃ y, y = g i := ⟨_, rfl⟩
      obtain ⟨z, hz⟩ : ∃ z, z = h i := ⟨_, rfl⟩
      have hfi := hfit i hlt
      simp only [← hx, ← hy, ← hz] at hvl hfi
      cbv
      rw [hl1]
      cbv
      refine call_con (ρ := [(1, .z), (0, .z)]) (hvl cap) ⟨by rfl, by rfl, by rfl, by cbv; (repeat' first | (refine And.intro ?_ ?_) | exact trivial | exact ⟨Nat.le_refl _⟩ | exact view_refl _ | exact fun _ => rfl | (simp only [renL3]; done) | (show SB.roA _ _ _ = SB.roA _ _ _; rfl) | exact funext fun _ => rfl)⟩ ?_
      rintro v H R js3 ⟨rfl, rfl, rfl⟩
      cbv
      (repeat refine And.intro (fun _ => rfl) ?_)
      refine WX.unr 4 hw hm ?_
      cbv
      obtain ⟨i1, hi1⟩ : ∃ i1, i1 = i + 1 := ⟨_, rfl⟩
      have hA1 : vaddN 0 1 = 1 := by simp only [qaddN]
      have hAi : vaddN i 1 = i1 := by simp only [qaddN]; exact hi1.symm
      have hl1c : ∀ c : Int, vln [c] = 1 := fun c => by simp only [qln]; rfl
      have hll0 : vln l0 = i := by rw [hln]; exact hcds.e0
      have hll1 : vln l1 = i := by rw [hln]; exact hcds.e1
      have hll2 : vln l2 = i := by rw [hln]; exact hcds.e2
      have hfit8 : i1 * 8 ≤ 140737488355328 := by rw [hi1]; exact fit8 hlt hn30
      have hap : ∀ (l : List Int) (c : Int), vln l = i → vonto l i (vsub [c] 0 1) = l ++ [c] := fun l c h => by
       rw [hln] at h
       simp only [qonto, qsub]
       rw [← h]
       simp
      obtain ⟨ii1, hii1⟩ : ∃ ii1 : Int, ii1 = (i1 : Int) := ⟨_, rfl⟩
      have ei1 : vb .add .i64 ii 1 = ii1 := by rw [qb]; exact nextc9 hi (by rw [hii1, hi1]) hlt hn3
      have hmu : n - i1 < n - i := by rw [hi1]; exact Nat.sub_lt_sub_left hlt (Nat.lt_succ_self i)
      have hi1n : i1 ≤ n := by rw [hi1]; exact hlt
      (repeat refine And.intro ⟨by decide⟩ ?_)
      refine call_con (ρ := [(9, .z), (10, .z), (7, .z), (8, .z), (6, .z)]) (hcdL x hfi.1) ⟨by rfl, by rfl, by rfl, by cbv; (repeat' first | (refine And.intro ?_ ?_) | exact trivial | exact ⟨Nat.le_refl _⟩ | exact view_refl _ | exact fun _ => rfl | (simp only [renL3]; done) | (show SB.roA _ _ _ = SB.roA _ _ _; rfl) | exact funext fun _ => rfl)⟩ ?_
      rintro v H R js4 ⟨rfl, rfl, c0, rfl, hc0⟩
      obtain ⟨l0', hl0'⟩ : ∃ l, l = l0 ++ [c0] := ⟨_, rfl⟩
      cbv
      (repeat refine And.intro (fun _ => rfl) ?_)
      refine ⟨⟨by rw [hA1, hl1c]; exact Nat.le_refl 1⟩, ⟨by rw [hll0]; exact Nat.le_refl _⟩, ⟨Nat.le_refl _⟩, ⟨by rw [hAi]; exact hfit8⟩, fun _ => rfl, ?_⟩
      intro k0' js5 hk0'
      cbv
      rw [hap l0 c0 hll0, ← hl0', hAi]
      (repeat refine And.intro ⟨by decide⟩ ?_)
      refine call_con (ρ := []) (hcdB z hfi.2.2) ⟨by rfl, by rfl, by rfl, by cbv; (repeat' first | (refine And.intro ?_ ?_) | exact trivial | exact ⟨Nat.le_refl _⟩ | exact view_refl _ | exact fun _ => rfl | (simp only [renL3]; done) | (show SB.roA _ _ _ = SB.roA _ _ _; rfl) | exact funext fun _ => rfl)⟩ ?_
      rintro v H R js4 ⟨rfl, rfl, c1, rfl, hc1⟩
      obtain ⟨l1', hl1'⟩ : ∃ l, l = l1 ++ [c1] := ⟨_, rfl⟩
      cbv
      (repeat refine And.intro (fun _ => rfl) ?_)
      refine ⟨⟨by rw [hA1, hl1c]; exact Nat.le_refl 1⟩, ⟨by rw [hll1]; exact Nat.le_refl _⟩, ⟨Nat.le_refl _⟩, ⟨by rw [hAi]; exact hfit8⟩, fun _ => rfl, ?_⟩
      intro k1' js5 hk1'
      cbv
      rw [hap l1 c1 hll1, ← hl1', hAi]
      (repeat refine And.intro ⟨by decide⟩ ?_)
      refine call_con (ρ := [(14, .z), (15, .z), (12, .z), (13, .z), (11, .z)]) (hcdM y hfi.2.1) ⟨by rfl, by rfl, by rfl, by cbv; (repeat' first | (refine And.intro ?_ ?_) | exact trivial | exact ⟨Nat.le_refl _⟩ | exact view_refl _ | exact fun _ => rfl | (simp only [renL3]; done) | (show SB.roA _ _ _ = SB.roA _ _ _; rfl) | exact funext fun _ => rfl)⟩ ?_
      rintro v H R js4 ⟨rfl, rfl, c2, rfl, hc2⟩
      obtain ⟨l2', hl2'⟩ : ∃ l, l = l2 ++ [c2] := ⟨_, rfl⟩
      cbv
      (repeat refine And.intro (fun _ => rfl) ?_)
      refine ⟨⟨by rw [hA1, hl1c]; exact Nat.le_refl 1⟩, ⟨by rw [hll2]; exact Nat.le_refl _⟩, ⟨Nat.le_refl _⟩, ⟨by rw [hAi]; exact hfit8⟩, fun _ => rfl, ?_⟩
      intro k2' js5 hk2'
      cbv
      rw [hap l2 c2 hll2, ← hl2', hAi]
      (repeat refine And.intro ⟨by decide⟩ ?_)
      rw [ei1]
      refine Cv.fold [11, 12, 13, 1105024] 21 [18, 19, 20] (by exact Nat.le_refl _) (by exact Nat.le_of_ble_eq_true rfl) (by rfl) (by cbv) ?_
      intro js
      refine ⟨(ii1, i1, l0', l1', l2', k0', k1', k2'), ⟨⟨hii1, hi1n, ?_⟩, hmu⟩, js, rfl⟩
      rw [hi1, hl0', hl1', hl2']
      exact cds_next hcds (hx ▸ hc0) (hz ▸ hc1) (hy ▸ hc2)
     ·have hl1 : vc .lss ii ni = false := by rw [qc, lss_false]; exact gec hi hni hlt
      have hin2 : i = n := Nat.le_antisymm hin (Nat.le_of_not_lt hlt)
      have hin3 : n = i := hin2.symm
      subst hin3
      clear hlt hi hin
      obtain ⟨he0, he1, he2, hcd⟩ := hcds
      have hch0 := fun cap => hch0 l0 cm cap hcL (by rw [he0]; exact hn1) (by rw [he0]; exact Nat.le_trans hn30 (by decide)) (fun c hc => cd_mem 35 he0 (fun j hj => (hcd j hj).1) hc)
      have hch1 := fun cap => hch1 l1 cm cap hcB (by rw [he1]; exact hn1) (by rw [he1]; exact Nat.le_trans hn30 (by decide)) (fun c hc => cd_mem 31 he1 (fun j hj => (hcd j hj).2.1) hc)
      have hch2 := fun cap => hch2 l2 cm cap hcM (by rw [he2]; exact hn1) (by rw [he2]; exact Nat.le_trans hn30 (by decide)) (fun c hc => cd_mem 52 he2 (fun j hj => (hcd j hj).2.2) hc)
      simp only [he0] at hch0
      simp only [he1] at hch1
      simp only [he2] at hch2
      cbv
      rw [hl1]
      cbv
      (repeat refine And.intro (fun _ => rfl) ?_)
      refine WX.unr 4 hw hm ?_
      cbv
      (repeat refine And.intro ⟨by decide⟩ ?_)
      refine call_con (ρ := [(16, .z), (18, .z), (3, .z), (4, .z), (5, .z), (6, .z), (7, .z), (8, .z), (9, .z), (10, .z), (11, .z), (12, .z), (13, .z), (14, .z), (15, .z)]) (hch0 k0) ⟨by rfl, by rfl, by rfl, by cbv; (repeat' first | (refine And.intro ?_ ?_) | exact trivial | exact ⟨Nat.le_refl _⟩ | exact view_refl _ | exact fun _ => rfl | (simp only [renL3]; done) | (show SB.roA _ _ _ = SB.roA _ _ _; rfl) | exact funext fun _ => rfl)⟩ ?_
      rintro v H R js4 ⟨rfl, w0, hd0, N0, A0, B0, C0, m0, c0, t0, d0, hchs0, hv, rfl⟩
      obtain ⟨hl0, hhl0⟩ : ∃ x, x = hd0.length := ⟨_, rfl⟩
      rw [← hhl0] at hv
      subst hv
      cbv
      (repeat refine And.intro (fun _ => rfl) ?_)
      (repeat refine And.intro ⟨by decide⟩ ?_)
      refine call_con (ρ := [(16, .z), (19, .z), (3, .z), (4, .z), (5, .z), (6, .z), (7, .z), (8, .z), (9, .z), (10, .z), (11, .z), (12, .z), (13, .z), (14, .z), (15, .z)]) (hch1 k1) ⟨by rfl, by rfl, by rfl, by cbv; (repeat' first | (refine And.intro ?_ ?_) | exact trivial | exact ⟨Nat.le_refl _⟩ | exact view_refl _ | exact fun _ => rfl | (simp only [renL3]; done) | (show SB.roA _ _ _ = SB.roA _ _ _; rfl) | exact funext fun _ => rfl)⟩ ?_
      rintro v H R js4 ⟨rfl, w1, hd1, N1, A1, B1, C1, m1, c1, t1, d1, hchs1, hv, rfl⟩
      obtain ⟨hl1', hhl1⟩ : ∃ x, x = hd1.length := ⟨_, rfl⟩
      rw [← hhl1] at hv
      subst hv
      cbv
      (repeat refine And.intro (fun _ => rfl) ?_)
      (repeat refine And.intro ⟨by decide⟩ ?_)
      refine call_con (ρ := [(16, .z), (20, .z), (3, .z), (4, .z), (5, .z), (6, .z), (7, .z), (8, .z), (9, .z), (10, .z), (11, .z), (12, .z), (13, .z), (14, .z), (15, .z)]) (hch2 k2) ⟨by rfl, by rfl, by rfl, by cbv; (repeat' first | (refine And.intro ?_ ?_) | exact trivial | exact ⟨Nat.le_refl _⟩ | exact view_refl _ | exact fun _ => rfl | (simp only [renL3]; done) | (show SB.roA _ _ _ = SB.roA _ _ _; rfl) | exact funext fun _ => rfl)⟩ ?_
      rintro v H R js4 ⟨rfl, w2, hd2, N2, A2, B2, C2, m2, c2, t2, d2, hchs2, hv, rfl⟩
      obtain ⟨hl2, hhl2'⟩ : ∃ x, x = hd2.length := ⟨_, rfl⟩
      rw [← hhl2'] at hv
      subst hv
      cbv
      (repeat refine And.intro (fun _ => rfl) ?_)
      (repeat refine And.intro ⟨by decide⟩ ?_)
      obtain ⟨W, hW⟩ : ∃ W, W = w0 * 64 + w1 * 16 + w2 * 4 := ⟨_, rfl⟩
      have eW : vb .or .u8 (vb .or .u8 (vb .or .u8 0 (vb .shl .u8 w0 6)) (vb .shl .u8 w1 4)) (vb .shl .u8 w2 2) = W := by rw [hW, qb]; exact ways_eq hchs0.wr hchs1.wr hchs2.wr
      rw [eW]
      have hl1c : ∀ c : Int, vln [c] = 1 := fun c => by simp only [qln]; rfl
      have hapq : ∀ (l s : List Int) (a m : Nat), vln l = a → vln s = m → vonto l a (vsub s 0 m) = l ++ s := fun l s a m h1 h2 => by
       rw [hln] at h1 h2
       simp only [qonto, qsub]
       rw [← h1, ← h2]
       simp
      have hlnh : vln hdr = hl := by rw [hln]; exact hhl.symm
      have hhl2 : hl ≤ 2 := by rw [hhl, hhdr]; exact hdrS_len n
      have hln0 : vln hd0 = hl0 := by rw [hln]; exact hhl0.symm
      have hln1 : vln hd1 = hl1' := by rw [hln]; exact hhl1.symm
      have hln2 : vln hd2 = hl2 := by rw [hln]; exact hhl2'.symm
      have hb0 : hl0 ≤ 700 := by rw [hhl0]; exact hchs0.hl
      have hb1 : hl1' ≤ 700 := by rw [hhl1]; exact hchs1.hl
      have hb2 : hl2 ≤ 700 := by rw [hhl2']; exact hchs2.hl
      obtain ⟨q1, hq1⟩ : ∃ l, l = hdr ++ [W] := ⟨_, rfl⟩
      obtain ⟨a1, ha1⟩ : ∃ a, a = hl + 1 := ⟨_, rfl⟩
      have hlnq1 : vln q1 = a1 := by rw [hln, hq1, List.length_append, ha1, ← hln, ← hln, hlnh, (hl1c W)]
      have eAq1 : vaddN hl 1 = a1 := by rw [ha1]; simp only [qaddN]
      have hOq1 := hapq hdr [W] hl 1 hlnh (hl1c W)
      rw [← hq1] at hOq1
      (repeat refine And.intro ⟨by decide⟩ ?_)
      (repeat refine And.intro (fun _ => rfl) ?_)
      refine ⟨⟨by rw [hadd0, (hl1c W)]; exact Nat.le_refl _⟩, ⟨by rw [hlnh]; exact Nat.le_refl _⟩, ⟨Nat.le_refl _⟩, ⟨by rw [eAq1, ha1]; exact fitq (by omega)⟩, ?_⟩
      (repeat refine And.intro (fun _ => rfl) ?_)
      intro kq1 js5 hkq1
      have hkq1 : Le (vaddN hl 1) kq1 := hkq1
      rw [eAq1] at hkq1
      cbv
      rw [hOq1, eAq1]
      (repeat refine And.intro (fun _ => rfl) ?_)
      refine WX.unr 4 hw hm ?_
      cbv
      obtain ⟨q2, hq2⟩ : ∃ l, l = q1 ++ hd0 := ⟨_, rfl⟩
      obtain ⟨a2, ha2⟩ : ∃ a, a = a1 + hl0 := ⟨_, rfl⟩
      have hlnq2 : vln q2 = a2 := by rw [hln, hq2, List.length_append, ha2, ← hln, ← hln, hlnq1, hln0]
      have eAq2 : vaddN a1 hl0 = a2 := by rw [ha2]; simp only [qaddN]
      have hOq2 := hapq q1 hd0 a1 hl0 hlnq1 hln0
      rw [← hq2] at hOq2
      (repeat refine And.intro ⟨by decide⟩ ?_)
      (repeat refine And.intro (fun _ => rfl) ?_)
      refine ⟨⟨by rw [hadd0, hln0]; exact Nat.le_refl _⟩, ⟨by rw [hlnq1]; exact Nat.le_refl _⟩, ⟨Nat.le_refl _⟩, ⟨by rw [eAq2, ha2]; exact fitq (by omega)⟩, ?_⟩
      (repeat refine And.intro (fun _ => rfl) ?_)
      intro kq2 js5 hkq2
      have hkq2 : Le (vaddN a1 hl0) kq2 := hkq2
      rw [eAq2] at hkq2
      cbv
      rw [hOq2, eAq2]
      obtain ⟨q3, hq3⟩ : ∃ l, l = q2 ++ hd1 := ⟨_, rfl⟩
      obtain ⟨a3, ha3⟩ : ∃ a, a = a2 + hl1' := ⟨_, rfl⟩
      have hlnq3 : vln q3 = a3 := by rw [hln, hq3, List.length_append, ha3, ← hln, ← hln, hlnq2, hln1]
      have eAq3 : vaddN a2 hl1' = a3 := by rw [ha3]; simp only [qaddN]
      have hOq3 := hapq q2 hd1 a2 hl1' hlnq2 hln1
      rw [← hq3] at hOq3
      (repeat refine And.intro ⟨by decide⟩ ?_)
      (repeat refine And.intro (fun _ => rfl) ?_)
      refine ⟨⟨by rw [hadd0, hln1]; exact Nat.le_refl _⟩, ⟨by rw [hlnq2]; exact Nat.le_refl _⟩, ⟨Nat.le_refl _⟩, ⟨by rw [eAq3, ha3]; exact fitq (by omega)⟩, ?_⟩
      (repeat refine And.intro (fun _ => rfl) ?_)
      intro kq3 js5 hkq3
      have hkq3 : Le (vaddN a2 hl1') kq3 := hkq3
      rw [eAq3] at hkq3
      cbv
      rw [hOq3, eAq3]
      obtain ⟨q4, hq4⟩ : ∃ l, l = q3 ++ hd2 := ⟨_, rfl⟩
      obtain ⟨a4, ha4⟩ : ∃ a, a = a3 + hl2 := ⟨_, rfl⟩
      have hlnq4 : vln q4 = a4 := by rw [hln, hq4, List.length_append, ha4, ← hln, ← hln, hlnq3, hln2]
      have eAq4 : vaddN a3 hl2 = a4 := by rw [ha4]; simp only [qaddN]
      have hOq4 := hapq q3 hd2 a3 hl2 hlnq3 hln2
      rw [← hq4] at hOq4
      (repeat refine And.intro ⟨by decide⟩ ?_)
      (repeat refine And.intro (fun _ => rfl) ?_)
      refine ⟨⟨by rw [hadd0, hln2]; exact Nat.le_refl _⟩, ⟨by rw [hlnq3]; exact Nat.le_refl _⟩, ⟨Nat.le_refl _⟩, ⟨by rw [eAq4, ha4]; exact fitq (by omega)⟩, ?_⟩
      (repeat refine And.intro (fun _ => rfl) ?_)
      intro kq4 js5 hkq4
      have hkq4 : Le (vaddN a3 hl2) kq4 := hkq4
      rw [eAq4] at hkq4
      cbv
      rw [hOq4, eAq4]
      (repeat refine And.intro (fun _ => rfl) ?_)
      have hr3 : vrep 3 0 = [0, 0, 0] := by simp only [qrep]; rfl
      have hl3 : ∀ x y z : Int, vln [x, y, z] = 3 := fun x y z => by simp only [qln]; rfl
      have hst0 : ∀ x y z w : Int, vst [x, y, z] 0 w = [w, y, z] := fun x y z w => by simp only [qst]; rfl
      have hst1 : ∀ x y z w : Int, vst [x, y, z] 1 w = [x, w, z] := fun x y z w => by simp only [qst]; rfl
      have hst2 : ∀ x y z w : Int, vst [x, y, z] 2 w = [x, y, w] := fun x y z w => by simp only [qst]; rfl
      have hgd0 : ∀ x y z : Int, vgd [x, y, z] 0 = x := fun x y z => by simp only [qgd]; rfl
      have hgd1 : ∀ x y z : Int, vgd [x, y, z] 1 = y := fun x y z => by simp only [qgd]; rfl
      have hgd2 : ∀ x y z : Int, vgd [x, y, z] 2 = z := fun x y z => by simp only [qgd]; rfl
      have hnt : vnotB true = false := by rw [qnotB]; rfl
      obtain ⟨nm1, hnm1⟩ : ∃ x : Int, x = (n : Int) - 1 := ⟨_, rfl⟩
      have esub : vb .sub .i64 ni 1 = nm1 := by rw [qb]; exact sub_n1 hni hnm1 hn30
      rw [hr3, esub]
      refine WX.cv (Cv.nilB 29 0 5 .u8 (by rfl) (by cbv; (repeat' first | (refine And.intro ?_ ?_) | exact trivial | exact ⟨Nat.le_refl _⟩ | exact view_refl _ | exact fun _ => rfl | (simp only [renL3]; done) | (show SB.roA _ _ _ = SB.roA _ _ _; rfl) | exact funext fun _ => rfl)) (Cv.here ?_))
      refine loop_fam (α := Int × Nat × Int × Int × Int × List Int × List Int × Nat × Int × Nat) [22, 23, 24, 26, 27, 28, 29, 1170110] [18, 19, 20, 2, 31] (fun (ii, i, s0, s1, s2, bs, lb, nb, mb, cb) => [(20, .int .i64 ii)])
       (fun (ii, i, s0, s1, s2, bs, lb, nb, mb, cb) => [(29, .one 71 [.slice 31 .z 1 nb cb, .int .i64 mb]), (30, .ints 61 .i64 [s0, s1, s2]), (31, .buf 5 .u8 lb cb)])
       (fun (ii, i, s0, s1, s2, bs, lb, nb, mb, cb) => ii = (i : Int) - 1 ∧ i ≤ n ∧ WS bs lb nb mb ∧ bs.length + 200 * i ≤ 200 * n ∧ ((i = n ∧ bs = []) ∨ (i < n ∧ ∃ k0 k1 k2 : Nat, s0 = k0 ∧ s1 = k1 ∧ s2 = k2 ∧ Enc3 ⟨N0, A0, B0, C0⟩ ⟨N1, A1, B1, C1⟩ ⟨N2, A2, B2, C2⟩ (rows.drop i) k0 k1 k2 bs)))
       (fun (ii, i, s0, s1, s2, bs, lb, nb, mb, cb) => i) hw hm ?_ ?_
      ·refine Cv.genAt [20] [29] (Cv.fold [22, 23, 24, 26, 27, 28, 29, 1170110] 32 [18, 19, 20, 2, 31] (by exact Nat.le_refl _) (by exact Nat.le_of_ble_eq_true rfl) (by rfl) (by cbv) ?_)
       intro js
       exact ⟨(nm1, n, 0, 0, 0, [], [], 0, 0, 0), ⟨hnm1, Nat.le_refl _, WS.nil, Nat.le_of_eq (by simp), .inl ⟨rfl, rfl⟩⟩, js, rfl⟩
      ·rintro ⟨ii, i, s0, s1, s2, bs, lb, nb, mb, cb⟩ js ⟨hii, hin, hws, hbl, hst⟩
       by_cases hi0 : i = 0
       ·subst hi0
        obtain ⟨_, p0, p1, p2, hp0, hp1, hp2, henc⟩ := hst.resolve_left (fun h => hn0 h.1.symm)
        have hge : vc .geq ii 0 = false := by rw [qc, geq_false, hii]; decide
        obtain ⟨x0, hx0, hx0l, hx0n, _⟩ := chs_tf hchs0
        obtain ⟨x1, hx1, hx1l, hx1n, _⟩ := chs_tf hchs1
        obtain ⟨x2, hx2, hx2l, hx2n, _⟩ := chs_tf hchs2
        have hpr := enc3_first henc
        have hsr0 := st_rng hp0 hpr.1 hx0n
        have hsr1 := st_rng hp1 hpr.2.1 hx1n
        have hsr2 := st_rng hp2 hpr.2.2 hx2n
        have hwu0 : vw .u64 s0 = s0 := by rw [qw]; exact wrap_u64 hsr0.1 (Int.lt_trans hsr0.2 (by decide))
        have hwu1 : vw .u64 s1 = s1 := by rw [qw]; exact wrap_u64 hsr1.1 (Int.lt_trans hsr1.2 (by decide))
        have hwu2 : vw .u64 s2 = s2 := by rw [qw]; exact wrap_u64 hsr2.1 (Int.lt_trans hsr2.2 (by decide))
        as_aux_lemma =>
        cbv
        rw [hge]
        cbv
        refine WX.unr 4 hw hm ?_
        cbv
        (repeat refine And.intro ⟨by decide⟩ ?_)
        (repeat first | refine And.intro ⟨by decide⟩ ?_ | refine And.intro ⟨by rw [hl3]; decide⟩ ?_)
        rw [hgd2, hwu2]
        refine call_con (ρ := [(26, .z)]) (hlog x2 N2 t2 A2 B2 C2 hx2 hx2l) ⟨by rfl, by rfl, by rfl, by cbv; (repeat' first | (refine And.intro ?_ ?_) | exact trivial | exact ⟨Nat.le_refl _⟩ | exact view_refl _ | exact fun _ => rfl | (simp only [renL3]; done) | (show SB.roA _ _ _ = SB.roA _ _ _; rfl) | exact funext fun _ => rfl)⟩ ?_
        rintro v H R js4 ⟨⟨xi2, hxi2, rfl⟩, rfl, rfl⟩
        have hlf1 := lg_facts hxi2 hx2l
        obtain ⟨bs1, hbs1⟩ : ∃ l, l = bs ++ bitsN s2 xi2.toNat := ⟨_, rfl⟩
        have hbl1 : bs1.length ≤ bs.length + 12 := bs_add hbs1 hlf1.1
        have hpw1 := hputw bs lb cb nb s2 xi2 mb ⟨hsr2.1, Int.lt_trans hsr2.2 (by decide)⟩ hlf1.2.1 hws (le40 (n := n) (k := 0) (hbl) hn30 (by decide))
        rw [← hbs1] at hpw1
        cbv
        (repeat refine And.intro (fun _ => rfl) ?_)
        (repeat first | refine And.intro ⟨⟨by rw [hl3]; decide⟩, by rw [hgd2]⟩ ?_ | refine And.intro ⟨by decide⟩ ?_ | refine And.intro ⟨by rw [hl3]; decide⟩ ?_)
        refine call_con (ρ := [(29, .z), (31, .z)]) hpw1 ⟨by rfl, by rfl, by rfl, by cbv; (repeat' first | (refine And.intro ?_ ?_) | exact trivial | exact ⟨Nat.le_refl _⟩ | exact view_refl _ | exact fun _ => rfl | (simp only [renL3]; done) | (show SB.roA _ _ _ = SB.roA _ _ _; rfl) | exact funext fun _ => rfl)⟩ ?_
        rintro v H R js4 ⟨rfl, lb1, nb1, mb1, cb1, hws1, rfl, rfl⟩
        cbv
        (repeat refine And.intro (fun _ => rfl) ?_)
        (repeat first | refine And.intro ⟨⟨by rw [hl3]; decide⟩, by rw [hgd2]⟩ ?_ | refine And.intro ⟨by decide⟩ ?_ | refine And.intro ⟨by rw [hl3]; decide⟩ ?_)
        rw [hgd1, hwu1]
        refine call_con (ρ := [(24, .z)]) (hlog x1 N1 t1 A1 B1 C1 hx1 hx1l) ⟨by rfl, by rfl, by rfl, by cbv; (repeat' first | (refine And.intro ?_ ?_) | exact trivial | exact ⟨Nat.le_refl _⟩ | exact view_refl _ | exact fun _ => rfl | (simp only [renL3]; done) | (show SB.roA _ _ _ = SB.roA _ _ _; rfl) | exact funext fun _ => rfl)⟩ ?_
        rintro v H R js4 ⟨⟨xi1, hxi1, rfl⟩, rfl, rfl⟩
        have hlf2 := lg_facts hxi1 hx1l
        obtain ⟨bs2, hbs2⟩ : ∃ l, l = bs1 ++ bitsN s1 xi1.toNat := ⟨_, rfl⟩
        have hbl2 : bs2.length ≤ bs1.length + 12 := bs_add hbs2 hlf2.1
        have hpw2 := hputw bs1 lb1 cb1 nb1 s1 xi1 mb1 ⟨hsr1.1, Int.lt_trans hsr1.2 (by decide)⟩ hlf2.2.1 hws1 (le40 (n := n) (k := 12) (Nat.le_trans hbl1 (Nat.add_le_add_right hbl 12)) hn30 (by decide))
        rw [← hbs2] at hpw2
        cbv
        (repeat refine And.intro (fun _ => rfl) ?_)
        (repeat first | refine And.intro ⟨⟨by rw [hl3]; decide⟩, by rw [hgd1]⟩ ?_ | refine And.intro ⟨by decide⟩ ?_ | refine And.intro ⟨by rw [hl3]; decide⟩ ?_)
        refine call_con (ρ := [(29, .z), (31, .z)]) hpw2 ⟨by rfl, by rfl, by rfl, by cbv; (repeat' first | (refine And.intro ?_ ?_) | exact trivial | exact ⟨Nat.le_refl _⟩ | exact view_refl _ | exact fun _ => rfl | (simp only [renL3]; done) | (show SB.roA _ _ _ = SB.roA _ _ _; rfl) | exact funext fun _ => rfl)⟩ ?_
        rintro v H R js4 ⟨rfl, lb2, nb2, mb2, cb2, hws2, rfl, rfl⟩
        cbv
        (repeat refine And.intro (fun _ => rfl) ?_)
        (repeat first | refine And.intro ⟨⟨by rw [hl3]; decide⟩, by rw [hgd1]⟩ ?_ | refine And.intro ⟨by decide⟩ ?_ | refine And.intro ⟨by rw [hl3]; decide⟩ ?_)
        rw [hgd0, hwu0]
        refine call_con (ρ := [(22, .z)]) (hlog x0 N0 t0 A0 B0 C0 hx0 hx0l) ⟨by rfl, by rfl, by rfl, by cbv; (repeat' first | (refine And.intro ?_ ?_) | exact trivial | exact ⟨Nat.le_refl _⟩ | exact view_refl _ | exact fun _ => rfl | (simp only [renL3]; done) | (show SB.roA _ _ _ = SB.roA _ _ _; rfl) | exact funext fun _ => rfl)⟩ ?_
        rintro v H R js4 ⟨⟨xi0, hxi0, rfl⟩, rfl, rfl⟩
        have hlf3 := lg_facts hxi0 hx0l
        obtain ⟨bs3, hbs3⟩ : ∃ l, l = bs2 ++ bitsN s0 xi0.toNat := ⟨_, rfl⟩
        have hbl3 : bs3.length ≤ bs2.length + 12 := bs_add hbs3 hlf3.1
        have hpw3 := hputw bs2 lb2 cb2 nb2 s0 xi0 mb2 ⟨hsr0.1, Int.lt_trans hsr0.2 (by decide)⟩ hlf3.2.1 hws2 (le40 (n := n) (k := 24) (Nat.le_trans hbl2 (Nat.add_le_add_right (Nat.le_trans hbl1 (Nat.add_le_add_right hbl 12)) 12)) hn30 (by decide))
        rw [← hbs3] at hpw3
        cbv
        (repeat refine And.intro (fun _ => rfl) ?_)
        (repeat first | refine And.intro ⟨⟨by rw [hl3]; decide⟩, by rw [hgd0]⟩ ?_ | refine And.intro ⟨by decide⟩ ?_ | refine And.intro ⟨by rw [hl3]; decide⟩ ?_)
        refine call_con (ρ := [(29, .z), (31, .z)]) hpw3 ⟨by rfl, by rfl, by rfl, by cbv; (repeat' first | (refine And.intro ?_ ?_) | exact trivial | exact ⟨Nat.le_refl _⟩ | exact view_refl _ | exact fun _ => rfl | (simp only [renL3]; done) | (show SB.roA _ _ _ = SB.roA _ _ _; rfl) | exact funext fun _ => rfl)⟩ ?_
        rintro v H R js4 ⟨rfl, lb3, nb3, mb3, cb3, hws3, rfl, rfl⟩
        cbv
        (repeat refine And.intro (fun _ => rfl) ?_)
        (repeat first | refine And.intro ⟨⟨by rw [hl3]; decide⟩, by rw [hgd0]⟩ ?_ | refine And.intro ⟨by decide⟩ ?_ | refine And.intro ⟨by rw [hl3]; decide⟩ ?_)
        refine call_con (ρ := [(29, .z), (31, .z)]) (hclw bs3 lb3 cb3 nb3 mb3 hws3 (le40 (n := n) (k := 36) (Nat.le_trans hbl3 (Nat.add_le_add_right (Nat.le_trans hbl2 (Nat.add_le_add_right (Nat.le_trans hbl1 (Nat.add_le_add_right hbl 12)) 12)) 12)) hn30 (by decide))) ⟨by rfl, by rfl, by rfl, by cbv; (repeat' first | (refine And.intro ?_ ?_) | exact trivial | exact ⟨Nat.le_refl _⟩ | exact view_refl _ | exact fun _ => rfl | (simp only [renL3]; done) | (show SB.roA _ _ _ = SB.roA _ _ _; rfl) | exact funext fun _ => rfl)⟩ ?_
        rintro v H R js4 ⟨rfl, pk, npk, cpk, hpk, hnpk, rfl, rfl⟩
        cbv
        (repeat refine And.intro (fun _ => rfl) ?_)
        have hb37 : bs3.length ≤ 200 * n + 36 := Nat.le_trans hbl3 (Nat.add_le_add_right (Nat.le_trans hbl2 (Nat.add_le_add_right (Nat.le_trans hbl1 (Nat.add_le_add_right hbl 12)) 12)) 12)
        have hpk7 := pk_len hpk hnpk hb37 hn30
        have hlnpk : vln pk = npk := by rw [hln]; exact hnpk.symm
        obtain ⟨q5, hq5⟩ : ∃ l, l = q4 ++ pk := ⟨_, rfl⟩
        obtain ⟨a5, ha5⟩ : ∃ a, a = a4 + npk := ⟨_, rfl⟩
        have eAq5 : vaddN a4 npk = a5 := by rw [ha5]; simp only [qaddN]
        have hOq5 := hapq q4 pk a4 npk hlnq4 hlnpk
        rw [← hq5] at hOq5
        have hfq5 : a5 ≤ 100000 := by rw [ha5, ha4, ha3, ha2, ha1]; omega
        refine ⟨⟨by rw [hadd0, hlnpk]; exact Nat.le_refl _⟩, ⟨by rw [hlnq4]; exact Nat.le_refl _⟩, ⟨Nat.le_refl _⟩, ⟨by rw [eAq5, ha5]; exact fitq (by rw [← ha5]; exact hfq5)⟩, ?_⟩
        (repeat refine And.intro (fun _ => rfl) ?_)
        intro kq5 js5 hkq5
        have hkq5 : Le (vaddN a4 npk) kq5 := hkq5
        rw [eAq5] at hkq5
        have hkq5' : a5 ≤ kq5 := hkq5.out
        cbv
        rw [hOq5, eAq5]
        refine ⟨[], [0, 2], .tup [.slice 1 .z 1 a5 kq5, .lit .i64 0], [.roA 3 n (fun m => [.int .i64 (f m), .int .i64 (g m), .int .i64 (h m)]), .buf 5 .u8 q5 kq5], rfl, rfl, rfl, rfl, rfl, ?_, ?_⟩
        ·exact ⟨rfl, fun _ => rfl, rfl, trivial⟩
        ·exact hG hfit hn1 hn30 q5 a5 kq5 kq5 (by rw [hq5, List.length_append, ← hln q4, ← hln pk, hlnq4, hlnpk]; exact ha5) hkq5' (wout_of hn hhdr hW hq1 hq2 hq3 hq4 hq5 hpk hbs1 hbs2 hbs3 hxi0 hxi1 hxi2 hp0 hp1 hp2 hchs0 hchs1 hchs2 hx0 hx1 hx2 hx0l hx1l hx2l henc)
       ·obtain ⟨j, hj⟩ : ∃ j, i = j + 1 := ⟨i - 1, (Nat.succ_pred_eq_of_ne_zero hi0).symm⟩
        subst hj
        have hjn : j < n := hin
        have hij : ii = (j : Int) := by rw [hii]; push_cast; omega
        obtain ⟨ii1, hii1⟩ : ∃ x : Int, x = (j : Int) - 1 := ⟨_, rfl⟩
        have edec : vb .sub .i64 ii 1 = ii1 := by rw [qb]; exact dec1 hij hii1 (Nat.le_trans (Nat.le_of_lt hjn) (Nat.le_trans hn30 (by decide)))
        have hge : vc .geq ii 0 = true := by rw [qc, geq_true, hij]; exact Int.natCast_nonneg j
        have etj : vtoN ii = j := by rw [hij]; exact hto j
        have hinr : 0 ≤ ii ∧ ii < (n : Int) := inc0 hij hjn
        obtain ⟨e0, he0v⟩ : ∃ c, c = l0.getD j 0 := ⟨_, rfl⟩
        obtain ⟨e1, he1v⟩ : ∃ c, c = l1.getD j 0 := ⟨_, rfl⟩
        obtain ⟨e2, he2v⟩ : ∃ c, c = l2.getD j 0 := ⟨_, rfl⟩
        have hg0 : vgd l0 j = e0 := by simp only [qgd]; exact he0v.symm
        have hg1 : vgd l1 j = e1 := by simp only [qgd]; exact he1v.symm
        have hg2 : vgd l2 j = e2 := by simp only [qgd]; exact he2v.symm
        obtain ⟨hcd0, hcd1, hcd2⟩ := hcd j hjn
        rw [← he0v] at hcd0
        rw [← he1v] at hcd1
        rw [← he2v] at hcd2
        have hT0 := tc_of hchs0 (getD_memL he0v (by rw [he0]; exact hjn)) ⟨hcd0.1, hcd0.2.1⟩ (by decide)
        have hT1 := tc_of hchs1 (getD_memL he1v (by rw [he1]; exact hjn)) ⟨hcd1.1, hcd1.2.1⟩ (by decide)
        have hT2 := tc_of hchs2 (getD_memL he2v (by rw [he2]; exact hjn)) ⟨hcd2.1, hcd2.2.1⟩ (by decide)
        have hvl := hval cap j ii hij hjn
        obtain ⟨x, hx⟩ : ∃ x, x = f j := ⟨_, rfl⟩
        obtain ⟨y, hy⟩ : ∃ y, y = g j := ⟨_, rfl⟩
        obtain ⟨z, hz⟩ : ∃ z, z = h j := ⟨_, rfl⟩
        have hfj := hfit j hjn
        rw [← hx, ← hy, ← hz] at hfj
        rw [← hx] at hcd0
        rw [← hz] at hcd1
        rw [← hy] at hcd2
        simp only [← hx, ← hy, ← hz] at hvl
        obtain ⟨⟨f0, n0⟩, hof0⟩ : ∃ p, p = ofL e0 := ⟨_, rfl⟩
        obtain ⟨⟨f1, n1⟩, hof1⟩ : ∃ p, p = ofB e1 := ⟨_, rfl⟩
        obtain ⟨⟨f2, n2⟩, hof2⟩ : ∃ p, p = ofM e2 := ⟨_, rfl⟩
        have hrg0 := ofL_range ⟨hcd0.1, hcd0.2.1⟩
        have hrg1 := ofB_range ⟨hcd1.1, hcd1.2.1⟩
        have hrg2 := ofM_range ⟨hcd2.1, hcd2.2.1⟩
        rw [← hof0] at hrg0
        rw [← hof1] at hrg1
        rw [← hof2] at hrg2
        obtain ⟨dx0, hdx0⟩ : ∃ d, d = x - f0 := ⟨_, rfl⟩
        obtain ⟨dx1, hdx1⟩ : ∃ d, d = z - f1 := ⟨_, rfl⟩
        obtain ⟨dx2, hdx2⟩ : ∃ d, d = y - f2 := ⟨_, rfl⟩
        have hD0 := dx_facts hcd0 hof0 (range_n hrg0) (range_f hrg0) (by have := hfj.1; omega) hdx0
        have hD1 := dx_facts hcd1 hof1 (range_n hrg1) (range_f hrg1) (by have := hfj.2.2; omega) hdx1
        have hD2 := dx_facts hcd2 hof2 (range_n hrg2) (range_f hrg2) (by have := hfj.2.1; omega) hdx2
        have hsx0 : vb .sub .i64 x f0 = dx0 := by rw [qb]; exact hD0.1
        have hsx1 : vb .sub .i64 z f1 = dx1 := by rw [qb]; exact hD1.1
        have hsx2 : vb .sub .i64 y f2 = dx2 := by rw [qb]; exact hD2.1
        have hwx0 : vw .u64 dx0 = dx0 := by rw [qw]; exact hD0.2.1
        have hwx1 : vw .u64 dx1 = dx1 := by rw [qw]; exact hD1.2.1
        have hwx2 : vw .u64 dx2 = dx2 := by rw [qw]; exact hD2.2.1
        have hlt0 : j < vln l0 := by rw [hln, he0]; exact hjn
        have hlt1 : j < vln l1 := by rw [hln, he1]; exact hjn
        have hlt2 : j < vln l2 := by rw [hln, he2]; exact hjn
        rcases hst with ⟨hjn1, hbs⟩ | ⟨hjn1, p0, p1, p2, hp0, hp1, hp2, henc⟩
        ·have heq : vc .eql ii nm1 = true := by rw [qc, eql_true, hij, hnm1, ← hjn1]; push_cast; omega
         have hls : vc .lss ii nm1 = false := by rw [qc, lss_false, hij, hnm1, ← hjn1]; push_cast; omega
         as_aux_lemma =>
         cbv
         rw [hge]
         cbv
         refine WX.unr 4 hw hm ?_
         cbv
         (repeat refine And.intro ⟨by decide⟩ ?_)
         rw [esub, heq]
         cbv
         rw [etj]
         (repeat first | refine And.intro ⟨by decide⟩ ?_ | refine And.intro ⟨hinr⟩ ?_ | refine And.intro ⟨by rw [hadd0]; exact hlt1⟩ ?_ | refine And.intro ⟨hlt1⟩ ?_ | refine And.intro (fun _ => rfl) ?_)
         rw [hg1]
         refine call_con (ρ := [(24, .z)]) (hany N1 A1 B1 C1 e1 t1 hT1.n4 hT1.cr hT1.ar hT1.any) ⟨by rfl, by rfl, by rfl, by cbv; (repeat' first | (refine And.intro ?_ ?_) | exact trivial | exact ⟨Nat.le_refl _⟩ | exact view_refl _ | exact fun _ => rfl | (simp only [renL3]; done) | (show SB.roA _ _ _ = SB.roA _ _ _; rfl) | exact funext fun _ => rfl)⟩ ?_
         rintro v H R js4 ⟨rfl, rfl, si1, sk1, rfl, hs1, hk1N, hk1A⟩
         cbv
         (repeat refine And.intro (fun _ => rfl) ?_)
         rw [hnt]
         cbv
         rw [esub, hls]
         cbv
         (repeat refine And.intro ⟨by decide⟩ ?_)
         refine ⟨⟨by rw [hl3]; decide⟩, ?_⟩
         rw [hst1]
         (repeat refine And.intro ⟨by decide⟩ ?_)
         rw [esub, heq]
         cbv
         rw [etj]
         (repeat first | refine And.intro ⟨by decide⟩ ?_ | refine And.intro ⟨hinr⟩ ?_ | refine And.intro ⟨by rw [hadd0]; exact hlt2⟩ ?_ | refine And.intro ⟨hlt2⟩ ?_ | refine And.intro (fun _ => rfl) ?_)
         rw [hg2]
         refine call_con (ρ := [(26, .z)]) (hany N2 A2 B2 C2 e2 t2 hT2.n4 hT2.cr hT2.ar hT2.any) ⟨by rfl, by rfl, by rfl, by cbv; (repeat' first | (refine And.intro ?_ ?_) | exact trivial | exact ⟨Nat.le_refl _⟩ | exact view_refl _ | exact fun _ => rfl | (simp only [renL3]; done) | (show SB.roA _ _ _ = SB.roA _ _ _; rfl) | exact funext fun _ => rfl)⟩ ?_
         rintro v H R js4 ⟨rfl, rfl, si2, sk2, rfl, hs2, hk2N, hk2A⟩
         cbv
         (repeat refine And.intro (fun _ => rfl) ?_)
         rw [hnt]
         cbv
         rw [esub, hls]
         cbv
         (repeat refine And.intro ⟨by decide⟩ ?_)
         refine ⟨⟨by rw [hl3]; decide⟩, ?_⟩
         rw [hst2]
         (repeat refine And.intro ⟨by decide⟩ ?_)
         rw [esub, heq]
         cbv
         rw [etj]
         (repeat first | refine And.intro ⟨by decide⟩ ?_ | refine And.intro ⟨hinr⟩ ?_ | refine And.intro ⟨by rw [hadd0]; exact hlt0⟩ ?_ | refine And.intro ⟨hlt0⟩ ?_ | refine And.intro (fun _ => rfl) ?_)
         rw [hg0]
         refine call_con (ρ := [(22, .z)]) (hany N0 A0 B0 C0 e0 t0 hT0.n4 hT0.cr hT0.ar hT0.any) ⟨by rfl, by rfl, by rfl, by cbv; (repeat' first | (refine And.intro ?_ ?_) | exact trivial | exact ⟨Nat.le_refl _⟩ | exact view_refl _ | exact fun _ => rfl | (simp only [renL3]; done) | (show SB.roA _ _ _ = SB.roA _ _ _; rfl) | exact funext fun _ => rfl)⟩ ?_
         rintro v H R js4 ⟨rfl, rfl, si0, sk0, rfl, hs0, hk0N, hk0A⟩
         cbv
         (repeat refine And.intro (fun _ => rfl) ?_)
         rw [hnt]
         cbv
         rw [esub, hls]
         cbv
         (repeat refine And.intro ⟨by decide⟩ ?_)
         refine ⟨⟨by rw [hl3]; decide⟩, ?_⟩
         rw [hst0]
         refine WX.unr 4 hw hm ?_
         cbv
         (repeat refine And.intro ⟨by decide⟩ ?_)
         refine call_con (ρ := [(1, .z), (0, .z)]) hvl ⟨by rfl, by rfl, by rfl, by cbv; (repeat' first | (refine And.intro ?_ ?_) | exact trivial | exact ⟨Nat.le_refl _⟩ | exact view_refl _ | exact fun _ => rfl | (simp only [renL3]; done) | (show SB.roA _ _ _ = SB.roA _ _ _; rfl) | exact funext fun _ => rfl)⟩ ?_
         rintro v H R js4 ⟨rfl, rfl, rfl⟩
         cbv
         (repeat refine And.intro (fun _ => rfl) ?_)
         rw [etj]
         (repeat first | refine And.intro ⟨by decide⟩ ?_ | refine And.intro ⟨hinr⟩ ?_ | refine And.intro ⟨by rw [hadd0]; exact hlt0⟩ ?_ | refine And.intro ⟨hlt0⟩ ?_ | refine And.intro (fun _ => rfl) ?_)
         rw [hg0]
         refine call_con (ρ := [(7, .z), (10, .z), (9, .z), (8, .z), (6, .z)]) (hofL e0 f0 n0 ⟨hcd0.1, hcd0.2.1⟩ hof0) ⟨by rfl, by rfl, by rfl, by cbv; (repeat' first | (refine And.intro ?_ ?_) | exact trivial | exact ⟨Nat.le_refl _⟩ | exact view_refl _ | exact fun _ => rfl | (simp only [renL3]; done) | (show SB.roA _ _ _ = SB.roA _ _ _; rfl) | exact funext fun _ => rfl)⟩ ?_
         rintro v H R js4 ⟨rfl, rfl, rfl⟩
         cbv
         (repeat refine And.intro (fun _ => rfl) ?_)
         rw [hsx0, hwx0]
         obtain ⟨bs1, hbs1⟩ : ∃ l, l = bs ++ bitsN dx0 n0.toNat := ⟨_, rfl⟩
         have hbl1 : bs1.length ≤ bs.length + 31 := by rw [hbs1, List.length_append, bitsN_length]; have := range_n hrg0; omega
         have hpw1 := hputw bs lb cb nb dx0 n0 mb hD0.2.2 (by have := range_n hrg0; omega) hws (by omega)
         rw [← hbs1] at hpw1
         refine call_con (ρ := [(29, .z), (31, .z)]) hpw1 ⟨by rfl, by rfl, by rfl, by cbv; (repeat' first | (refine And.intro ?_ ?_) | exact trivial | exact ⟨Nat.le_refl _⟩ | exact view_refl _ | exact fun _ => rfl | (simp only [renL3]; done) | (show SB.roA _ _ _ = SB.roA _ _ _; rfl) | exact funext fun _ => rfl)⟩ ?_
         rintro v H R js4 ⟨rfl, lb1, nb1, mb1, cb1, hws1, rfl, rfl⟩
         cbv
         (repeat refine And.intro (fun _ => rfl) ?_)
         (repeat refine And.intro ⟨by decide⟩ ?_)
         refine call_con (ρ := [(1, .z), (0, .z)]) hvl ⟨by rfl, by rfl, by rfl, by cbv; (repeat' first | (refine And.intro ?_ ?_) | exact trivial | exact ⟨Nat.le_refl _⟩ | exact view_refl _ | exact fun _ => rfl | (simp only [renL3]; done) | (show SB.roA _ _ _ = SB.roA _ _ _; rfl) | exact funext fun _ => rfl)⟩ ?_
         rintro v H R js4 ⟨rfl, rfl, rfl⟩
         cbv
         (repeat refine And.intro (fun _ => rfl) ?_)
         rw [etj]
         (repeat first | refine And.intro ⟨by decide⟩ ?_ | refine And.intro ⟨hinr⟩ ?_ | refine And.intro ⟨by rw [hadd0]; exact hlt2⟩ ?_ | refine And.intro ⟨hlt2⟩ ?_ | refine And.intro (fun _ => rfl) ?_)
         rw [hg2]
         refine call_con (ρ := [(12, .z), (15, .z), (14, .z), (13, .z), (11, .z)]) (hofM e2 f2 n2 ⟨hcd2.1, hcd2.2.1⟩ hof2) ⟨by rfl, by rfl, by rfl, by cbv; (repeat' first | (refine And.intro ?_ ?_) | exact trivial | exact ⟨Nat.le_refl _⟩ | exact view_refl _ | exact fun _ => rfl | (simp only [renL3]; done) | (show SB.roA _ _ _ = SB.roA _ _ _; rfl) | exact funext fun _ => rfl)⟩ ?_
         rintro v H R js4 ⟨rfl, rfl, rfl⟩
         cbv
         (repeat refine And.intro (fun _ => rfl) ?_)
         rw [hsx2, hwx2]
         obtain ⟨bs2, hbs2⟩ : ∃ l, l = bs1 ++ bitsN dx2 n2.toNat := ⟨_, rfl⟩
         have hbl2 : bs2.length ≤ bs1.length + 31 := by rw [hbs2, List.length_append, bitsN_length]; have := range_n hrg2; omega
         have hpw2 := hputw bs1 lb1 cb1 nb1 dx2 n2 mb1 hD2.2.2 (by have := range_n hrg2; omega) hws1 (by omega)
         rw [← hbs2] at hpw2
         refine call_con (ρ := [(29, .z), (31, .z)]) hpw2 ⟨by rfl, by rfl, by rfl, by cbv; (repeat' first | (refine And.intro ?_ ?_) | exact trivial | exact ⟨Nat.le_refl _⟩ | exact view_refl _ | exact fun _ => rfl | (simp only [renL3]; done) | (show SB.roA _ _ _ = SB.roA _ _ _; rfl) | exact funext fun _ => rfl)⟩ ?_
         rintro v H R js4 ⟨rfl, lb2, nb2, mb2, cb2, hws2, rfl, rfl⟩
         cbv
         (repeat refine And.intro (fun _ => rfl) ?_)
         (repeat refine And.intro ⟨by decide⟩ ?_)
         refine call_con (ρ := [(1, .z), (0, .z)]) hvl ⟨by rfl, by rfl, by rfl, by cbv; (repeat' first | (refine And.intro ?_ ?_) | exact trivial | exact ⟨Nat.le_refl _⟩ | exact view_refl _ | exact fun _ => rfl | (simp only [renL3]; done) | (show SB.roA _ _ _ = SB.roA _ _ _; rfl) | exact funext fun _ => rfl)⟩ ?_
         rintro v H R js4 ⟨rfl, rfl, rfl⟩
         cbv
         (repeat refine And.intro (fun _ => rfl) ?_)
         rw [etj]
         (repeat first | refine And.intro ⟨by decide⟩ ?_ | refine And.intro ⟨hinr⟩ ?_ | refine And.intro ⟨by rw [hadd0]; exact hlt1⟩ ?_ | refine And.intro ⟨hlt1⟩ ?_ | refine And.intro (fun _ => rfl) ?_)
         rw [hg1]
         refine call_con (ρ := []) (hofB e1 f1 n1 ⟨hcd1.1, hcd1.2.1⟩ hof1) ⟨by rfl, by rfl, by rfl, by cbv; (repeat' first | (refine And.intro ?_ ?_) | exact trivial | exact ⟨Nat.le_refl _⟩ | exact view_refl _ | exact fun _ => rfl | (simp only [renL3]; done) | (show SB.roA _ _ _ = SB.roA _ _ _; rfl) | exact funext fun _ => rfl)⟩ ?_
         rintro v H R js4 ⟨rfl, rfl, rfl⟩
         cbv
         (repeat refine And.intro (fun _ => rfl) ?_)
         rw [hsx1, hwx1]
         obtain ⟨bs3, hbs3⟩ : ∃ l, l = bs2 ++ bitsN dx1 n1.toNat := ⟨_, rfl⟩
         have hbl3 : bs3.length ≤ bs2.length + 31 := by rw [hbs3, List.length_append, bitsN_length]; have := range_n hrg1; omega
         have hpw3 := hputw bs2 lb2 cb2 nb2 dx1 n1 mb2 hD1.2.2 (by have := range_n hrg1; omega) hws2 (by omega)
         rw [← hbs3] at hpw3
         refine call_con (ρ := [(29, .z), (31, .z)]) hpw3 ⟨by rfl, by rfl, by rfl, by cbv; (repeat' first | (refine And.intro ?_ ?_) | exact trivial | exact ⟨Nat.le_refl _⟩ | exact view_refl _ | exact fun _ => rfl | (simp only [renL3]; done) | (show SB.roA _ _ _ = SB.roA _ _ _; rfl) | exact funext fun _ => rfl)⟩ ?_
         rintro v H R js4 ⟨rfl, lb3, nb3, mb3, cb3, hws3, rfl, rfl⟩
         cbv
         (repeat refine And.intro (fun _ => rfl) ?_)
         rw [edec]
         refine Cv.fold [22, 23, 24, 26, 27, 28, 29, 1170110] 32 [18, 19, 20, 2, 31] (by exact Nat.le_refl _) (by exact Nat.le_of_ble_eq_true rfl) (by rfl) (by cbv) ?_
         intro js
         refine ⟨(ii1, j, si0, si1, si2, bs3, lb3, nb3, mb3, cb3), ⟨⟨hii1, Nat.le_of_lt hjn, hws3, bnd3 hbl hbl1 hbl2 hbl3, .inr ⟨hjn, sk0, sk1, sk2, hs0, hs1, hs2, ?_⟩⟩, Nat.lt_succ_self j⟩, js, rfl⟩
         exact enc_one (hjn1.trans hn) (by rw [hx, hf]) (by rw [hy, hg]) (by rw [hz, hh]) (row_ok hk0A hk1A hk2A hk0N hk1N hk2N hcd0 hcd1 hcd2) hbs (ext_eq hk0A hk1A hk2A hof0 hof1 hof2 hdx0 hdx1 hdx2 hbs1 hbs2 hbs3)
        ·have heq : vc .eql ii nm1 = false := by rw [qc, eql_false, hij, hnm1]; omega
         have hls : vc .lss ii nm1 = true := by rw [qc, lss_true, hij, hnm1]; omega
         have hw80 : vw .u8 e0 = e0 := by rw [qw]; exact wrap_u8 hT0.cr.1 hT0.cr.2
         have hw81 : vw .u8 e1 = e1 := by rw [qw]; exact wrap_u8 hT1.cr.1 hT1.cr.2
         have hw82 : vw .u8 e2 = e2 := by rw [qw]; exact wrap_u8 hT2.cr.1 hT2.cr.2
         have hpr := enc3_first henc
         have hah0 := hahd N0 A0 B0 C0 e0 s0 t0 hT0.n4 hT0.br (st_rng hp0 hpr.1 hT0.n4) (hT0.hit s0 (by rw [hp0]; exact Int.natCast_nonneg p0) (by rw [hp0]; exact Int.ofNat_lt.2 hpr.1))
         have hah1 := hahd N1 A1 B1 C1 e1 s1 t1 hT1.n4 hT1.br (st_rng hp1 hpr.2.1 hT1.n4) (hT1.hit s1 (by rw [hp1]; exact Int.natCast_nonneg p1) (by rw [hp1]; exact Int.ofNat_lt.2 hpr.2.1))
         have hah2 := hahd N2 A2 B2 C2 e2 s2 t2 hT2.n4 hT2.br (st_rng hp2 hpr.2.2 hT2.n4) (hT2.hit s2 (by rw [hp2]; exact Int.natCast_nonneg p2) (by rw [hp2]; exact Int.ofNat_lt.2 hpr.2.2))
         as_aux_lemma =>
         cbv
         rw [hge]
         cbv
         refine WX.unr 4 hw hm ?_
         cbv
         (repeat refine And.intro ⟨by decide⟩ ?_)
         rw [esub, heq]
         cbv
         rw [etj]
         (repeat first | refine And.intro ⟨by decide⟩ ?_ | refine And.intro ⟨hinr⟩ ?_ | refine And.intro ⟨by rw [hadd0]; exact hlt1⟩ ?_ | refine And.intro ⟨hlt1⟩ ?_ | refine And.intro ⟨by rw [hl3]; decide⟩ ?_ | refine And.intro (fun _ => rfl) ?_)
         rw [hg1, hgd1, hw81]
         refine call_con (ρ := [(24, .z)]) hah1 ⟨by rfl, by rfl, by rfl, by cbv; (repeat' first | (refine And.intro ?_ ?_) | exact trivial | exact ⟨Nat.le_refl _⟩ | exact view_refl _ | exact fun _ => rfl | (simp only [renL3]; done) | (show SB.roA _ _ _ = SB.roA _ _ _; rfl) | exact funext fun _ => rfl)⟩ ?_
         rintro v H R js4 ⟨rfl, rfl, si1, sk1, rfl, hs1, hk1N, hk1A, hk1C, hk1D⟩
         have hsv1 : vtoN si1 = sk1 := by rw [hs1]; exact hto sk1
         have hinS1 : 0 ≤ si1 ∧ si1 < (N1 : Int) := inc0 hs1 hk1N
         have h0N1 : 0 < N1 := Nat.lt_of_le_of_lt (Nat.zero_le _) hk1N
         obtain ⟨dd1, hdd1⟩ : ∃ d, d = s1 - C1 sk1 := ⟨_, rfl⟩
         have hSF1 := st_facts (hT1.br sk1 hk1N) hk1C (st_rng hp1 hpr.2.1 hT1.n4).2 hdd1
         have hwC1 : vw .i64 (C1 sk1) = C1 sk1 := by rw [qw]; exact hSF1.1
         have hwB1 : vw .i64 (B1 sk1) = B1 sk1 := by rw [qw]; exact hSF1.2.1
         have hsC1 : vb .sub .i64 s1 (C1 sk1) = dd1 := by rw [qb]; exact hSF1.2.2.1
         have hwd1 : vw .u64 dd1 = dd1 := by rw [qw]; exact hSF1.2.2.2.1
         obtain ⟨pb1, hpb1⟩ : ∃ l, l = bs ++ bitsN dd1 (B1 sk1).toNat := ⟨_, rfl⟩
         have hpl1 : pb1.length ≤ bs.length + 12 := by rw [hpb1, List.length_append, bitsN_length]; have := hT1.br sk1 hk1N; omega
         have hps1 := hputw bs lb cb nb dd1 (B1 sk1) mb hSF1.2.2.2.2.1 hSF1.2.2.2.2.2 hws (by omega)
         rw [← hpb1] at hps1
         cbv
         (repeat refine And.intro (fun _ => rfl) ?_)
         rw [hnt]
         cbv
         rw [esub, hls]
         cbv
         (repeat refine And.intro ⟨by decide⟩ ?_)
         refine ⟨⟨⟨hlt1⟩, by rw [hg1]⟩, ?_⟩
         (repeat first | refine And.intro ⟨by decide⟩ ?_ | refine And.intro ⟨by rw [hl3]; decide⟩ ?_ | refine And.intro ⟨hinS1⟩ ?_ | refine And.intro ⟨by rw [hadd0, hsv1]; exact hk1N⟩ ?_ | refine And.intro ⟨by rw [hsv1]; exact hk1N⟩ ?_ | refine And.intro ⟨h0N1⟩ ?_)
         rw [hgd1, hsv1, hwC1, hsC1, hwd1, hwB1]
         refine call_con (ρ := [(29, .z), (31, .z)]) hps1 ⟨by rfl, by rfl, by rfl, by cbv; (repeat' first | (refine And.intro ?_ ?_) | exact trivial | exact ⟨Nat.le_refl _⟩ | exact view_refl _ | exact fun _ => rfl | (simp only [renL3]; done) | (show SB.roA _ _ _ = SB.roA _ _ _; rfl) | exact funext fun _ => rfl)⟩ ?_
         rintro v H R js4 ⟨rfl, lp1, np1, mp1, cp1, hwp1, rfl, rfl⟩
         cbv
         (repeat refine And.intro (fun _ => rfl) ?_)
         refine ⟨⟨⟨hk1N⟩, trivial⟩, ⟨⟨hk1N⟩, trivial⟩, ⟨⟨by rw [hl3]; decide⟩, by rw [hgd1]⟩, ?_⟩
         (repeat first | refine And.intro ⟨by decide⟩ ?_ | refine And.intro ⟨by rw [hl3]; decide⟩ ?_)
         rw [hst1]
         (repeat refine And.intro ⟨by decide⟩ ?_)
         rw [esub, heq]
         cbv
         rw [etj]
         (repeat first | refine And.intro ⟨by decide⟩ ?_ | refine And.intro ⟨hinr⟩ ?_ | refine And.intro ⟨by rw [hadd0]; exact hlt2⟩ ?_ | refine And.intro ⟨hlt2⟩ ?_ | refine And.intro ⟨by rw [hl3]; decide⟩ ?_ | refine And.intro (fun _ => rfl) ?_)
         rw [hg2, hgd2, hw82]
         refine call_con (ρ := [(26, .z)]) hah2 ⟨by rfl, by rfl, by rfl, by cbv; (repeat' first | (refine And.intro ?_ ?_) | exact trivial | exact ⟨Nat.le_refl _⟩ | exact view_refl _ | exact fun _ => rfl | (simp only [renL3]; done) | (show SB.roA _ _ _ = SB.roA _ _ _; rfl) | exact funext fun _ => rfl)⟩ ?_
         rintro v H R js4 ⟨rfl, rfl, si2, sk2, rfl, hs2, hk2N, hk2A, hk2C, hk2D⟩
         have hsv2 : vtoN si2 = sk2 := by rw [hs2]; exact hto sk2
         have hinS2 : 0 ≤ si2 ∧ si2 < (N2 : Int) := inc0 hs2 hk2N
         have h0N2 : 0 < N2 := Nat.lt_of_le_of_lt (Nat.zero_le _) hk2N
         obtain ⟨dd2, hdd2⟩ : ∃ d, d = s2 - C2 sk2 := ⟨_, rfl⟩
         have hSF2 := st_facts (hT2.br sk2 hk2N) hk2C (st_rng hp2 hpr.2.2 hT2.n4).2 hdd2
         have hwC2 : vw .i64 (C2 sk2) = C2 sk2 := by rw [qw]; exact hSF2.1
         have hwB2 : vw .i64 (B2 sk2) = B2 sk2 := by rw [qw]; exact hSF2.2.1
         have hsC2 : vb .sub .i64 s2 (C2 sk2) = dd2 := by rw [qb]; exact hSF2.2.2.1
         have hwd2 : vw .u64 dd2 = dd2 := by rw [qw]; exact hSF2.2.2.2.1
         obtain ⟨pb2, hpb2⟩ : ∃ l, l = pb1 ++ bitsN dd2 (B2 sk2).toNat := ⟨_, rfl⟩
         have hpl2 : pb2.length ≤ pb1.length + 12 := by rw [hpb2, List.length_append, bitsN_length]; have := hT2.br sk2 hk2N; omega
         have hps2 := hputw pb1 lp1 cp1 np1 dd2 (B2 sk2) mp1 hSF2.2.2.2.2.1 hSF2.2.2.2.2.2 hwp1 (by omega)
         rw [← hpb2] at hps2
         cbv
         (repeat refine And.intro (fun _ => rfl) ?_)
         rw [hnt]
         cbv
         rw [esub, hls]
         cbv
         (repeat refine And.intro ⟨by decide⟩ ?_)
         refine ⟨⟨⟨hlt2⟩, by rw [hg2]⟩, ?_⟩
         (repeat first | refine And.intro ⟨by decide⟩ ?_ | refine And.intro ⟨by rw [hl3]; decide⟩ ?_ | refine And.intro ⟨hinS2⟩ ?_ | refine And.intro ⟨by rw [hadd0, hsv2]; exact hk2N⟩ ?_ | refine And.intro ⟨by rw [hsv2]; exact hk2N⟩ ?_ | refine And.intro ⟨h0N2⟩ ?_)
         rw [hgd2, hsv2, hwC2, hsC2, hwd2, hwB2]
         refine call_con (ρ := [(29, .z), (31, .z)]) hps2 ⟨by rfl, by rfl, by rfl, by cbv; (repeat' first | (refine And.intro ?_ ?_) | exact trivial | exact ⟨Nat.le_refl _⟩ | exact view_refl _ | exact fun _ => rfl | (simp only [renL3]; done) | (show SB.roA _ _ _ = SB.roA _ _ _; rfl) | exact funext fun _ => rfl)⟩ ?_
         rintro v H R js4 ⟨rfl, lp2, np2, mp2, cp2, hwp2, rfl, rfl⟩
         cbv
         (repeat refine And.intro (fun _ => rfl) ?_)
         refine ⟨⟨⟨hk2N⟩, trivial⟩, ⟨⟨hk2N⟩, trivial⟩, ⟨⟨by rw [hl3]; decide⟩, by rw [hgd2]⟩, ?_⟩
         (repeat first | refine And.intro ⟨by decide⟩ ?_ | refine And.intro ⟨by rw [hl3]; decide⟩ ?_)
         rw [hst2]
         (repeat refine And.intro ⟨by decide⟩ ?_)
         rw [esub, heq]
         cbv
         rw [etj]
         (repeat first | refine And.intro ⟨by decide⟩ ?_ | refine And.intro ⟨hinr⟩ ?_ | refine And.intro ⟨by rw [hadd0]; exact hlt0⟩ ?_ | refine And.intro ⟨hlt0⟩ ?_ | refine And.intro ⟨by rw [hl3]; decide⟩ ?_ | refine And.intro (fun _ => rfl) ?_)
         rw [hg0, hgd0, hw80]
         refine call_con (ρ := [(22, .z)]) hah0 ⟨by rfl, by rfl, by rfl, by cbv; (repeat' first | (refine And.intro ?_ ?_) | exact trivial | exact ⟨Nat.le_refl _⟩ | exact view_refl _ | exact fun _ => rfl | (simp only [renL3]; done) | (show SB.roA _ _ _ = SB.roA _ _ _; rfl) | exact funext fun _ => rfl)⟩ ?_
         rintro v H R js4 ⟨rfl, rfl, si0, sk0, rfl, hs0, hk0N, hk0A, hk0C, hk0D⟩
         have hsv0 : vtoN si0 = sk0 := by rw [hs0]; exact hto sk0
         have hinS0 : 0 ≤ si0 ∧ si0 < (N0 : Int) := inc0 hs0 hk0N
         have h0N0 : 0 < N0 := Nat.lt_of_le_of_lt (Nat.zero_le _) hk0N
         obtain ⟨dd0, hdd0⟩ : ∃ d, d = s0 - C0 sk0 := ⟨_, rfl⟩
         have hSF0 := st_facts (hT0.br sk0 hk0N) hk0C (st_rng hp0 hpr.1 hT0.n4).2 hdd0
         have hwC0 : vw .i64 (C0 sk0) = C0 sk0 := by rw [qw]; exact hSF0.1
         have hwB0 : vw .i64 (B0 sk0) = B0 sk0 := by rw [qw]; exact hSF0.2.1
         have hsC0 : vb .sub .i64 s0 (C0 sk0) = dd0 := by rw [qb]; exact hSF0.2.2.1
         have hwd0 : vw .u64 dd0 = dd0 := by rw [qw]; exact hSF0.2.2.2.1
         obtain ⟨pb3, hpb3⟩ : ∃ l, l = pb2 ++ bitsN dd0 (B0 sk0).toNat := ⟨_, rfl⟩
         have hpl3 : pb3.length ≤ pb2.length + 12 := by rw [hpb3, List.length_append, bitsN_length]; have := hT0.br sk0 hk0N; omega
         have hps3 := hputw pb2 lp2 cp2 np2 dd0 (B0 sk0) mp2 hSF0.2.2.2.2.1 hSF0.2.2.2.2.2 hwp2 (by omega)
         rw [← hpb3] at hps3
         cbv
         (repeat refine And.intro (fun _ => rfl) ?_)
         rw [hnt]
         cbv
         rw [esub, hls]
         cbv
         (repeat refine And.intro ⟨by decide⟩ ?_)
         refine ⟨⟨⟨hlt0⟩, by rw [hg0]⟩, ?_⟩
         (repeat first | refine And.intro ⟨by decide⟩ ?_ | refine And.intro ⟨by rw [hl3]; decide⟩ ?_ | refine And.intro ⟨hinS0⟩ ?_ | refine And.intro ⟨by rw [hadd0, hsv0]; exact hk0N⟩ ?_ | refine And.intro ⟨by rw [hsv0]; exact hk0N⟩ ?_ | refine And.intro ⟨h0N0⟩ ?_)
         rw [hgd0, hsv0, hwC0, hsC0, hwd0, hwB0]
         refine call_con (ρ := [(29, .z), (31, .z)]) hps3 ⟨by rfl, by rfl, by rfl, by cbv; (repeat' first | (refine And.intro ?_ ?_) | exact trivial | exact ⟨Nat.le_refl _⟩ | exact view_refl _ | exact fun _ => rfl | (simp only [renL3]; done) | (show SB.roA _ _ _ = SB.roA _ _ _; rfl) | exact funext fun _ => rfl)⟩ ?_
         rintro v H R js4 ⟨rfl, lp3, np3, mp3, cp3, hwp3, rfl, rfl⟩
         cbv
         (repeat refine And.intro (fun _ => rfl) ?_)
         refine ⟨⟨⟨hk0N⟩, trivial⟩, ⟨⟨hk0N⟩, trivial⟩, ⟨⟨by rw [hl3]; decide⟩, by rw [hgd0]⟩, ?_⟩
         (repeat first | refine And.intro ⟨by decide⟩ ?_ | refine And.intro ⟨by rw [hl3]; decide⟩ ?_)
         rw [hst0]
         refine WX.unr 4 hw hm ?_
         cbv
         (repeat refine And.intro ⟨by decide⟩ ?_)
         refine call_con (ρ := [(1, .z), (0, .z)]) hvl ⟨by rfl, by rfl, by rfl, by cbv; (repeat' first | (refine And.intro ?_ ?_) | exact trivial | exact ⟨Nat.le_refl _⟩ | exact view_refl _ | exact fun _ => rfl | (simp only [renL3]; done) | (show SB.roA _ _ _ = SB.roA _ _ _; rfl) | exact funext fun _ => rfl)⟩ ?_
         rintro v H R js4 ⟨rfl, rfl, rfl⟩
         cbv
         (repeat refine And.intro (fun _ => rfl) ?_)
         rw [etj]
         (repeat first | refine And.intro ⟨by decide⟩ ?_ | refine And.intro ⟨hinr⟩ ?_ | refine And.intro ⟨by rw [hadd0]; exact hlt0⟩ ?_ | refine And.intro ⟨hlt0⟩ ?_ | refine And.intro (fun _ => rfl) ?_)
         rw [hg0]
         refine call_con (ρ := [(7, .z), (10, .z), (9, .z), (8, .z), (6, .z)]) (hofL e0 f0 n0 ⟨hcd0.1, hcd0.2.1⟩ hof0) ⟨by rfl, by rfl, by rfl, by cbv; (repeat' first | (refine And.intro ?_ ?_) | exact trivial | exact ⟨Nat.le_refl _⟩ | exact view_refl _ | exact fun _ => rfl | (simp only [renL3]; done) | (show SB.roA _ _ _ = SB.roA _ _ _; rfl) | exact funext fun _ => rfl)⟩ ?_
         rintro v H R js4 ⟨rfl, rfl, rfl⟩
         cbv
         (repeat refine And.intro (fun _ => rfl) ?_)
         rw [hsx0, hwx0]
         obtain ⟨bs1, hbs1⟩ : ∃ l, l = pb3 ++ bitsN dx0 n0.toNat := ⟨_, rfl⟩
         have hbl1 : bs1.length ≤ pb3.length + 31 := by rw [hbs1, List.length_append, bitsN_length]; have := range_n hrg0; omega
         have hpw1 := hputw pb3 lp3 cp3 np3 dx0 n0 mp3 hD0.2.2 (by have := range_n hrg0; omega) hwp3 (by omega)
         rw [← hbs1] at hpw1
         refine call_con (ρ := [(29, .z), (31, .z)]) hpw1 ⟨by rfl, by rfl, by rfl, by cbv; (repeat' first | (refine And.intro ?_ ?_) | exact trivial | exact ⟨Nat.le_refl _⟩ | exact view_refl _ | exact fun _ => rfl | (simp only [renL3]; done) | (show SB.roA _ _ _ = SB.roA _ _ _; rfl) | exact funext fun _ => rfl)⟩ ?_
         rintro v H R js4 ⟨rfl, lb1, nb1, mb1, cb1, hws1, rfl, rfl⟩
         cbv
         (repeat refine And.intro (fun _ => rfl) ?_)
         (repeat refine And.intro ⟨by decide⟩ ?_)
         refine call_con (ρ := [(1, .z), (0, .z)]) hvl ⟨by rfl, by rfl, by rfl, by cbv; (repeat' first | (refine And.intro ?_ ?_) | exact trivial | exact ⟨Nat.le_refl _⟩ | exact view_refl _ | exact fun _ => rfl | (simp only [renL3]; done) | (show SB.roA _ _ _ = SB.roA _ _ _; rfl) | exact funext fun _ => rfl)⟩ ?_
         rintro v H R js4 ⟨rfl, rfl, rfl⟩
         cbv
         (repeat refine And.intro (fun _ => rfl) ?_)
         rw [etj]
         (repeat first | refine And.intro ⟨by decide⟩ ?_ | refine And.intro ⟨hinr⟩ ?_ | refine And.intro ⟨by rw [hadd0]; exact hlt2⟩ ?_ | refine And.intro ⟨hlt2⟩ ?_ | refine And.intro (fun _ => rfl) ?_)
         rw [hg2]
         refine call_con (ρ := [(12, .z), (15, .z), (14, .z), (13, .z), (11, .z)]) (hofM e2 f2 n2 ⟨hcd2.1, hcd2.2.1⟩ hof2) ⟨by rfl, by rfl, by rfl, by cbv; (repeat' first | (refine And.intro ?_ ?_) | exact trivial | exact ⟨Nat.le_refl _⟩ | exact view_refl _ | exact fun _ => rfl | (simp only [renL3]; done) | (show SB.roA _ _ _ = SB.roA _ _ _; rfl) | exact funext fun _ => rfl)⟩ ?_
         rintro v H R js4 ⟨rfl, rfl, rfl⟩
         cbv
         (repeat refine And.intro (fun _ => rfl) ?_)
         rw [hsx2, hwx2]
         obtain ⟨bs2, hbs2⟩ : ∃ l, l = bs1 ++ bitsN dx2 n2.toNat := ⟨_, rfl⟩
         have hbl2 : bs2.length ≤ bs1.length + 31 := by rw [hbs2, List.length_append, bitsN_length]; have := range_n hrg2; omega
         have hpw2 := hputw bs1 lb1 cb1 nb1 dx2 n2 mb1 hD2.2.2 (by have := range_n hrg2; omega) hws1 (by omega)
         rw [← hbs2] at hpw2
         refine call_con (ρ := [(29, .z), (31, .z)]) hpw2 ⟨by rfl, by rfl, by rfl, by cbv; (repeat' first | (refine And.intro ?_ ?_) | exact trivial | exact ⟨Nat.le_refl _⟩ | exact view_refl _ | exact fun _ => rfl | (simp only [renL3]; done) | (show SB.roA _ _ _ = SB.roA _ _ _; rfl) | exact funext fun _ => rfl)⟩ ?_
         rintro v H R js4 ⟨rfl, lb2, nb2, mb2, cb2, hws2, rfl, rfl⟩
         cbv
         (repeat refine And.intro (fun _ => rfl) ?_)
         (repeat refine And.intro ⟨by decide⟩ ?_)
         refine call_con (ρ := [(1, .z), (0, .z)]) hvl ⟨by rfl, by rfl, by rfl, by cbv; (repeat' first | (refine And.intro ?_ ?_) | exact trivial | exact ⟨Nat.le_refl _⟩ | exact view_refl _ | exact fun _ => rfl | (simp only [renL3]; done) | (show SB.roA _ _ _ = SB.roA _ _ _; rfl) | exact funext fun _ => rfl)⟩ ?_
         rintro v H R js4 ⟨rfl, rfl, rfl⟩
         cbv
         (repeat refine And.intro (fun _ => rfl) ?_)
         rw [etj]
         (repeat first | refine And.intro ⟨by decide⟩ ?_ | refine And.intro ⟨hinr⟩ ?_ | refine And.intro ⟨by rw [hadd0]; exact hlt1⟩ ?_ | refine And.intro ⟨hlt1⟩ ?_ | refine And.intro (fun _ => rfl) ?_)
         rw [hg1]
         refine call_con (ρ := []) (hofB e1 f1 n1 ⟨hcd1.1, hcd1.2.1⟩ hof1) ⟨by rfl, by rfl, by rfl, by cbv; (repeat' first | (refine And.intro ?_ ?_) | exact trivial | exact ⟨Nat.le_refl _⟩ | exact view_refl _ | exact fun _ => rfl | (simp only [renL3]; done) | (show SB.roA _ _ _ = SB.roA _ _ _; rfl) | exact funext fun _ => rfl)⟩ ?_
         rintro v H R js4 ⟨rfl, rfl, rfl⟩
         cbv
         (repeat refine And.intro (fun _ => rfl) ?_)
         rw [hsx1, hwx1]
         obtain ⟨bs3, hbs3⟩ : ∃ l, l = bs2 ++ bitsN dx1 n1.toNat := ⟨_, rfl⟩
         have hbl3 : bs3.length ≤ bs2.length + 31 := by rw [hbs3, List.length_append, bitsN_length]; have := range_n hrg1; omega
         have hpw3 := hputw bs2 lb2 cb2 nb2 dx1 n1 mb2 hD1.2.2 (by have := range_n hrg1; omega) hws2 (by omega)
         rw [← hbs3] at hpw3
         refine call_con (ρ := [(29, .z), (31, .z)]) hpw3 ⟨by rfl, by rfl, by rfl, by cbv; (repeat' first | (refine And.intro ?_ ?_) | exact trivial | exact ⟨Nat.le_refl _⟩ | exact view_refl _ | exact fun _ => rfl | (simp only [renL3]; done) | (show SB.roA _ _ _ = SB.roA _ _ _; rfl) | exact funext fun _ => rfl)⟩ ?_
         rintro v H R js4 ⟨rfl, lb3, nb3, mb3, cb3, hws3, rfl, rfl⟩
         cbv
         (repeat refine And.intro (fun _ => rfl) ?_)
         rw [edec]
         refine Cv.fold [22, 23, 24, 26, 27, 28, 29, 1170110] 32 [18, 19, 20, 2, 31] (by exact Nat.le_refl _) (by exact Nat.le_of_ble_eq_true rfl) (by rfl) (by cbv) ?_
         intro js
         refine ⟨(ii1, j, si0, si1, si2, bs3, lb3, nb3, mb3, cb3), ⟨⟨hii1, Nat.le_of_lt hjn, hws3, bnd6 hbl hpl1 hpl2 hpl3 hbl1 hbl2 hbl3, .inr ⟨hjn, sk0, sk1, sk2, hs0, hs1, hs2, ?_⟩⟩, Nat.lt_succ_self j⟩, js, rfl⟩
         exact enc_more (hn ▸ hjn) (by rw [hx, hf]) (by rw [hy, hg]) (by rw [hz, hh]) (row_ok hk0A hk1A hk2A hk0N hk1N hk2N hcd0 hcd1 hcd2) henc (by have h := hk0C; rw [hp0] at h; exact h) (by have h := hk0D; rw [hp0] at h; exact h) (by have h := hk1C; rw [hp1] at h; exact h) (by have h := hk1D; rw [hp1] at h; exact h) (by have h := hk2C; rw [hp2] at h; exact h) (by have h := hk2D; rw [hp2] at h; exact h)
          (puts_eq hdd0 hdd1 hdd2 hp0 hp1 hp2 hpb1 hpb2 hpb3 (ext_eq hk0A hk1A hk2A hof0 hof1 hof2 hdx0 hdx1 hdx2 hbs1 hbs2 hbs3))
end Go.Proofs.Ytlclleihoampdaa
namespace Go.Proofs.Ytlclleihoampdaa
open Go Go.Sx Go.Proofs
set_option maxRecDepth 10000
theorem hdrS_byte {n : Nat} (h : n ≤ 3000) : ∀ x ∈ hdrS n, isByte x := by
 intro x hx
 unfold hdrS at hx
 split at hx
 ·rw [List.mem_singleton] at hx; subst hx; exact ⟨by omega, by omega⟩
 ·simp only [List.mem_cons, List.not_mem_nil, or_false] at hx
  rcases hx with rfl | rfl
  ·exact ⟨by omega, by omega⟩
  ·exact ⟨by omega, by omega⟩
theorem hdS_hdrS {n : Nat} (h : n ≤ 3000) (r : List Int) : hdS (hdrS n ++ r) = (0, (n : Int), (hdrS n).length) := by
 unfold hdrS
 split
 ·rename_i h1
  rw [hdS_1 (by simp) (by simp; omega) (by simp; omega)]
  simp
 ·rename_i h1
  rw [hdS_2 (by simp; omega) (by simp; omega) (by simp)]
  simp
  omega
theorem drop_pre {a b : List Int} {k : Nat} (h : k = a.length) : (a ++ b).drop k = b := by subst h; simp
theorem log2_pow (k : Nat) : Nat.log2 (2 ^ k) = k := by
 exact Nat.log2_two_pow
theorem wout_read {rows : List Row} {q : List Int} (h : WOut rows q) (h1 : 1 ≤ rows.length) (h2 : rows.length ≤ 3000) (hq : q.length ≤ 131072) (TL TB TM : Tb) :
  ∃ T0 T1 T2, seqR q TL TB TM = (0, rows, T0, T1, T2) := by
 obtain ⟨w0, w1, w2, d0, d1, d2, T0, T1, T2, c0, c1, c2, lL, lB, lM, sL, sB, sM, bits, H0, H1, H2, n0, n1, n2, m0, m1, m2, henc, rfl⟩ := h
 refine ⟨T0, T1, T2, ?_⟩
 obtain ⟨P, hP⟩ : ∃ P, P = pack (bits ++ bitsN sM lM ++ bitsN sB lB ++ bitsN sL lL ++ [1]) := ⟨_, rfl⟩
 obtain ⟨W, hW⟩ : ∃ W, W = w0 * 64 + w1 * 16 + w2 * 4 := ⟨_, rfl⟩
 rw [← hP, ← hW] at hq ⊢
 have r0 := H0.wr
 have r1 := H1.wr
 have r2 := H2.wr
 have hbits := enc3_bit henc
 have hbit : ∀ b ∈ bits ++ bitsN sM lM ++ bitsN sB lB ++ bitsN sL lL, isBit b := fun b hb => by
  simp only [List.mem_append] at hb
  rcases hb with ((hb | hb) | hb) | hb
  ·exact hbits b hb
  ·exact bitsN_bit _ _ b hb
  ·exact bitsN_bit _ _ b hb
  ·exact bitsN_bit _ _ b hb
 have hmk := mark_at _ hbit
 rw [← hP] at hmk
 have hfst := enc3_first henc
 have hbit1 : ∀ b ∈ bits ++ bitsN sM lM ++ bitsN sB lB ++ bitsN sL lL ++ [1], isBit b := fun b hb => by
  rcases List.mem_append.1 hb with hb | hb
  ·exact hbit b hb
  ·rw [List.mem_singleton.1 hb]; exact Or.inr rfl
 have hmark : markAt P = ((bits ++ bitsN sM lM ++ bitsN sB lB ++ bitsN sL lL).length : Nat) := hmk.2
 have pL : (sL : Int) < 2 ^ lL := by rw [n0] at hfst; exact_mod_cast hfst.1
 have pB : (sB : Int) < 2 ^ lB := by rw [n1] at hfst; exact_mod_cast hfst.2.1
 have pM : (sM : Int) < 2 ^ lM := by rw [n2] at hfst; exact_mod_cast hfst.2.2
 have g0 : Nat.log2 T0.n = lL := by rw [n0]; exact log2_pow _
 have g1 : Nat.log2 T1.n = lB := by rw [n1]; exact log2_pow _
 have g2 : Nat.log2 T2.n = lM := by rw [n2]; exact log2_pow _
 have e0 : rd P (markAt P) lL = sL := by
  rw [hP]
  exact rd_at (pre := bits ++ bitsN sM lM ++ bitsN sB lB) (rest := [1]) ⟨by omega, pL⟩ hbit1 (by rw [← hP]; exact hmark)
 have eW1 : bits ++ bitsN sM lM ++ bitsN sB lB ++ bitsN sL lL ++ [1] = bits ++ bitsN sM lM ++ bitsN sB lB ++ (bitsN sL lL ++ [1]) := by simp only [List.append_assoc]
 have eW2 : bits ++ bitsN sM lM ++ bitsN sB lB ++ bitsN sL lL ++ [1] = bits ++ bitsN sM lM ++ (bitsN sB lB ++ bitsN sL lL ++ [1]) := by simp only [List.append_assoc]
 have eW3 : bits ++ bitsN sM lM ++ bitsN sB lB ++ bitsN sL lL ++ [1] = bits ++ (bitsN sM lM ++ bitsN sB lB ++ bitsN sL lL ++ [1]) := by simp only [List.append_assoc]
 have e1 : rd P (markAt P - lL) lB = sB := by
  rw [hP, eW1]
  exact rd_at (pre := bits ++ bitsN sM lM) (rest := bitsN sL lL ++ [1]) ⟨by omega, pB⟩ (by rw [← eW1]; exact hbit1) (by rw [← eW1, ← hP, hmark]; simp only [List.length_append, bitsN_length]; omega)
 have e2 : rd P (markAt P - lL - lB) lM = sM := by
  rw [hP, eW2]
  exact rd_at (pre := bits) (rest := bitsN sB lB ++ bitsN sL lL ++ [1]) ⟨by omega, pM⟩ (by rw [← eW2]; exact hbit1) (by rw [← eW2, ← hP, hmark]; simp only [List.length_append, bitsN_length]; omega)
 have hrows := enc3_rows H0.tok H1.tok H2.tok henc (bitsN sM lM ++ bitsN sB lB ++ bitsN sL lL ++ [1]) [] (markAt P - lL - lB - lM) (fun b hb => hbit1 b (by rw [eW3]; exact List.mem_append_right _ hb)) (by rw [hmark]; simp only [List.length_append, bitsN_length]; omega)
 rw [← eW3, ← hP, List.nil_append] at hrows
 have hT := (seqT_rows (q := P) (n := rows.length) (TL := T0) (TB := T1) (TM := T2) (p0 := markAt P) (l0 := lL) (l1 := lB) (l2 := lM) hmk.1 rfl g0 g1 g2 rfl rfl rfl e0.symm rfl e1.symm rfl e2.symm rfl hrows).2 rfl
 obtain ⟨a, ha⟩ : ∃ a, a = (hdrS rows.length).length := ⟨_, rfl⟩
 have hlen : a ≤ 2 := by rw [ha]; exact hdrS_len _
 have hhd : hdS (hdrS rows.length ++ [W] ++ d0 ++ d1 ++ d2 ++ P) = (0, (rows.length : Int), a) := by
  have := hdS_hdrS h2 ([W] ++ d0 ++ d1 ++ d2 ++ P)
  rw [ha]
  simpa only [List.append_assoc] using this
 have hgw : (hdrS rows.length ++ [W] ++ d0 ++ d1 ++ d2 ++ P).getD a 0 = W := by
  have : hdrS rows.length ++ [W] ++ d0 ++ d1 ++ d2 ++ P = hdrS rows.length ++ (W :: (d0 ++ d1 ++ d2 ++ P)) := by simp only [List.append_assoc, List.cons_append, List.nil_append]
  rw [this, List.getD_eq_getElem?_getD, ha, List.getElem?_append_right (Nat.le_refl _), Nat.sub_self]
  rfl
 have hd1 : (hdrS rows.length ++ [W] ++ d0 ++ d1 ++ d2 ++ P).drop (a + 1) = d0 ++ (d1 ++ d2 ++ P) := by
  have : hdrS rows.length ++ [W] ++ d0 ++ d1 ++ d2 ++ P = (hdrS rows.length ++ [W]) ++ (d0 ++ (d1 ++ d2 ++ P)) := by simp only [List.append_assoc]
  rw [this]
  exact drop_pre (by rw [List.length_append, ← ha]; rfl)
 have hd2 : (hdrS rows.length ++ [W] ++ d0 ++ d1 ++ d2 ++ P).drop (a + 1 + ((d0.length : Nat) : Int).toNat) = d1 ++ (d2 ++ P) := by
  have : hdrS rows.length ++ [W] ++ d0 ++ d1 ++ d2 ++ P = (hdrS rows.length ++ [W] ++ d0) ++ (d1 ++ (d2 ++ P)) := by simp only [List.append_assoc]
  rw [this]
  exact drop_pre (by rw [List.length_append, List.length_append, ← ha, Int.toNat_natCast]; rfl)
 have hd3 : (hdrS rows.length ++ [W] ++ d0 ++ d1 ++ d2 ++ P).drop (a + 1 + ((d0.length : Nat) : Int).toNat + ((d1.length : Nat) : Int).toNat) = d2 ++ P := by
  have : hdrS rows.length ++ [W] ++ d0 ++ d1 ++ d2 ++ P = (hdrS rows.length ++ [W] ++ d0 ++ d1) ++ (d2 ++ P) := by simp only [List.append_assoc]
  rw [this]
  exact drop_pre (by rw [List.length_append, List.length_append, List.length_append, ← ha, Int.toNat_natCast, Int.toNat_natCast]; rfl)
 have hd4 : (hdrS rows.length ++ [W] ++ d0 ++ d1 ++ d2 ++ P).drop (a + 1 + ((d0.length : Nat) : Int).toNat + ((d1.length : Nat) : Int).toNat + ((d2.length : Nat) : Int).toNat) = P := by
  exact drop_pre (by rw [List.length_append, List.length_append, List.length_append, List.length_append, ← ha, Int.toNat_natCast, Int.toNat_natCast, Int.toNat_natCast]; rfl)
 have hll : ¬ (hdrS rows.length ++ [W] ++ d0 ++ d1 ++ d2 ++ P).length = a := by
  rw [List.length_append, List.length_append, List.length_append, List.length_append, List.length_append, ← ha, List.length_singleton]
  omega
 have x0 : W / 64 % 4 = w0 := by omega
 have x1 : W / 16 % 4 = w1 := by omega
 have x2 : W / 4 % 4 = w2 := by omega
 have x3 : W % 4 = 0 := by omega
 rw [seqR_t hq hhd (by omega) hll (by rw [hgw]; exact x3) (u0 := (d0.length : Int)) (T0 := T0) (by rw [hgw, hd1, x0]; exact H0.rd _ _) (u1 := (d1.length : Int)) (T1 := T1) (by rw [hgw, hd2, x1]; exact H1.rd _ _)
  (u2 := (d2.length : Int)) (T2 := T2) (by rw [hgw, hd3, x2]; exact H2.rd _ _), hd4, Int.toNat_natCast]
 exact hT
end Go.Proofs.Ytlclleihoampdaa
