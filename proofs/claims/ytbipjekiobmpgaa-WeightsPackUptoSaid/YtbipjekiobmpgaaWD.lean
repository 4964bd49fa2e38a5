import Derived.Test.YtbipjekiobmpgaaWC
import Derived.Test.YtbipjekiobmpgaaED
import Derived.Test.YtbipjekiobmpgaaWB
namespace Go.Proofs.Ytbipjekiobmpgaa
open Go Go.Sx Go.Proofs
/-! balerref09.Pack. -/
set_option maxRecDepth 10000
set_option maxHeartbeats 40000000
theorem Sy_iff {l : List Int} (h : ∀ c ∈ l, isU8 c) (c : Nat) : Sy l c ↔ c < l.length ∧ l.getD c 0 ≠ 0 := by
  have := isU8_0 h c
  unfold Sy wn
  constructor
  · rintro ⟨h1, h2⟩; exact ⟨h1, by omega⟩
  · rintro ⟨h1, h2⟩; exact ⟨h1, by omega⟩
theorem refpack_ok (l b : List Int) (cap cap2 : Nat) (M : Nat) (hl : ∀ c ∈ l, isU8 c) (hb : ∀ c ∈ b, isU8 c) (hW : Wt l M) (hbl : b.length ≤ 131072) :
    Con Try.prog 10 [.slice 0 .z 1 l.length cap, .slice 1 .z 1 b.length cap2] [.ro .u8 l, .ro .u8 b]
      (fun v H R => R = [] ∧ ((H = [.ro .u8 l, .ro .u8 b] ∧ v = .tup [.val (.slice none 0 0), .int .i64 2] ∧ ¬ AllSy l b b.length) ∨
        ∃ L, H = [.ro .u8 l, .ro .u8 b, .ints 5 .u8 L] ∧ v = .tup [.slice 2 .z 1 L.length L.length, .int .i64 0] ∧ L = pack (pb l M b b.length ++ [1]) ∧ AllSy l b b.length)) := by
  have hsz := refbits9_con l cap M hl (by have := hW.2.1; omega) (.inl ⟨M, hW, rfl⟩)
  have hwords := refwords9_con l cap M hl hW
  have hput : ∀ j c, j < b.length → Con Try.prog 21 [.ptr 0 .z 1 0, .int .u64 (xA l (b.getD (b.length - 1 - j) 0).toNat), .int .i64 (nA l M (b.getD (b.length - 1 - j) 0).toNat)]
      [.one 58 [.slice 1 .z 1 (pb l M b j).length c], .buf 5 .u8 (pb l M b j) c]
      (fun v H R => v = .int .i64 (putErr (nA l M (b.getD (b.length - 1 - j) 0).toNat)) ∧ R = [1] ∧ ∃ c', H = [.one 58 [.slice 1 .z 1 (pb l M b (j + 1)).length c'], .buf 5 .u8 (pb l M b (j + 1)) c']) := by
    intro j c hj
    have h1 := xA_range hW (b.getD (b.length - 1 - j) 0).toNat
    have h2 := pb_len hW b j
    have := refput_con (pb l M b j) c (xA l (b.getD (b.length - 1 - j) 0).toNat) (nA l M (b.getD (b.length - 1 - j) 0).toNat) ⟨h1.1, by omega⟩ (by omega)
    rw [pb_put hW] at this
    exact this
  have hclose := fun c => refclose_con (pb l M b b.length) c (pb_bit l M b b.length) (by have := pb_len hW b b.length; omega)
  have hsy : ∀ c, Sy l c ↔ c < l.length ∧ l.getD c 0 ≠ 0 := Sy_iff hl
  have hpb0 : pb l M b 0 = [] := rfl
  have hall0 : AllSy l b 0 := fun i hi => by omega
  have halls : ∀ j, AllSy l b j → Sy l (b.getD (b.length - 1 - j) 0).toNat → AllSy l b (j + 1) := fun j h1 h2 i hi => by
    by_cases e : i = j
    · subst e; exact h2
    · exact h1 i (by omega)
  have hallb : ∀ j, j < b.length → ¬ Sy l (b.getD (b.length - 1 - j) 0).toNat → ¬ AllSy l b b.length := fun j h1 h2 h3 => h2 (h3 j h1)
  have hgb := getD_u8 hb
  refine con_gen (con_picks (con_drop (con_walk hmix fn10 ?_)))
  intro vb vc vw vtoN vofN vaddN vsubN vmaxI vminI vcutN vgd vst vln vrep vsub vonto vsplice vstrEq vbyteV vnotB veqB hw qb qc qw qtoN qofN qaddN qsubN qmaxI qminI qcutN qgd qst qln qrep qsub qonto qsplice qstrEq qbyteV qnotB qeqB
  have hm := hmix; generalize Try.prog = P at *
  have hM1 := hW.pos
  have hn2 := hW.1
  have hn256 := hW.2.1
  clear hW
  have hge := getD_u8 hl
  generalize pb l M b = PB at *
  generalize AllSy l b = ALL at *
  generalize Sy l = SY at *
  generalize pack = PK at *
  generalize putErr = PE at *
  generalize xA l = XA at *
  generalize nA l M = NA at *
  obtain ⟨mI, hmI⟩ : ∃ mI : Int, mI = M := ⟨_, rfl⟩
  rw [← hmI] at hsz
  generalize hn : l.length = n at *
  generalize hlb : b.length = lb at *
  have hto : ∀ i : Nat, vtoN (i : Int) = i := fun i => by simp only [qtoN, Int.toNat_natCast]
  have hadd0 : ∀ i, vaddN 0 i = i := fun i => by simp only [qaddN, Nat.zero_add]
  have hvln : vln l = n := by simp only [qln, hn]
  have hvlb : vln b = lb := by simp only [qln, hlb]
  have hvgd : ∀ l i, vgd l i = l.getD i 0 := fun l i => by simp only [qgd]
  have d1 : vc .eql mI 0 = false := by rw [qc, eql_false]; omega
  have d2 : vc .gtr (vofN lb) 131072 = false := by rw [qc, gtr_false, qofN]; simp only; omega
  obtain ⟨nI, hnI⟩ : ∃ nI : Int, nI = n := ⟨_, rfl⟩
  have en : vofN n = nI := by rw [hnI, qofN]
  cbv
  refine call_con (ρ := [(0, .z)]) hsz ⟨by rfl, by rfl, by rfl, by cbv; exact ⟨⟨⟨by omega, fun i _ => by rw [Nat.zero_add]⟩⟩, trivial⟩⟩ ?_
  rintro v H R js ⟨rfl, rfl, rfl⟩
  cbv
  rw [d1]
  cbv
  rw [d2]
  cbv
  refine call_con (ρ := [(0, .z)]) hwords ⟨by rfl, by rfl, by rfl, by cbv; exact ⟨⟨⟨by omega, fun i _ => by rw [Nat.zero_add]⟩⟩, trivial⟩⟩ ?_
  rintro v H R js2 ⟨rfl, rfl, rfl⟩
  cbv
  refine ⟨fun _ => rfl, fun _ => rfl, ?_⟩
  refine WX.cv (Cv.nilB 3 0 5 .u8 (by rfl) (by cbv; exact ⟨fun _ => rfl, trivial⟩) (Cv.here ?_))
  cbv
  have elb : vofN lb = (lb : Int) := by simp only [qofN]
  rw [elb]
  refine loop_fam (α := Int × Nat × Nat × List Int) [22, 23, 24, 25, 26, 27, 28, 29, 30, 31, 32, 33, 34, 35, 36, 37, 38, 39, 40, 41, 42, 43, 44, 45, 46, 47, 48, 49, 50, 51, 52, 53, 54, 55, 56, 57, 58, 59, 60, 61] [4] (fun (k, _, _, _) => [(8, .int .i64 k)]) (fun (_, c, n1, L) => [(3, .one 58 [.slice 4 .z 1 n1 c]), (4, .buf 5 .u8 L c)])
    (fun (k, c, n1, L) => ∃ j : Nat, k = (lb : Int) - 1 - j ∧ j ≤ lb ∧ L = PB j ∧ n1 = L.length ∧ ALL j) (fun (k, _) => (k + 1).toNat) hw hm ?_ ?_
  · refine Cv.genAt [8] [] (Cv.fold [22, 23, 24, 25, 26, 27, 28, 29, 30, 31, 32, 33, 34, 35, 36, 37, 38, 39, 40, 41, 42, 43, 44, 45, 46, 47, 48, 49, 50, 51, 52, 53, 54, 55, 56, 57, 58, 59, 60, 61] 5 [4] (by exact Nat.le_refl _) (by exact Nat.le_of_ble_eq_true rfl) (by rfl) (by cbv) ?_)
    intro js
    refine ⟨(_, _, _, _), ?_, js, rfl⟩
    exact ⟨0, by (try simp only [nc] at *); rw [qb, sub_i64 (by omega) (by omega)]; omega, by omega, hpb0.symm, rfl, hall0⟩
  · rintro ⟨k, c, n1, L⟩ js ⟨j, hk, hj, hL, hn1, hal⟩
    cbv
    generalize hz4 : vc .geq k 0 = z4
    cases z4
    · rw [qc, geq_false] at hz4
      obtain rfl : j = lb := by ((try simp only [nc] at *); omega)
      have hclose1 := hclose c
      rw [← hL, ← hn1] at hclose1
      generalize hl3 : PK (L ++ [1]) = L3 at *
      generalize hn3 : L3.length = n3 at *
      generalize hl4 : L ++ [1] = L4 at *
      cbv
      refine call_con (ρ := [(3, .z), (4, .z)]) hclose1 ⟨by rfl, by rfl, by rfl, by cbv; exact ⟨fun _ => rfl, trivial⟩⟩ ?_
      rintro v H R js2 ⟨rfl, c', n', rfl, rfl, rfl⟩
      cbv
      subst hn3
      exact ⟨fun _ => rfl, [0, 1, 6], .tup [.slice 2 .z 1 L3.length L3.length, .lit .i64 0], [.ro .u8 l, .ro .u8 b, .ints 5 .u8 L3], rfl, rfl, rfl, rfl, ⟨rfl, rfl, rfl, trivial⟩, rfl, .inr ⟨L3, rfl, rfl, by rw [← hl3, ← hl4, hL], hal⟩⟩
    · rw [qc, geq_true] at hz4
      have hjl : j < lb := by ((try simp only [nc] at *); omega)
      have hti : vtoN k = lb - 1 - j := by
        have e : k = ((lb - 1 - j : Nat) : Int) := by ((try simp only [nc] at *); omega)
        rw [e]; exact hto _
      have hinR : 0 ≤ k ∧ k < (lb : Int) := by ((try simp only [nc] at *); omega)
      have hput1 := hput j c hjl
      have hs1 := halls j hal
      have hb1 := hallb j hjl
      have hy := hgb (lb - 1 - j)
      obtain ⟨ib, hib⟩ : ∃ ib, ib = lb - 1 - j := ⟨_, rfl⟩
      rw [← hib] at hti hput1 hs1 hb1 hy
      rw [← hL, ← hn1] at hput1
      generalize hyy : b.getD ib 0 = y at *
      have hty : vtoN y = y.toNat := by rw [qtoN]
      have hsy1 := hsy y.toNat
      obtain ⟨Y, hY⟩ : ∃ Y, Y = y.toNat := ⟨_, rfl⟩
      rw [← hY] at hty hput1 hsy1 hs1 hb1
      have ewy : vw .i64 y = y := by rw [qw]; exact wrap_i64 (by omega) (by omega)
      have hlt' : ib < vln b := by omega
      cbv
      rw [hti, hadd0, hvgd, hyy, ewy, en]
      refine ⟨⟨hinR⟩, ⟨by omega⟩, ⟨by omega⟩, ?_⟩
      generalize hz5 : vc .geq y nI = z5
      cases z5
      rotate_left
      · rw [qc, geq_true] at hz5
        have hbad := hb1 (fun h => by have := (hsy1.1 h).1; ((try simp only [nc] at *); omega))
        cbv
        exact ⟨[0, 1], .tup [.val (.slice none 0 0), .lit .i64 2], [.ro .u8 l, .ro .u8 b], rfl, rfl, rfl, rfl, ⟨rfl, rfl, trivial⟩, rfl, .inl ⟨rfl, rfl, hbad⟩⟩
      rw [qc, geq_false] at hz5
      have hYn : Y < n := by ((try simp only [nc] at *); omega)
      have hyR : 0 ≤ y ∧ y < (n : Int) := by ((try simp only [nc] at *); omega)
      cbv
      rw [hti, hadd0, hvgd, hyy, hty, hadd0, hvgd, hvln]
      refine ⟨⟨hinR⟩, ⟨hlt'⟩, ⟨hlt'⟩, ⟨hyR⟩, ⟨hYn⟩, ⟨hYn⟩, ?_⟩
      generalize hz6 : vc .eql (l.getD Y 0) 0 = z6
      cases z6
      rotate_left
      · rw [qc, eql_true] at hz6
        have hbad := hb1 (fun h => (hsy1.1 h).2 hz6)
        cbv
        exact ⟨[0, 1], .tup [.val (.slice none 0 0), .lit .i64 2], [.ro .u8 l, .ro .u8 b], rfl, rfl, rfl, rfl, ⟨rfl, rfl, trivial⟩, rfl, .inl ⟨rfl, rfl, hbad⟩⟩
      rw [qc, eql_false] at hz6
      have hal2 := hs1 (hsy1.2 ⟨hYn, hz6⟩)
      obtain ⟨k1, hk1⟩ : ∃ k1 : Int, k1 = (lb : Int) - 1 - ((j + 1 : Nat) : Int) := ⟨_, rfl⟩
      have ek1 : vb .sub .i64 k 1 = k1 := by (try simp only [nc] at *); rw [qb, sub_i64 (by omega) (by omega)]; omega
      have hmu : ∀ _ : Unit, (k1 + 1).toNat < (k + 1).toNat := fun _ => by ((try simp only [nc] at *); omega)
      generalize hl3 : PB (j + 1) = L3 at *
      generalize hn3 : L3.length = n3 at *
      cbv
      rw [hti, hadd0, hvgd, hyy, hty]
      repeat (first | refine And.intro ⟨hinR⟩ ?_ | refine And.intro ⟨hyR⟩ ?_ | refine And.intro ⟨hYn⟩ ?_ | refine And.intro ⟨hlt'⟩ ?_)
      refine call_con (ρ := [(3, .z), (4, .z)]) hput1 ⟨by rfl, by rfl, by rfl, by cbv; exact ⟨fun _ => rfl, trivial⟩⟩ ?_
      rintro v H R js2 ⟨rfl, rfl, c', rfl⟩
      cbv
      refine ⟨fun _ => rfl, ⟨⟨hlt'⟩, by rw [hvgd, hyy]⟩, ⟨⟨hlt'⟩, by rw [hvgd, hyy]⟩, ?_⟩
      rw [ek1]
      refine Cv.fold [22, 23, 24, 25, 26, 27, 28, 29, 30, 31, 32, 33, 34, 35, 36, 37, 38, 39, 40, 41, 42, 43, 44, 45, 46, 47, 48, 49, 50, 51, 52, 53, 54, 55, 56, 57, 58, 59, 60, 61] 5 [4] (by exact Nat.le_refl _) (by exact Nat.le_of_ble_eq_true rfl) (by rfl) (by cbv) ?_
      intro js
      refine ⟨(_, _, _, _), ?_, js, rfl⟩
      exact ⟨⟨j + 1, hk1, hjl, hl3.symm, hn3.symm, hal2⟩, hmu ()⟩
end Go.Proofs.Ytbipjekiobmpgaa
namespace Go.Proofs.Ytbipjekiobmpgaa
open Go Go.Sx Go.Proofs
/-! balerref09.next. -/
set_option maxRecDepth 10000
set_option maxHeartbeats 40000000
theorem word_hit {l : List Int} {M : Nat} (hl : ∀ c ∈ l, isU8 c) (hW : Wt l M) (b : List Int) (p : Int) (i n : Nat) (hn : 1 ≤ n) :
    (nA l M i = n ∧ xA l i = rd b p n) ↔ (i = dc l (rd b p M) ∧ (n : Int) = nA l M (dc l (rd b p M))) := by
  have hr := rd_bound b p M
  have hd := dc_spec hl hW hr.1 hr.2
  have key : ∀ c, Sy l c → nA l M c = n → rd b p M / 2 ^ (wn l c - 1) = rd b p n := fun c hc hcn => by
    rw [nA_of hc] at hcn
    have hwn := wn_le hW hc.1
    have h1 := hc.2
    have := rd_div b p n (wn l c - 1)
    rw [show n + (wn l c - 1) = M by omega] at this
    exact this
  constructor
  · rintro ⟨h1, h2⟩
    have hs : Sy l i := Classical.byContradiction fun h => by
      have := (nA_range hW i).2.2.2 h
      omega
    have hdi : Dc l (rd b p M) i := by
      rw [Dc_iff hW hs.1 hs.2, key i hs h1, ← h2, xA_of hs]
    have := Dc.uniq hl hdi hd
    subst this
    exact ⟨rfl, h1.symm⟩
  · rintro ⟨rfl, h2⟩
    have hs := hd.sy
    refine ⟨h2.symm, ?_⟩
    rw [Dc_iff hW hs.1 hs.2, key _ hs h2.symm] at hd
    rw [xA_of hs, hd]
theorem refnext9_con (l b : List Int) (M P0 c : Nat) (p : Int) (hl : ∀ c ∈ l, isU8 c) (hW : Wt l M) (hP : P0 ≤ 8 * b.length) (hbl : 8 * b.length ≤ 140737488355328) (hp : 0 ≤ p ∧ p ≤ P0) :
    Con Try.prog 27 [.ptr 0 .z 2 0, .slice 1 .z 2 l.length l.length, .int .i64 M] [.one 76 [.slice 2 .z 1 P0 c, .int .i64 p], .arr 60 2 l.length (fun m => [.int .u64 (xA l m), .int .i64 (nA l M m)]), .ro .u8 (bitsOf b (8 * b.length))]
      (fun v H R => v = .tup [.int .u8 (dc l (rd b p M)), .bool (cV .geq (p - nA l M (dc l (rd b p M))) 0)] ∧
        H = [.one 76 [.slice 2 .z 1 P0 c, .int .i64 (p - nA l M (dc l (rd b p M)))], .arr 60 2 l.length (fun m => [.int .u64 (xA l m), .int .i64 (nA l M m)]), .ro .u8 (bitsOf b (8 * b.length))] ∧ R = []) := by
  have hbits : ∀ n : Nat, n ≤ 12 → Con Try.prog 36 [.ptr 0 .z 2 0, .int .i64 1] [.one 76 [.slice 1 .z 1 P0 c, .int .i64 (p - n)], .ro .u8 (bitsOf b (8 * b.length))]
      (fun v H R => v = .int .u64 (rd b (p - n) 1) ∧ R = [] ∧ H = [.one 76 [.slice 1 .z 1 P0 c, .int .i64 (p - (n + 1 : Nat))], .ro .u8 (bitsOf b (8 * b.length))]) := by
    intro n hn
    have := refbits_con b P0 c (p - n) 1 hP hbl ⟨by omega, by omega⟩
    have e1 : clampN 1 = 1 := by decide
    have e2 : floorP (p - n - (1 : Nat)) = p - (n + 1 : Nat) := by unfold floorP; rw [if_neg (by omega)]; omega
    rw [e1, e2] at this
    exact this
  have hhit := fun i n hn => word_hit hl hW b p i n hn
  have hr := rd_bound b p M
  have hd := dc_spec hl hW hr.1 hr.2
  have hdl := hd.1
  have hnr := nA_range hW (dc l (rd b p M))
  have hn1 : nA l M (dc l (rd b p M)) ≠ 0 := fun e => hnr.2.2.1 e hd.sy
  have hx1 := fun n => rd_app b p n 1
  have hrb := fun n => rd_bound b p n
  have hr0 : rd b p 0 = 0 := rfl
  have hn2 := hW.1
  have hn256 := hW.2.1
  have hM11 := hW.2.2.2.2.2.2
  have hM1 := hW.pos
  clear hd hr hW
  refine con_gen (con_cut 3 (by simp) (con_drop (con_walk hmix fn27 ?_)))
  intro vb vc vw vtoN vofN vaddN vsubN vmaxI vminI vcutN vgd vst vln vrep vsub vonto vsplice vstrEq vbyteV vnotB veqB hw qb qc qw qtoN qofN qaddN qsubN qmaxI qminI qcutN qgd qst qln qrep qsub qonto qsplice qstrEq qbyteV qnotB qeqB
  have hm := hmix; generalize Try.prog = P at *
  have hb1 : ∀ n : Nat, n ≤ 12 → ∃ y : Int, y = rd b (p - n) 1 ∧ 0 ≤ y ∧ y < 2 := fun n _ => ⟨_, rfl, by have := rd_bound b (p - n) 1; omega⟩
  generalize dc l (rd b p M) = s at *
  generalize xA l = XA at *
  generalize nA l M = NA at *
  generalize hRD : rd b p = RD at *
  generalize hBO : bitsOf b (8 * b.length) = BO at *
  obtain ⟨mI, hmI⟩ : ∃ mI : Int, mI = M := ⟨_, rfl⟩
  rw [← hmI]
  obtain ⟨sI, hsI⟩ : ∃ sI : Int, sI = (s : Int) := ⟨_, rfl⟩
  rw [← hsI]
  obtain ⟨ns, hns⟩ : ∃ ns : Int, ns = NA s := ⟨_, rfl⟩
  rw [← hns] at hnr hn1 hhit ⊢
  obtain ⟨pe, hpe⟩ : ∃ pe : Int, pe = p - ns := ⟨_, rfl⟩
  rw [← hpe]
  obtain ⟨bo, hbo⟩ : ∃ bo : Bool, bo = cV .geq pe 0 := ⟨_, rfl⟩
  rw [← hbo]
  generalize hn : l.length = n at *
  have hto : ∀ i : Nat, vtoN (i : Int) = i := fun i => by simp only [qtoN, Int.toNat_natCast]
  obtain ⟨nI, hnI⟩ : ∃ nI : Int, nI = n := ⟨_, rfl⟩
  have en : vofN n = nI := by rw [hnI, qofN]
  cbv
  refine loop_fam (α := Int × Int × Int) ([10] ++ [11, 12, 13, 14, 15, 16, 17, 18, 19, 20, 21, 22, 23, 24, 25, 26, 27, 28, 29, 30, 31, 32, 33, 34, 35, 36, 37, 38, 39, 40, 41, 42, 43, 44, 45, 46, 47, 48, 49, 50, 51, 52, 53]) [] (fun (k, x, _) => [(9, .int .i64 k), (8, .int .u64 x)]) (fun (_, _, q) => [(0, .one 76 [.slice 2 .z 1 P0 c, .int .i64 q])])
    (fun (k, x, q) => ∃ N : Nat, k = N ∧ x = RD N ∧ q = p - N ∧ (N : Int) ≤ ns) (fun (k, _) => 12 - k.toNat) hw hm ?_ ?_
  · refine Cv.genAt [9, 8] [] (Cv.fold ([10] ++ [11, 12, 13, 14, 15, 16, 17, 18, 19, 20, 21, 22, 23, 24, 25, 26, 27, 28, 29, 30, 31, 32, 33, 34, 35, 36, 37, 38, 39, 40, 41, 42, 43, 44, 45, 46, 47, 48, 49, 50, 51, 52, 53]) 3 [] (by exact Nat.le_refl _) (by exact Nat.le_of_ble_eq_true rfl) (by rfl) (by cbv) ?_)
    intro js
    refine ⟨(_, _, _), ?_, js, rfl⟩
    exact ⟨0, rfl, hr0.symm, by omega, hnr.1⟩
  · rintro ⟨k, x, q⟩ js ⟨N, hk, hx, hq, hN⟩
    have hzl : vc .leq k mI = true := by rw [qc, leq_true]; ((try simp only [nc] at *); omega)
    cbv
    rw [hzl]
    cbv
    refine loop_fam (α := Int) [16, 17, 18, 19, 20, 21, 22, 23, 24, 25, 26, 27, 28, 29, 30, 31, 32, 33, 34, 35, 36, 37, 38, 39, 40, 41, 42, 43, 44, 45, 46, 47, 48] [] (fun i => [(10, .int .i64 i)]) (fun _ => [])
      (fun i => ∃ I : Nat, i = I ∧ I ≤ n ∧ ((N : Int) = ns → I ≤ s)) (fun i => n - i.toNat) hw hm ?_ ?_
    · refine Cv.genAt [10] [] (Cv.fold [16, 17, 18, 19, 20, 21, 22, 23, 24, 25, 26, 27, 28, 29, 30, 31, 32, 33, 34, 35, 36, 37, 38, 39, 40, 41, 42, 43, 44, 45, 46, 47, 48] 3 [] (by exact Nat.le_refl _) (by exact Nat.le_of_ble_eq_true rfl) (by rfl) (by cbv) ?_)
      intro js
      refine ⟨_, ?_, js, rfl⟩
      exact ⟨0, rfl, by omega, fun _ => by omega⟩
    · rintro i js2 ⟨I, hi, hI, hIs⟩
      cbv
      rw [en]
      generalize hz2 : vc .lss i nI = z2
      cases z2
      · rw [qc, lss_false] at hz2
        have hIn : I = n := by ((try simp only [nc] at *); omega)
        have hne : (N : Int) ≠ ns := fun e => by have := hIs e; omega
        have hbt := hbits N (by ((try simp only [nc] at *); omega))
        obtain ⟨y, hy, hy0, hy1⟩ := hb1 N (by ((try simp only [nc] at *); omega))
        rw [← hy, ← hq] at hbt
        obtain ⟨q1, hq1⟩ : ∃ q1 : Int, q1 = p - (N + 1 : Nat) := ⟨_, rfl⟩
        rw [← hq1] at hbt
        obtain ⟨x1, hxx⟩ : ∃ x1 : Int, x1 = RD (N + 1) := ⟨_, rfl⟩
        have hxb := hrb N
        have hp12 : (2 : Int) ^ N ≤ 2 ^ 11 := pow_up (by ((try simp only [nc] at *); omega))
        have ex : vb .add .u64 (vb .mul .u64 2 x) y = x1 := by
          have e1 : vb .mul .u64 2 x = 2 * x := by rw [qb]; exact wrap_u64 (by ((try simp only [nc] at *); omega)) (by ((try simp only [nc] at *); omega))
          rw [e1, hxx, hx1, qb]
          rw [← hy, ← hx]
          have : IntKind.u64.wrap (2 * x + y) = 2 * x + y := wrap_u64 (by ((try simp only [nc] at *); omega)) (by ((try simp only [nc] at *); omega))
          refine this.trans ?_
          simp only [Int.reducePow]
          rw [Int.mul_comm]
        obtain ⟨k1, hk1⟩ : ∃ k1 : Int, k1 = ((N + 1 : Nat) : Int) := ⟨_, rfl⟩
        have ek : vb .add .i64 k 1 = k1 := by (try simp only [nc] at *); rw [qb, add_i64 (by omega) (by omega)]; omega
        have hmu : ∀ _ : Unit, 12 - k1.toNat < 12 - k.toNat := fun _ => by ((try simp only [nc] at *); omega)
        cbv
        refine call_con (ρ := [(0, .z), (2, .z)]) hbt ⟨by rfl, by rfl, by rfl, by cbv; exact ⟨fun _ => rfl, view_refl _, trivial⟩⟩ ?_
        rintro v H R js3 ⟨rfl, rfl, rfl⟩
        cbv
        refine ⟨fun _ => rfl, ?_⟩
        rw [ex, ek]
        refine Cv.fold ([10] ++ [11, 12, 13, 14, 15, 16, 17, 18, 19, 20, 21, 22, 23, 24, 25, 26, 27, 28, 29, 30, 31, 32, 33, 34, 35, 36, 37, 38, 39, 40, 41, 42, 43, 44, 45, 46, 47, 48, 49, 50, 51, 52, 53]) 3 [] (by exact Nat.le_refl _) (by exact Nat.le_of_ble_eq_true rfl) (by rfl) (by cbv) ?_
        intro js
        refine ⟨(_, _, _), ?_, js, rfl⟩
        exact ⟨⟨N + 1, hk1, hxx, hq1, by ((try simp only [nc] at *); omega)⟩, hmu ()⟩
      · rw [qc, lss_true] at hz2
        have hlt : I < n := by ((try simp only [nc] at *); omega)
        have hti : vtoN i = I := by rw [hi]; exact hto I
        have hinR : 0 ≤ i ∧ i < (n : Int) := by ((try simp only [nc] at *); omega)
        obtain ⟨i1, hi1⟩ : ∃ i1 : Int, i1 = ((I + 1 : Nat) : Int) := ⟨_, rfl⟩
        have ei : vb .add .i64 i 1 = i1 := by (try simp only [nc] at *); rw [qb, add_i64 (by omega) (by omega)]; omega
        have hmu : ∀ _ : Unit, n - i1.toNat < n - i.toNat := fun _ => by ((try simp only [nc] at *); omega)
        have hh := hhit I N
        have hgo : ¬ (NA I = N ∧ 1 ≤ N ∧ XA I = RD N) → ((N : Int) = ns → I + 1 ≤ s) := fun h e => by
          have h1 := hIs e
          by_cases e2 : I = s
          · have h3 := (hh (by omega)).2 ⟨e2, e⟩
            exact (h ⟨h3.1, by omega, h3.2⟩).elim
          · omega
        cbv
        rw [hti]
        refine ⟨⟨hinR⟩, ⟨hlt⟩, ?_⟩
        generalize hz3 : vc .eql (NA I) k = z3
        cases z3
        · rw [qc, eql_false] at hz3
          cbv
          rw [ei]
          refine Cv.fold [16, 17, 18, 19, 20, 21, 22, 23, 24, 25, 26, 27, 28, 29, 30, 31, 32, 33, 34, 35, 36, 37, 38, 39, 40, 41, 42, 43, 44, 45, 46, 47, 48] 3 [] (by exact Nat.le_refl _) (by exact Nat.le_of_ble_eq_true rfl) (by rfl) (by cbv) ?_
          intro js
          refine ⟨_, ?_, js, rfl⟩
          exact ⟨⟨I + 1, hi1, hlt, hgo (fun h => hz3 (by rw [h.1, hk]))⟩, hmu ()⟩
        rw [qc, eql_true] at hz3
        cbv
        generalize hz4 : vc .gtr k 0 = z4
        cases z4
        · rw [qc, gtr_false] at hz4
          cbv
          rw [ei]
          refine Cv.fold [16, 17, 18, 19, 20, 21, 22, 23, 24, 25, 26, 27, 28, 29, 30, 31, 32, 33, 34, 35, 36, 37, 38, 39, 40, 41, 42, 43, 44, 45, 46, 47, 48] 3 [] (by exact Nat.le_refl _) (by exact Nat.le_of_ble_eq_true rfl) (by rfl) (by cbv) ?_
          intro js
          refine ⟨_, ?_, js, rfl⟩
          exact ⟨⟨I + 1, hi1, hlt, hgo (fun h => hz4 (by ((try simp only [nc] at *); omega)))⟩, hmu ()⟩
        rw [qc, gtr_true] at hz4
        cbv
        rw [hti]
        refine ⟨⟨hinR⟩, ⟨hlt⟩, ?_⟩
        generalize hz5 : vc .eql (XA I) x = z5
        cases z5
        · rw [qc, eql_false] at hz5
          cbv
          rw [ei]
          refine Cv.fold [16, 17, 18, 19, 20, 21, 22, 23, 24, 25, 26, 27, 28, 29, 30, 31, 32, 33, 34, 35, 36, 37, 38, 39, 40, 41, 42, 43, 44, 45, 46, 47, 48] 3 [] (by exact Nat.le_refl _) (by exact Nat.le_of_ble_eq_true rfl) (by rfl) (by cbv) ?_
          intro js
          refine ⟨_, ?_, js, rfl⟩
          exact ⟨⟨I + 1, hi1, hlt, hgo (fun h => hz5 (by rw [h.2.2, hx]))⟩, hmu ()⟩
        rw [qc, eql_true] at hz5
        obtain ⟨hIs2, hNs⟩ := (hh (by ((try simp only [nc] at *); omega))).1 ⟨by rw [hz3, hk], by rw [hz5, hx]⟩
        have hqe : q = pe := by rw [hq, hpe, hNs]
        have ewi : vw .u8 i = sI := by rw [qw, hsI, hi, hIs2]; exact wrap_u8 (by ((try simp only [nc] at *); omega)) (by ((try simp only [nc] at *); omega))
        have hbe : vc .geq q 0 = bo := by rw [qc, hqe, hbo]
        cbv
        rw [ewi, hbe, hqe]
        exact ⟨rfl, rfl, trivial⟩
end Go.Proofs.Ytbipjekiobmpgaa
namespace Go.Proofs.Ytbipjekiobmpgaa
open Go Go.Sx Go.Proofs
/-! balerref09.Unpack. -/
set_option maxRecDepth 10000
set_option maxHeartbeats 40000000
theorem refunpack_good (l b : List Int) (cap cap2 : Nat) (M : Nat) (N : Int) (hl : ∀ c ∈ l, isU8 c) (hb : ∀ c ∈ b, isByte c) (hW : Wt l M) (hN : 0 ≤ N ∧ N ≤ 131072) (hbl : 8 * b.length ≤ 140737488355328) (hlast : b.getLastD 0 ≠ 0) :
    Con Try.prog 12 [.slice 0 .z 1 l.length cap, .slice 1 .z 1 b.length cap2, .int .i64 N] [.ro .u8 l, .ro .u8 b]
      (fun v H R => R = [] ∧ ((H = [.ro .u8 l, .ro .u8 b] ∧ v = .tup [.val (.slice none 0 0), .int .i64 11] ∧ pos l M b (markAt b) N.toNat ≠ 0) ∨ ∃ L c', H = [.ro .u8 l, .ro .u8 b, .buf 5 .u8 L c'] ∧
        v = .tup [.slice 2 .z 1 L.length c', .int .i64 0] ∧ L = outs l M b (markAt b) N.toNat ∧ pos l M b (markAt b) N.toNat = 0)) := by
  have hsz := refbits9_con l cap M hl (by have := hW.2.1; omega) (.inl ⟨M, hW, rfl⟩)
  have hwords := refwords9_con l cap M hl hW
  have hnew := refnew_good b cap2 hlast hb hbl
  obtain ⟨P0, hP0, hP0l, _, _⟩ := markAt_spec b hlast hb
  have hnew : Con Try.prog 26 [.slice 0 .z 1 b.length cap2] [.ro .u8 b] (fun v H R => v = .tup [.ptr 1 .z 2 0, .lit .i64 0] ∧ R = [2] ∧ ∃ c : Nat, H = [.ro .u8 b, .one 76 [.slice 2 .z 1 P0 c, .int .i64 P0], .buf 5 .u8 (bitsOf b (8 * b.length)) c]) := by
    refine hnew.mono ?_
    rintro v H R ⟨e1, e2, P, c, e3, e4, e5⟩
    obtain rfl : P = P0 := by omega
    exact ⟨e1, e2, c, e5⟩
  have hnext := fun c p h => refnext9_con l b M P0 c p hl hW (by omega) hbl h
  rw [hP0]
  have hps := fun j => pos_step hl hW b P0 j
  have hpd := fun i j h => @pos_down l M hl hW b P0 i j h
  have hol := outs_len l M b P0
  have hos := outs_succ l M b P0
  have ho0 : outs l M b P0 0 = [] := rfl
  have hpos0 : pos l M b P0 0 = P0 := rfl
  have hsy : ∀ j, dc l (rd b (pos l M b P0 j) M) = sym l M b P0 j := fun _ => rfl
  have hM1 := hW.pos
  have hM11 := hW.2.2.2.2.2.2
  have hn2 := hW.1
  have hn256 := hW.2.1
  refine con_gen (con_picks (con_drop (con_walk hmix fn12 ?_)))
  intro vb vc vw vtoN vofN vaddN vsubN vmaxI vminI vcutN vgd vst vln vrep vsub vonto vsplice vstrEq vbyteV vnotB veqB hw qb qc qw qtoN qofN qaddN qsubN qmaxI qminI qcutN qgd qst qln qrep qsub qonto qsplice qstrEq qbyteV qnotB qeqB
  have hm := hmix; generalize Try.prog = P at *
  clear hW
  generalize pos l M b P0 = POS at *
  generalize outs l M b P0 = OUT at *
  generalize sym l M b P0 = SYM at *
  generalize bitsOf b (8 * b.length) = BO at *
  generalize xA l = XA at *
  generalize nA l M = NA at *
  generalize dc l = DCL at *
  generalize hRD : rd b = RD at *
  obtain ⟨mI, hmI⟩ : ∃ mI : Int, mI = M := ⟨_, rfl⟩
  obtain ⟨pI, hpI⟩ : ∃ pI : Int, pI = P0 := ⟨_, rfl⟩
  rw [← hmI] at hsz hnext
  rw [← hpI] at hnew hpos0
  generalize hn : l.length = n at *
  generalize hlb : b.length = lb at *
  have d1 : vc .eql mI 0 = false := by rw [qc, eql_false]; omega
  have d2 : vc .lss N 0 = false := by rw [qc, lss_false]; omega
  have d3 : vc .gtr N 131072 = false := by rw [qc, gtr_false]; omega
  have d4 : vc .neq 0 0 = false := by rw [qc]; rfl
  cbv
  refine call_con (ρ := [(0, .z)]) hsz ⟨by rfl, by rfl, by rfl, by cbv; exact ⟨⟨⟨by omega, fun i _ => by rw [Nat.zero_add]⟩⟩, trivial⟩⟩ ?_
  rintro v H R js ⟨rfl, rfl, rfl⟩
  cbv
  rw [d1]
  cbv
  rw [d2]
  cbv
  rw [d3]
  cbv
  refine call_con (ρ := [(1, .z)]) hnew ⟨by rfl, by rfl, by rfl, by cbv; exact ⟨view_refl _, trivial⟩⟩ ?_
  rintro v H R js ⟨rfl, rfl, c0, rfl⟩
  cbv
  refine call_con (ρ := [(0, .z)]) hwords ⟨by rfl, by rfl, by rfl, by cbv; exact ⟨⟨⟨by omega, fun i _ => by rw [Nat.zero_add]⟩⟩, trivial⟩⟩ ?_
  rintro v H R js2 ⟨rfl, rfl, rfl⟩
  cbv
  refine ⟨fun _ => rfl, ?_⟩
  refine WX.cv (Cv.arrEq 4 (fun m => [.int .u64 (XA m), .int .i64 (NA m)]) (by rfl) (by intro i; rfl) (Cv.here ?_))
  cbv
  refine WX.cv (Cv.nilT 12 5 .u8 (by rfl) (by cbv; exact ⟨fun _ => rfl, trivial⟩) (Cv.here ?_))
  cbv
  refine loop_fam (α := Int × Int × Nat × Nat × List Int) ([14, 15] ++ [36, 37, 38, 39, 40, 41, 42, 43, 44, 45, 46, 47, 48, 49, 50, 51, 52, 53]) [5] (fun (k, q, c, n1, L) => [(13, .int .i64 k), (12, .slice 5 .z 1 n1 c)])
    (fun (k, q, c, n1, L) => [(2, .one 76 [.slice 3 .z 1 P0 c0, .int .i64 q]), (5, .buf 5 .u8 L c)])
    (fun (k, q, c, n1, L) => ∃ j : Nat, k = j ∧ (j : Int) ≤ N ∧ q = POS j ∧ 0 ≤ POS j ∧ L = OUT j ∧ n1 = j ∧ n1 ≤ c) (fun (_, _, _, n1, _) => N.toNat - n1) hw hm ?_ ?_
  · refine Cv.genAt [13] [2] (Cv.fold ([14, 15] ++ [36, 37, 38, 39, 40, 41, 42, 43, 44, 45, 46, 47, 48, 49, 50, 51, 52, 53]) 6 [5] (by exact Nat.le_refl _) (by exact Nat.le_of_ble_eq_true rfl) (by rfl) (by cbv) ?_)
    intro js
    refine ⟨(_, _, _, _, _), ?_, js, rfl⟩
    exact ⟨0, rfl, by omega, hpos0.symm, by rw [hpos0]; ((try simp only [nc] at *); omega), ho0.symm, rfl, Nat.le_refl _⟩
  · rintro ⟨k, q, c, n1, L⟩ js ⟨j, hk, hjN, hq, hp, hL, hn1, hnc⟩
    subst hn1
    have hpd0 := hpd 0 n1 (by omega)
    rw [hpos0] at hpd0
    cbv
    generalize hz2 : vc .lss k N = z2
    cases z2
    · rw [qc, lss_false] at hz2
      have hnN : N.toNat = n1 := by ((try simp only [nc] at *); omega)
      have hLn : L.length = n1 := by rw [hL]; exact hol n1
      rw [hnN]
      cbv
      generalize hz3 : vc .neq q 0 = z3
      cases z3
      rotate_left
      · rw [qc, neq_true, hq] at hz3
        cbv
        exact ⟨[0, 1], .tup [.val (.slice none 0 0), .lit .i64 11], [.ro .u8 l, .ro .u8 b], rfl, rfl, rfl, rfl, ⟨rfl, rfl, trivial⟩, rfl, .inl ⟨rfl, rfl, hz3⟩⟩
      · rw [qc, neq_false, Decidable.not_not, hq] at hz3
        cbv
        subst hLn
        exact ⟨[0, 1, 5], .tup [.slice 2 .z 1 L.length c, .lit .i64 0], [.ro .u8 l, .ro .u8 b, .buf 5 .u8 L c], rfl, rfl, rfl, rfl, ⟨rfl, rfl, rfl, trivial⟩, rfl, .inr ⟨L, c, rfl, rfl, hL, hz3⟩⟩
    · rw [qc, lss_true] at hz2
      have hnx := hnext c0 q ⟨by ((try simp only [nc] at *); omega), by ((try simp only [nc] at *); omega)⟩
      obtain ⟨hp1, hn1a, hn1b, _, _⟩ := hps n1
      have hsy1 := hsy n1
      rw [← hq] at hsy1
      rw [hsy1] at hnx
      obtain ⟨q1, hq1⟩ : ∃ q1, q1 = POS (n1 + 1) := ⟨_, rfl⟩
      have hqq : q - NA (SYM n1) = q1 := by ((try simp only [nc] at *); omega)
      rw [hqq] at hnx
      obtain ⟨cI, hcI⟩ : ∃ cI : Int, cI = (SYM n1 : Int) := ⟨_, rfl⟩
      simp only [nc] at hnx hcI
      rw [← hcI] at hnx
      have hpdN := hpd (n1 + 1) N.toNat (by ((try simp only [nc] at *); omega))
      rw [← hq1] at hpdN
      generalize hz3 : cV .geq q1 0 = z3 at hnx
      cbv
      refine call_con (ρ := [(2, .z), (4, .z), (3, .z)]) hnx ⟨by rfl, by rfl, by rfl, by cbv; exact ⟨fun _ => rfl, ⟨rfl, trivial⟩, fun _ => rfl, view_refl _, trivial⟩⟩ ?_
      rintro v H R js2 ⟨rfl, rfl, rfl⟩
      cbv
      refine ⟨fun _ => rfl, fun _ => rfl, ?_⟩
      cases z3
      · rw [geq_false] at hz3
        have ez : vnotB false = true := by rw [qnotB]; rfl
        have hne : POS N.toNat ≠ 0 := by ((try simp only [nc] at *); omega)
        rw [ez]
        cbv
        exact ⟨[0, 1], .tup [.val (.slice none 0 0), .lit .i64 11], [.ro .u8 l, .ro .u8 b], rfl, rfl, rfl, rfl, ⟨rfl, rfl, trivial⟩, rfl, .inl ⟨rfl, rfl, hne⟩⟩
      · rw [geq_true] at hz3
        have ez : vnotB true = false := by rw [qnotB]; rfl
        have hLn : L.length = n1 := by rw [hL]; exact hol n1
        have hadd1 : vaddN n1 1 = n1 + 1 := by rw [qaddN]
        have hadd01 : vaddN 0 1 = 1 := by rw [qaddN]
        have hln1 : vln [cI] = 1 := by rw [qln]; rfl
        have hlnL : vln L = n1 := by rw [qln]; exact hLn
        have hont : vonto L n1 (vsub [cI] 0 1) = OUT (n1 + 1) := by
          have e1 : vsub [cI] 0 1 = [cI] := by rw [qsub]; rfl
          have e2 : L.take n1 = L := by rw [← hLn, List.take_length]
          rw [e1, qonto, hos n1, hcI, ← hL]
          simp only [e2]
        obtain ⟨L2, hL2⟩ : ∃ L2, L2 = OUT (n1 + 1) := ⟨_, rfl⟩
        rw [← hL2] at hont
        obtain ⟨n2, hn2'⟩ : ∃ n2, n2 = n1 + 1 := ⟨_, rfl⟩
        rw [← hn2'] at hadd1
        obtain ⟨k1, hk1⟩ : ∃ k1 : Int, k1 = ((n2 : Nat) : Int) := ⟨_, rfl⟩
        have ek : vb .add .i64 k 1 = k1 := by (try simp only [nc] at *); rw [qb, add_i64 (by omega) (by omega)]; omega
        have hmu : ∀ _ : Unit, N.toNat - n2 < N.toNat - n1 := fun _ => by ((try simp only [nc] at *); omega)
        have hjn : ((n2 : Nat) : Int) ≤ N := by ((try simp only [nc] at *); omega)
        have hpn2 : 0 ≤ POS n2 := by rw [hn2', ← hq1]; exact hz3
        rw [← hn2'] at hL2 hq1
        have hn2b : n2 * 1 ≤ 140737488355328 := by ((try simp only [nc] at *); omega)
        rw [ez]
        cbv
        refine ⟨fun _ => rfl, ⟨by rw [hadd01, hln1]; exact Nat.le_refl _⟩, ⟨by rw [hlnL]; exact Nat.le_refl _⟩, ⟨Nat.le_refl _⟩, ⟨by rw [hadd1]; exact hn2b⟩, fun _ => rfl, ?_⟩
        intro c1 js4 hle
        have hle' : n2 ≤ c1 := by have := hle.out; simp only at this; rw [hadd1] at this; exact this
        cbv
        rw [hont, hadd1, ek]
        refine Cv.fold ([14, 15] ++ [36, 37, 38, 39, 40, 41, 42, 43, 44, 45, 46, 47, 48, 49, 50, 51, 52, 53]) 6 [5] (by exact Nat.le_refl _) (by exact Nat.le_of_ble_eq_true rfl) (by rfl) (by cbv) ?_
        intro js
        refine ⟨(_, _, _, _, _), ?_, js, rfl⟩
        exact ⟨⟨n2, hk1, hjn, hq1, hpn2, hL2, rfl, hle'⟩, hmu ()⟩
end Go.Proofs.Ytbipjekiobmpgaa
namespace Go.Proofs.Ytbipjekiobmpgaa
open Go Go.Sx Go.Proofs
/-! The other ways; both ways of packing, both ways of unpacking. -/
set_option maxRecDepth 10000
set_option maxHeartbeats 40000000
theorem pack_arg (l : List Int) (B : List Int) (cap cap2 M : Nat) (hl : ∀ c ∈ l, isU8 c) (hW : Wt l M) (hB : 131072 < B.length) (hB2 : B.length ≤ 140737488355328) :
    Con Try.prog 9 [.slice 0 .z 1 l.length cap, .slice 1 .z 1 B.length cap2] [.ro .u8 l, .ro .u8 B] (fun v H R => v = .tup [.val (.slice none 0 0), .int .i64 2] ∧ H = [.ro .u8 l, .ro .u8 B] ∧ R = []) := by
  have hsz := size_con l cap M hl (by have := hW.2.1; omega) (.inl ⟨M, hW, rfl⟩)
  refine con_gen (con_cut 2 (by simp) (con_drop (con_walk hmix fn9 ?_)))
  intro vb vc vw vtoN vofN vaddN vsubN vmaxI vminI vcutN vgd vst vln vrep vsub vonto vsplice vstrEq vbyteV vnotB veqB hw qb qc qw qtoN qofN qaddN qsubN qmaxI qminI qcutN qgd qst qln qrep qsub qonto qsplice qstrEq qbyteV qnotB qeqB
  have hm := hmix; generalize Try.prog = P at *
  have hM1 := hW.pos
  have hn256 := hW.2.1
  obtain ⟨mI, hmI⟩ : ∃ mI : Int, mI = M := ⟨_, rfl⟩
  rw [← hmI] at hsz
  generalize hn : l.length = n at *
  generalize hlb : B.length = lb at *
  have d1 : vc .eql mI 0 = false := by rw [qc, eql_false]; omega
  have d2 : vc .gtr (vofN lb) 131072 = true := by rw [qc, gtr_true, qofN]; simp only; omega
  cbv
  refine call_con (ρ := [(0, .z)]) hsz ⟨by rfl, by rfl, by rfl, by cbv; exact ⟨⟨⟨by omega, fun i _ => by rw [Nat.zero_add]⟩⟩, trivial⟩⟩ ?_
  rintro v H R js ⟨rfl, rfl, rfl⟩
  cbv
  rw [d1]
  cbv
  rw [d2]
  cbv
theorem refpack_bad (l : List Int) (B : List Int) (cap cap2 : Nat) (m : Int) (hl : ∀ c ∈ l, isU8 c) (hlen : l.length ≤ 140737488355328) (hm0 : Msz l m) (hB : m = 0 ∨ 131072 < B.length) (hB2 : B.length ≤ 140737488355328) :
    Con Try.prog 10 [.slice 0 .z 1 l.length cap, .slice 1 .z 1 B.length cap2] [.ro .u8 l, .ro .u8 B] (fun v H R => v = .tup [.val (.slice none 0 0), .int .i64 (if m = 0 then 50 else 2)] ∧ H = [.ro .u8 l, .ro .u8 B] ∧ R = []) := by
  have hsz := refbits9_con l cap m hl hlen hm0
  refine con_gen (con_cut 2 (by simp) (con_drop (con_walk hmix fn10 ?_)))
  intro vb vc vw vtoN vofN vaddN vsubN vmaxI vminI vcutN vgd vst vln vrep vsub vonto vsplice vstrEq vbyteV vnotB veqB hw qb qc qw qtoN qofN qaddN qsubN qmaxI qminI qcutN qgd qst qln qrep qsub qonto qsplice qstrEq qbyteV qnotB qeqB
  have hm := hmix; generalize Try.prog = P at *
  generalize hn : l.length = n at *
  generalize hlb : B.length = lb at *
  by_cases hm1 : m = 0
  · have d1 : vc .eql m 0 = true := by rw [qc, eql_true]; exact hm1
    rw [if_pos hm1]
    cbv
    refine call_con (ρ := [(0, .z)]) hsz ⟨by rfl, by rfl, by rfl, by cbv; exact ⟨⟨⟨by omega, fun i _ => by rw [Nat.zero_add]⟩⟩, trivial⟩⟩ ?_
    rintro v H R js ⟨rfl, rfl, rfl⟩
    cbv
    rw [d1]
    cbv
  · have d1 : vc .eql m 0 = false := by rw [qc, eql_false]; exact hm1
    have d2 : vc .gtr (vofN lb) 131072 = true := by rw [qc, gtr_true, qofN]; simp only; omega
    rw [if_neg hm1]
    cbv
    refine call_con (ρ := [(0, .z)]) hsz ⟨by rfl, by rfl, by rfl, by cbv; exact ⟨⟨⟨by omega, fun i _ => by rw [Nat.zero_add]⟩⟩, trivial⟩⟩ ?_
    rintro v H R js ⟨rfl, rfl, rfl⟩
    cbv
    rw [d1]
    cbv
    rw [d2]
    cbv
theorem refunpack_bad (l : List Int) (B : List Int) (cap cap2 : Nat) (m N : Int) (hl : ∀ c ∈ l, isU8 c) (hlen : l.length ≤ 140737488355328) (hm0 : Msz l m) (hB : m = 0 ∨ N < 0 ∨ 131072 < N) :
    Con Try.prog 12 [.slice 0 .z 1 l.length cap, .slice 1 .z 1 B.length cap2, .int .i64 N] [.ro .u8 l, .ro .u8 B] (fun v H R => v = .tup [.val (.slice none 0 0), .int .i64 (if m = 0 then 50 else 2)] ∧ H = [.ro .u8 l, .ro .u8 B] ∧ R = []) := by
  have hsz := refbits9_con l cap m hl hlen hm0
  refine con_gen (con_cut 2 (by simp) (con_drop (con_walk hmix fn12 ?_)))
  intro vb vc vw vtoN vofN vaddN vsubN vmaxI vminI vcutN vgd vst vln vrep vsub vonto vsplice vstrEq vbyteV vnotB veqB hw qb qc qw qtoN qofN qaddN qsubN qmaxI qminI qcutN qgd qst qln qrep qsub qonto qsplice qstrEq qbyteV qnotB qeqB
  have hm := hmix; generalize Try.prog = P at *
  generalize hn : l.length = n at *
  generalize hlb : B.length = lb at *
  by_cases hm1 : m = 0
  · have d1 : vc .eql m 0 = true := by rw [qc, eql_true]; exact hm1
    rw [if_pos hm1]
    cbv
    refine call_con (ρ := [(0, .z)]) hsz ⟨by rfl, by rfl, by rfl, by cbv; exact ⟨⟨⟨by omega, fun i _ => by rw [Nat.zero_add]⟩⟩, trivial⟩⟩ ?_
    rintro v H R js ⟨rfl, rfl, rfl⟩
    cbv
    rw [d1]
    cbv
  · have d1 : vc .eql m 0 = false := by rw [qc, eql_false]; exact hm1
    rw [if_neg hm1]
    cbv
    refine call_con (ρ := [(0, .z)]) hsz ⟨by rfl, by rfl, by rfl, by cbv; exact ⟨⟨⟨by omega, fun i _ => by rw [Nat.zero_add]⟩⟩, trivial⟩⟩ ?_
    rintro v H R js ⟨rfl, rfl, rfl⟩
    cbv
    rw [d1]
    cbv
    rcases (by omega : N < 0 ∨ (¬ N < 0 ∧ 131072 < N)) with h | ⟨h, h'⟩
    · have d2 : vc .lss N 0 = true := by rw [qc, lss_true]; exact h
      rw [d2]
      cbv
    · have d2 : vc .lss N 0 = false := by rw [qc, lss_false]; exact h
      have d3 : vc .gtr N 131072 = true := by rw [qc, gtr_true]; exact h'
      rw [d2]
      cbv
      rw [d3]
      cbv
theorem refunpack_last (l : List Int) (b : List Int) (cap cap2 M : Nat) (N : Int) (hl : ∀ c ∈ l, isU8 c) (hW : Wt l M) (hN : 0 ≤ N ∧ N ≤ 131072) (hlast : b.getLastD 0 = 0) (hbl : b.length ≤ 2 ^ 48) :
    Con Try.prog 12 [.slice 0 .z 1 l.length cap, .slice 1 .z 1 b.length cap2, .int .i64 N] [.ro .u8 l, .ro .u8 b] (fun v H R => v = .tup [.val (.slice none 0 0), .int .i64 11] ∧ H = [.ro .u8 l, .ro .u8 b] ∧ R = []) := by
  have hsz := refbits9_con l cap M hl (by have := hW.2.1; omega) (.inl ⟨M, hW, rfl⟩)
  have hnew := refnew_bad b cap2 hlast hbl
  refine con_gen (con_cut 2 (by simp) (con_drop (con_walk hmix fn12 ?_)))
  intro vb vc vw vtoN vofN vaddN vsubN vmaxI vminI vcutN vgd vst vln vrep vsub vonto vsplice vstrEq vbyteV vnotB veqB hw qb qc qw qtoN qofN qaddN qsubN qmaxI qminI qcutN qgd qst qln qrep qsub qonto qsplice qstrEq qbyteV qnotB qeqB
  have hm := hmix; generalize Try.prog = P at *
  have hM1 := hW.pos
  have hn256 := hW.2.1
  obtain ⟨mI, hmI⟩ : ∃ mI : Int, mI = M := ⟨_, rfl⟩
  rw [← hmI] at hsz
  generalize hn : l.length = n at *
  generalize hlb : b.length = lb at *
  have d1 : vc .eql mI 0 = false := by rw [qc, eql_false]; omega
  have d2 : vc .lss N 0 = false := by rw [qc, lss_false]; omega
  have d3 : vc .gtr N 131072 = false := by rw [qc, gtr_false]; omega
  cbv
  refine call_con (ρ := [(0, .z)]) hsz ⟨by rfl, by rfl, by rfl, by cbv; exact ⟨⟨⟨by omega, fun i _ => by rw [Nat.zero_add]⟩⟩, trivial⟩⟩ ?_
  rintro v H R js ⟨rfl, rfl, rfl⟩
  cbv
  rw [d1]
  cbv
  rw [d2]
  cbv
  rw [d3]
  cbv
  refine call_con (ρ := [(1, .z)]) hnew ⟨by rfl, by rfl, by rfl, by cbv; exact ⟨⟨⟨by omega, fun i _ => by rw [Nat.zero_add]⟩⟩, trivial⟩⟩ ?_
  rintro v H R js ⟨rfl, rfl, rfl⟩
  cbv
/-- Both ways of packing give the same. -/
theorem packs (l b : List Int) (hl : ∀ c ∈ l, isU8 c) (hb : ∀ c ∈ b, isU8 c) (hlen : l.length ≤ 140737488355328) (hbl : b.length ≤ 140737488355328) : ∃ (e : Int) (F : List Int),
    (∀ cap cap2, Con Try.prog 9 [.slice 0 .z 1 l.length cap, .slice 1 .z 1 b.length cap2] [.ro .u8 l, .ro .u8 b] (fun v H R => R = [] ∧ ((H = [.ro .u8 l, .ro .u8 b] ∧ v = .tup [.val (.slice none 0 0), .int .i64 e] ∧ e ≠ 0) ∨
      ∃ c', H = [.ro .u8 l, .ro .u8 b, .buf 5 .u8 F c'] ∧ v = .tup [.slice 2 .z 1 F.length c', .int .i64 e] ∧ e = 0))) ∧
    (∀ cap cap2, Con Try.prog 10 [.slice 0 .z 1 l.length cap, .slice 1 .z 1 b.length cap2] [.ro .u8 l, .ro .u8 b] (fun v H R => R = [] ∧ ((H = [.ro .u8 l, .ro .u8 b] ∧ v = .tup [.val (.slice none 0 0), .int .i64 e] ∧ e ≠ 0) ∨
      (H = [.ro .u8 l, .ro .u8 b, .ints 5 .u8 F] ∧ v = .tup [.slice 2 .z 1 F.length F.length, .int .i64 e] ∧ e = 0)))) := by
  by_cases hWx : ∃ M, Wt l M
  · obtain ⟨M, hW⟩ := hWx
    have hm0 : Msz l M := .inl ⟨M, hW, rfl⟩
    have hM0 : (M : Int) ≠ 0 := by have := hW.pos; omega
    by_cases hB : 131072 < b.length
    · refine ⟨2, [], fun cap cap2 => (pack_arg l b cap cap2 M hl hW hB hbl).mono fun v H R h => ⟨h.2.2, .inl ⟨h.2.1, h.1, by decide⟩⟩, fun cap cap2 => (refpack_bad l b cap cap2 M hl hlen hm0 (.inr hB) hbl).mono fun v H R h => ⟨h.2.2, .inl ⟨h.2.1, ?_, by decide⟩⟩⟩
      rw [h.1, if_neg hM0]
    · by_cases hA : AllSy l b b.length
      · refine ⟨0, pack (pb l M b b.length ++ [1]), fun cap cap2 => (pack_okP l b cap cap2 M hl hb hW (by omega)).mono ?_, fun cap cap2 => (refpack_ok l b cap cap2 M hl hb hW (by omega)).mono ?_⟩
        · rintro v H R ⟨h1, L, c', h2, h3 | h3⟩
          · exact (h3.2 hA).elim
          · obtain ⟨h4, h5, _⟩ := h3
            subst h5
            exact ⟨h1, .inr ⟨c', h2, h4, rfl⟩⟩
        · rintro v H R ⟨h1, h3 | ⟨L, h2, h3, h4, h5⟩⟩
          · exact (h3.2.2 hA).elim
          · subst h4
            exact ⟨h1, .inr ⟨h2, h3, rfl⟩⟩
      · refine ⟨2, [], fun cap cap2 => con_picks ((pack_okP l b cap cap2 M hl hb hW (by omega)).mono ?_), fun cap cap2 => (refpack_ok l b cap cap2 M hl hb hW (by omega)).mono ?_⟩
        · rintro v H R ⟨h1, L, c', rfl, h3 | h3⟩
          · exact ⟨[0, 1], .tup [.val (.slice none 0 0), .int .i64 2], [.ro .u8 l, .ro .u8 b], rfl, rfl, h3.1, rfl, ⟨rfl, rfl, trivial⟩, h1, .inl ⟨rfl, rfl, by decide⟩⟩
          · exact (hA h3.2.2).elim
        · rintro v H R ⟨h1, h3 | ⟨L, h2, h3, h4, h5⟩⟩
          · exact ⟨h1, .inl ⟨h3.1, h3.2.1, by decide⟩⟩
          · exact (hA h5).elim
  · have hW : ∀ M, ¬ Wt l M := fun M h => hWx ⟨M, h⟩
    exact ⟨50, [], fun cap cap2 => (pack_code l b cap cap2 hl hlen hW).mono fun v H R h => ⟨h.2.2, .inl ⟨h.2.1, h.1, by decide⟩⟩, fun cap cap2 => (refpack_bad l b cap cap2 0 hl hlen (.inr ⟨hW, rfl⟩) (.inl rfl) hbl).mono fun v H R h => ⟨h.2.2, .inl ⟨h.2.1, h.1, by decide⟩⟩⟩
/-- Both ways of unpacking give the same. -/
theorem unpacks (l b : List Int) (N : Int) (hl : ∀ c ∈ l, isU8 c) (hb : ∀ c ∈ b, isU8 c) (hlen : l.length ≤ 140737488355328) (hbl : 8 * b.length ≤ 140737488355328) : ∃ (e : Int) (F : List Int),
    (∀ cap cap2, Con Try.prog 11 [.slice 0 .z 1 l.length cap, .slice 1 .z 1 b.length cap2, .int .i64 N] [.ro .u8 l, .ro .u8 b] (fun v H R => R = [] ∧ ((H = [.ro .u8 l, .ro .u8 b] ∧ v = .tup [.val (.slice none 0 0), .int .i64 e] ∧ e ≠ 0) ∨
      ∃ c', H = [.ro .u8 l, .ro .u8 b, .buf 5 .u8 F c'] ∧ v = .tup [.slice 2 .z 1 F.length c', .int .i64 e] ∧ e = 0))) ∧
    (∀ cap cap2, Con Try.prog 12 [.slice 0 .z 1 l.length cap, .slice 1 .z 1 b.length cap2, .int .i64 N] [.ro .u8 l, .ro .u8 b] (fun v H R => R = [] ∧ ((H = [.ro .u8 l, .ro .u8 b] ∧ v = .tup [.val (.slice none 0 0), .int .i64 e] ∧ e ≠ 0) ∨
      ∃ c', H = [.ro .u8 l, .ro .u8 b, .buf 5 .u8 F c'] ∧ v = .tup [.slice 2 .z 1 F.length c', .int .i64 e] ∧ e = 0))) := by
  have hby := isU8_byte hb
  by_cases hWx : ∃ M, Wt l M
  · obtain ⟨M, hW⟩ := hWx
    have hm0 : Msz l M := .inl ⟨M, hW, rfl⟩
    have hM0 : (M : Int) ≠ 0 := by have := hW.pos; omega
    by_cases hB : N < 0 ∨ 131072 < N
    · refine ⟨2, [], fun cap cap2 => (unpack_arg l b cap cap2 M N hl hW hB).mono fun v H R h => ⟨h.2.2, .inl ⟨h.2.1, h.1, by decide⟩⟩, fun cap cap2 => (refunpack_bad l b cap cap2 M N hl hlen hm0 (.inr hB)).mono fun v H R h => ⟨h.2.2, .inl ⟨h.2.1, ?_, by decide⟩⟩⟩
      rw [h.1, if_neg hM0]
    · by_cases h2 : b.getLastD 0 = 0
      · exact ⟨11, [], fun cap cap2 => (unpack_bad l b cap cap2 M N hl hW ⟨by omega, by omega⟩ h2 (by omega)).mono fun v H R h => ⟨h.2.2, .inl ⟨h.2.1, h.1, by decide⟩⟩, fun cap cap2 => (refunpack_last l b cap cap2 M N hl hW ⟨by omega, by omega⟩ h2 (by omega)).mono fun v H R h => ⟨h.2.2, .inl ⟨h.2.1, h.1, by decide⟩⟩⟩
      · have hp := fun cap cap2 => unpackA l b cap cap2 M N hl hby hW (by omega) (by omega)
        have hq := fun cap cap2 => refunpack_good l b cap cap2 M N hl hby hW ⟨by omega, by omega⟩ hbl h2
        by_cases hA : pos l M b (markAt b) N.toNat = 0
        · refine ⟨0, outs l M b (markAt b) N.toNat, fun cap cap2 => (hp cap cap2).mono ?_, fun cap cap2 => (hq cap cap2).mono ?_⟩
          · rintro v H R ⟨h1, ⟨h3, ⟨h4, h5⟩ | ⟨h4, h5, h6⟩⟩ | ⟨L, c', h3, ⟨h4, h5, h6, h7⟩ | ⟨h4, h5, _⟩⟩⟩
            · omega
            · exact (h2 h6).elim
            · exact (h7 hA).elim
            · subst h5
              exact ⟨h1, .inr ⟨c', h3, h4, rfl⟩⟩
          · rintro v H R ⟨h1, ⟨h3, h4, h5⟩ | ⟨L, c', h3, h4, h5, h6⟩⟩
            · exact (h5 hA).elim
            · subst h5
              exact ⟨h1, .inr ⟨c', h3, h4, rfl⟩⟩
        · refine ⟨11, [], fun cap cap2 => con_picks ((hp cap cap2).mono ?_), fun cap cap2 => (hq cap cap2).mono ?_⟩
          · rintro v H R ⟨h1, ⟨h3, ⟨h4, h5⟩ | ⟨h4, h5, h6⟩⟩ | ⟨L, c', rfl, ⟨h4, h5, h6, h7⟩ | ⟨h4, h5, _, _, h6⟩⟩⟩
            · omega
            · exact (h2 h6).elim
            · exact ⟨[0, 1], .tup [.val (.slice none 0 0), .int .i64 11], [.ro .u8 l, .ro .u8 b], rfl, rfl, h4, rfl, ⟨rfl, rfl, trivial⟩, h1, .inl ⟨rfl, rfl, by decide⟩⟩
            · exact (hA h6).elim
          · rintro v H R ⟨h1, ⟨h3, h4, h5⟩ | ⟨L, c', h3, h4, h5, h6⟩⟩
            · exact ⟨h1, .inl ⟨h3, h4, by decide⟩⟩
            · exact (hA h6).elim
  · have hW : ∀ M, ¬ Wt l M := fun M h => hWx ⟨M, h⟩
    exact ⟨50, [], fun cap cap2 => (unpack_code l b cap cap2 N hl hlen hW).mono fun v H R h => ⟨h.2.2, .inl ⟨h.2.1, h.1, by decide⟩⟩, fun cap cap2 => (refunpack_bad l b cap cap2 0 N hl hlen (.inr ⟨hW, rfl⟩) (.inl rfl)).mono fun v H R h => ⟨h.2.2, .inl ⟨h.2.1, h.1, by decide⟩⟩⟩
end Go.Proofs.Ytbipjekiobmpgaa
