/-
  For every row of lengths, every row of symbols and all bytes, balerlaw05.CanonTells returns true and leaves its arguments as they were. No condition.
-/
import Derived.Test.YtodobmkflimfkaaTD
namespace Go.Proofs.Ytodobmkflimfkaa.canonTells
open Go Go.Sx Go.ChangeShapes Go.WideShapes Go.ChangeAt Go.RowKit
set_option linter.unusedVariables false
theorem wf_u8 {x : Int} (h : (Lit.int .u8 x).wf = true) : isU8 x := by
  simp [Lit.wf, IntKind.min, IntKind.max, IntKind.signed, IntKind.bits] at h
  unfold isU8
  omega
theorem bytes_wr (bs l : List Int) (c n : Nat) (m : Int) (h : Wr bs l n m) (hl : bs.length ≤ 2 ^ 40) :
    Con Try.prog 53 [.ptr 0 .z 2 0] [.one 92 [.slice 1 .z 1 n c, .int .i64 m], .buf 5 .u8 l c]
      (fun v H R => R = [2] ∧ ∃ c', v = .slice 2 .z 1 n c' ∧ H = [.one 92 [.slice 1 .z 1 n c, .int .i64 m], .buf 5 .u8 l c, .buf 5 .u8 l c']) := by
  obtain ⟨h1, rfl, rfl, rfl⟩ := h
  exact bbytes_con bs c hl
theorem refbytes_wr (bs l : List Int) (c n rn : Nat) (m : Int) (h : Wr bs l n m) (hr : rn = bs.length) (hl : bs.length ≤ 2 ^ 40) :
    Con Try.prog 54 [.ptr 0 .z 1 0] [.one 95 [.slice 1 .z 1 rn c], .buf 5 .u8 bs c]
      (fun v H R => v = .slice 2 .z 1 n n ∧ R = [] ∧ H = [.one 95 [.slice 1 .z 1 rn c], .buf 5 .u8 bs c, .ints 5 .u8 l]) := by
  obtain ⟨h1, rfl, rfl, rfl⟩ := h
  subst hr
  exact brefbytes_con bs c h1 hl
set_option maxHeartbeats 40000000
set_option maxRecDepth 10000
theorem law_con (l ss b : List Int) (cap cap2 cap3 : Nat) (hlu : ∀ c ∈ l, isU8 c) (hlen : l.length ≤ 9223372036854775807) (hss : ss.length ≤ 9223372036854775807) (hby : ∀ x ∈ b, isByte x) (hbl : b.length ≤ 140737488351232) :
    Con Try.prog 11 [.slice 0 .z 1 l.length cap, .slice 1 .z 1 ss.length cap2, .slice 2 .z 1 b.length cap3] [.ro .u8 l, .ro .i64 ss, .ro .u8 b] (fun v H R => v = .bool true ∧ H = [.ro .u8 l, .ro .i64 ss, .ro .u8 b] ∧ R = []) := by
  have hwakes := wakes5_con
  obtain ⟨E, B, hBl, hwrite, hrefw⟩ := writes5 l cap hlu hlen
  obtain ⟨D, hdet, hDle, hread, hrefr⟩ := reads5 l b cap cap3 hlu hlen hby (by omega)
  have hbytes := bytes_wr
  have hrbytes := refbytes_wr
  have hnew := rnew_con b cap3 (by omega)
  have hleft : ∀ (p c : Nat) (acc hv ai : Int), RS b p acc hv ai → Con Try.prog 35 [.ptr 0 .z 4 0] [(.one 131 [.fn 80 [.ptr 1 .z 1 0, .ptr 2 .z 1 0], .int .u64 (acc), .int .i64 (hv), .fn 81 [.ptr 2 .z 1 0, .ptr 1 .z 1 0]]), .one 3 [.int .i64 ai], .one 23 [.slice 3 .z 1 b.length c], .ro .u8 b]
      (fun v H R => (∃ f : Int, f = 8 * b.length - p ∧ v = .int .i64 f) ∧ R = [] ∧ H = [(.one 131 [.fn 80 [.ptr 1 .z 1 0, .ptr 2 .z 1 0], .int .u64 (acc), .int .i64 (hv), .fn 81 [.ptr 2 .z 1 0, .ptr 1 .z 1 0]]), .one 3 [.int .i64 ai], .one 23 [.slice 3 .z 1 b.length c], .ro .u8 b]) := by
    intro p c acc hv ai h2
    refine (rleft_rs b p c acc hv ai (by omega) h2).mono ?_
    rintro v H R ⟨rfl, rfl, rfl⟩
    exact ⟨⟨_, rfl, rfl⟩, rfl, rfl⟩
  have hrleft : ∀ (p : Nat) (pI : Int), pI = p → p ≤ 8 * b.length → Con Try.prog 49 [.ptr 0 .z 2 0] [.one 76 [.slice 1 .z 1 b.length cap3, .int .i64 pI], .ro .u8 b]
      (fun v H R => (∃ f : Int, f = 8 * b.length - p ∧ v = .int .i64 f) ∧ R = [] ∧ H = [.one 76 [.slice 1 .z 1 b.length cap3, .int .i64 pI], .ro .u8 b]) := by
    rintro p pI rfl h2
    refine (refleft_con b cap3 p (by omega) h2).mono ?_
    rintro v H R ⟨rfl, rfl, rfl⟩
    exact ⟨⟨_, rfl, rfl⟩, rfl, rfl⟩
  by_cases h5 : Right5 l
  · have hcodes := codes_ok l cap hlu h5
    have hrcodes := refcodes_ok l cap hlu h5
    have hn1 := (h5.rt hlu).n1
    have hsame := same5_con (WL l) l.length l.length l.length (WL_len l).symm (by omega)
    refine con_gen (con_cut 3 (by simp) (con_drop (con_walk hmix fn11 ?_)))
    intro vb vc vw vtoN vofN vaddN vsubN vmaxI vminI vcutN vgd vst vln vrep vsub vonto vsplice vstrEq vbyteV vnotB veqB hw qb qc qw qtoN qofN qaddN qsubN qmaxI qminI qcutN qgd qst qln qrep qsub qonto qsplice qstrEq qbyteV qnotB qeqB
    have hm := hmix; generalize Try.prog = P at *
    have hwr0 : Wr [] [] 0 0 := Wr.nil
    have hwrl : ∀ bs bl bn bm, Wr bs bl bn bm → bn = bl.length := fun bs bl bn bm h => h.2.2.1
    have hrs0 := RS.start b
    generalize WL l = W at *
    generalize @Wr = WR at *
    generalize RS b = RSf at *
    generalize hT : 8 * b.length = T at *
    generalize hnb : b.length = nb at *
    generalize hn : l.length = n at *
    generalize hm : ss.length = m at *
    have hto : ∀ i : Nat, vtoN (i : Int) = i := fun i => by simp only [qtoN, Int.toNat_natCast]
    have hadd0 : ∀ i, vaddN 0 i = i := fun i => by simp only [qaddN, Nat.zero_add]
    have hvl : ∀ l, vln l = l.length := fun l => by simp only [qln]
    have hvgd : ∀ l i, vgd l i = l.getD i 0 := fun l i => by simp only [qgd]
    have hself : ∀ x, vc .neq x x = false := fun x => by rw [qc, neq_eq]; simp
    have hnbt : vnotB true = false := by simp only [qnotB]; rfl
    have hseq : ∀ x, vstrEq x x = true := fun x => by simp only [qstrEq]; simp
    cbv
    refine call_con (ρ := [(0, .z)]) hcodes ⟨by rfl, by rfl, by rfl, by cbv; exact ⟨view_refl _, trivial⟩⟩ ?_
    rintro v H R js ⟨rfl, rfl, rfl⟩
    cbv
    refine call_con (ρ := [(0, .z)]) hrcodes ⟨by rfl, by rfl, by rfl, by cbv; exact ⟨view_refl _, trivial⟩⟩ ?_
    rintro v H R js ⟨rfl, rfl, rfl⟩
    cbv
    rw [hself]
    cbv
    refine call_con (ρ := [(3, .z), (4, .z)]) hsame ⟨by rfl, by rfl, by rfl, by cbv; exact ⟨view_refl _, view_refl _, trivial⟩⟩ ?_
    rintro v H R js ⟨rfl, rfl, rfl⟩
    cbv
    rw [hnbt]
    cbv
    refine WX.cv (Cv.nilB 5 0 5 .u8 (by rfl) (by cbv) (Cv.nilB 6 0 5 .u8 (by rfl) (by cbv) (Cv.here ?_)))
    cbv
    refine loop_fam (α := Int × List Int × Nat × Nat × Int × List Int × Nat × Nat) ([13, 14] ++ [47, 48, 49, 50, 51, 52, 53, 54, 55, 56, 57, 58, 59, 60, 61, 62]) [7, 8]
      (fun (k, _) => [(46, .int .i64 k)])
      (fun (k, bl, bn, c, bm, rl, rn, rc) => [(5, .one 92 [.slice 7 .z 1 bn c, .int .i64 bm]), (7, .buf 5 .u8 bl c), (6, .one 95 [.slice 8 .z 1 rn rc]), (8, .buf 5 .u8 rl rc)])
      (fun (k, bl, bn, c, bm, rl, rn, rc) => ∃ i : Nat, k = i ∧ i ≤ m ∧ i ≤ 60 ∧ WR rl bl bn bm ∧ rn = rl.length ∧ rl.length ≤ 15 * i) (fun (k, _) => m - k.toNat) hw ‹_› ?_ ?_
    · refine Cv.genAt [46] [5] (Cv.fold ([13, 14] ++ [47, 48, 49, 50, 51, 52, 53, 54, 55, 56, 57, 58, 59, 60, 61, 62]) 9 [7, 8] (by exact Nat.le_refl _) (by exact Nat.le_of_ble_eq_true rfl) (by rfl) (by cbv) ?_)
      intro js
      refine ⟨(_, _, _, _, _, _, _, _), ?_, js, rfl⟩
      exact ⟨0, rfl, by omega, by omega, hwr0, rfl, by simp⟩
    · rintro ⟨k, bl, bn, c, bm, rl, rn, rc⟩ js ⟨i, hk, hi, hi60, hwr, hrn, hrl⟩
      cbv
      split
      rotate_left
      rename_i hge
      cbv
      rotate_left
      rename_i hlt
      cbv
      have hlt : i < m := by rw [qc, lss_true] at hlt; simp only [qofN] at hlt; simp only [nc] at *; omega
      have hti : vtoN k = i := by rw [hk]; exact hto i
      have hinR : 0 ≤ k ∧ k < (m : Int) := by simp only [nc] at *; omega
      have hlss : i < vln ss := by rw [hvl]; omega
      rw [hti, hadd0, hvgd ss]
      generalize hs0 : ss.getD i 0 = s0
      refine ⟨⟨hinR⟩, ⟨hlss⟩, ⟨hlss⟩, ?_⟩
      generalize hg60 : vc .geq k 60 = z60
      cases z60
      · cbv
        have hg60 : i + 1 ≤ 60 := by rw [qc, geq_eq] at hg60; simp only [decide_eq_false_iff_not] at hg60; simp only [nc] at *; omega
        have hw1 := hwrite rl bl bn c bm s0 hwr (by omega)
        have hw2 := hrefw rl rn rc s0 hrn (by omega)
        have hbs := hBl s0
        obtain ⟨k1, hk1⟩ : ∃ k1 : Int, k1 = ((i + 1 : Nat) : Int) := ⟨_, rfl⟩
        have hmu : ∀ _ : Unit, m - k1.toNat < m - k.toNat := fun _ => by simp only [nc] at *; omega
        have ek : vb .add .i64 k 1 = k1 := by simp only [nc] at *; rw [qb, add_i64 (by omega) (by omega)]; omega
        have hll : (rl ++ B s0).length ≤ 15 * (i + 1) := by rw [List.length_append]; omega
        generalize rl ++ B s0 = rl2 at *
        generalize E s0 = e0 at *
        refine call_con (ρ := [(5, .z), (7, .z), (0, .z)]) hw1 ⟨by rfl, by rfl, by rfl, by cbv; exact ⟨view_refl _, trivial⟩⟩ ?_
        rintro v H R js2 ⟨rfl, l2, n2, m2, c2, hwr2, rfl, rfl⟩
        cbv
        refine call_con (ρ := [(6, .z), (8, .z), (0, .z)]) hw2 ⟨by rfl, by rfl, by rfl, by cbv; exact ⟨view_refl _, trivial⟩⟩ ?_
        rintro v H R js3 ⟨rfl, n3, c3, hn3, rfl, rfl⟩
        cbv
        rw [hself]
        cbv
        rw [ek]
        refine Cv.fold ([13, 14] ++ [47, 48, 49, 50, 51, 52, 53, 54, 55, 56, 57, 58, 59, 60, 61, 62]) 9 [7, 8] (by exact Nat.le_refl _) (by exact Nat.le_of_ble_eq_true rfl) (by rfl) (by cbv) ?_
        intro js
        refine ⟨(_, _, _, _, _, _, _, _), ?_, js, rfl⟩
        exact ⟨⟨i + 1, hk1, hlt, hg60, hwr2, hn3, hll⟩, hmu ()⟩
      cbv
      all_goals
        have hbn := hwrl _ _ _ _ hwr
        have hby1 := hbytes rl bl c bn bm hwr (by omega)
        have hby2 := hrbytes rl bl rc bn rn bm hwr hrn (by omega)
        clear hwrite hrefw hbytes hrbytes
        refine call_con (ρ := [(5, .z), (7, .z)]) hby1 ⟨by rfl, by rfl, by rfl, by cbv⟩ ?_
        rintro v H R js9 ⟨rfl, c9, rfl, rfl⟩
        cbv
        have hle0 : vaddN 0 bn ≤ vln bl := by rw [hadd0, hvl]; omega
        refine ⟨⟨hle0⟩, ?_⟩
        refine call_con (ρ := [(6, .z), (8, .z)]) hby2 ⟨by rfl, by rfl, by rfl, by cbv⟩ ?_
        rintro v H R js10 ⟨rfl, rfl, rfl⟩
        cbv
        rw [hseq, hnbt]
        cbv
        refine ⟨⟨⟨hle0⟩, trivial⟩, ⟨hle0⟩, ?_⟩
        refine call_con (ρ := [(2, .z)]) hnew ⟨by rfl, by rfl, by rfl, by cbv; exact ⟨view_refl _, trivial⟩⟩ ?_
        rintro v H R js11 ⟨rfl, rfl, c11, rfl⟩
        cbv
        have hread2 := fun p => hread p c11
        have hleft2 := fun p => hleft p c11
        clear hby1 hby2 hnew hread hleft
        refine loop_fam (α := Int × Int × Int × Int × Int) ([17, 18, 19, 20] ++ [76, 77, 78, 79, 80, 81, 82, 83, 84, 85, 86, 87, 88, 89, 90, 91, 92, 93, 94, 95, 96, 97, 98, 99, 100, 101, 102, 103, 104, 105, 106, 107, 108, 109, 110]) [7, 8] (fun (q, _, _, _, _) => [(75, .int .i64 q)]) (fun (_, acc, hv, ai, pI) => [(14, .one 131 [.fn 80 [.ptr 13 .z 1 0, .ptr 12 .z 1 0], .int .u64 acc, .int .i64 hv, .fn 81 [.ptr 12 .z 1 0, .ptr 13 .z 1 0]]), (13, .one 3 [.int .i64 ai]), (15, .one 76 [.slice 2 .z 1 nb cap3, .int .i64 pI])])
          (fun (q, acc, hv, ai, pI) => ∃ u p : Nat, q = u ∧ u ≤ 60 ∧ p ≤ T ∧ pI = p ∧ RSf p acc hv ai) (fun (q, _) => 60 - q.toNat) hw ‹_› ?_ ?_
        · refine Cv.genAt [75] [14, 13, 15] (Cv.fold ([17, 18, 19, 20] ++ [76, 77, 78, 79, 80, 81, 82, 83, 84, 85, 86, 87, 88, 89, 90, 91, 92, 93, 94, 95, 96, 97, 98, 99, 100, 101, 102, 103, 104, 105, 106, 107, 108, 109, 110]) 16 [7, 8] (by exact Nat.le_refl _) (by exact Nat.le_of_ble_eq_true rfl) (by rfl) (by cbv) ?_)
          intro js
          refine ⟨(_, _, _, _, _), ?_, js, rfl⟩
          exact ⟨0, 0, rfl, by omega, by omega, rfl, hrs0⟩
        · rintro ⟨q, acc, hv, ai, pI⟩ js12 ⟨u, p, hq, hu, hp, hpI, hrs⟩
          cbv
          split
          · rename_i hlt2
            cbv
            have hlt2 : u < 60 := by rw [qc, lss_true] at hlt2; simp only [nc] at *; omega
            obtain ⟨q1, hq1⟩ : ∃ q1 : Int, q1 = ((u + 1 : Nat) : Int) := ⟨_, rfl⟩
            have eq1 : vb .add .i64 q 1 = q1 := by simp only [nc] at *; rw [qb, add_i64 (by omega) (by omega)]; omega
            have hmu2 : ∀ _ : Unit, 60 - q1.toNat < 60 - q.toNat := fun _ => by simp only [nc] at *; omega
            have hr1 := hread2 p acc hv ai hrs hp
            have hr2 := hrefr p pI hpI hp
            refine call_con (ρ := [(14, .z), (13, .z), (12, .z), (11, .z), (0, .z)]) hr1 ⟨by rfl, by rfl, by rfl, by cbv; exact ⟨view_refl _, view_refl _, trivial⟩⟩ ?_
            rintro v H R js13 ⟨acc2, hv2, ai2, s, e, p2, rfl, hrs2, hd1, rfl, rfl⟩
            cbv
            refine call_con (ρ := [(15, .z), (2, .z), (0, .z)]) hr2 ⟨by rfl, by rfl, by rfl, by cbv; exact ⟨view_refl _, view_refl _, trivial⟩⟩ ?_
            rintro v H R js14 ⟨s', e', pI2, p3, rfl, hpI2, hd2, rfl, rfl⟩
            cbv
            obtain ⟨hs, he, hp23⟩ := hdet _ _ _ _ _ _ _ hd1 hd2
            subst hs he hp23
            have hp2 := hDle _ _ _ _ hp hd1
            have hl1 := hleft2 p2 acc2 hv2 ai2 hrs2
            have hl2 := hrleft p2 pI2 hpI2 hp2
            rw [hself]
            cbv
            rw [hself]
            cbv
            generalize hz : vc .eql e 0 = z
            cases z
            · have hne : vc .neq e 0 = true := by rw [qc, neq_eq]; rw [qc, eql_false] at hz; simpa using hz
              cbv
              rw [hne]
              cbv
              refine call_con (ρ := []) hwakes ⟨by rfl, by rfl, by rfl, by cbv⟩ ?_
              rintro v H R js15 ⟨rfl, rfl, rfl⟩
              cbv
            · rw [qc, eql_true] at hz
              subst hz
              cbv
              refine call_con (ρ := [(14, .z), (13, .z), (12, .z), (11, .z)]) hl1 ⟨by rfl, by rfl, by rfl, by cbv; exact ⟨view_refl _, trivial⟩⟩ ?_
              rintro v H R js15 ⟨⟨f, hf, rfl⟩, rfl, rfl⟩
              cbv
              refine call_con (ρ := [(15, .z), (2, .z)]) hl2 ⟨by rfl, by rfl, by rfl, by cbv; exact ⟨view_refl _, trivial⟩⟩ ?_
              rintro v H R js16 ⟨⟨f', hf', rfl⟩, rfl, rfl⟩
              cbv
              have hff : f = f' := by rw [hf, hf']
              subst hff
              rw [hself]
              cbv
              rw [hself]
              cbv
              rw [eq1]
              refine Cv.fold ([17, 18, 19, 20] ++ [76, 77, 78, 79, 80, 81, 82, 83, 84, 85, 86, 87, 88, 89, 90, 91, 92, 93, 94, 95, 96, 97, 98, 99, 100, 101, 102, 103, 104, 105, 106, 107, 108, 109, 110]) 16 [7, 8] (by exact Nat.le_refl _) (by exact Nat.le_of_ble_eq_true rfl) (by rfl) (by cbv) ?_
              intro js
              refine ⟨(_, _, _, _, _), ?_, js, rfl⟩
              exact ⟨⟨u + 1, p2, hq1, by omega, hp2, hpI2, hrs2⟩, hmu2 ()⟩
          · cbv
            refine call_con (ρ := []) hwakes ⟨by rfl, by rfl, by rfl, by cbv⟩ ?_
            rintro v H R js15 ⟨rfl, rfl, rfl⟩
            cbv
  · have hcodes := codes_bad l cap hlu hlen h5
    have hrcodes := refcodes_bad l cap hlu hlen h5
    have hsame := same5_nil
    refine con_gen (con_cut 3 (by simp) (con_drop (con_walk hmix fn11 ?_)))
    intro vb vc vw vtoN vofN vaddN vsubN vmaxI vminI vcutN vgd vst vln vrep vsub vonto vsplice vstrEq vbyteV vnotB veqB hw qb qc qw qtoN qofN qaddN qsubN qmaxI qminI qcutN qgd qst qln qrep qsub qonto qsplice qstrEq qbyteV qnotB qeqB
    have hm := hmix; generalize Try.prog = P at *
    have hwr0 : Wr [] [] 0 0 := Wr.nil
    have hwrl : ∀ bs bl bn bm, Wr bs bl bn bm → bn = bl.length := fun bs bl bn bm h => h.2.2.1
    have hrs0 := RS.start b
    generalize @Wr = WR at *
    generalize RS b = RSf at *
    generalize hT : 8 * b.length = T at *
    generalize hnb : b.length = nb at *
    generalize hn : l.length = n at *
    generalize hm : ss.length = m at *
    have hto : ∀ i : Nat, vtoN (i : Int) = i := fun i => by simp only [qtoN, Int.toNat_natCast]
    have hadd0 : ∀ i, vaddN 0 i = i := fun i => by simp only [qaddN, Nat.zero_add]
    have hvl : ∀ l, vln l = l.length := fun l => by simp only [qln]
    have hvgd : ∀ l i, vgd l i = l.getD i 0 := fun l i => by simp only [qgd]
    have hself : ∀ x, vc .neq x x = false := fun x => by rw [qc, neq_eq]; simp
    have hnbt : vnotB true = false := by simp only [qnotB]; rfl
    have hseq : ∀ x, vstrEq x x = true := fun x => by simp only [qstrEq]; simp
    cbv
    refine call_con (ρ := [(0, .z)]) hcodes ⟨by rfl, by rfl, by rfl, by cbv; exact ⟨view_refl _, trivial⟩⟩ ?_
    rintro v H R js ⟨rfl, rfl, rfl⟩
    cbv
    refine call_con (ρ := [(0, .z)]) hrcodes ⟨by rfl, by rfl, by rfl, by cbv; exact ⟨view_refl _, trivial⟩⟩ ?_
    rintro v H R js ⟨rfl, rfl, rfl⟩
    cbv
    rw [hself]
    cbv
    refine call_con (ρ := []) hsame ⟨by rfl, by rfl, by rfl, by cbv⟩ ?_
    rintro v H R js ⟨rfl, rfl, rfl⟩
    cbv
    rw [hnbt]
    cbv
    refine WX.cv (Cv.nilB 3 0 5 .u8 (by rfl) (by cbv) (Cv.nilB 4 0 5 .u8 (by rfl) (by cbv) (Cv.here ?_)))
    cbv
    refine loop_fam (α := Int × List Int × Nat × Nat × Int × List Int × Nat × Nat) ([13, 14] ++ [47, 48, 49, 50, 51, 52, 53, 54, 55, 56, 57, 58, 59, 60, 61, 62]) [5, 6]
      (fun (k, _) => [(46, .int .i64 k)])
      (fun (k, bl, bn, c, bm, rl, rn, rc) => [(3, .one 92 [.slice 5 .z 1 bn c, .int .i64 bm]), (5, .buf 5 .u8 bl c), (4, .one 95 [.slice 6 .z 1 rn rc]), (6, .buf 5 .u8 rl rc)])
      (fun (k, bl, bn, c, bm, rl, rn, rc) => ∃ i : Nat, k = i ∧ i ≤ m ∧ i ≤ 60 ∧ WR rl bl bn bm ∧ rn = rl.length ∧ rl.length ≤ 15 * i) (fun (k, _) => m - k.toNat) hw ‹_› ?_ ?_
    · refine Cv.genAt [46] [3] (Cv.fold ([13, 14] ++ [47, 48, 49, 50, 51, 52, 53, 54, 55, 56, 57, 58, 59, 60, 61, 62]) 7 [5, 6] (by exact Nat.le_refl _) (by exact Nat.le_of_ble_eq_true rfl) (by rfl) (by cbv) ?_)
      intro js
      refine ⟨(_, _, _, _, _, _, _, _), ?_, js, rfl⟩
      exact ⟨0, rfl, by omega, by omega, hwr0, rfl, by simp⟩
    · rintro ⟨k, bl, bn, c, bm, rl, rn, rc⟩ js ⟨i, hk, hi, hi60, hwr, hrn, hrl⟩
      cbv
      split
      rotate_left
      rename_i hge
      cbv
      rotate_left
      rename_i hlt
      cbv
      have hlt : i < m := by rw [qc, lss_true] at hlt; simp only [qofN] at hlt; simp only [nc] at *; omega
      have hti : vtoN k = i := by rw [hk]; exact hto i
      have hinR : 0 ≤ k ∧ k < (m : Int) := by simp only [nc] at *; omega
      have hlss : i < vln ss := by rw [hvl]; omega
      rw [hti, hadd0, hvgd ss]
      generalize hs0 : ss.getD i 0 = s0
      refine ⟨⟨hinR⟩, ⟨hlss⟩, ⟨hlss⟩, ?_⟩
      generalize hg60 : vc .geq k 60 = z60
      cases z60
      · cbv
        have hg60 : i + 1 ≤ 60 := by rw [qc, geq_eq] at hg60; simp only [decide_eq_false_iff_not] at hg60; simp only [nc] at *; omega
        have hw1 := hwrite rl bl bn c bm s0 hwr (by omega)
        have hw2 := hrefw rl rn rc s0 hrn (by omega)
        have hbs := hBl s0
        obtain ⟨k1, hk1⟩ : ∃ k1 : Int, k1 = ((i + 1 : Nat) : Int) := ⟨_, rfl⟩
        have hmu : ∀ _ : Unit, m - k1.toNat < m - k.toNat := fun _ => by simp only [nc] at *; omega
        have ek : vb .add .i64 k 1 = k1 := by simp only [nc] at *; rw [qb, add_i64 (by omega) (by omega)]; omega
        have hll : (rl ++ B s0).length ≤ 15 * (i + 1) := by rw [List.length_append]; omega
        generalize rl ++ B s0 = rl2 at *
        generalize E s0 = e0 at *
        refine call_con (ρ := [(3, .z), (5, .z), (0, .z)]) hw1 ⟨by rfl, by rfl, by rfl, by cbv; exact ⟨view_refl _, trivial⟩⟩ ?_
        rintro v H R js2 ⟨rfl, l2, n2, m2, c2, hwr2, rfl, rfl⟩
        cbv
        refine call_con (ρ := [(4, .z), (6, .z), (0, .z)]) hw2 ⟨by rfl, by rfl, by rfl, by cbv; exact ⟨view_refl _, trivial⟩⟩ ?_
        rintro v H R js3 ⟨rfl, n3, c3, hn3, rfl, rfl⟩
        cbv
        rw [hself]
        cbv
        rw [ek]
        refine Cv.fold ([13, 14] ++ [47, 48, 49, 50, 51, 52, 53, 54, 55, 56, 57, 58, 59, 60, 61, 62]) 7 [5, 6] (by exact Nat.le_refl _) (by exact Nat.le_of_ble_eq_true rfl) (by rfl) (by cbv) ?_
        intro js
        refine ⟨(_, _, _, _, _, _, _, _), ?_, js, rfl⟩
        exact ⟨⟨i + 1, hk1, hlt, hg60, hwr2, hn3, hll⟩, hmu ()⟩
      cbv
      all_goals
        have hbn := hwrl _ _ _ _ hwr
        have hby1 := hbytes rl bl c bn bm hwr (by omega)
        have hby2 := hrbytes rl bl rc bn rn bm hwr hrn (by omega)
        clear hwrite hrefw hbytes hrbytes
        refine call_con (ρ := [(3, .z), (5, .z)]) hby1 ⟨by rfl, by rfl, by rfl, by cbv⟩ ?_
        rintro v H R js9 ⟨rfl, c9, rfl, rfl⟩
        cbv
        have hle0 : vaddN 0 bn ≤ vln bl := by rw [hadd0, hvl]; omega
        refine ⟨⟨hle0⟩, ?_⟩
        refine call_con (ρ := [(4, .z), (6, .z)]) hby2 ⟨by rfl, by rfl, by rfl, by cbv⟩ ?_
        rintro v H R js10 ⟨rfl, rfl, rfl⟩
        cbv
        rw [hseq, hnbt]
        cbv
        refine ⟨⟨⟨hle0⟩, trivial⟩, ⟨hle0⟩, ?_⟩
        refine call_con (ρ := [(2, .z)]) hnew ⟨by rfl, by rfl, by rfl, by cbv; exact ⟨view_refl _, trivial⟩⟩ ?_
        rintro v H R js11 ⟨rfl, rfl, c11, rfl⟩
        cbv
        have hread2 := fun p => hread p c11
        have hleft2 := fun p => hleft p c11
        clear hby1 hby2 hnew hread hleft
        refine loop_fam (α := Int × Int × Int × Int × Int) ([17, 18, 19, 20] ++ [76, 77, 78, 79, 80, 81, 82, 83, 84, 85, 86, 87, 88, 89, 90, 91, 92, 93, 94, 95, 96, 97, 98, 99, 100, 101, 102, 103, 104, 105, 106, 107, 108, 109, 110]) [5, 6] (fun (q, _, _, _, _) => [(75, .int .i64 q)]) (fun (_, acc, hv, ai, pI) => [(12, .one 131 [.fn 80 [.ptr 11 .z 1 0, .ptr 10 .z 1 0], .int .u64 acc, .int .i64 hv, .fn 81 [.ptr 10 .z 1 0, .ptr 11 .z 1 0]]), (11, .one 3 [.int .i64 ai]), (13, .one 76 [.slice 2 .z 1 nb cap3, .int .i64 pI])])
          (fun (q, acc, hv, ai, pI) => ∃ u p : Nat, q = u ∧ u ≤ 60 ∧ p ≤ T ∧ pI = p ∧ RSf p acc hv ai) (fun (q, _) => 60 - q.toNat) hw ‹_› ?_ ?_
        · refine Cv.genAt [75] [12, 11, 13] (Cv.fold ([17, 18, 19, 20] ++ [76, 77, 78, 79, 80, 81, 82, 83, 84, 85, 86, 87, 88, 89, 90, 91, 92, 93, 94, 95, 96, 97, 98, 99, 100, 101, 102, 103, 104, 105, 106, 107, 108, 109, 110]) 14 [5, 6] (by exact Nat.le_refl _) (by exact Nat.le_of_ble_eq_true rfl) (by rfl) (by cbv) ?_)
          intro js
          refine ⟨(_, _, _, _, _), ?_, js, rfl⟩
          exact ⟨0, 0, rfl, by omega, by omega, rfl, hrs0⟩
        · rintro ⟨q, acc, hv, ai, pI⟩ js12 ⟨u, p, hq, hu, hp, hpI, hrs⟩
          cbv
          split
          · rename_i hlt2
            cbv
            have hlt2 : u < 60 := by rw [qc, lss_true] at hlt2; simp only [nc] at *; omega
            obtain ⟨q1, hq1⟩ : ∃ q1 : Int, q1 = ((u + 1 : Nat) : Int) := ⟨_, rfl⟩
            have eq1 : vb .add .i64 q 1 = q1 := by simp only [nc] at *; rw [qb, add_i64 (by omega) (by omega)]; omega
            have hmu2 : ∀ _ : Unit, 60 - q1.toNat < 60 - q.toNat := fun _ => by simp only [nc] at *; omega
            have hr1 := hread2 p acc hv ai hrs hp
            have hr2 := hrefr p pI hpI hp
            refine call_con (ρ := [(12, .z), (11, .z), (10, .z), (9, .z), (0, .z)]) hr1 ⟨by rfl, by rfl, by rfl, by cbv; exact ⟨view_refl _, view_refl _, trivial⟩⟩ ?_
            rintro v H R js13 ⟨acc2, hv2, ai2, s, e, p2, rfl, hrs2, hd1, rfl, rfl⟩
            cbv
            refine call_con (ρ := [(13, .z), (2, .z), (0, .z)]) hr2 ⟨by rfl, by rfl, by rfl, by cbv; exact ⟨view_refl _, view_refl _, trivial⟩⟩ ?_
            rintro v H R js14 ⟨s', e', pI2, p3, rfl, hpI2, hd2, rfl, rfl⟩
            cbv
            obtain ⟨hs, he, hp23⟩ := hdet _ _ _ _ _ _ _ hd1 hd2
            subst hs he hp23
            have hp2 := hDle _ _ _ _ hp hd1
            have hl1 := hleft2 p2 acc2 hv2 ai2 hrs2
            have hl2 := hrleft p2 pI2 hpI2 hp2
            rw [hself]
            cbv
            rw [hself]
            cbv
            generalize hz : vc .eql e 0 = z
            cases z
            · have hne : vc .neq e 0 = true := by rw [qc, neq_eq]; rw [qc, eql_false] at hz; simpa using hz
              cbv
              rw [hne]
              cbv
              refine call_con (ρ := []) hwakes ⟨by rfl, by rfl, by rfl, by cbv⟩ ?_
              rintro v H R js15 ⟨rfl, rfl, rfl⟩
              cbv
            · rw [qc, eql_true] at hz
              subst hz
              cbv
              refine call_con (ρ := [(12, .z), (11, .z), (10, .z), (9, .z)]) hl1 ⟨by rfl, by rfl, by rfl, by cbv; exact ⟨view_refl _, trivial⟩⟩ ?_
              rintro v H R js15 ⟨⟨f, hf, rfl⟩, rfl, rfl⟩
              cbv
              refine call_con (ρ := [(13, .z), (2, .z)]) hl2 ⟨by rfl, by rfl, by rfl, by cbv; exact ⟨view_refl _, trivial⟩⟩ ?_
              rintro v H R js16 ⟨⟨f', hf', rfl⟩, rfl, rfl⟩
              cbv
              have hff : f = f' := by rw [hf, hf']
              subst hff
              rw [hself]
              cbv
              rw [hself]
              cbv
              rw [eq1]
              refine Cv.fold ([17, 18, 19, 20] ++ [76, 77, 78, 79, 80, 81, 82, 83, 84, 85, 86, 87, 88, 89, 90, 91, 92, 93, 94, 95, 96, 97, 98, 99, 100, 101, 102, 103, 104, 105, 106, 107, 108, 109, 110]) 14 [5, 6] (by exact Nat.le_refl _) (by exact Nat.le_of_ble_eq_true rfl) (by rfl) (by cbv) ?_
              intro js
              refine ⟨(_, _, _, _, _), ?_, js, rfl⟩
              exact ⟨⟨u + 1, p2, hq1, by omega, hp2, hpI2, hrs2⟩, hmu2 ()⟩
          · cbv
            refine call_con (ρ := []) hwakes ⟨by rfl, by rfl, by rfl, by cbv⟩ ?_
            rintro v H R js15 ⟨rfl, rfl, rfl⟩
            cbv
theorem own : ownKnob Try.prog.godebug = none := by kernel_rfl
set_option maxRecDepth 100000 in
theorem lifted (os : Os) (started : os.Started) (H : Type) (enc : TypeId × Value → H) :
    ReturnsInHanded {} Try.checked os 11 .any (Rows.canonTellsSpec.pre6 enc Try.prog Try.f11 Rows.canonTellsRow.domain false) (Rows.canonTellsSpec.post enc Try.prog Try.f11 false true false false) := by
  refine returnsInHanded_of_change_sized (C := Try.checked) own started (by kernel_rfl) Try.func11
    (ChangeSpec.witness6 (enc := enc) (C := Try.checked) false ⟨#[], #[.slice none 0 0, .slice none 0 0, .slice none 0 0], []⟩ 8 (by kernel_rfl) (by kernel_rfl) (by kernel_rfl) (by kernel_rfl)) ?_
  intro W base args ds gs before hval0 hW hcnd hz _
  have hval : ∀ (j : Nat) t v, Try.f11.params[j]? = some t → args[j]? = some v → Value.okWide Try.prog W .any base t v := hval0
  have hW' := hW
  obtain ⟨p, q, hA0, hV, rfl, hfz, hnd⟩ := hW
  have hA : DataW.TrodAll enc Try.prog W 0 (fun _ => true) true Try.f11.params.toList args.toList ds p := hA0
  rw [Try.params11] at hA hval
  obtain ⟨v0, vs0, d0, ds0, p0, q0, hargs0, rfl, rfl, h0, r0⟩ := trodAll_cons hA
  obtain ⟨v1, vs1, d1, ds1, p1, q1, hargs1, rfl, rfl, h1, r1⟩ := trodAll_cons r0
  obtain ⟨v2, vs2, d2, ds2, p2, q2, hargs2, rfl, rfl, h2, r2⟩ := trodAll_cons r1
  obtain ⟨rfl, rfl, rfl⟩ := trodAll_nil r2
  obtain rfl : args = #[v0, v1, v2] := by cases args; simp_all
  obtain ⟨rfl, rfl⟩ := trodVars_none hV
  obtain ⟨s0, l0, cap0, rfl, lt0, ho0, hw0, hc0, hd0⟩ := arg_intsD (P := Try.prog) Try.underlying23 Try.underlying5 (by kernel_rfl) (hval 0 23 v0 rfl rfl) h0
  obtain ⟨s1, l1, cap1, rfl, lt1, ho1, hw1, hc1, hd1⟩ := arg_intsD (P := Try.prog) Try.underlying88 Try.underlying3 (by kernel_rfl) (hval 1 88 v1 rfl rfl) h1
  obtain ⟨s2, l2, cap2, rfl, lt2, ho2, hw2, hc2, hd2⟩ := arg_intsD (P := Try.prog) Try.underlying23 Try.underlying5 (by kernel_rfl) (hval 2 23 v2 rfl rfl) h2
  have hb0 : l0.length * 1 ≤ 140737488351232 := by
    rcases hd0 with ⟨_, rfl⟩ | ⟨rest, rfl⟩
    · simp
    · have h := sized_slice hz (j := 0) (t := 23) (e := 5) rfl rfl Try.underlying23
      rw [show Try.checked.prog.bytesOf 5 = 1 by kernel_rfl, show reachBytes = 140737488351232 by rfl] at h
      simp only [lits, List.length_map] at h
      omega
  have hb1 : l1.length * 8 ≤ 140737488351232 := by
    rcases hd1 with ⟨_, rfl⟩ | ⟨rest, rfl⟩
    · simp
    · have h := sized_slice hz (j := 1) (t := 88) (e := 3) rfl rfl Try.underlying88
      rw [show Try.checked.prog.bytesOf 3 = 8 by kernel_rfl, show reachBytes = 140737488351232 by rfl] at h
      simp only [lits, List.length_map] at h
      omega
  have hb2 : l2.length * 1 ≤ 140737488351232 := by
    rcases hd2 with ⟨_, rfl⟩ | ⟨rest, rfl⟩
    · simp
    · have h := sized_slice hz (j := 2) (t := 23) (e := 5) rfl rfl Try.underlying23
      rw [show Try.checked.prog.bytesOf 5 = 1 by kernel_rfl, show reachBytes = 140737488351232 by rfl] at h
      simp only [lits, List.length_map] at h
      omega
  refine (con_below (law_con l0 l1 l2 cap0 cap1 cap2 (fun x hx => wf_u8 (hw0 x hx)) (by have : maxLen = 9223372036854775807 := rfl; omega) (by have : maxLen = 9223372036854775807 := rfl; omega) (fun x hx => wf_u8 (hw2 x hx)) (by omega)) (by intro B hB; simp at hB; rcases hB with rfl | rfl | rfl <;> rfl) (ok_args [(s0, .ro .u8 l0), (s1, .ro .i64 l1), (s2, .ro .u8 l2)] (by intro e he; simp at he; rcases he with rfl | rfl | rfl; exact ⟨lt0, rfl, ho0⟩; exact ⟨lt1, rfl, ho1⟩; exact ⟨lt2, rfl, ho2⟩))).mono fun e W' ⟨he, hb⟩ => ⟨_, he, ?_⟩
  exact law_post hW' rfl (by kernel_rfl) Try.underlying4 (by kernel_rfl) (by kernel_rfl) rfl rfl rfl hb

theorem over : Rows.canonTellsRow.holds Try.pinned (OpenSpec.ofChange Rows.canonTellsSpec) :=
  OpenClaim.holds_of_wide 11 Try.f11 rfl rfl rfl rfl rfl rfl rfl ⟨rfl, rfl, rfl, rfl, rfl⟩ rfl rfl rfl rfl rfl (by kernel_rfl) Try.func11 (by kernel_rfl)
    (of_decide_eq_true (by kernel_rfl)) (by unfold Func.isWrapper; first | (rw [if_pos (by decide +kernel)]; kernel_rfl) | (rw [if_neg (by decide +kernel)]; exact ⟨rfl, rfl⟩))
    (fun os started H enc _ => lifted os started H enc)

theorem proved : Rows.CanonTellsSaid :=
  over
#print axioms proved
end Go.Proofs.Ytodobmkflimfkaa.canonTells
