/-
  For every row of lengths and every row of symbols, balerlaw05.CanonBack returns true and leaves its arguments as they were. No condition.
-/
import Derived.Test.YtodobmkflimfkaaTC
namespace Go.Proofs.Ytodobmkflimfkaa.canonBack
open Go Go.Sx Go.ChangeShapes Go.WideShapes Go.ChangeAt Go.RowKit
set_option linter.unusedVariables false
theorem wf_u8 {x : Int} (h : (Lit.int .u8 x).wf = true) : isU8 x := by
  simp [Lit.wf, IntKind.min, IntKind.max, IntKind.signed, IntKind.bits] at h
  unfold isU8
  omega
theorem tmod_range (x : Int) {n : Int} (hn : 0 < n) : -n < x.tmod n ∧ x.tmod n < n := by
  by_cases h : 0 ≤ x
  · rw [Int.tmod_eq_emod_of_nonneg h]
    have := Int.emod_nonneg x (by omega : n ≠ 0)
    have := Int.emod_lt_of_pos x hn
    omega
  · have e : x.tmod n = -((-x).tmod n) := by rw [Int.neg_tmod, Int.neg_neg]
    rw [e, Int.tmod_eq_emod_of_nonneg (by omega)]
    have := Int.emod_nonneg (-x) (by omega : n ≠ 0)
    have := Int.emod_lt_of_pos (-x) hn
    omega
theorem bytes_wr (bs l : List Int) (c n : Nat) (m : Int) (h : Wr bs l n m) (hl : bs.length ≤ 2 ^ 40) :
    Con Try.prog 53 [.ptr 0 .z 2 0] [.one 92 [.slice 1 .z 1 n c, .int .i64 m], .buf 5 .u8 l c]
      (fun v H R => R = [2] ∧ ∃ c', v = .slice 2 .z 1 n c' ∧ H = [.one 92 [.slice 1 .z 1 n c, .int .i64 m], .buf 5 .u8 l c, .buf 5 .u8 l c']) := by
  obtain ⟨h1, rfl, rfl, rfl⟩ := h
  exact bbytes_con bs c hl
theorem pack_byte5 (bs : List Int) (hb : ∀ b ∈ bs, isBit b) : ∀ x ∈ pack bs, isByte x := by
  intro x hx
  obtain ⟨k, _, rfl⟩ := List.mem_map.1 hx
  have := bval_bound bs hb (8 * k) 8
  unfold isByte
  omega
theorem cbs_mono (l cs : List Int) (u : Nat) (hu : u ≤ cs.length) {m : Nat} (h : (cbs l cs).length ≤ m) : (cbs l (cs.take u)).length ≤ m := by
  have e : cbs l cs = cbs l (cs.take u) ++ cbs l (cs.drop u) := by
    unfold cbs
    rw [← List.flatMap_append, List.take_append_drop]
  rw [e, List.length_append] at h
  omega
set_option maxHeartbeats 40000000
set_option maxRecDepth 10000
theorem law_con (l ss : List Int) (cap cap2 : Nat) (hlu : ∀ c ∈ l, isU8 c) (hlen : l.length ≤ 9223372036854775807) (hss : ss.length ≤ 9223372036854775807) :
    Con Try.prog 12 [.slice 0 .z 1 l.length cap, .slice 1 .z 1 ss.length cap2] [.ro .u8 l, .ro .i64 ss] (fun v H R => v = .bool true ∧ H = [.ro .u8 l, .ro .i64 ss] ∧ R = []) := by
  have hwakes := wakes5_con
  by_cases h5 : Right5 l
  · have hcodes := codes_ok l cap hlu h5
    have hR := h5.rt hlu
    have hn2 : 2 ≤ l.length := by have a := nz_range l l.length; have b := h5.2.2.1; omega
    have hwrite := fun bs bl bn c bm s => write5_con l bs bl bn c cap bm s hlu h5
    have hbytes := bytes_wr
    have hnew : ∀ (b : List Int) (bn cap : Nat), bn = b.length → b.length ≤ 1000 → Con Try.prog 33 [.slice 0 .z 1 bn cap] [.ro .u8 b] (fun v H R => v = .ptr 4 .z 4 0 ∧ R = [1] ∧ ∃ c, H = [.ro .u8 b, .buf 5 .u8 b c, .one 23 [.slice 1 .z 1 bn c], .one 3 [.int .i64 0], .one 131 [.fn 80 [.ptr 3 .z 1 0, .ptr 2 .z 1 0], .int .u64 0, .int .i64 0, .fn 81 [.ptr 2 .z 1 0, .ptr 3 .z 1 0]]]) := fun b bn cap e h => by subst e; exact rnew_con b cap (by omega)
    have hread : ∀ (b : List Int) (bn p c : Nat) (acc hv ai : Int), bn = b.length → (∀ x ∈ b, isByte x) → b.length ≤ 2 ^ 50 → RS b p acc hv ai → p ≤ 8 * b.length →
        Con Try.prog 34 [.ptr 0 .z 4 0, .slice 4 .z 1 l.length cap] [(.one 131 [.fn 80 [.ptr 1 .z 1 0, .ptr 2 .z 1 0], .int .u64 (acc), .int .i64 (hv), .fn 81 [.ptr 2 .z 1 0, .ptr 1 .z 1 0]]), .one 3 [.int .i64 ai], .one 23 [.slice 3 .z 1 bn c], .ro .u8 b, .ro .u8 l]
        (fun v H R => ∃ acc2 hv2 ai2 s e, ∃ q, v = .tup [.int .i64 s, .int .i64 e] ∧ RS b q acc2 hv2 ai2 ∧ Dec l b p s e q ∧ R = [] ∧ H = [(.one 131 [.fn 80 [.ptr 1 .z 1 0, .ptr 2 .z 1 0], .int .u64 (acc2), .int .i64 (hv2), .fn 81 [.ptr 2 .z 1 0, .ptr 1 .z 1 0]]), .one 3 [.int .i64 ai2], .one 23 [.slice 3 .z 1 bn c], .ro .u8 b, .ro .u8 l]) := by
      rintro b bn p c acc hv ai rfl h1 h2 h3 h4
      exact read5_ok l b p c cap acc hv ai hlu h5 h1 h2 h3 h4
    have hleft : ∀ (b : List Int) (bn p c : Nat) (acc hv ai : Int), bn = b.length → b.length ≤ 2 ^ 50 → RS b p acc hv ai → Con Try.prog 35 [.ptr 0 .z 4 0] [(.one 131 [.fn 80 [.ptr 1 .z 1 0, .ptr 2 .z 1 0], .int .u64 (acc), .int .i64 (hv), .fn 81 [.ptr 2 .z 1 0, .ptr 1 .z 1 0]]), .one 3 [.int .i64 ai], .one 23 [.slice 3 .z 1 bn c], .ro .u8 b]
        (fun v H R => (∃ f : Int, f = 8 * b.length - p ∧ v = .int .i64 f) ∧ R = [] ∧ H = [(.one 131 [.fn 80 [.ptr 1 .z 1 0, .ptr 2 .z 1 0], .int .u64 (acc), .int .i64 (hv), .fn 81 [.ptr 2 .z 1 0, .ptr 1 .z 1 0]]), .one 3 [.int .i64 ai], .one 23 [.slice 3 .z 1 bn c], .ro .u8 b]) := by
      rintro b bn p c acc hv ai rfl h1 h2
      refine (rleft_rs b p c acc hv ai h1 h2).mono ?_
      rintro v H R ⟨rfl, rfl, rfl⟩
      exact ⟨⟨_, rfl, rfl⟩, rfl, rfl⟩
    refine con_gen (con_cut 2 (by simp) (con_drop (con_walk hmix fn12 ?_)))
    intro vb vc vw vtoN vofN vaddN vsubN vmaxI vminI vcutN vgd vst vln vrep vsub vonto vsplice vstrEq vbyteV vnotB veqB hw qb qc qw qtoN qofN qaddN qsubN qmaxI qminI qcutN qgd qst qln qrep qsub qonto qsplice qstrEq qbyteV qnotB qeqB
    have hm := hmix; generalize Try.prog = P at *
    have hn1 := hR.n1
    have hEB : ∀ s, WV l s → wE l s = 0 := fun s h => by unfold wE; rw [if_pos h]
    have hEN : ∀ s, ¬ WV l s → wE l s = 2 ∧ wB l s = [] := fun s h => by unfold wE wB; rw [if_neg h, if_neg h]; exact ⟨rfl, rfl⟩
    have hcs := cbs_snoc l
    have hcl := cbs_length hR
    have hcd := fun cs => @cbs_dec l cs hR
    have hc0 : cbs l [] = [] := rfl
    have hwv : ∀ s, WV l s ↔ (0 ≤ s ∧ s < l.length ∧ l.getD s.toNat 0 ≠ 0) := fun s => Iff.rfl
    have hwr0 : Wr [] [] 0 0 := Wr.nil
    have hwrp : ∀ bs bl bn bm, Wr bs bl bn bm → (∀ b ∈ bs, isBit b) ∧ bl = pack bs ∧ bn = bl.length := fun bs bl bn bm h => ⟨h.1, h.2.1, h.2.2.1⟩
    have hrs0 := RS.start
    have hdet := fun b p s e s' e' q q' => @Dec.det l b p s e s' e' q q'
    have hpackb : ∀ bs, (∀ b ∈ bs, isBit b) → ∀ x ∈ pack bs, isByte x := pack_byte5
    have hcm := cbs_mono l
    generalize WL l = W at *
    generalize @Wr = WR at *
    generalize wE l = E at *
    generalize wB l = B at *
    generalize WV l = V at *
    generalize cbs l = C at *
    generalize Dec l = DEC at *
    generalize @RS = RSf at *
    generalize hn : l.length = n at *
    generalize hm : ss.length = m at *
    have hto : ∀ i : Nat, vtoN (i : Int) = i := fun i => by simp only [qtoN, Int.toNat_natCast]
    have htoI : ∀ s, vtoN s = s.toNat := fun s => by simp only [qtoN]
    have hadd0 : ∀ i, vaddN 0 i = i := fun i => by simp only [qaddN, Nat.zero_add]
    have hvl : ∀ l, vln l = l.length := fun l => by simp only [qln]
    have hvgd : ∀ l i, vgd l i = l.getD i 0 := fun l i => by simp only [qgd]
    have h00 : vc .neq 0 0 = false := by rw [qc]; rfl
    have e00 : vc .eql 0 0 = true := by rw [qc]; rfl
    have e20 : vc .eql 2 0 = false := by rw [qc]; rfl
    have hn0 : vc .eql (vofN n) 0 = false := by rw [qc, eql_eq]; simp only [qofN, decide_eq_false_iff_not]; omega
    cbv
    refine call_con (ρ := [(0, .z)]) hcodes ⟨by rfl, by rfl, by rfl, by cbv; exact ⟨view_refl _, trivial⟩⟩ ?_
    rintro v H R js ⟨rfl, rfl, rfl⟩
    cbv
    rw [h00]
    cbv
    rw [hn0]
    cbv
    refine WX.cv (Cv.nilB 3 0 5 .u8 (by rfl) (by cbv) (Cv.nilT 8 3 .i64 (by rfl) (by cbv) (Cv.here ?_)))
    cbv
    refine loop_fam (α := Int × List Int × Nat × Nat × Int × List Int × Nat × Nat) ([9, 10] ++ [32, 33, 34, 35, 36, 37, 38, 39, 40, 41, 42, 43, 44, 45, 46, 47, 48, 49, 50, 51, 52, 53, 54, 55, 56, 57, 58, 59, 60, 61, 62]) [4, 5]
      (fun (k, bl, bn, c, bm, cs, cn, cc) => [(31, .int .i64 k), (8, .slice 5 .z 1 cn cc)])
      (fun (k, bl, bn, c, bm, cs, cn, cc) => [(3, .one 92 [.slice 4 .z 1 bn c, .int .i64 bm]), (4, .buf 5 .u8 bl c), (5, .buf 3 .i64 cs cc)])
      (fun (k, bl, bn, c, bm, cs, cn, cc) => ∃ i : Nat, k = i ∧ i ≤ m ∧ i ≤ 60 ∧ WR (C cs) bl bn bm ∧ cn = cs.length ∧ cs.length ≤ i ∧ ∀ s ∈ cs, V s) (fun (k, _) => m - k.toNat) hw ‹_› ?_ ?_
    · refine Cv.genAt [31] [3] (Cv.fold ([9, 10] ++ [32, 33, 34, 35, 36, 37, 38, 39, 40, 41, 42, 43, 44, 45, 46, 47, 48, 49, 50, 51, 52, 53, 54, 55, 56, 57, 58, 59, 60, 61, 62]) 6 [4, 5] (by exact Nat.le_refl _) (by exact Nat.le_of_ble_eq_true rfl) (by rfl) (by cbv) ?_)
      intro js
      refine ⟨(_, _, _, _, _, _, _, _), ?_, js, rfl⟩
      exact ⟨0, rfl, by omega, by omega, by rw [hc0]; exact hwr0, rfl, by simp, by simp⟩
    · rintro ⟨k, bl, bn, c, bm, cs, cn, cc⟩ js ⟨i, hk, hi, hi60, hwr, hcn, hcsi, hcv⟩
      cbv
      split
      rotate_left
      rename_i hge
      cbv
      rotate_left
      rename_i hlt
      cbv
      have hlt : i < m := by rw [qc, lss_true] at hlt; simp only [qofN] at hlt; simp only [nc] at *; omega
      have hti : vtoN k = i := by rw [hk]; exact hto i
      have hinR : 0 ≤ k ∧ k < (m : Int) := by simp only [nc] at *; omega
      have hlss : i < vln ss := by rw [hvl]; omega
      rw [hti, hadd0, hvgd ss]
      generalize hs0 : ss.getD i 0 = s0
      refine ⟨⟨hinR⟩, ⟨hlss⟩, ⟨hlss⟩, ?_⟩
      generalize hg60 : vc .geq k 60 = z60
      cases z60
      · cbv
        have hg60 : i + 1 ≤ 60 := by rw [qc, geq_eq] at hg60; simp only [decide_eq_false_iff_not] at hg60; simp only [nc] at *; omega
        have hnI : vofN n = (n : Int) := by simp only [qofN]
        obtain ⟨nI, hnI2⟩ : ∃ nI : Int, nI = n := ⟨_, rfl⟩
        rw [← hnI2] at hnI
        have hnpos : 0 < nI := by omega
        have hnle : nI ≤ 1024 := by omega
        have hr1 := tmod_range s0 hnpos
        obtain ⟨t1, ht1⟩ : ∃ t1, t1 = s0.tmod nI := ⟨_, rfl⟩
        rw [← ht1] at hr1
        have er1 : vb .rem .i64 s0 nI = t1 := by rw [qb, ht1]; rfl
        obtain ⟨t2, ht2⟩ : ∃ t2, t2 = t1 + nI := ⟨_, rfl⟩
        have ea1 : vb .add .i64 t1 nI = t2 := by rw [qb, add_i64 (by omega) (by omega)]; omega
        obtain ⟨s1, hs1⟩ : ∃ s1, s1 = t2 % nI := ⟨_, rfl⟩
        have er2 : vb .rem .i64 t2 nI = s1 := by rw [qb, rem_i64 (by omega)]; exact hs1.symm
        have hr2 : 0 ≤ s1 ∧ s1 < nI := by rw [hs1]; exact ⟨Int.emod_nonneg _ (by omega), Int.emod_lt_of_pos _ hnpos⟩
        have hlc := hcl cs
        have hw1 := hwrite (C cs) bl bn c bm s1 hwr (by omega)
        rw [hnI, er1, ea1, er2]
        refine ⟨⟨by omega⟩, ⟨by omega⟩, ?_⟩
        refine call_con (ρ := [(3, .z), (4, .z), (0, .z)]) hw1 ⟨by rfl, by rfl, by rfl, by cbv; exact ⟨view_refl _, trivial⟩⟩ ?_
        rintro v H R js2 ⟨rfl, l2, n2, m2, c2, hw2, rfl, rfl⟩
        cbv
        have hmu : ∀ k1 : Int, k1 = ((i + 1 : Nat) : Int) → ∀ _ : Unit, m - k1.toNat < m - k.toNat := by intro k1 h _; simp only [nc] at *; omega
        obtain ⟨k1, hk1⟩ : ∃ k1 : Int, k1 = ((i + 1 : Nat) : Int) := ⟨_, rfl⟩
        have hmu := hmu k1 hk1
        have ek : vb .add .i64 k 1 = k1 := by simp only [nc] at *; rw [qb, add_i64 (by omega) (by omega)]; omega
        by_cases hv : V s1
        · rw [hEB s1 hv, e00]
          cbv
          have hp1 : vonto cs cn (vsub [s1] 0 1) = cs ++ [s1] := by simp only [qonto, qsub, hcn]; simp
          obtain ⟨cn1, hcn1⟩ : ∃ cn1, cn1 = cn + 1 := ⟨_, rfl⟩
          have ha1 : vaddN cn 1 = cn1 := by simp only [qaddN]; exact hcn1.symm
          rw [← hcs] at hw2
          have hcv2 : ∀ s ∈ cs ++ [s1], V s := fun s h => by
            rcases List.mem_append.1 h with h | h
            · exact hcv s h
            · rw [List.mem_singleton.1 h]; exact hv
          have hcl2 : cn1 = (cs ++ [s1]).length ∧ (cs ++ [s1]).length ≤ i + 1 := by rw [List.length_append, List.length_singleton]; omega
          refine ⟨⟨by rw [hadd0, hvl]; exact Nat.le_refl 1⟩, ⟨by rw [hvl]; omega⟩, ⟨Nat.le_refl _⟩, ⟨by rw [ha1]; omega⟩, ?_⟩
          intro c3 js3 hle
          cbv
          rw [hp1, ha1, ek]
          refine Cv.fold ([9, 10] ++ [32, 33, 34, 35, 36, 37, 38, 39, 40, 41, 42, 43, 44, 45, 46, 47, 48, 49, 50, 51, 52, 53, 54, 55, 56, 57, 58, 59, 60, 61, 62]) 6 [4, 5] (by exact Nat.le_refl _) (by exact Nat.le_of_ble_eq_true rfl) (by rfl) (by cbv) ?_
          intro js
          refine ⟨(_, _, _, _, _, _, _, _), ?_, js, rfl⟩
          exact ⟨⟨i + 1, hk1, hlt, hg60, hw2, hcl2.1, hcl2.2, hcv2⟩, hmu ()⟩
        · obtain ⟨hE2, hB2⟩ := hEN s1 hv
          rw [hE2, e20]
          rw [hB2, List.append_nil] at hw2
          cbv
          have hly : l.getD s1.toNat 0 = 0 := by
            by_cases h : l.getD s1.toNat 0 = 0
            · exact h
            · exact absurd ((hwv s1).2 ⟨hr2.1, by rw [← hnI2]; exact hr2.2, h⟩) hv
          have hin1 : 0 ≤ s1 ∧ s1 < (n : Int) := by simp only [nc] at *; omega
          have hl1 : s1.toNat < vln l := by rw [hvl]; omega
          rw [htoI, hadd0, hvgd l, hly, h00]
          refine ⟨⟨hin1⟩, ⟨hl1⟩, ⟨hl1⟩, ?_⟩
          cbv
          rw [ek]
          refine Cv.fold ([9, 10] ++ [32, 33, 34, 35, 36, 37, 38, 39, 40, 41, 42, 43, 44, 45, 46, 47, 48, 49, 50, 51, 52, 53, 54, 55, 56, 57, 58, 59, 60, 61, 62]) 6 [4, 5] (by exact Nat.le_refl _) (by exact Nat.le_of_ble_eq_true rfl) (by rfl) (by cbv) ?_
          intro js
          refine ⟨(_, _, _, _, _, _, _, _), ?_, js, rfl⟩
          exact ⟨⟨i + 1, hk1, hlt, hg60, hw2, hcn, by omega, hcv⟩, hmu ()⟩
      cbv
      all_goals
        have hlc := hcl cs
        obtain ⟨hbits, hbl, hbn⟩ := hwrp _ _ _ _ hwr
        have hblen : bl.length ≤ 1000 := by rw [hbl, pack_length]; omega
        have hby1 := hbytes (C cs) bl c bn bm hwr (by omega)
        have hnew1 := fun c9 => hnew bl bn c9 hbn hblen
        have hbyte : ∀ x ∈ bl, isByte x := by rw [hbl]; exact hpackb _ hbits
        have hrd1 := fun c8 p acc hv ai => hread bl bn p c8 acc hv ai hbn hbyte (by omega)
        have hdec : ∀ u, u < cs.length → DEC bl (C (cs.take u)).length (cs.getD u 0) 0 (C (cs.take (u + 1))).length := fun u hu => by rw [hbl]; exact hcd cs hcv hbits hu
        have hle : (C cs).length ≤ 8 * bl.length ∧ 8 * bl.length < (C cs).length + 8 := by rw [hbl, pack_length]; omega
        have hall : C (cs.take cs.length) = C cs := by rw [List.take_length]
        have hmono : ∀ u, u ≤ cs.length → (C (cs.take u)).length ≤ 8 * bl.length := fun u hu => hcm cs u hu hle.1
        have hlft := fun c8 acc hv ai => hleft bl bn (C (cs.take cs.length)).length c8 acc hv ai hbn (by omega)
        have htk0 : (C (cs.take 0)).length = 0 := by rw [List.take_zero, hc0]; rfl
        have hst0 := hrs0 bl
        obtain ⟨PL, hPL⟩ : ∃ PL : Nat → Nat, ∀ u, PL u = (C (cs.take u)).length := ⟨_, fun _ => rfl⟩
        have hPLn : PL cs.length = (C cs).length := by rw [hPL, hall]
        simp only [← hPL] at hdec hmono htk0 hlft
        refine call_con (ρ := [(3, .z), (4, .z)]) hby1 ⟨by rfl, by rfl, by rfl, by cbv⟩ ?_
        rintro v H R js9 ⟨rfl, c9, rfl, rfl⟩
        cbv
        refine call_con (ρ := [(6, .z)]) (hnew1 c9) ⟨by rfl, by rfl, by rfl, by cbv; exact ⟨view_refl _, trivial⟩⟩ ?_
        rintro v H R js10 ⟨rfl, rfl, c10, rfl⟩
        have hrd2 := hrd1 c10
        have hlft2 := hlft c10
        clear hrd1 hlft hnew1 hread hleft hnew hbytes hwrite hby1
        cbv
        refine loop_fam (α := Int × Int × Int × Int) ([13, 14, 15] ++ [69, 70, 71, 72, 73, 74, 75, 76, 77, 78, 79, 80, 81, 82, 83, 84, 85]) [4, 5] (fun (q, _, _, _) => [(68, .int .i64 q)]) (fun (_, acc, hv, ai) => [(10, .one 131 [.fn 80 [.ptr 9 .z 1 0, .ptr 8 .z 1 0], .int .u64 acc, .int .i64 hv, .fn 81 [.ptr 8 .z 1 0, .ptr 9 .z 1 0]]), (9, .one 3 [.int .i64 ai])])
          (fun (q, acc, hv, ai) => ∃ u : Nat, q = u ∧ u ≤ cn ∧ RSf bl (PL u) acc hv ai) (fun (q, _) => cn - q.toNat) hw ‹_› ?_ ?_
        · refine Cv.genAt [68] [10, 9] (Cv.fold ([13, 14, 15] ++ [69, 70, 71, 72, 73, 74, 75, 76, 77, 78, 79, 80, 81, 82, 83, 84, 85]) 11 [4, 5] (by exact Nat.le_refl _) (by exact Nat.le_of_ble_eq_true rfl) (by rfl) (by cbv) ?_)
          intro js
          refine ⟨(_, _, _, _), ?_, js, rfl⟩
          exact ⟨0, rfl, by omega, by rw [htk0]; exact hst0⟩
        · rintro ⟨q, acc, hv, ai⟩ js11 ⟨u, hq, hu, hrs⟩
          cbv
          split
          · rename_i hlt2
            cbv
            have hlt2 : u < cn := by rw [qc, lss_true] at hlt2; simp only [qofN] at hlt2; simp only [nc] at *; omega
            have htq : vtoN q = u := by rw [hq]; exact hto u
            have hinQ : 0 ≤ q ∧ q < (cn : Int) := by simp only [nc] at *; omega
            obtain ⟨q1, hq1⟩ : ∃ q1 : Int, q1 = ((u + 1 : Nat) : Int) := ⟨_, rfl⟩
            have eq1 : vb .add .i64 q 1 = q1 := by simp only [nc] at *; rw [qb, add_i64 (by omega) (by omega)]; omega
            have hmu2 : ∀ _ : Unit, cn - q1.toNat < cn - q.toNat := fun _ => by simp only [nc] at *; omega
            have hlu : u < vln cs := by rw [hvl]; omega
            have hd1 := hdec u (by omega)
            have hp1 := hmono u (by omega)
            have hrd3 := hrd2 (PL u) acc hv ai hrs hp1
            rw [htq, hadd0, hvgd cs]
            generalize cs.getD u 0 = y at *
            refine ⟨⟨hinQ⟩, ⟨hlu⟩, ⟨hlu⟩, ?_⟩
            refine call_con (ρ := [(10, .z), (9, .z), (8, .z), (7, .z), (0, .z)]) hrd3 ⟨by rfl, by rfl, by rfl, by cbv; exact ⟨view_refl _, view_refl _, trivial⟩⟩ ?_
            rintro v H R js12 ⟨acc2, hv2, ai2, s, e, q2, rfl, hrs2, hd2, rfl, rfl⟩
            obtain ⟨rfl, rfl, rfl⟩ := hdet _ _ _ _ _ _ _ _ hd2 hd1
            cbv
            have hss : vc .neq s s = false := by rw [qc, neq_eq]; simp
            rw [hss]
            cbv
            rw [h00]
            cbv
            rw [eq1]
            refine Cv.fold ([13, 14, 15] ++ [69, 70, 71, 72, 73, 74, 75, 76, 77, 78, 79, 80, 81, 82, 83, 84, 85]) 11 [4, 5] (by exact Nat.le_refl _) (by exact Nat.le_of_ble_eq_true rfl) (by rfl) (by cbv) ?_
            intro js
            refine ⟨(_, _, _, _), ?_, js, rfl⟩
            exact ⟨⟨u + 1, hq1, hlt2, hrs2⟩, hmu2 ()⟩
          · rename_i hge2
            cbv
            have hun : u = cs.length := by rw [qc, lss_false] at hge2; simp only [qofN] at hge2; simp only [nc] at *; omega
            rw [hun] at hrs
            have hl3 := hlft2 acc hv ai hrs
            refine call_con (ρ := [(10, .z), (9, .z), (8, .z), (7, .z)]) hl3 ⟨by rfl, by rfl, by rfl, by cbv; exact ⟨view_refl _, trivial⟩⟩ ?_
            rintro v H R js13 ⟨⟨f, hf, rfl⟩, rfl, rfl⟩
            cbv
            have hf8 : vc .lss f 8 = true := by rw [qc, lss_true]; simp only [nc] at *; omega
            rw [hf8]
            cbv
            refine call_con (ρ := []) hwakes ⟨by rfl, by rfl, by rfl, by cbv⟩ ?_
            rintro v H R js14 ⟨rfl, rfl, rfl⟩
            cbv
  · have hcodes := codes_bad l cap hlu hlen h5
    refine con_gen (con_cut 2 (by simp) (con_drop (con_walk hmix fn12 ?_)))
    intro vb vc vw vtoN vofN vaddN vsubN vmaxI vminI vcutN vgd vst vln vrep vsub vonto vsplice vstrEq vbyteV vnotB veqB hw qb qc qw qtoN qofN qaddN qsubN qmaxI qminI qcutN qgd qst qln qrep qsub qonto qsplice qstrEq qbyteV qnotB qeqB
    have hm := hmix; generalize Try.prog = P at *
    generalize hn : l.length = n at *
    generalize hm : ss.length = m at *
    have h50 : vc .neq 50 0 = true := by rw [qc]; rfl
    cbv
    refine call_con (ρ := [(0, .z)]) hcodes ⟨by rfl, by rfl, by rfl, by cbv; exact ⟨view_refl _, trivial⟩⟩ ?_
    rintro v H R js ⟨rfl, rfl, rfl⟩
    cbv
    rw [h50]
    cbv
    refine call_con (ρ := []) hwakes ⟨by rfl, by rfl, by rfl, by cbv⟩ ?_
    rintro v H R js ⟨rfl, rfl, rfl⟩
    cbv
theorem own : ownKnob Try.prog.godebug = none := by kernel_rfl
set_option maxRecDepth 100000 in
theorem lifted (os : Os) (started : os.Started) (H : Type) (enc : TypeId × Value → H) :
    ReturnsInHanded {} Try.checked os 12 .any (Rows.canonBackSpec.pre6 enc Try.prog Try.f12 Rows.canonBackRow.domain false) (Rows.canonBackSpec.post enc Try.prog Try.f12 false true false false) := by
  refine returnsInHanded_of_change (C := Try.checked) own started (by kernel_rfl) Try.func12
    (ChangeSpec.witness6 (enc := enc) (C := Try.checked) false ⟨#[], #[.slice none 0 0, .slice none 0 0], []⟩ 8 (by kernel_rfl) (by kernel_rfl) (by kernel_rfl) (by kernel_rfl)) ?_
  intro W base args ds gs before hval0 hW hcnd _
  have hval : ∀ (j : Nat) t v, Try.f12.params[j]? = some t → args[j]? = some v → Value.okWide Try.prog W .any base t v := hval0
  have hW' := hW
  obtain ⟨p, q, hA0, hV, rfl, hfz, hnd⟩ := hW
  have hA : DataW.TrodAll enc Try.prog W 0 (fun _ => true) true Try.f12.params.toList args.toList ds p := hA0
  rw [Try.params12] at hA hval
  obtain ⟨v0, vs0, d0, ds0, p0, q0, hargs0, rfl, rfl, h0, r0⟩ := trodAll_cons hA
  obtain ⟨v1, vs1, d1, ds1, p1, q1, hargs1, rfl, rfl, h1, r1⟩ := trodAll_cons r0
  obtain ⟨rfl, rfl, rfl⟩ := trodAll_nil r1
  obtain rfl : args = #[v0, v1] := by cases args; simp_all
  obtain ⟨rfl, rfl⟩ := trodVars_none hV
  obtain ⟨s0, l0, cap0, rfl, lt0, ho0, hw0, hc0, hm0⟩ := arg_ints (P := Try.prog) Try.underlying23 Try.underlying5 (by kernel_rfl) (hval 0 23 v0 rfl rfl) h0
  obtain ⟨s1, l1, cap1, rfl, lt1, ho1, hw1, hc1, hm1⟩ := arg_ints (P := Try.prog) Try.underlying88 Try.underlying3 (by kernel_rfl) (hval 1 88 v1 rfl rfl) h1
  refine (con_below (law_con l0 l1 cap0 cap1 (fun x hx => wf_u8 (hw0 x hx)) (by have : maxLen = 9223372036854775807 := rfl; omega) (by have : maxLen = 9223372036854775807 := rfl; omega)) (by intro B hB; simp at hB; rcases hB with rfl | rfl <;> rfl) (ok_args [(s0, .ro .u8 l0), (s1, .ro .i64 l1)] (by intro e he; simp at he; rcases he with rfl | rfl; exact ⟨lt0, rfl, ho0⟩; exact ⟨lt1, rfl, ho1⟩))).mono fun e W' ⟨he, hb⟩ => ⟨_, he, ?_⟩
  exact law_post hW' rfl (by kernel_rfl) Try.underlying4 (by kernel_rfl) (by kernel_rfl) rfl rfl rfl hb

theorem over : Rows.canonBackRow.holds Try.pinned (OpenSpec.ofChange Rows.canonBackSpec) :=
  OpenClaim.holds_of_wide 12 Try.f12 rfl rfl rfl rfl rfl rfl rfl ⟨rfl, rfl, rfl, rfl, rfl⟩ rfl rfl rfl rfl rfl (by kernel_rfl) Try.func12 (by kernel_rfl)
    (of_decide_eq_true (by kernel_rfl)) (by unfold Func.isWrapper; first | (rw [if_pos (by decide +kernel)]; kernel_rfl) | (rw [if_neg (by decide +kernel)]; exact ⟨rfl, rfl⟩))
    (fun os started H enc _ => lifted os started H enc)

theorem proved : Rows.CanonBackSaid :=
  over
#print axioms proved
end Go.Proofs.Ytodobmkflimfkaa.canonBack
