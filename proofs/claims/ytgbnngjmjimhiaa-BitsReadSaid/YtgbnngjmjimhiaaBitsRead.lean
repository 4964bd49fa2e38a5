/-
  For every row of bytes and every row of portions, balerlaw01.BitsRead returns true and leaves its arguments as they were. No condition.
-/
import Derived.Test.YtgbnngjmjimhiaaSx26
import Derived.Test.YtgbnngjmjimhiaaE1
import Derived.SizedLaws
namespace Go.Proofs.Ytgbnngjmjimhiaa.bitsRead
open Go Go.Sx Go.ChangeShapes Go.WideShapes Go.ChangeAt Go.RowKit
set_option linter.unusedVariables false
set_option maxHeartbeats 4000000 in
theorem law_con (b ps : List Int) (cap cap2 : Nat) (hby : ∀ x ∈ b, isByte x) (hl : b.length ≤ 140737488355328) :
    Con Try.prog 8 [.slice 0 .z 1 b.length cap, .slice 1 .z 1 ps.length cap2] [.ro .u8 b, .ro .i64 ps] (fun v H R => v = .bool true ∧ H = [.ro .u8 b, .ro .i64 ps] ∧ R = [2, 3]) := by
  have hwakes := bwakes_con
  have hnew := fun c => rnew_con b c hl
  have hal : ∀ (pos : Nat) (acc hv ai : Int) (c : Nat) (pI : Int), RS b pos acc hv ai → pI = (pos : Int) → pos ≤ 8 * b.length → ∃ (X E QI L : Int) (Q : Nat), QI = (Q : Int) ∧ Q ≤ 8 * b.length ∧ 
      Con Try.prog 29 [.ptr 0 .z 4 0] [(.one 83 [.fn 38 [.ptr 1 .z 1 0, .ptr 2 .z 1 0], .int .u64 (acc), .int .i64 (hv), .fn 39 [.ptr 2 .z 1 0, .ptr 1 .z 1 0]]), .one 3 [.int .i64 ai], .one 22 [.slice 3 .z 1 b.length c], .ro .u8 b] (fun v H R => v = .tup [.int .u64 X, .int .i64 E] ∧ R = [] ∧ ∃ acc2 hv2 ai2, RS b Q acc2 hv2 ai2 ∧ Con Try.prog 33 [.ptr 0 .z 4 0] [(.one 83 [.fn 38 [.ptr 1 .z 1 0, .ptr 2 .z 1 0], .int .u64 (acc2), .int .i64 (hv2), .fn 39 [.ptr 2 .z 1 0, .ptr 1 .z 1 0]]), .one 3 [.int .i64 ai2], .one 22 [.slice 3 .z 1 b.length c], .ro .u8 b] (fun v H R => v = .int .i64 L ∧ R = [] ∧ H = [(.one 83 [.fn 38 [.ptr 1 .z 1 0, .ptr 2 .z 1 0], .int .u64 (acc2), .int .i64 (hv2), .fn 39 [.ptr 2 .z 1 0, .ptr 1 .z 1 0]]), .one 3 [.int .i64 ai2], .one 22 [.slice 3 .z 1 b.length c], .ro .u8 b]) ∧ H = [(.one 83 [.fn 38 [.ptr 1 .z 1 0, .ptr 2 .z 1 0], .int .u64 (acc2), .int .i64 (hv2), .fn 39 [.ptr 2 .z 1 0, .ptr 1 .z 1 0]]), .one 3 [.int .i64 ai2], .one 22 [.slice 3 .z 1 b.length c], .ro .u8 b]) ∧
      Con Try.prog 30 [.ptr 0 .z 2 0] [.one 66 [.slice 1 .z 1 b.length cap, .int .i64 pI], .ro .u8 b] (fun v H R => v = .tup [.int .u64 X, .int .i64 E] ∧ R = [] ∧ H = [.one 66 [.slice 1 .z 1 b.length cap, .int .i64 QI], .ro .u8 b]) ∧
      Con Try.prog 34 [.ptr 0 .z 2 0] [.one 66 [.slice 1 .z 1 b.length cap, .int .i64 QI], .ro .u8 b] (fun v H R => v = .int .i64 L ∧ R = [] ∧ H = [.one 66 [.slice 1 .z 1 b.length cap, .int .i64 QI], .ro .u8 b]) := by
    intro pos acc hv ai c pI h hpI hp
    subst hpI
    refine ⟨_, _, _, _, rbP b pos (alN pos), rfl, rbP_le b pos _ hp, (ralign_rs b pos c acc hv ai hby (by omega) h).mono ?_, refalign_con b cap pos hby (by omega) hp, refleft_con b cap _ (by omega) (rbP_le b pos _ hp)⟩
    rintro v H R ⟨e1, e2, acc2, hv2, ai2, h2, e3⟩
    exact ⟨e1, e2, acc2, hv2, ai2, h2, rleft_rs b _ c acc2 hv2 ai2 (by omega) h2, e3⟩
  have hbt : ∀ (pos : Nat) (acc hv ai : Int) (c : Nat) (pI n : Int), RS b pos acc hv ai → pI = (pos : Int) → pos ≤ 8 * b.length → ∃ (X E QI L : Int) (Q : Nat), QI = (Q : Int) ∧ Q ≤ 8 * b.length ∧ 
      Con Try.prog 31 [.ptr 0 .z 4 0, .int .i64 n] [(.one 83 [.fn 38 [.ptr 1 .z 1 0, .ptr 2 .z 1 0], .int .u64 (acc), .int .i64 (hv), .fn 39 [.ptr 2 .z 1 0, .ptr 1 .z 1 0]]), .one 3 [.int .i64 ai], .one 22 [.slice 3 .z 1 b.length c], .ro .u8 b] (fun v H R => v = .tup [.int .u64 X, .int .i64 E] ∧ R = [] ∧ ∃ acc2 hv2 ai2, RS b Q acc2 hv2 ai2 ∧ Con Try.prog 33 [.ptr 0 .z 4 0] [(.one 83 [.fn 38 [.ptr 1 .z 1 0, .ptr 2 .z 1 0], .int .u64 (acc2), .int .i64 (hv2), .fn 39 [.ptr 2 .z 1 0, .ptr 1 .z 1 0]]), .one 3 [.int .i64 ai2], .one 22 [.slice 3 .z 1 b.length c], .ro .u8 b] (fun v H R => v = .int .i64 L ∧ R = [] ∧ H = [(.one 83 [.fn 38 [.ptr 1 .z 1 0, .ptr 2 .z 1 0], .int .u64 (acc2), .int .i64 (hv2), .fn 39 [.ptr 2 .z 1 0, .ptr 1 .z 1 0]]), .one 3 [.int .i64 ai2], .one 22 [.slice 3 .z 1 b.length c], .ro .u8 b]) ∧ H = [(.one 83 [.fn 38 [.ptr 1 .z 1 0, .ptr 2 .z 1 0], .int .u64 (acc2), .int .i64 (hv2), .fn 39 [.ptr 2 .z 1 0, .ptr 1 .z 1 0]]), .one 3 [.int .i64 ai2], .one 22 [.slice 3 .z 1 b.length c], .ro .u8 b]) ∧
      Con Try.prog 32 [.ptr 0 .z 2 0, .int .i64 n] [.one 66 [.slice 1 .z 1 b.length cap, .int .i64 pI], .ro .u8 b] (fun v H R => v = .tup [.int .u64 X, .int .i64 E] ∧ R = [] ∧ H = [.one 66 [.slice 1 .z 1 b.length cap, .int .i64 QI], .ro .u8 b]) ∧
      Con Try.prog 34 [.ptr 0 .z 2 0] [.one 66 [.slice 1 .z 1 b.length cap, .int .i64 QI], .ro .u8 b] (fun v H R => v = .int .i64 L ∧ R = [] ∧ H = [.one 66 [.slice 1 .z 1 b.length cap, .int .i64 QI], .ro .u8 b]) := by
    intro pos acc hv ai c pI n h hpI hp
    subst hpI
    refine ⟨_, _, _, _, rbP b pos n, rfl, rbP_le b pos _ hp, (rbits_rs b pos c n acc hv ai hby (by omega) h).mono ?_, refbitsB_con b cap pos n hby (by omega) hp, refleft_con b cap _ (by omega) (rbP_le b pos _ hp)⟩
    rintro v H R ⟨e1, e2, acc2, hv2, ai2, h2, e3⟩
    exact ⟨e1, e2, acc2, hv2, ai2, h2, rleft_rs b _ c acc2 hv2 ai2 (by omega) h2, e3⟩
  refine con_cut 2 (by simp) (con_red [2, 3] (con_walk hmix fn8 ?_))
  intro vb vc vw vtoN vofN vaddN vsubN vmaxI vminI vcutN vgd vst vln vrep vsub vonto vsplice vstrEq vbyteV vnotB veqB hw qb qc qw qtoN qofN qaddN qsubN qmaxI qminI qcutN qgd qst qln qrep qsub qonto qsplice qstrEq qbyteV qnotB qeqB
  have hm := hmix
  have hst := RS.start b
  generalize hRS : RS b = RSb at *
  clear hRS
  generalize Try.prog = P at *
  generalize hlen : b.length = len at *
  generalize hplen : ps.length = plen at *
  have ha : vaddN 0 len = len := by simp only [qaddN, Nat.zero_add]
  have hpay : vonto [] 0 (vsub b 0 len) = b := by simp only [qonto, qsub]; simp [← hlen]
  cbv
  refine ⟨⟨by rw [ha]; simp only [qln]; omega⟩, ⟨Nat.zero_le _⟩, ⟨Nat.zero_le _⟩, ⟨by rw [ha]; omega⟩, ?_⟩
  intro c0 js0 hle0
  cbv
  rw [ha, hpay]
  refine call_con (ρ := [(2, .z)]) (hnew c0) ⟨by rfl, by rfl, by rfl, by cbv; exact ⟨view_refl _, trivial⟩⟩ ?_
  rintro v H R js ⟨rfl, rfl, c1, rfl⟩
  cbv
  refine loop_fam (α := Int × List Int) [8, 26, 27, 28, 29, 30, 31, 32, 33, 34] [2, 3]
    (fun (k, l) => [(25, .int .i64 k)]) (fun (k, l) => [(2, .buf 5 .u8 l c0)])
    (fun (k, l) => ∃ i : Nat, k = i ∧ i ≤ len ∧ l.length = len) (fun (k, l) => len - k.toNat) hw hm ?_ ?_
  · refine Cv.genAt [25] [] (Cv.fold [8, 26, 27, 28, 29, 30, 31, 32, 33, 34] 8 [2, 3] (by exact Nat.le_refl _) (by exact Nat.le_of_ble_eq_true rfl) (by rfl) (by cbv) ?_)
    intro js
    refine ⟨(_, _), ?_, js, rfl⟩
    exact ⟨0, rfl, by omega, hlen⟩
  · rintro ⟨k, l⟩ js ⟨i, hk, hi, hll⟩
    cbv
    split
    · rename_i hlt
      have hlt : i < len := by rw [qc, lss_true] at hlt; simp only [qofN] at hlt; simp only [nc] at *; omega
      have hink : 0 ≤ k ∧ k < len := by simp only [nc] at *; omega
      have hltk : vtoN k < vln l := by simp only [qtoN, qln]; simp only [nc] at *; omega
      have hltk2 : vaddN 0 (vtoN k) < vln l := by simp only [qaddN, Nat.zero_add]; exact hltk
      have hk1 : vb .add .i64 k 1 = ((i + 1 : Nat) : Int) := by simp only [nc] at *; rw [qb, add_i64 (by omega) (by omega)]; omega
      cbv
      refine ⟨⟨hink⟩, ⟨hltk2⟩, ⟨hltk⟩, ⟨hink⟩, ⟨hltk2⟩, ⟨hltk⟩, ?_⟩
      refine Cv.fold [8, 26, 27, 28, 29, 30, 31, 32, 33, 34] 8 [2, 3] (by exact Nat.le_refl _) (by exact Nat.le_of_ble_eq_true rfl) (by rfl) (by cbv) ?_
      intro js
      refine ⟨(_, _), ?_, js, rfl⟩
      exact ⟨⟨i + 1, hk1, hlt, by simp only [qst, List.length_set]; exact hll⟩, by show len - (vb .add .i64 k 1).toNat < len - k.toNat; rw [hk1, hk]; simp only [nc] at *; omega⟩
    · rename_i hge
      cbv
      refine loop_fam (α := Int × Int × Int × Int × Int) [9, 10, 11, 12, 13, 14, 38, 39, 40, 41, 42, 43, 44, 45, 46, 47, 48, 49, 50, 51, 52, 53, 54, 55, 56, 57, 58, 59, 60, 61, 62, 63, 64, 65, 66, 67, 68, 69, 70, 71, 72, 73, 74, 75, 76, 77, 78, 79, 80, 81, 82, 83] [2, 3]
        (fun (k, acc, hv, ai, p) => [(37, .int .i64 k)]) (fun (k, acc, hv, ai, p) => [(5, .one 3 [.int .i64 ai]), (6, .one 83 [.fn 38 [.ptr 5 .z 1 0, .ptr 4 .z 1 0], .int .u64 acc, .int .i64 hv, .fn 39 [.ptr 4 .z 1 0, .ptr 5 .z 1 0]]), (7, .one 66 [.slice 0 .z 1 len cap, .int .i64 p])])
        (fun (k, acc, hv, ai, p) => ∃ (i pos : Nat), k = i ∧ i ≤ plen ∧ i ≤ 300 ∧ RSb pos acc hv ai ∧ p = (pos : Int) ∧ pos ≤ 8 * len) (fun (k, _) => plen - k.toNat) hw hm ?_ ?_
      · refine Cv.genAt [37] [7] (Cv.fold [9, 10, 11, 12, 13, 14, 38, 39, 40, 41, 42, 43, 44, 45, 46, 47, 48, 49, 50, 51, 52, 53, 54, 55, 56, 57, 58, 59, 60, 61, 62, 63, 64, 65, 66, 67, 68, 69, 70, 71, 72, 73, 74, 75, 76, 77, 78, 79, 80, 81, 82, 83] 8 [2, 3] (by exact Nat.le_refl _) (by exact Nat.le_of_ble_eq_true rfl) (by rfl) (by cbv) ?_)
        intro js
        refine ⟨(_, _, _, _, _), ?_, js, rfl⟩
        exact ⟨0, 0, rfl, by omega, by omega, hst, rfl, by omega⟩
      · rintro ⟨k, acc, hv, ai, p⟩ js ⟨i, pos, hk, hi, hi3, hrs, hp, hpl⟩
        cbv
        split
        · rename_i hlt
          have hlt : i < plen := by rw [qc, lss_true] at hlt; simp only [qofN] at hlt; simp only [nc] at *; omega
          have hink : 0 ≤ k ∧ k < plen := by simp only [nc] at *; omega
          have hltk : vtoN k < vln ps := by simp only [qtoN, qln]; simp only [nc] at *; omega
          have hltk2 : vaddN 0 (vtoN k) < vln ps := by simp only [qaddN, Nat.zero_add]; exact hltk
          have hk1 : vb .add .i64 k 1 = ((i + 1 : Nat) : Int) := by simp only [nc] at *; rw [qb, add_i64 (by omega) (by omega)]; omega
          generalize hnn : vgd ps (vtoN k) = n at *
          cbv
          rw [hnn]
          refine ⟨⟨hink⟩, ⟨hltk2⟩, ⟨hltk⟩, ?_⟩
          split
          · rename_i h300
            cbv
            refine call_con (ρ := []) hwakes ⟨by rfl, by rfl, by rfl, by cbv⟩ ?_
            rintro v H R js ⟨rfl, rfl, rfl⟩
            cbv
          · rename_i h300
            have hi300 : i < 300 := by rw [qc, geq_false] at h300; simp only [nc] at *; omega
            cbv
            split
            · rename_i hneg
              obtain ⟨X, E, QI, L, Q, hQI, hQl, hc1, hc2, hc4⟩ := hal pos acc hv ai c1 p hrs hp hpl
              have hXX : vc .neq X X = false := by rw [qc, neq_false]; simp
              have hEE : vc .neq E E = false := by rw [qc, neq_false]; simp
              have hLL : vc .neq L L = false := by rw [qc, neq_false]; simp
              cbv
              refine call_con (ρ := [(6, .z), (5, .z), (4, .z), (3, .z)]) hc1 ⟨by rfl, by rfl, by rfl, by cbv; exact ⟨view_refl _, trivial⟩⟩ ?_
              rintro v H R js ⟨rfl, rfl, acc2, hv2, ai2, hst2, hc3, rfl⟩
              cbv
              refine call_con (ρ := [(7, .z), (0, .z)]) hc2 ⟨by rfl, by rfl, by rfl, by cbv; exact ⟨view_refl _, trivial⟩⟩ ?_
              rintro v H R js ⟨rfl, rfl, rfl⟩
              cbv
              rw [hXX]
              cbv
              rw [hEE]
              cbv
              refine call_con (ρ := [(6, .z), (5, .z), (4, .z), (3, .z)]) hc3 ⟨by rfl, by rfl, by rfl, by cbv; exact ⟨view_refl _, trivial⟩⟩ ?_
              rintro v H R js ⟨rfl, rfl, rfl⟩
              cbv
              refine call_con (ρ := [(7, .z), (0, .z)]) hc4 ⟨by rfl, by rfl, by rfl, by cbv; exact ⟨view_refl _, trivial⟩⟩ ?_
              rintro v H R js ⟨rfl, rfl, rfl⟩
              cbv
              rw [hLL]
              cbv
              refine Cv.fold [9, 10, 11, 12, 13, 14, 38, 39, 40, 41, 42, 43, 44, 45, 46, 47, 48, 49, 50, 51, 52, 53, 54, 55, 56, 57, 58, 59, 60, 61, 62, 63, 64, 65, 66, 67, 68, 69, 70, 71, 72, 73, 74, 75, 76, 77, 78, 79, 80, 81, 82, 83] 8 [2, 3] (by exact Nat.le_refl _) (by exact Nat.le_of_ble_eq_true rfl) (by rfl) (by cbv) ?_
              intro js
              refine ⟨(_, _, _, _, _), ?_, js, rfl⟩
              exact ⟨⟨i + 1, Q, hk1, hlt, hi300, hst2, hQI, hQl⟩, by show plen - (vb .add .i64 k 1).toNat < plen - k.toNat; rw [hk1, hk]; simp only [nc] at *; omega⟩
            · rename_i hneg
              obtain ⟨X, E, QI, L, Q, hQI, hQl, hc1, hc2, hc4⟩ := hbt pos acc hv ai c1 p n hrs hp hpl
              have hXX : vc .neq X X = false := by rw [qc, neq_false]; simp
              have hEE : vc .neq E E = false := by rw [qc, neq_false]; simp
              have hLL : vc .neq L L = false := by rw [qc, neq_false]; simp
              cbv
              refine call_con (ρ := [(6, .z), (5, .z), (4, .z), (3, .z)]) hc1 ⟨by rfl, by rfl, by rfl, by cbv; exact ⟨view_refl _, trivial⟩⟩ ?_
              rintro v H R js ⟨rfl, rfl, acc2, hv2, ai2, hst2, hc3, rfl⟩
              cbv
              refine call_con (ρ := [(7, .z), (0, .z)]) hc2 ⟨by rfl, by rfl, by rfl, by cbv; exact ⟨view_refl _, trivial⟩⟩ ?_
              rintro v H R js ⟨rfl, rfl, rfl⟩
              cbv
              rw [hXX]
              cbv
              rw [hEE]
              cbv
              refine call_con (ρ := [(6, .z), (5, .z), (4, .z), (3, .z)]) hc3 ⟨by rfl, by rfl, by rfl, by cbv; exact ⟨view_refl _, trivial⟩⟩ ?_
              rintro v H R js ⟨rfl, rfl, rfl⟩
              cbv
              refine call_con (ρ := [(7, .z), (0, .z)]) hc4 ⟨by rfl, by rfl, by rfl, by cbv; exact ⟨view_refl _, trivial⟩⟩ ?_
              rintro v H R js ⟨rfl, rfl, rfl⟩
              cbv
              rw [hLL]
              cbv
              refine Cv.fold [9, 10, 11, 12, 13, 14, 38, 39, 40, 41, 42, 43, 44, 45, 46, 47, 48, 49, 50, 51, 52, 53, 54, 55, 56, 57, 58, 59, 60, 61, 62, 63, 64, 65, 66, 67, 68, 69, 70, 71, 72, 73, 74, 75, 76, 77, 78, 79, 80, 81, 82, 83] 8 [2, 3] (by exact Nat.le_refl _) (by exact Nat.le_of_ble_eq_true rfl) (by rfl) (by cbv) ?_
              intro js
              refine ⟨(_, _, _, _, _), ?_, js, rfl⟩
              exact ⟨⟨i + 1, Q, hk1, hlt, hi300, hst2, hQI, hQl⟩, by show plen - (vb .add .i64 k 1).toNat < plen - k.toNat; rw [hk1, hk]; simp only [nc] at *; omega⟩
        · rename_i hge
          cbv
          refine call_con (ρ := []) hwakes ⟨by rfl, by rfl, by rfl, by cbv⟩ ?_
          rintro v H R js ⟨rfl, rfl, rfl⟩
          cbv
theorem own : ownKnob Try.prog.godebug = none := by kernel_rfl
set_option maxRecDepth 100000 in
theorem lifted (os : Os) (started : os.Started) (H : Type) (enc : TypeId × Value → H) :
    ReturnsInHanded {} Try.checked os 8 .any (Rows.bitsReadSpec.pre6 enc Try.prog Try.f8 Rows.bitsReadRow.domain false) (Rows.bitsReadSpec.post enc Try.prog Try.f8 false true false false) := by
  refine returnsInHanded_of_change_sized (C := Try.checked) own started (by kernel_rfl) Try.func8
    (ChangeSpec.witness6 (enc := enc) (C := Try.checked) false ⟨#[], #[.slice none 0 0, .slice none 0 0], []⟩ 8 (by kernel_rfl) (by kernel_rfl) (by kernel_rfl) (by kernel_rfl)) ?_
  intro W base args ds gs before hval0 hW hcnd hz _
  have hval : ∀ (j : Nat) t v, Try.f8.params[j]? = some t → args[j]? = some v → Value.okWide Try.prog W .any base t v := hval0
  have hW' := hW
  obtain ⟨p, q, hA0, hV, rfl, hfz, hnd⟩ := hW
  have hA : DataW.TrodAll enc Try.prog W 0 (fun _ => true) true Try.f8.params.toList args.toList ds p := hA0
  rw [Try.params8] at hA hval
  obtain ⟨v0, vs0, d0, ds0, p0, q0, hargs0, rfl, rfl, h0, r0⟩ := trodAll_cons hA
  obtain ⟨v1, vs1, d1, ds1, p1, q1, hargs1, rfl, rfl, h1, r1⟩ := trodAll_cons r0
  obtain ⟨rfl, rfl, rfl⟩ := trodAll_nil r1
  obtain rfl : args = #[v0, v1] := by cases args; simp_all
  obtain ⟨rfl, rfl⟩ := trodVars_none hV
  obtain ⟨s0, l0, cap0, rfl, lt0, ho0, hw0, hc0, hd0⟩ := arg_intsD (P := Try.prog) Try.underlying22 Try.underlying5 (by kernel_rfl) (hval 0 22 v0 rfl rfl) h0
  obtain ⟨s1, l1, cap1, rfl, lt1, ho1, hw1, hc1, hd1⟩ := arg_intsD (P := Try.prog) Try.underlying23 Try.underlying3 (by kernel_rfl) (hval 1 23 v1 rfl rfl) h1
  have hb0 : l0.length ≤ 140737488355328 := by
    rcases hd0 with ⟨_, rfl⟩ | ⟨rest, rfl⟩
    · exact Nat.zero_le _
    · have h := sized_slice hz (j := 0) (t := 22) (e := 5) rfl rfl Try.underlying22
      have hr := reachBytes_lt
      have e5 : Try.checked.prog.bytesOf 5 = 1 := by kernel_rfl
      rw [e5] at h
      simp only [lits, List.length_map] at h
      omega
  refine (con_below (law_con l0 l1 cap0 cap1 (fun x hx => wf_u8 (hw0 x hx)) hb0) (by intro B hB; simp at hB; rcases hB with rfl | rfl <;> rfl) (ok_args [(s0, .ro .u8 l0), (s1, .ro .i64 l1)] (by intro e he; simp at he; rcases he with rfl | rfl; exact ⟨lt0, rfl, ho0⟩; exact ⟨lt1, rfl, ho1⟩))).mono fun e W' ⟨he, hb⟩ => ⟨_, he, ?_⟩
  exact law_post hW' rfl (by kernel_rfl) Try.underlying4 (by kernel_rfl) (by kernel_rfl) rfl rfl rfl hb

theorem over : Rows.bitsReadRow.holds Try.pinned (OpenSpec.ofChange Rows.bitsReadSpec) :=
  OpenClaim.holds_of_wide 8 Try.f8 rfl rfl rfl rfl rfl rfl rfl ⟨rfl, rfl, rfl, rfl, rfl⟩ rfl rfl rfl rfl rfl (by kernel_rfl) Try.func8 (by kernel_rfl)
    (of_decide_eq_true (by kernel_rfl)) (by unfold Func.isWrapper; first | (rw [if_pos (by decide +kernel)]; kernel_rfl) | (rw [if_neg (by decide +kernel)]; exact ⟨rfl, rfl⟩))
    (fun os started H enc _ => lifted os started H enc)

theorem proved : Rows.BitsReadSaid :=
  over
#print axioms proved
end Go.Proofs.Ytgbnngjmjimhiaa.bitsRead
