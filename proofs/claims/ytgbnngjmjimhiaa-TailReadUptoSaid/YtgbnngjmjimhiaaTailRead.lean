/-
  For every row of bytes and every row of portions that are together of bulk at most 1048576, balerlaw03.TailRead returns true and leaves its arguments as they were.
-/
import Derived.Test.YtgbnngjmjimhiaaSx26
import Derived.Test.YtgbnngjmjimhiaaC9
namespace Go.Proofs.Ytgbnngjmjimhiaa.tailRead
open Go Go.Sx Go.ChangeShapes Go.WideShapes Go.ChangeAt Go.RowKit
set_option linter.unusedVariables false
set_option maxHeartbeats 4000000 in
theorem law_con (b ps : List Int) (cap cap2 : Nat) (hby : ∀ x ∈ b, isByte x) (hl : 8 * b.length ≤ 140737488355328) :
    Con Try.prog 3 [.slice 0 .z 1 b.length cap, .slice 1 .z 1 ps.length cap2] [.ro .u8 b, .ro .i64 ps] (fun v H R => v = .bool true ∧ H = [.ro .u8 b, .ro .i64 ps] ∧ R = [5, 2]) := by
  have hwakes := wakes_con
  by_cases hb : b.getLastD 0 = 0
  · have h1 := new_bad b cap hb (by omega)
    have h2 := refnew_bad b cap hb (by omega)
    refine con_cut 2 (by simp) (con_red [5, 2] (con_walk hmix fn3 ?_))
    intro vb vc vw vtoN vofN vaddN vsubN vmaxI vminI vcutN vgd vst vln vrep vsub vonto vsplice vstrEq vbyteV vnotB veqB hw qb qc qw qtoN qofN qaddN qsubN qmaxI qminI qcutN qgd qst qln qrep qsub qonto qsplice qstrEq qbyteV qnotB qeqB
    generalize Try.prog = P at *
    generalize b.length = len at *
    generalize ps.length = plen at *
    cbv
    refine call_con (ρ := [(0, .z)]) h1 ⟨by rfl, by rfl, by rfl, by cbv; exact ⟨view_refl _, trivial⟩⟩ ?_
    rintro v H R js ⟨rfl, rfl, rfl⟩
    cbv
    refine call_con (ρ := [(0, .z)]) h2 ⟨by rfl, by rfl, by rfl, by cbv; exact ⟨view_refl _, trivial⟩⟩ ?_
    rintro v H R js ⟨rfl, rfl, rfl⟩
    cbv
    have e1 : vnotB (veqB true true) = false := by simp only [qnotB, qeqB]; rfl
    rw [e1]
    cbv
    refine call_con (ρ := []) hwakes ⟨by rfl, by rfl, by rfl, by cbv⟩ ?_
    rintro v H R js ⟨rfl, rfl, rfl⟩
    cbv
  · have h1 := new_good b cap hb hby (by omega)
    have h2 := refnew_good b cap hb hby hl
    obtain ⟨PP, hPP, hPl, _, _⟩ := markAt_spec b hb hby
    have hma : 8 * ((b.length : Int) - 1) + (len8 (b.getLastD 0) - 1) = PP := hPP
    rw [hma] at h1
    have h2 : Con Try.prog 12 [.slice 0 .z 1 b.length cap] [.ro .u8 b] (fun v H R => v = .tup [.ptr 1 .z 2 0, .lit .i64 0] ∧ R = [2] ∧ ∃ c : Nat, H = [.ro .u8 b, .one 36 [.slice 2 .z 1 PP c, .int .i64 PP], .buf 5 .u8 (bitsOf b (8 * b.length)) c]) := by
      refine h2.mono ?_
      rintro v H R ⟨e1, e2, P, c, e3, e4, e5⟩
      have e : P = PP := by omega
      subst e
      exact ⟨e1, e2, c, e5⟩
    have hbits := bits_con b
    have hrbits := refbits_con b PP
    have hleft := left_con b b.length
    have hps : ∀ (c c' : Nat) (p : Int), -1099511627776 ≤ p → p ≤ (PP : Int) → ∀ n : Int, ∃ (V p' : Int), -1099511627776 ≤ p' ∧ p' ≤ (PP : Int) ∧
        Con Try.prog 14 [.ptr 0 .z 2 0, .int .i64 n] [.one 74 [.slice 1 .z 1 b.length c, .int .i64 p], .ro .u8 b] (fun v H R => v = .int .u64 V ∧ R = [] ∧ H = [.one 74 [.slice 1 .z 1 b.length c, .int .i64 p'], .ro .u8 b]) ∧
        Con Try.prog 15 [.ptr 0 .z 2 0, .int .i64 n] [.one 36 [.slice 1 .z 1 PP c', .int .i64 p], .ro .u8 (bitsOf b (8 * b.length))]
          (fun v H R => v = .int .u64 V ∧ R = [] ∧ H = [.one 36 [.slice 1 .z 1 PP c', .int .i64 p'], .ro .u8 (bitsOf b (8 * b.length))]) := fun c c' p h1 h2 n =>
      ⟨_, _, by unfold floorP; split <;> omega, by have := clampN_le n; unfold floorP; split <;> omega, hbits c p n hby ⟨h1, by omega⟩ (by omega), hrbits c' p n (by omega) hl ⟨h1, h2⟩⟩
    clear hbits hrbits
    refine con_cut 2 (by simp) (con_red [5, 2] (con_walk hmix fn3 ?_))
    intro vb vc vw vtoN vofN vaddN vsubN vmaxI vminI vcutN vgd vst vln vrep vsub vonto vsplice vstrEq vbyteV vnotB veqB hw qb qc qw qtoN qofN qaddN qsubN qmaxI qminI qcutN qgd qst qln qrep qsub qonto qsplice qstrEq qbyteV qnotB qeqB
    have hm := hmix
    generalize Try.prog = P at *
    generalize hBB : bitsOf b (8 * b.length) = BB at *
    generalize hlen : b.length = len at *
    generalize hplen : ps.length = plen at *
    generalize hPI : ((PP : Nat) : Int) = PI at *
    cbv
    refine call_con (ρ := [(0, .z)]) h1 ⟨by rfl, by rfl, by rfl, by cbv; exact ⟨view_refl _, trivial⟩⟩ ?_
    rintro v H R js ⟨rfl, rfl, c1, rfl⟩
    cbv
    refine call_con (ρ := [(0, .z)]) h2 ⟨by rfl, by rfl, by rfl, by cbv; exact ⟨view_refl _, trivial⟩⟩ ?_
    rintro v H R js ⟨rfl, rfl, c2, rfl⟩
    cbv
    have e1 : vnotB (veqB false false) = false := by simp only [qnotB, qeqB]; rfl
    rw [e1]
    cbv
    refine loop_fam (α := Int × Int) [9, 10, 37, 38, 39, 40, 41, 42, 43, 44, 45, 46, 47, 48, 49, 50, 51, 52, 53, 54, 55, 56, 57, 58, 59] [5, 2]
      (fun (k, p) => [(36, .int .i64 k)]) (fun (k, p) => [(3, .one 74 [.slice 2 .z 1 len c1, .int .i64 p]), (4, .one 36 [.slice 5 .z 1 PP c2, .int .i64 p])])
      (fun (k, p) => ∃ i : Nat, k = i ∧ i ≤ plen ∧ i ≤ 300 ∧ -1099511627776 ≤ p ∧ p ≤ PI) (fun (k, p) => plen - k.toNat) hw hm ?_ ?_
    · refine Cv.genAt [36] [] (Cv.fold [9, 10, 37, 38, 39, 40, 41, 42, 43, 44, 45, 46, 47, 48, 49, 50, 51, 52, 53, 54, 55, 56, 57, 58, 59] 6 [5, 2] (by exact Nat.le_refl _) (by exact Nat.le_of_ble_eq_true rfl) (by rfl) (by cbv) ?_)
      intro js
      refine ⟨(_, _), ?_, js, rfl⟩
      exact ⟨0, rfl, by omega, by omega, by simp only [nc] at *; omega, Int.le_refl _⟩
    · rintro ⟨k, p⟩ js ⟨i, hk, hi, hi3, hp1, hp2⟩
      cbv
      split
      · rename_i hlt
        have hlt : i < plen := by rw [qc, lss_true] at hlt; simp only [qofN] at hlt; simp only [nc] at *; omega
        have hink : 0 ≤ k ∧ k < plen := by simp only [nc] at *; omega
        have hltk : vtoN k < vln ps := by simp only [qtoN, qln]; simp only [nc] at *; omega
        have hltk2 : vaddN 0 (vtoN k) < vln ps := by simp only [qaddN, Nat.zero_add]; exact hltk
        obtain ⟨V, p', hq1, hq2, hc1, hc2⟩ := hps c1 c2 p hp1 hp2 (vgd ps (vtoN k))
        have hleft' := hleft c1 p'
        generalize hnn : vgd ps (vtoN k) = n at *
        cbv
        rw [hnn]
        refine ⟨⟨hink⟩, ⟨hltk2⟩, ⟨hltk⟩, ?_⟩
        split
        · rename_i h300
          cbv
          refine call_con (ρ := []) hwakes ⟨by rfl, by rfl, by rfl, by cbv⟩ ?_
          rintro v H R js ⟨rfl, rfl, rfl⟩
          cbv
        · rename_i h300
          have hi300 : i < 300 := by rw [qc, geq_false] at h300; simp only [nc] at *; omega
          have hk1 : vb .add .i64 k 1 = ((i + 1 : Nat) : Int) := by simp only [nc] at *; rw [qb, add_i64 (by omega) (by omega)]; omega
          have hVV : vc .neq V V = false := by rw [qc, neq_false]; simp
          have hpp : vc .neq p' p' = false := by rw [qc, neq_false]; simp
          cbv
          refine call_con (ρ := [(3, .z), (2, .z)]) hc1 ⟨by rfl, by rfl, by rfl, by cbv; exact ⟨view_refl _, trivial⟩⟩ ?_
          rintro v H R js ⟨rfl, rfl, rfl⟩
          cbv
          refine call_con (ρ := [(4, .z), (5, .z)]) hc2 ⟨by rfl, by rfl, by rfl, by cbv; exact ⟨view_refl _, trivial⟩⟩ ?_
          rintro v H R js ⟨rfl, rfl, rfl⟩
          cbv
          rw [hVV]
          cbv
          refine call_con (ρ := [(3, .z), (2, .z)]) hleft' ⟨by rfl, by rfl, by rfl, by cbv; exact ⟨view_refl _, trivial⟩⟩ ?_
          rintro v H R js ⟨rfl, rfl, rfl⟩
          cbv
          rw [hpp]
          cbv
          refine Cv.fold [9, 10, 37, 38, 39, 40, 41, 42, 43, 44, 45, 46, 47, 48, 49, 50, 51, 52, 53, 54, 55, 56, 57, 58, 59] 6 [5, 2] (by exact Nat.le_refl _) (by exact Nat.le_of_ble_eq_true rfl) (by rfl) (by cbv) ?_
          intro js
          refine ⟨(_, _), ?_, js, rfl⟩
          exact ⟨⟨i + 1, hk1, hlt, hi300, hq1, hq2⟩, by show plen - (vb .add .i64 k 1).toNat < plen - k.toNat; rw [hk1, hk]; simp only [nc] at *; omega⟩
      · rename_i hge
        cbv
        refine call_con (ρ := []) hwakes ⟨by rfl, by rfl, by rfl, by cbv⟩ ?_
        rintro v H R js ⟨rfl, rfl, rfl⟩
        cbv
theorem own : ownKnob Try.prog.godebug = none := by kernel_rfl
theorem bulk_ints {H : Type} (k : IntKind) : ∀ (l : List Int), Rows.uptoBulkAll (H := H) (lits k l) = l.length
  | [] => rfl
  | n :: l => by
    have := bulk_ints (H := H) k l
    simp only [lits, List.map_cons, Rows.uptoBulkAll, Rows.uptoBulk, List.length_cons] at this ⊢
    omega
theorem bulk_le {H : Type} {k : IntKind} {l : List Int} {d : DataW H} (h : (d = .nil ∧ l = []) ∨ ∃ rest, d = .slice (lits k l) rest) : l.length ≤ Rows.uptoBulk d := by
  rcases h with ⟨_, rfl⟩ | ⟨rest, rfl⟩
  · exact Nat.zero_le _
  · have := bulk_ints (H := H) k l
    simp only [Rows.uptoBulk]
    omega
set_option maxRecDepth 100000 in
theorem lifted (os : Os) (started : os.Started) (H : Type) (enc : TypeId × Value → H) (F : Stop.Interp) :
    ReturnsInHanded {} Try.checked os 3 .any ((Rows.OpenSpec.upto Rows.tailReadSpec).pre6 enc Try.prog Try.f3 Rows.tailReadUptoRow.domain false) (((Rows.OpenSpec.upto Rows.tailReadSpec).at F).post enc Try.prog Try.f3 false true false false) := by
  refine returnsInHanded_of_cond (C := Try.checked) (s := Rows.OpenSpec.upto Rows.tailReadSpec) (k := Rows.uptoSmall) rfl own started (by kernel_rfl) Try.func3
    (OpenSpec.witness (enc := enc) (C := Try.checked) (s := Rows.OpenSpec.upto Rows.tailReadSpec) (k := Rows.uptoSmall) rfl false ⟨#[], #[.slice none 0 0, .slice none 0 0], []⟩ 8 (by kernel_rfl) (by kernel_rfl) (by kernel_rfl)
      (x := ([.nil, .nil], [], [])) (by kernel_rfl) rfl (by kernel_rfl)) ?_
  intro W base args ds gs before hval0 hW _ hk _
  have hval : ∀ (j : Nat) t v, Try.f3.params[j]? = some t → args[j]? = some v → Value.okWide Try.prog W .any base t v := hval0
  have hW' := hW
  obtain ⟨p, q, hA0, hV, rfl, hfz, hnd⟩ := hW
  have hA : DataW.TrodAll enc Try.prog W 0 (fun _ => true) true Try.f3.params.toList args.toList ds p := hA0
  rw [Try.params3] at hA hval
  obtain ⟨v0, vs0, d0, ds0, p0, q0, hargs0, rfl, rfl, h0, r0⟩ := trodAll_cons hA
  obtain ⟨v1, vs1, d1, ds1, p1, q1, hargs1, rfl, rfl, h1, r1⟩ := trodAll_cons r0
  obtain ⟨rfl, rfl, rfl⟩ := trodAll_nil r1
  obtain rfl : args = #[v0, v1] := by cases args; simp_all
  obtain ⟨rfl, rfl⟩ := trodVars_none hV
  obtain ⟨s0, l0, cap0, rfl, lt0, ho0, hw0, hc0, hd0⟩ := arg_intsD (P := Try.prog) Try.underlying22 Try.underlying5 (by kernel_rfl) (hval 0 22 v0 rfl rfl) h0
  obtain ⟨s1, l1, cap1, rfl, lt1, ho1, hw1, hc1, hd1⟩ := arg_intsD (P := Try.prog) Try.underlying23 Try.underlying3 (by kernel_rfl) (hval 1 23 v1 rfl rfl) h1
  have hbulk := of_decide_eq_true hk
  simp only [List.cons_append, List.nil_append, Rows.uptoBulkAll] at hbulk
  have hb0 := bulk_le hd0
  refine (con_below (law_con l0 l1 cap0 cap1 (fun x hx => wf_u8 (hw0 x hx)) (by omega)) (by intro B hB; simp at hB; rcases hB with rfl | rfl <;> rfl) (ok_args [(s0, .ro .u8 l0), (s1, .ro .i64 l1)] (by intro e he; simp at he; rcases he with rfl | rfl; exact ⟨lt0, rfl, ho0⟩; exact ⟨lt1, rfl, ho1⟩))).mono fun e W' ⟨he, hb⟩ => ⟨_, he, ?_⟩
  exact law_post (s := Rows.tailReadSpec) hW' rfl (by kernel_rfl) Try.underlying4 (by kernel_rfl) (by kernel_rfl) rfl rfl rfl hb

theorem over : Rows.tailReadUptoRow.holds Try.pinned (Rows.OpenSpec.upto Rows.tailReadSpec) :=
  OpenClaim.holds_of_cond 3 Try.f3 rfl rfl rfl rfl rfl rfl rfl ⟨rfl, rfl, rfl, rfl, rfl⟩ rfl rfl rfl rfl rfl (by kernel_rfl) Try.func3 (by kernel_rfl)
    (of_decide_eq_true (by kernel_rfl)) (by unfold Func.isWrapper; first | (rw [if_pos (by decide +kernel)]; kernel_rfl) | (rw [if_neg (by decide +kernel)]; exact ⟨rfl, rfl⟩))
    (fun os started H enc _ F => lifted os started H enc F)

theorem proved : Rows.TailReadUptoSaid :=
  over
#print axioms proved
end Go.Proofs.Ytgbnngjmjimhiaa.tailRead
