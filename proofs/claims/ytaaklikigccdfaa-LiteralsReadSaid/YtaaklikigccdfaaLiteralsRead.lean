/-
  For all bytes, weights and bounds, balerlaw11.LiteralsRead returns true and leaves its arguments as they were. No condition.
-/
import Derived.Test.YtaaklikigccdfaaA5
namespace Go.Proofs.Ytaaklikigccdfaa.literalsRead
open Go Go.Sx Go.ChangeShapes Go.WideShapes Go.ChangeAt Go.RowKit Go.Deep
set_option linter.unusedVariables false
theorem wf_u8 {x : Int} (h : (Lit.int .u8 x).wf = true) : isU8 x := by
  simp [Lit.wf, IntKind.min, IntKind.max, IntKind.signed, IntKind.bits] at h
  unfold isU8
  omega
theorem strEq_self (l : List Int) : (List.map (fun n => UInt8.ofNat n.toNat) l == List.map (fun n => UInt8.ofNat n.toNat) l) = true := by simp
set_option maxHeartbeats 40000000 in
set_option maxRecDepth 10000 in
theorem law_con (b w : List Int) (cap cap2 : Nat) (most : Int) (hb : ∀ c ∈ b, isU8 c) (hw8 : ∀ c ∈ w, isU8 c) (hbl : b.length ≤ 140737488355328) (hwl : w.length ≤ 140737488355328) (hcap : b.length ≤ cap) (hcm : cap ≤ 9223372036854775807) :
    Con Try.prog 4 [.slice 0 .z 1 b.length cap, .slice 1 .z 1 w.length cap2, .int .i64 most] [.ro .u8 b, .ro .u8 w] (fun v H R => v = .bool true ∧ H = [.ro .u8 b, .ro .u8 w] ∧ R = []) := by
  have hwakes := wakes11_con
  have h9 := read_con b w cap cap2 most hb hw8 hbl hwl hcap hcm
  have h10 := refread_con b w cap cap2 most hb hw8 hbl hwl hcap hcm
  generalize RdL b w most = X at h9 h10
  cases X with
  | bad e =>
    simp only [PRd] at h9
    simp only [PRef] at h10
    refine con_gen (con_cut 2 (by simp) (con_drop (con_walk hmix fn4 ?_)))
    intro vb vc vw vtoN vofN vaddN vsubN vmaxI vminI vcutN vgd vst vln vrep vsub vonto vsplice vstrEq vbyteV vnotB veqB hw qb qc qw qtoN qofN qaddN qsubN qmaxI qminI qcutN qgd qst qln qrep qsub qonto qsplice qstrEq qbyteV qnotB qeqB
    have hm := hmix; generalize Try.prog = P at *
    generalize b.length = bl at *
    generalize w.length = wl at *
    have e00 : vc .eql 0 0 = true := by rw [qc]; rfl
    have eee : vc .eql e e = true := by rw [qc, eql_true]
    have hstr : ∀ l, vstrEq l l = true := fun l => by rw [qstrEq]; exact strEq_self l
    cbv
    refine call_con (ρ := [(0, .z), (1, .z)]) h9 ⟨by rfl, by rfl, by rfl, by cbv; exact ⟨view_refl _, view_refl _, trivial⟩⟩ ?_
    rintro v H R js ⟨rfl, rfl, rfl⟩
    cbv
    refine call_con (ρ := [(0, .z), (1, .z)]) h10 ⟨by rfl, by rfl, by rfl, by cbv; exact ⟨view_refl _, view_refl _, trivial⟩⟩ ?_
    rintro v H R js2 ⟨rfl, rfl, rfl⟩
    cbv
    rw [eee]
    cbv
    rw [hstr]
    cbv
    rw [hstr]
    cbv
    rw [e00]
    cbv
    refine call_con (ρ := []) hwakes ⟨by rfl, by rfl, by rfl, by cbv⟩ ?_
    rintro v H R js9 ⟨rfl, rfl, rfl⟩
    cbv
  | keep L u =>
    simp only [PRd] at h9
    simp only [PRef] at h10
    refine con_gen (con_cut 2 (by simp) (con_drop (con_walk hmix fn4 ?_)))
    intro vb vc vw vtoN vofN vaddN vsubN vmaxI vminI vcutN vgd vst vln vrep vsub vonto vsplice vstrEq vbyteV vnotB veqB hw qb qc qw qtoN qofN qaddN qsubN qmaxI qminI qcutN qgd qst qln qrep qsub qonto qsplice qstrEq qbyteV qnotB qeqB
    have hm := hmix; generalize Try.prog = P at *
    have e00 : vc .eql 0 0 = true := by rw [qc]; rfl
    have euu : vc .eql u u = true := by rw [qc, eql_true]
    have hstr : ∀ l, vstrEq l l = true := fun l => by rw [qstrEq]; exact strEq_self l
    have ha0 : ∀ n, vaddN 0 n = n := fun n => by simp only [qaddN, Nat.zero_add]
    have hlnq : ∀ l, vln l = l.length := fun l => by simp only [qln]
    generalize hln : L.length = ln at *
    generalize hbl' : b.length = bl at *
    generalize hwl' : w.length = wl at *
    cbv
    refine call_con (ρ := [(0, .z), (1, .z)]) h9 ⟨by rfl, by rfl, by rfl, by cbv; exact ⟨view_refl _, view_refl _, trivial⟩⟩ ?_
    rintro v H R js ⟨rfl, c1, rfl, rfl⟩
    cbv
    refine call_con (ρ := [(0, .z), (1, .z)]) h10 ⟨by rfl, by rfl, by rfl, by cbv; exact ⟨view_refl _, view_refl _, trivial⟩⟩ ?_
    rintro v H R js2 ⟨rfl, c2, rfl, rfl⟩
    cbv
    rw [e00]
    cbv
    refine ⟨⟨by rw [ha0, hlnq]; omega⟩, ⟨by rw [ha0, hlnq]; omega⟩, ?_⟩
    rw [hstr]
    cbv
    refine ⟨⟨by rw [ha0, hlnq]; omega⟩, ⟨by rw [ha0, hlnq]; omega⟩, ?_⟩
    rw [hstr]
    cbv
    rw [euu]
    cbv
    refine call_con (ρ := []) hwakes ⟨by rfl, by rfl, by rfl, by cbv⟩ ?_
    rintro v H R js9 ⟨rfl, rfl, rfl⟩
    cbv
  | rep x n u =>
    simp only [PRd] at h9
    simp only [PRef] at h10
    have hrl : (List.replicate n x).length = n := List.length_replicate
    refine con_gen (con_cut 2 (by simp) (con_drop (con_walk hmix fn4 ?_)))
    intro vb vc vw vtoN vofN vaddN vsubN vmaxI vminI vcutN vgd vst vln vrep vsub vonto vsplice vstrEq vbyteV vnotB veqB hw qb qc qw qtoN qofN qaddN qsubN qmaxI qminI qcutN qgd qst qln qrep qsub qonto qsplice qstrEq qbyteV qnotB qeqB
    have hm := hmix; generalize Try.prog = P at *
    have e00 : vc .eql 0 0 = true := by rw [qc]; rfl
    have euu : vc .eql u u = true := by rw [qc, eql_true]
    have hstr : ∀ l, vstrEq l l = true := fun l => by rw [qstrEq]; exact strEq_self l
    have ha0 : ∀ n, vaddN 0 n = n := fun n => by simp only [qaddN, Nat.zero_add]
    have hlnq : ∀ l, vln l = l.length := fun l => by simp only [qln]
    have hsubq : ∀ (l : List Int) q, vsub l 0 q = l.take q := fun l q => by simp only [qsub, List.drop_zero]
    generalize List.replicate n x = RX at *
    have hsx : vsub RX 0 n = RX := by rw [hsubq, ← hrl, List.take_length]
    generalize hbl' : b.length = bl at *
    generalize hwl' : w.length = wl at *
    cbv
    refine call_con (ρ := [(0, .z), (1, .z)]) h9 ⟨by rfl, by rfl, by rfl, by cbv; exact ⟨view_refl _, view_refl _, trivial⟩⟩ ?_
    rintro v H R js ⟨rfl, L, c1, hL1, hL2, rfl, rfl⟩
    have hsl : vsub L 0 n = RX := by rw [hsubq, hL2]
    cbv
    refine call_con (ρ := [(0, .z), (1, .z)]) h10 ⟨by rfl, by rfl, by rfl, by cbv; exact ⟨view_refl _, view_refl _, trivial⟩⟩ ?_
    rintro v H R js2 ⟨rfl, c2, rfl, rfl⟩
    cbv
    rw [e00]
    cbv
    refine ⟨⟨by rw [ha0, hlnq]; omega⟩, ⟨by rw [ha0, hlnq]; omega⟩, ?_⟩
    rw [hsl, hsx, hstr]
    cbv
    refine ⟨⟨by rw [ha0, hlnq]; omega⟩, ⟨by rw [ha0, hlnq]; omega⟩, ?_⟩
    rw [hstr]
    cbv
    rw [euu]
    cbv
    refine call_con (ρ := []) hwakes ⟨by rfl, by rfl, by rfl, by cbv⟩ ?_
    rintro v H R js9 ⟨rfl, rfl, rfl⟩
    cbv
  | own L l u =>
    simp only [PRd] at h9
    simp only [PRef] at h10
    refine con_gen (con_cut 2 (by simp) (con_drop (con_walk hmix fn4 ?_)))
    intro vb vc vw vtoN vofN vaddN vsubN vmaxI vminI vcutN vgd vst vln vrep vsub vonto vsplice vstrEq vbyteV vnotB veqB hw qb qc qw qtoN qofN qaddN qsubN qmaxI qminI qcutN qgd qst qln qrep qsub qonto qsplice qstrEq qbyteV qnotB qeqB
    have hm := hmix; generalize Try.prog = P at *
    have e00 : vc .eql 0 0 = true := by rw [qc]; rfl
    have euu : vc .eql u u = true := by rw [qc, eql_true]
    have hstr : ∀ l, vstrEq l l = true := fun l => by rw [qstrEq]; exact strEq_self l
    have ha0 : ∀ n, vaddN 0 n = n := fun n => by simp only [qaddN, Nat.zero_add]
    have hlnq : ∀ l, vln l = l.length := fun l => by simp only [qln]
    generalize hln : L.length = ln at *
    generalize hll : l.length = ll at *
    generalize hbl' : b.length = bl at *
    generalize hwl' : w.length = wl at *
    cbv
    refine call_con (ρ := [(0, .z), (1, .z)]) h9 ⟨by rfl, by rfl, by rfl, by cbv; exact ⟨view_refl _, view_refl _, trivial⟩⟩ ?_
    rintro v H R js ⟨rfl, c1, c3, rfl, rfl⟩
    cbv
    refine call_con (ρ := [(0, .z), (1, .z)]) h10 ⟨by rfl, by rfl, by rfl, by cbv; exact ⟨view_refl _, view_refl _, trivial⟩⟩ ?_
    rintro v H R js2 ⟨rfl, c2, c4, rfl, rfl⟩
    cbv
    rw [e00]
    cbv
    refine ⟨⟨by rw [ha0, hlnq]; omega⟩, ⟨by rw [ha0, hlnq]; omega⟩, ?_⟩
    rw [hstr]
    cbv
    refine ⟨⟨by rw [ha0, hlnq]; omega⟩, ⟨by rw [ha0, hlnq]; omega⟩, ?_⟩
    rw [hstr]
    cbv
    rw [euu]
    cbv
    refine call_con (ρ := []) hwakes ⟨by rfl, by rfl, by rfl, by cbv⟩ ?_
    rintro v H R js9 ⟨rfl, rfl, rfl⟩
    cbv
/-- As arg_intsD, with the bound of the capacity. -/
theorem arg_intsM {H : Type} {enc : TypeId × Value → H} {P : Program} {W : World} {base : Nat} {r : Reach} {t e : TypeId} {k : IntKind} {v : Value} {d : DataW H} {ps : List MemPlace} (ht : P.underlying t = some (.slice e)) (he : P.underlying e = some (.int k)) (hc : P.cellsOf e = 1)
    (hval : Value.okWide P W r base t v) (hd : DataW.Trod enc P W 0 (fun _ => true) true t v d ps) :
    ∃ (p0 : Option (Nat × Nat)) (l : List Int) (cap : Nat), v = .slice (p0.map fun p => ⟨p.1, p.2, none⟩) l.length cap ∧ (∀ p, p0 = some p → p.1 < W.heap.size) ∧ (∀ σ, holds P σ p0 W (.ro k l)) ∧ (∀ x ∈ l, (Lit.int k x).wf = true) ∧
      l.length ≤ cap ∧ cap ≤ maxLen ∧ ((d = .nil ∧ l = []) ∨ ∃ rest, d = .slice (lits k l) rest) := by
  obtain ⟨p0, l, cap, rfl, h1, h2, h3, h4, h5⟩ := arg_intsD ht he hc hval hd
  obtain ⟨p1, l1, cap1, e1, _, _, _, _, h6⟩ := arg_ints ht he hc hval hd
  have e2 : cap = cap1 := by injection e1
  exact ⟨p0, l, cap, rfl, h1, h2, h3, h4, by omega, h5⟩
theorem own : ownKnob Try.prog.godebug = none := by kernel_rfl
set_option maxRecDepth 100000 in
theorem lifted (os : Os) (started : os.Started) (H : Type) (enc : TypeId × Value → H) :
    ReturnsInHanded {} Try.checked os 4 .any (Rows.literalsReadSpec.pre6 enc Try.prog Try.f4 Rows.literalsReadRow.domain false) (Rows.literalsReadSpec.post enc Try.prog Try.f4 false true false false) := by
  refine returnsInHanded_of_change_sized (C := Try.checked) own started (by kernel_rfl) Try.func4
    (ChangeSpec.witness6 (enc := enc) (C := Try.checked) false ⟨#[], #[.slice none 0 0, .slice none 0 0, .int .i64 0], []⟩ 8 (by kernel_rfl) (by kernel_rfl) (by kernel_rfl) (by kernel_rfl)) ?_
  intro W base args ds gs before hval0 hW hcnd hz _
  have hval : ∀ (j : Nat) t v, Try.f4.params[j]? = some t → args[j]? = some v → Value.okWide Try.prog W .any base t v := hval0
  have hW' := hW
  obtain ⟨p, q, hA0, hV, rfl, hfz, hnd⟩ := hW
  have hA : DataW.TrodAll enc Try.prog W 0 (fun _ => true) true Try.f4.params.toList args.toList ds p := hA0
  rw [Try.params4] at hA hval
  obtain ⟨v0, vs0, d0, ds0, p0, q0, hargs0, rfl, rfl, h0, r0⟩ := trodAll_cons hA
  obtain ⟨v1, vs1, d1, ds1, p1, q1, hargs1, rfl, rfl, h1, r1⟩ := trodAll_cons r0
  obtain ⟨v2, vs2, d2, ds2, p2, q2, hargs2, rfl, rfl, h2, r2⟩ := trodAll_cons r1
  obtain ⟨rfl, rfl, rfl⟩ := trodAll_nil r2
  obtain rfl : args = #[v0, v1, v2] := by cases args; simp_all
  obtain ⟨rfl, rfl⟩ := trodVars_none hV
  obtain ⟨s0, l0, cap0, rfl, lt0, ho0, hw0, hc0, hm0, hd0⟩ := arg_intsM (P := Try.prog) Try.underlying22 Try.underlying5 (by kernel_rfl) (hval 0 22 v0 rfl rfl) h0
  obtain ⟨s1, l1, cap1, rfl, lt1, ho1, hw1, hc1, hm1, hd1⟩ := arg_intsM (P := Try.prog) Try.underlying22 Try.underlying5 (by kernel_rfl) (hval 1 22 v1 rfl rfl) h1
  obtain ⟨a2, rfl, rfl, rfl, w2⟩ := open_int Try.underlying3 (hval 2 3 v2 rfl rfl) h2
  have hb0 : l0.length * 1 ≤ 140737488351232 := by
    rcases hd0 with ⟨_, rfl⟩ | ⟨rest, rfl⟩
    · simp
    · have h := sized_slice hz (j := 0) (t := 22) (e := 5) rfl rfl Try.underlying22
      rw [show Try.checked.prog.bytesOf 5 = 1 by kernel_rfl, show reachBytes = 140737488351232 by rfl] at h
      simp only [lits, List.length_map] at h
      omega
  have hb1 : l1.length * 1 ≤ 140737488351232 := by
    rcases hd1 with ⟨_, rfl⟩ | ⟨rest, rfl⟩
    · simp
    · have h := sized_slice hz (j := 1) (t := 22) (e := 5) rfl rfl Try.underlying22
      rw [show Try.checked.prog.bytesOf 5 = 1 by kernel_rfl, show reachBytes = 140737488351232 by rfl] at h
      simp only [lits, List.length_map] at h
      omega
  refine (con_below (law_con l0 l1 cap0 cap1 a2 (fun c hc => wf_u8 (hw0 c hc)) (fun c hc => wf_u8 (hw1 c hc)) (by omega) (by omega) hc0 (by rw [show maxLen = 9223372036854775807 by rfl] at hm0; exact hm0)) (by intro B hB; simp at hB; rcases hB with rfl | rfl <;> rfl) (ok_args [(s0, .ro .u8 l0), (s1, .ro .u8 l1)] (by intro e he; simp at he; rcases he with rfl | rfl; exact ⟨lt0, rfl, ho0⟩; exact ⟨lt1, rfl, ho1⟩))).mono fun e W' ⟨he, hb⟩ => ⟨_, he, ?_⟩
  exact law_post hW' rfl (by kernel_rfl) Try.underlying4 (by kernel_rfl) (by kernel_rfl) rfl rfl rfl hb

theorem over : Rows.literalsReadRow.holds Try.pinned (OpenSpec.ofChange Rows.literalsReadSpec) :=
  OpenClaim.holds_of_wide 4 Try.f4 rfl rfl rfl rfl rfl rfl rfl ⟨rfl, rfl, rfl, rfl, rfl⟩ rfl rfl rfl rfl rfl (by kernel_rfl) Try.func4 (by kernel_rfl)
    (of_decide_eq_true (by kernel_rfl)) (by unfold Func.isWrapper; first | (rw [if_pos (by decide +kernel)]; kernel_rfl) | (rw [if_neg (by decide +kernel)]; exact ⟨rfl, rfl⟩))
    (fun os started H enc _ => lifted os started H enc)

theorem proved : Rows.LiteralsReadSaid :=
  over
#print axioms proved
end Go.Proofs.Ytaaklikigccdfaa.literalsRead
