/-
  For all weights, all bytes to be packed, all packed bytes and every number, balerlaw09.WeightsThere returns true and leaves its arguments as they were. No condition.
-/
import Derived.Test.YtbipjekiobmpgaaWB
namespace Go.Proofs.Ytbipjekiobmpgaa.weightsThere
open Go Go.Sx Go.ChangeShapes Go.WideShapes Go.ChangeAt Go.RowKit
set_option linter.unusedVariables false
theorem wf_u8 {x : Int} (h : (Lit.int .u8 x).wf = true) : isU8 x := by
  simp [Lit.wf, IntKind.min, IntKind.max, IntKind.signed, IntKind.bits] at h
  unfold isU8
  omega
theorem strEq_self (l : List Int) : (List.map (fun n => UInt8.ofNat n.toNat) l == List.map (fun n => UInt8.ofNat n.toNat) l) = true := by simp
set_option maxHeartbeats 40000000 in
set_option maxRecDepth 10000 in
theorem law_con (l b p : List Int) (N : Int) (cap cap1 cap2 : Nat) (hl : ∀ c ∈ l, isU8 c) (hb : ∀ c ∈ b, isU8 c) (hp : ∀ c ∈ p, isU8 c) (hN : -9223372036854775808 ≤ N ∧ N ≤ 9223372036854775807)
    (hll : l.length ≤ 140737488355328) (hbl : b.length ≤ 140737488355328) (hpl : p.length ≤ 140737488355328) (hcap : b.length ≤ cap1) :
    Con Try.prog 5 [.slice 0 .z 1 l.length cap, .slice 1 .z 1 b.length cap1, .slice 2 .z 1 p.length cap2, .int .i64 N] [.ro .u8 l, .ro .u8 b, .ro .u8 p] (fun v H R => v = .bool true ∧ H = [.ro .u8 l, .ro .u8 b, .ro .u8 p] ∧ R = []) := by
  have hwakes := wakes9_con
  obtain ⟨N1, hN1⟩ : ∃ N1 : Int, N1 = if 3000 < N then 3000 else N := ⟨_, rfl⟩
  have hN1b : N1 ≤ 3000 := by rw [hN1]; split <;> omega
  have hvt : View 0 (b.take 3000) b := ⟨by rw [List.length_take]; omega, fun i hi => by
    rw [List.length_take] at hi
    rw [Nat.zero_add, List.getD_eq_getElem?_getD, List.getD_eq_getElem?_getD, List.getElem?_take, if_pos (by omega)]⟩
  have hvb : View 0 b b := view_refl b
  have hvl : View 0 l l := view_refl l
  have hvp : View 0 p p := view_refl p
  have htb : ∀ c ∈ b.take 3000, isU8 c := fun c hc => hb c (List.mem_of_mem_take hc)
  have ht3 : 3000 < b.length → (b.take 3000).length = 3000 := fun h => by rw [List.length_take]; omega
  by_cases hWx : ∃ M, Wt l M
  · obtain ⟨M, hW⟩ := hWx
    have h0 := fun b' cap' hb' hb3 => pack_okP l b' cap cap' M hl hb' hW hb3
    have h1 := fun b' cap' hb' hb3 ha => unpackB l b' cap cap' M hl hb' hW hb3 ha
    have h2 := unpackA l p cap cap2 M N1 hl (isU8_byte hp) hW (by omega) hpl
    have h3 := fun cap' hlast h0 => packA l p cap cap' M hl (isU8_byte hp) hW hlast N1.toNat (by omega) h0
    refine con_gen (con_cut 3 (by simp) (con_drop (con_walk hmix fn5 ?_)))
    intro vb vc vw vtoN vofN vaddN vsubN vmaxI vminI vcutN vgd vst vln vrep vsub vonto vsplice vstrEq vbyteV vnotB veqB hw qb qc qw qtoN qofN qaddN qsubN qmaxI qminI qcutN qgd qst qln qrep qsub qonto qsplice qstrEq qbyteV qnotB qeqB
    have hm := hmix; generalize Try.prog = P at *
    have hln2 := hW.2.1
    clear hW
    have hofn : ∀ n, vofN n = (n : Int) := fun n => by simp only [qofN]
    have e20 : vc .eql 2 0 = false := by rw [qc]; rfl
    have e00 : vc .eql 0 0 = true := by rw [qc]; rfl
    have n00 : vc .neq 0 0 = false := by rw [qc]; rfl
    have n20 : vc .neq 2 0 = true := by rw [qc]; rfl
    have n11 : vc .neq 11 0 = true := by rw [qc]; rfl
    have hmn : vminI N 3000 = N1 := by rw [qminI, hN1]
    have hstr : ∀ l, vstrEq l l = true := fun l => by rw [qstrEq]; exact strEq_self l
    have hnotB : vnotB true = false := by rw [qnotB]; rfl
    have ha0 : ∀ n, vaddN 0 n = n := fun n => by simp only [qaddN, Nat.zero_add]
    have hlnq : ∀ l, vln l = l.length := fun l => by simp only [qln]
    have hsub : ∀ l' : List Int, ∀ n, l'.length = n → vsub l' 0 n = l' := fun l' n h => by simp only [qsub]; subst h; simp
    have hsubt : 3000 < b.length → vsub b 0 3000 = b.take 3000 := fun h => by simp only [qsub]; rfl
    generalize pb l M = PB at *
    generalize AllSy l = ALL at *
    generalize pos l M = PO at *
    generalize outs l M = OU at *
    generalize pack = PK at *
    generalize markAt = MK at *
    obtain ⟨bt, hbt⟩ : ∃ bt, bt = b.take 3000 := ⟨_, rfl⟩
    rw [← hbt] at hvt htb ht3 hsubt
    generalize hlnn : l.length = ln at *
    generalize hpn : p.length = pn at *
    generalize hbn : b.length = bn at *
    cbv
    generalize hz : vc .gtr (vofN bn) 3000 = z
    have hsp : vsub p 0 pn = p := hsub p pn hpn
    cases z
    · have hbs : bn ≤ 3000 := by rw [hofn, qc, gtr_false] at hz; simp only [nc] at *; omega
      have h0' := h0 b cap1 hb (by omega)
      have h1' := fun cap' ha => h1 b cap' hb (by omega) ha
      rw [hbn] at h0'
      rw [hbn] at h1'
      clear h0 h1 hz
      have hsb : vsub b 0 bn = b := hsub b bn hbn
      generalize PK (PB b bn ++ [1]) = pk at *
      simp only [← hofn] at h1'
      cbv
      refine call_con (ρ := [(0, .z), (1, .z)]) h0' ⟨by rfl, by rfl, by rfl, by cbv; exact ⟨hvl, hvb, trivial⟩⟩ ?_
      rintro v H R js1 ⟨rfl, L1, c1, rfl, ⟨rfl, _⟩ | ⟨rfl, hL1, hall⟩⟩
      · cbv
        rw [e20]
        cbv
        rw [hmn]
        refine call_con (ρ := [(0, .z), (2, .z)]) h2 ⟨by rfl, by rfl, by rfl, by cbv; exact ⟨hvl, hvp, trivial⟩⟩ ?_
        rintro v H R js5 ⟨rfl, ⟨rfl, ⟨rfl, _⟩ | ⟨rfl, _⟩⟩ | ⟨L2, c2, rfl, ⟨rfl, _⟩ | ⟨rfl, hL2, _, hla, hp0⟩⟩⟩
        · cbv
          rw [n20]
          cbv
          refine call_con (ρ := []) hwakes ⟨by rfl, by rfl, by rfl, by cbv⟩ ?_
          rintro v H R js9 ⟨rfl, rfl, rfl⟩
          cbv
        · cbv
          rw [n11]
          cbv
          refine call_con (ρ := []) hwakes ⟨by rfl, by rfl, by rfl, by cbv⟩ ?_
          rintro v H R js9 ⟨rfl, rfl, rfl⟩
          cbv
        · cbv
          rw [n11]
          cbv
          refine call_con (ρ := []) hwakes ⟨by rfl, by rfl, by rfl, by cbv⟩ ?_
          rintro v H R js9 ⟨rfl, rfl, rfl⟩
          cbv
        · have h3' := h3 c2 hla hp0
          rw [← hL2] at h3'
          generalize hL2n : L2.length = l2n at *
          cbv
          rw [n00]
          cbv
          refine call_con (ρ := [(0, .z), (4, .z)]) h3' ⟨by rfl, by rfl, by rfl, by cbv; exact ⟨hvl, view_refl _, trivial⟩⟩ ?_
          rintro v H R js6 ⟨rfl, c3, rfl, rfl⟩
          cbv
          rw [e00]
          cbv
          refine ⟨⟨by rw [ha0, hlnq]; omega⟩, ⟨by rw [ha0, hlnq]; omega⟩, ?_⟩
          rw [hsp, hstr]
          cbv
          refine call_con (ρ := []) hwakes ⟨by rfl, by rfl, by rfl, by cbv⟩ ?_
          rintro v H R js9 ⟨rfl, rfl, rfl⟩
          cbv
      · have h1'' := h1' c1 hall
        rw [← hL1] at h1''
        generalize hL1n : L1.length = l1n at *
        cbv
        rw [e00]
        cbv
        refine call_con (ρ := [(0, .z), (3, .z)]) h1'' ⟨by rfl, by rfl, by rfl, by cbv; exact ⟨hvl, view_refl _, trivial⟩⟩ ?_
        rintro v H R js3 ⟨rfl, c4, rfl, rfl⟩
        cbv
        rw [n00]
        cbv
        refine ⟨⟨by rw [ha0, hlnq]; omega⟩, ⟨by rw [ha0, hlnq]; omega⟩, ?_⟩
        rw [hsb, hstr, hnotB]
        cbv
        rw [hmn]
        refine call_con (ρ := [(0, .z), (2, .z)]) h2 ⟨by rfl, by rfl, by rfl, by cbv; exact ⟨hvl, hvp, trivial⟩⟩ ?_
        rintro v H R js5 ⟨rfl, ⟨rfl, ⟨rfl, _⟩ | ⟨rfl, _⟩⟩ | ⟨L2, c2, rfl, ⟨rfl, _⟩ | ⟨rfl, hL2, _, hla, hp0⟩⟩⟩
        · cbv
          rw [n20]
          cbv
          refine call_con (ρ := []) hwakes ⟨by rfl, by rfl, by rfl, by cbv⟩ ?_
          rintro v H R js9 ⟨rfl, rfl, rfl⟩
          cbv
        · cbv
          rw [n11]
          cbv
          refine call_con (ρ := []) hwakes ⟨by rfl, by rfl, by rfl, by cbv⟩ ?_
          rintro v H R js9 ⟨rfl, rfl, rfl⟩
          cbv
        · cbv
          rw [n11]
          cbv
          refine call_con (ρ := []) hwakes ⟨by rfl, by rfl, by rfl, by cbv⟩ ?_
          rintro v H R js9 ⟨rfl, rfl, rfl⟩
          cbv
        · have h3' := h3 c2 hla hp0
          rw [← hL2] at h3'
          generalize hL2n : L2.length = l2n at *
          cbv
          rw [n00]
          cbv
          refine call_con (ρ := [(0, .z), (5, .z)]) h3' ⟨by rfl, by rfl, by rfl, by cbv; exact ⟨hvl, view_refl _, trivial⟩⟩ ?_
          rintro v H R js6 ⟨rfl, c3, rfl, rfl⟩
          cbv
          rw [e00]
          cbv
          refine ⟨⟨by rw [ha0, hlnq]; omega⟩, ⟨by rw [ha0, hlnq]; omega⟩, ?_⟩
          rw [hsp, hstr]
          cbv
          refine call_con (ρ := []) hwakes ⟨by rfl, by rfl, by rfl, by cbv⟩ ?_
          rintro v H R js9 ⟨rfl, rfl, rfl⟩
          cbv
    · have hbig : 3000 < bn := by rw [hofn, qc, gtr_true] at hz; simp only [nc] at *; omega
      have ht3' := ht3 hbig
      have hst := hsubt hbig
      have hsbt : vsub bt 0 3000 = bt := hsub bt 3000 ht3'
      have h0' := h0 bt cap1 htb (by omega)
      have h1' := fun cap' ha => h1 bt cap' htb (by omega) ha
      rw [ht3'] at h0'
      rw [ht3'] at h1'
      clear h0 h1 hz
      generalize PK (PB bt 3000 ++ [1]) = pk at *
      cbv
      refine ⟨⟨by decide, by omega⟩, ?_⟩
      simp only [← hofn] at h1'
      cbv
      refine call_con (ρ := [(0, .z), (1, .z)]) h0' ⟨by rfl, by rfl, by rfl, by cbv; exact ⟨hvl, hvt, trivial⟩⟩ ?_
      rintro v H R js1 ⟨rfl, L1, c1, rfl, ⟨rfl, _⟩ | ⟨rfl, hL1, hall⟩⟩
      · cbv
        rw [e20]
        cbv
        rw [hmn]
        refine call_con (ρ := [(0, .z), (2, .z)]) h2 ⟨by rfl, by rfl, by rfl, by cbv; exact ⟨hvl, hvp, trivial⟩⟩ ?_
        rintro v H R js5 ⟨rfl, ⟨rfl, ⟨rfl, _⟩ | ⟨rfl, _⟩⟩ | ⟨L2, c2, rfl, ⟨rfl, _⟩ | ⟨rfl, hL2, _, hla, hp0⟩⟩⟩
        · cbv
          rw [n20]
          cbv
          refine call_con (ρ := []) hwakes ⟨by rfl, by rfl, by rfl, by cbv⟩ ?_
          rintro v H R js9 ⟨rfl, rfl, rfl⟩
          cbv
        · cbv
          rw [n11]
          cbv
          refine call_con (ρ := []) hwakes ⟨by rfl, by rfl, by rfl, by cbv⟩ ?_
          rintro v H R js9 ⟨rfl, rfl, rfl⟩
          cbv
        · cbv
          rw [n11]
          cbv
          refine call_con (ρ := []) hwakes ⟨by rfl, by rfl, by rfl, by cbv⟩ ?_
          rintro v H R js9 ⟨rfl, rfl, rfl⟩
          cbv
        · have h3' := h3 c2 hla hp0
          rw [← hL2] at h3'
          generalize hL2n : L2.length = l2n at *
          cbv
          rw [n00]
          cbv
          refine call_con (ρ := [(0, .z), (4, .z)]) h3' ⟨by rfl, by rfl, by rfl, by cbv; exact ⟨hvl, view_refl _, trivial⟩⟩ ?_
          rintro v H R js6 ⟨rfl, c3, rfl, rfl⟩
          cbv
          rw [e00]
          cbv
          refine ⟨⟨by rw [ha0, hlnq]; omega⟩, ⟨by rw [ha0, hlnq]; omega⟩, ?_⟩
          rw [hsp, hstr]
          cbv
          refine call_con (ρ := []) hwakes ⟨by rfl, by rfl, by rfl, by cbv⟩ ?_
          rintro v H R js9 ⟨rfl, rfl, rfl⟩
          cbv
      · have h1'' := h1' c1 hall
        rw [← hL1] at h1''
        generalize hL1n : L1.length = l1n at *
        cbv
        rw [e00]
        cbv
        refine call_con (ρ := [(0, .z), (3, .z)]) h1'' ⟨by rfl, by rfl, by rfl, by cbv; exact ⟨hvl, view_refl _, trivial⟩⟩ ?_
        rintro v H R js3 ⟨rfl, c4, rfl, rfl⟩
        cbv
        rw [n00]
        cbv
        refine ⟨⟨by rw [ha0, hlnq]; omega⟩, ⟨by rw [ha0, hlnq]; omega⟩, ?_⟩
        rw [hsbt, hst, hstr, hnotB]
        cbv
        rw [hmn]
        refine call_con (ρ := [(0, .z), (2, .z)]) h2 ⟨by rfl, by rfl, by rfl, by cbv; exact ⟨hvl, hvp, trivial⟩⟩ ?_
        rintro v H R js5 ⟨rfl, ⟨rfl, ⟨rfl, _⟩ | ⟨rfl, _⟩⟩ | ⟨L2, c2, rfl, ⟨rfl, _⟩ | ⟨rfl, hL2, _, hla, hp0⟩⟩⟩
        · cbv
          rw [n20]
          cbv
          refine call_con (ρ := []) hwakes ⟨by rfl, by rfl, by rfl, by cbv⟩ ?_
          rintro v H R js9 ⟨rfl, rfl, rfl⟩
          cbv
        · cbv
          rw [n11]
          cbv
          refine call_con (ρ := []) hwakes ⟨by rfl, by rfl, by rfl, by cbv⟩ ?_
          rintro v H R js9 ⟨rfl, rfl, rfl⟩
          cbv
        · cbv
          rw [n11]
          cbv
          refine call_con (ρ := []) hwakes ⟨by rfl, by rfl, by rfl, by cbv⟩ ?_
          rintro v H R js9 ⟨rfl, rfl, rfl⟩
          cbv
        · have h3' := h3 c2 hla hp0
          rw [← hL2] at h3'
          generalize hL2n : L2.length = l2n at *
          cbv
          rw [n00]
          cbv
          refine call_con (ρ := [(0, .z), (5, .z)]) h3' ⟨by rfl, by rfl, by rfl, by cbv; exact ⟨hvl, view_refl _, trivial⟩⟩ ?_
          rintro v H R js6 ⟨rfl, c3, rfl, rfl⟩
          cbv
          rw [e00]
          cbv
          refine ⟨⟨by rw [ha0, hlnq]; omega⟩, ⟨by rw [ha0, hlnq]; omega⟩, ?_⟩
          rw [hsp, hstr]
          cbv
          refine call_con (ρ := []) hwakes ⟨by rfl, by rfl, by rfl, by cbv⟩ ?_
          rintro v H R js9 ⟨rfl, rfl, rfl⟩
          cbv
  · have hW : ∀ M, ¬ Wt l M := fun M h => hWx ⟨M, h⟩
    have h1 := fun b' cap' => pack_code l b' cap cap' hl hll hW
    have h2 := unpack_code l p cap cap2 N1 hl hll hW
    refine con_gen (con_cut 3 (by simp) (con_drop (con_walk hmix fn5 ?_)))
    intro vb vc vw vtoN vofN vaddN vsubN vmaxI vminI vcutN vgd vst vln vrep vsub vonto vsplice vstrEq vbyteV vnotB veqB hw qb qc qw qtoN qofN qaddN qsubN qmaxI qminI qcutN qgd qst qln qrep qsub qonto qsplice qstrEq qbyteV qnotB qeqB
    have hm := hmix; generalize Try.prog = P at *
    have hofn : ∀ n, vofN n = (n : Int) := fun n => by simp only [qofN]
    have e500 : vc .eql 50 0 = false := by rw [qc]; rfl
    have e501 : vc .neq 50 0 = true := by rw [qc]; rfl
    have hmn : vminI N 3000 = N1 := by rw [qminI, hN1]
    obtain ⟨bt, hbt⟩ : ∃ bt, bt = b.take 3000 := ⟨_, rfl⟩
    rw [← hbt] at hvt htb ht3
    generalize l.length = ln at *
    generalize p.length = pn at *
    generalize hbn : b.length = bn at *
    cbv
    generalize hz : vc .gtr (vofN bn) 3000 = z
    cases z
    · have h1' := h1 b cap1
      rw [hbn] at h1'
      clear h1
      cbv
      refine call_con (ρ := [(0, .z), (1, .z)]) h1' ⟨by rfl, by rfl, by rfl, by cbv; exact ⟨hvl, hvb, trivial⟩⟩ ?_
      rintro v H R js ⟨rfl, rfl, rfl⟩
      cbv
      rw [e500]
      cbv
      rw [hmn]
      refine call_con (ρ := [(0, .z), (2, .z)]) h2 ⟨by rfl, by rfl, by rfl, by cbv; exact ⟨hvl, hvp, trivial⟩⟩ ?_
      rintro v H R js ⟨rfl, rfl, rfl⟩
      cbv
      rw [e501]
      cbv
      refine call_con (ρ := []) hwakes ⟨by rfl, by rfl, by rfl, by cbv⟩ ?_
      rintro v H R js ⟨rfl, rfl, rfl⟩
      cbv
    · have hbig : 3000 < bn := by rw [hofn, qc, gtr_true] at hz; simp only [nc] at *; omega
      have h1' := h1 bt cap1
      rw [ht3 hbig] at h1'
      clear h1
      cbv
      refine ⟨⟨by decide, by omega⟩, ?_⟩
      refine call_con (ρ := [(0, .z), (1, .z)]) h1' ⟨by rfl, by rfl, by rfl, by cbv; exact ⟨hvl, hvt, trivial⟩⟩ ?_
      rintro v H R js ⟨rfl, rfl, rfl⟩
      cbv
      rw [e500]
      cbv
      rw [hmn]
      refine call_con (ρ := [(0, .z), (2, .z)]) h2 ⟨by rfl, by rfl, by rfl, by cbv; exact ⟨hvl, hvp, trivial⟩⟩ ?_
      rintro v H R js ⟨rfl, rfl, rfl⟩
      cbv
      rw [e501]
      cbv
      refine call_con (ρ := []) hwakes ⟨by rfl, by rfl, by rfl, by cbv⟩ ?_
      rintro v H R js ⟨rfl, rfl, rfl⟩
      cbv
theorem own : ownKnob Try.prog.godebug = none := by kernel_rfl
set_option maxRecDepth 100000 in
theorem lifted (os : Os) (started : os.Started) (H : Type) (enc : TypeId × Value → H) :
    ReturnsInHanded {} Try.checked os 5 .any (Rows.weightsThereSpec.pre6 enc Try.prog Try.f5 Rows.weightsThereRow.domain false) (Rows.weightsThereSpec.post enc Try.prog Try.f5 false true false false) := by
  refine returnsInHanded_of_change_sized (C := Try.checked) own started (by kernel_rfl) Try.func5
    (ChangeSpec.witness6 (enc := enc) (C := Try.checked) false ⟨#[], #[.slice none 0 0, .slice none 0 0, .slice none 0 0, .int .i64 0], []⟩ 8 (by kernel_rfl) (by kernel_rfl) (by kernel_rfl) (by kernel_rfl)) ?_
  intro W base args ds gs before hval0 hW hcnd hz _
  have hval : ∀ (j : Nat) t v, Try.f5.params[j]? = some t → args[j]? = some v → Value.okWide Try.prog W .any base t v := hval0
  have hW' := hW
  obtain ⟨p, q, hA0, hV, rfl, hfz, hnd⟩ := hW
  have hA : DataW.TrodAll enc Try.prog W 0 (fun _ => true) true Try.f5.params.toList args.toList ds p := hA0
  rw [Try.params5] at hA hval
  obtain ⟨v0, vs0, d0, ds0, p0, q0, hargs0, rfl, rfl, h0, r0⟩ := trodAll_cons hA
  obtain ⟨v1, vs1, d1, ds1, p1, q1, hargs1, rfl, rfl, h1, r1⟩ := trodAll_cons r0
  obtain ⟨v2, vs2, d2, ds2, p2, q2, hargs2, rfl, rfl, h2, r2⟩ := trodAll_cons r1
  obtain ⟨v3, vs3, d3, ds3, p3, q3, hargs3, rfl, rfl, h3, r3⟩ := trodAll_cons r2
  obtain ⟨rfl, rfl, rfl⟩ := trodAll_nil r3
  obtain rfl : args = #[v0, v1, v2, v3] := by cases args; simp_all
  obtain ⟨rfl, rfl⟩ := trodVars_none hV
  obtain ⟨s0, l0, cap0, rfl, lt0, ho0, hw0, hc0, hd0⟩ := arg_intsD (P := Try.prog) Try.underlying30 Try.underlying5 (by kernel_rfl) (hval 0 30 v0 rfl rfl) h0
  obtain ⟨s1, l1, cap1, rfl, lt1, ho1, hw1, hc1, hd1⟩ := arg_intsD (P := Try.prog) Try.underlying30 Try.underlying5 (by kernel_rfl) (hval 1 30 v1 rfl rfl) h1
  obtain ⟨s2, l2, cap2, rfl, lt2, ho2, hw2, hc2, hd2⟩ := arg_intsD (P := Try.prog) Try.underlying30 Try.underlying5 (by kernel_rfl) (hval 2 30 v2 rfl rfl) h2
  obtain ⟨a3, rfl, rfl, rfl, w3⟩ := open_int Try.underlying3 (hval 3 3 v3 rfl rfl) h3
  have hb0 : l0.length * 1 ≤ 140737488351232 := by
    rcases hd0 with ⟨_, rfl⟩ | ⟨rest, rfl⟩
    · simp
    · have h := sized_slice hz (j := 0) (t := 30) (e := 5) rfl rfl Try.underlying30
      rw [show Try.checked.prog.bytesOf 5 = 1 by kernel_rfl, show reachBytes = 140737488351232 by rfl] at h
      simp only [lits, List.length_map] at h
      omega
  have hb1 : l1.length * 1 ≤ 140737488351232 := by
    rcases hd1 with ⟨_, rfl⟩ | ⟨rest, rfl⟩
    · simp
    · have h := sized_slice hz (j := 1) (t := 30) (e := 5) rfl rfl Try.underlying30
      rw [show Try.checked.prog.bytesOf 5 = 1 by kernel_rfl, show reachBytes = 140737488351232 by rfl] at h
      simp only [lits, List.length_map] at h
      omega
  have hb2 : l2.length * 1 ≤ 140737488351232 := by
    rcases hd2 with ⟨_, rfl⟩ | ⟨rest, rfl⟩
    · simp
    · have h := sized_slice hz (j := 2) (t := 30) (e := 5) rfl rfl Try.underlying30
      rw [show Try.checked.prog.bytesOf 5 = 1 by kernel_rfl, show reachBytes = 140737488351232 by rfl] at h
      simp only [lits, List.length_map] at h
      omega
  refine (con_below (law_con l0 l1 l2 a3 cap0 cap1 cap2 (fun x hx => wf_u8 (hw0 x hx)) (fun x hx => wf_u8 (hw1 x hx)) (fun x hx => wf_u8 (hw2 x hx)) (wf_i64 w3) (by omega) (by omega) (by omega) (by omega)) (by intro B hB; simp at hB; rcases hB with rfl | rfl | rfl <;> rfl) (ok_args [(s0, .ro .u8 l0), (s1, .ro .u8 l1), (s2, .ro .u8 l2)] (by intro e he; simp at he; rcases he with rfl | rfl | rfl; exact ⟨lt0, rfl, ho0⟩; exact ⟨lt1, rfl, ho1⟩; exact ⟨lt2, rfl, ho2⟩))).mono fun e W' ⟨he, hb⟩ => ⟨_, he, ?_⟩
  exact law_post hW' rfl (by kernel_rfl) Try.underlying4 (by kernel_rfl) (by kernel_rfl) rfl rfl rfl hb

theorem over : Rows.weightsThereRow.holds Try.pinned (OpenSpec.ofChange Rows.weightsThereSpec) :=
  OpenClaim.holds_of_wide 5 Try.f5 rfl rfl rfl rfl rfl rfl rfl ⟨rfl, rfl, rfl, rfl, rfl⟩ rfl rfl rfl rfl rfl (by kernel_rfl) Try.func5 (by kernel_rfl)
    (of_decide_eq_true (by kernel_rfl)) (by unfold Func.isWrapper; first | (rw [if_pos (by decide +kernel)]; kernel_rfl) | (rw [if_neg (by decide +kernel)]; exact ⟨rfl, rfl⟩))
    (fun os started H enc _ => lifted os started H enc)

theorem proved : Rows.WeightsThereSaid :=
  over
#print axioms proved
end Go.Proofs.Ytbipjekiobmpgaa.weightsThere
