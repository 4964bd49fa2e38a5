/-
  For all weights, all bytes to be packed, all packed bytes and every number, together of bulk at most 1048576, balerlaw09.WeightsPack returns true and leaves its arguments as they were.
-/
import Derived.Test.YtbipjekiobmpgaaWD
namespace Go.Proofs.Ytbipjekiobmpgaa.weightsPack
open Go Go.Sx Go.ChangeShapes Go.WideShapes Go.ChangeAt Go.RowKit
set_option linter.unusedVariables false
theorem wf_u8 {x : Int} (h : (Lit.int .u8 x).wf = true) : isU8 x := by
  simp [Lit.wf, IntKind.min, IntKind.max, IntKind.signed, IntKind.bits] at h
  unfold isU8
  omega
/-- Two continuations, found by the first goal, shared by the second. -/
theorem share {β γ : Type} {p : β → γ → Prop} {G : Prop} (K : β) (X : γ) (h1 : p K X → G) (h2 : p K X) : G := h1 h2
theorem strEq_self (l : List Int) : (List.map (fun n => UInt8.ofNat n.toNat) l == List.map (fun n => UInt8.ofNat n.toNat) l) = true := by simp
set_option maxHeartbeats 40000000 in
set_option maxRecDepth 10000 in
theorem law_con (l b p : List Int) (N : Int) (cap cap1 cap2 : Nat) (hl : ∀ c ∈ l, isU8 c) (hb : ∀ c ∈ b, isU8 c) (hp : ∀ c ∈ p, isU8 c) (hN : -9223372036854775808 ≤ N ∧ N ≤ 9223372036854775807)
    (hll : l.length ≤ 140737488355328) (hbl : b.length ≤ 140737488355328) (hpl : 8 * p.length ≤ 140737488355328) (hcap : b.length ≤ cap1) :
    Con Try.prog 4 [.slice 0 .z 1 l.length cap, .slice 1 .z 1 b.length cap1, .slice 2 .z 1 p.length cap2, .int .i64 N] [.ro .u8 l, .ro .u8 b, .ro .u8 p] (fun v H R => v = .bool true ∧ H = [.ro .u8 l, .ro .u8 b, .ro .u8 p] ∧ R = []) := by
  have hwakes := wakes9_con
  have hvt : View 0 (b.take 3000) b := ⟨by rw [List.length_take]; omega, fun i hi => by
    rw [List.length_take] at hi
    rw [Nat.zero_add, List.getD_eq_getElem?_getD, List.getD_eq_getElem?_getD, List.getElem?_take, if_pos (by omega)]⟩
  have hvb : View 0 b b := view_refl b
  have hvl : View 0 l l := view_refl l
  have hvp : View 0 p p := view_refl p
  have htb : ∀ c ∈ b.take 3000, isU8 c := fun c hc => hb c (List.mem_of_mem_take hc)
  have ht3 : 3000 < b.length → (b.take 3000).length = 3000 := fun h => by rw [List.length_take]; omega
  obtain ⟨e1, F1, h9a, h10a⟩ := packs l b hl hb hll hbl
  obtain ⟨e2, F2, h9b, h10b⟩ := packs l (b.take 3000) hl htb hll (by rw [List.length_take]; omega)
  have hup := fun N' => unpacks l p N' hl hp hll hpl
  refine con_gen (con_cut 3 (by simp) (con_drop (con_walk hmix fn4 ?_)))
  intro vb vc vw vtoN vofN vaddN vsubN vmaxI vminI vcutN vgd vst vln vrep vsub vonto vsplice vstrEq vbyteV vnotB veqB hw qb qc qw qtoN qofN qaddN qsubN qmaxI qminI qcutN qgd qst qln qrep qsub qonto qsplice qstrEq qbyteV qnotB qeqB
  have f9 := fn9
  have hm := hmix; generalize Try.prog = P at *
  have hofn : ∀ n, vofN n = (n : Int) := fun n => by simp only [qofN]
  have hself : ∀ x, vc .eql x x = true := fun x => by rw [qc, eql_true]
  have hstr : ∀ l, vstrEq l l = true := fun l => by rw [qstrEq]; exact strEq_self l
  have ha0 : ∀ n, vaddN 0 n = n := fun n => by simp only [qaddN, Nat.zero_add]
  have hlnq : ∀ l, vln l = l.length := fun l => by simp only [qln]
  have hsub : ∀ l' : List Int, ∀ n, n = l'.length → vsub l' 0 n = l' := fun l' n h => by simp only [qsub]; subst h; simp
  obtain ⟨bt, hbt⟩ : ∃ bt, bt = b.take 3000 := ⟨_, rfl⟩
  rw [← hbt] at hvt htb ht3 h9b h10b
  generalize hlnn : l.length = ln at *
  generalize hpn : p.length = pn at *
  generalize hbn : b.length = bn at *
  obtain ⟨bI, hbI⟩ : ∃ bI : Int, bI = bn := ⟨_, rfl⟩
  have ebn : vofN bn = bI := by rw [hofn, hbI]
  obtain ⟨N3, hN3⟩ : ∃ N3, N3 = vb .rem .i64 N 3000 := ⟨_, rfl⟩
  obtain ⟨f1, G1, h11a, h12a⟩ := hup N
  obtain ⟨f2, G2, h11b, h12b⟩ := hup N3
  obtain ⟨gn1, hgn1⟩ : ∃ gn, gn = G1.length := ⟨_, rfl⟩
  rw [← hgn1] at h11a h12a
  have hsG1 := hsub G1 gn1 hgn1
  obtain ⟨gn2, hgn2⟩ : ∃ gn, gn = G2.length := ⟨_, rfl⟩
  rw [← hgn2] at h11b h12b
  have hsG2 := hsub G2 gn2 hgn2
  obtain ⟨fn1, hfn1⟩ : ∃ fn, fn = F1.length := ⟨_, rfl⟩
  rw [← hfn1] at h9a h10a
  have hsF1 := hsub F1 fn1 hfn1
  obtain ⟨fn2, hfn2⟩ : ∃ fn, fn = F2.length := ⟨_, rfl⟩
  rw [← hfn2] at h9b h10b
  have hsF2 := hsub F2 fn2 hfn2
  clear hup
  skip
  apply share (p := fun K X => ∀ (js : Nat → Value) (bq : List Int) (nq : Nat) (N1 e : Int) (F : List Int) (fn : Nat) (f : Int) (G : List Int) (gn : Nat), View 0 bq b → vsub F 0 fn = F → vsub G 0 gn = G → fn = F.length → gn = G.length →
      (∀ cap cap2, Con P 9 [.slice 0 .z 1 ln cap, .slice 1 .z 1 nq cap2] [.ro .u8 l, .ro .u8 bq] (fun v H R => R = [] ∧ ((H = [.ro .u8 l, .ro .u8 bq] ∧ v = .tup [.val (.slice none 0 0), .int .i64 e] ∧ ¬ e = 0) ∨ ∃ c', H = [.ro .u8 l, .ro .u8 bq, .buf 5 .u8 F c'] ∧ v = .tup [.slice 2 .z 1 fn c', .int .i64 e] ∧ e = 0))) →
      (∀ cap cap2, Con P 10 [.slice 0 .z 1 ln cap, .slice 1 .z 1 nq cap2] [.ro .u8 l, .ro .u8 bq] (fun v H R => R = [] ∧ ((H = [.ro .u8 l, .ro .u8 bq] ∧ v = .tup [.val (.slice none 0 0), .int .i64 e] ∧ ¬ e = 0) ∨ (H = [.ro .u8 l, .ro .u8 bq, .ints 5 .u8 F] ∧ v = .tup [.slice 2 .z 1 fn fn, .int .i64 e] ∧ e = 0)))) →
      (∀ cap cap2, Con P 11 [.slice 0 .z 1 ln cap, .slice 1 .z 1 pn cap2, .int .i64 N1] [.ro .u8 l, .ro .u8 p] (fun v H R => R = [] ∧ ((H = [.ro .u8 l, .ro .u8 p] ∧ v = .tup [.val (.slice none 0 0), .int .i64 f] ∧ ¬ f = 0) ∨ ∃ c', H = [.ro .u8 l, .ro .u8 p, .buf 5 .u8 G c'] ∧ v = .tup [.slice 2 .z 1 gn c', .int .i64 f] ∧ f = 0))) →
      (∀ cap cap2, Con P 12 [.slice 0 .z 1 ln cap, .slice 1 .z 1 pn cap2, .int .i64 N1] [.ro .u8 l, .ro .u8 p] (fun v H R => R = [] ∧ ((H = [.ro .u8 l, .ro .u8 p] ∧ v = .tup [.val (.slice none 0 0), .int .i64 f] ∧ ¬ f = 0) ∨ ∃ c', H = [.ro .u8 l, .ro .u8 p, .buf 5 .u8 G c'] ∧ v = .tup [.slice 2 .z 1 gn c', .int .i64 f] ∧ f = 0))) →
      CallX P 9 [.slice 0 .z 1 ln cap, .slice 1 .z 1 nq cap1] { t := [.slice 0 .z 1 ln cap, .slice 1 .z 1 nq cap1, .slice 2 .z 1 pn cap2, .int .i64 N1, .undef, .undef, .undef, .undef, .bool false, .undef, .undef, .undef, .undef, .undef, .undef, .undef, .undef, .val (js 17), .val (js 18), .val (js 19), .val (js 20), .val (js 21), .val (js 22), .val (js 23), .val (js 24), .val (js 25), .val (js 26), .val (js 27), .val (js 28), .val (js 29), .val (js 30), .val (js 31), .val (js 32), .val (js 33), .val (js 34), .undef, .slice 0 .z 1 ln cap, .slice 1 .z 1 nq cap1, .undef, .undef, .undef, .undef, .undef, .undef, .undef, .undef, .undef, .undef, .undef, .undef, .undef, .undef, .undef, .undef, .undef, .undef, .undef, .undef, .undef, .undef, .undef, .undef, .undef, .undef, .undef, .undef, .undef, .undef, .undef, .undef, .undef, .undef, .undef, .undef, .undef, .undef, .undef, .undef, .undef, .undef, .undef, .undef, .undef, .undef, .undef, .undef], h := [.ro .u8 l, .ro .u8 b, .ro .u8 p], r := [], d := [], rd := none } K X)
  · intro key
    cbv
    rw [ebn]
    generalize hz1 : vc .gtr bI 3000 = z1
    cases z1
    · cbv
      generalize hy1 : vc .gtr N 3000 = y1
      cases y1
      · cbv
        exact CallX.cv f9.go (Cv.fold [17, 18, 19, 20, 21, 22, 23, 24, 25, 26, 27, 28, 29, 30, 31, 32, 33, 34] 3 [] (by exact Nat.le_refl _) (by exact Nat.le_of_ble_eq_true rfl) (by rfl) (by cbv) (fun js => key js _ _ _ _ _ _ _ _ _ hvb hsF1 hsG1 hfn1 hgn1 h9a h10a h11a h12a)) (by rfl)
      · cbv
        generalize hy2 : vc .leq N 131072 = y2
        cases y2
        · cbv
          exact CallX.cv f9.go (Cv.fold [17, 18, 19, 20, 21, 22, 23, 24, 25, 26, 27, 28, 29, 30, 31, 32, 33, 34] 3 [] (by exact Nat.le_refl _) (by exact Nat.le_of_ble_eq_true rfl) (by rfl) (by cbv) (fun js => key js _ _ _ _ _ _ _ _ _ hvb hsF1 hsG1 hfn1 hgn1 h9a h10a h11a h12a)) (by rfl)
        · cbv
          rw [← hN3]
          exact CallX.cv f9.go (Cv.fold [17, 18, 19, 20, 21, 22, 23, 24, 25, 26, 27, 28, 29, 30, 31, 32, 33, 34] 3 [] (by exact Nat.le_refl _) (by exact Nat.le_of_ble_eq_true rfl) (by rfl) (by cbv) (fun js => key js _ _ _ _ _ _ _ _ _ hvb hsF1 hsG2 hfn1 hgn2 h9a h10a h11b h12b)) (by rfl)
    · rw [qc, gtr_true] at hz1
      have hb3 : 3000 < bn := by (try simp only [nc] at hbI); omega
      have ht3' := ht3 hb3
      rw [ht3'] at h9b h10b
      cbv
      rw [ebn]
      generalize hz2 : vc .leq bI 131072 = z2
      cases z2
      · cbv
        generalize hy1 : vc .gtr N 3000 = y1
        cases y1
        · cbv
          exact CallX.cv f9.go (Cv.fold [17, 18, 19, 20, 21, 22, 23, 24, 25, 26, 27, 28, 29, 30, 31, 32, 33, 34] 3 [] (by exact Nat.le_refl _) (by exact Nat.le_of_ble_eq_true rfl) (by rfl) (by cbv) (fun js => key js _ _ _ _ _ _ _ _ _ hvb hsF1 hsG1 hfn1 hgn1 h9a h10a h11a h12a)) (by rfl)
        · cbv
          generalize hy2 : vc .leq N 131072 = y2
          cases y2
          · cbv
            exact CallX.cv f9.go (Cv.fold [17, 18, 19, 20, 21, 22, 23, 24, 25, 26, 27, 28, 29, 30, 31, 32, 33, 34] 3 [] (by exact Nat.le_refl _) (by exact Nat.le_of_ble_eq_true rfl) (by rfl) (by cbv) (fun js => key js _ _ _ _ _ _ _ _ _ hvb hsF1 hsG1 hfn1 hgn1 h9a h10a h11a h12a)) (by rfl)
          · cbv
            rw [← hN3]
            exact CallX.cv f9.go (Cv.fold [17, 18, 19, 20, 21, 22, 23, 24, 25, 26, 27, 28, 29, 30, 31, 32, 33, 34] 3 [] (by exact Nat.le_refl _) (by exact Nat.le_of_ble_eq_true rfl) (by rfl) (by cbv) (fun js => key js _ _ _ _ _ _ _ _ _ hvb hsF1 hsG2 hfn1 hgn2 h9a h10a h11b h12b)) (by rfl)
      · cbv
        refine ⟨⟨by decide, by omega⟩, ?_⟩
        generalize hy1 : vc .gtr N 3000 = y1
        cases y1
        · cbv
          exact CallX.cv f9.go (Cv.fold [17, 18, 19, 20, 21, 22, 23, 24, 25, 26, 27, 28, 29, 30, 31, 32, 33, 34] 3 [] (by exact Nat.le_refl _) (by exact Nat.le_of_ble_eq_true rfl) (by rfl) (by cbv) (fun js => key js _ _ _ _ _ _ _ _ _ hvt hsF2 hsG1 hfn2 hgn1 h9b h10b h11a h12a)) (by rfl)
        · cbv
          generalize hy2 : vc .leq N 131072 = y2
          cases y2
          · cbv
            exact CallX.cv f9.go (Cv.fold [17, 18, 19, 20, 21, 22, 23, 24, 25, 26, 27, 28, 29, 30, 31, 32, 33, 34] 3 [] (by exact Nat.le_refl _) (by exact Nat.le_of_ble_eq_true rfl) (by rfl) (by cbv) (fun js => key js _ _ _ _ _ _ _ _ _ hvt hsF2 hsG1 hfn2 hgn1 h9b h10b h11a h12a)) (by rfl)
          · cbv
            rw [← hN3]
            exact CallX.cv f9.go (Cv.fold [17, 18, 19, 20, 21, 22, 23, 24, 25, 26, 27, 28, 29, 30, 31, 32, 33, 34] 3 [] (by exact Nat.le_refl _) (by exact Nat.le_of_ble_eq_true rfl) (by rfl) (by cbv) (fun js => key js _ _ _ _ _ _ _ _ _ hvt hsF2 hsG2 hfn2 hgn2 h9b h10b h11b h12b)) (by rfl)
  · clear h9a h10a h9b h10b h11a h12a h11b h12b hsG1 hsG2 hsF1 hsF2 hgn1 hgn2 hfn1 hfn2
    intro js bq nq N1 e F fn f G gn hvq hsF hsG hfn hgn h9 h10 h11 h12
    refine call_con (ρ := [(0, .z), (1, .z)]) (h9 cap cap1) ⟨by rfl, by rfl, by rfl, by cbv; exact ⟨hvl, hvq, trivial⟩⟩ ?_
    rintro v H R js1 ⟨rfl, ⟨rfl, rfl, he1⟩ | ⟨c1, rfl, rfl, he1⟩⟩
    · cbv
      refine call_con (ρ := [(0, .z), (1, .z)]) (h10 cap cap1) ⟨by rfl, by rfl, by rfl, by cbv; exact ⟨hvl, hvq, trivial⟩⟩ ?_
      rintro v H R js2 ⟨rfl, ⟨rfl, rfl, he2⟩ | ⟨rfl, rfl, he2⟩⟩
      rotate_left
      · exfalso; exact he1 he2
      cbv
      refine call_con (ρ := [(0, .z), (2, .z)]) (h11 cap cap2) ⟨by rfl, by rfl, by rfl, by cbv; exact ⟨hvl, hvp, trivial⟩⟩ ?_
      rintro v H R js3 ⟨rfl, ⟨rfl, rfl, hf1⟩ | ⟨c3, rfl, rfl, hf1⟩⟩
      · cbv
        refine call_con (ρ := [(0, .z), (2, .z)]) (h12 cap cap2) ⟨by rfl, by rfl, by rfl, by cbv; exact ⟨hvl, hvp, trivial⟩⟩ ?_
        rintro v H R js4 ⟨rfl, ⟨rfl, rfl, hf2⟩ | ⟨c4, rfl, rfl, hf2⟩⟩
        rotate_left
        · exfalso; exact hf1 hf2
        cbv
        rw [hself]
        cbv
        rw [hstr]
        cbv
        rw [hself]
        cbv
        rw [hstr]
        cbv
        refine call_con (ρ := []) hwakes ⟨by rfl, by rfl, by rfl, by cbv⟩ ?_
        rintro v H R js9 ⟨rfl, rfl, rfl⟩
        cbv
      · cbv
        refine call_con (ρ := [(0, .z), (2, .z)]) (h12 cap cap2) ⟨by rfl, by rfl, by rfl, by cbv; exact ⟨hvl, hvp, trivial⟩⟩ ?_
        rintro v H R js4 ⟨rfl, ⟨rfl, rfl, hf2⟩ | ⟨c4, rfl, rfl, hf2⟩⟩
        · exfalso; exact hf2 hf1
        cbv
        rw [hself]
        cbv
        rw [hstr]
        cbv
        rw [hself]
        cbv
        refine ⟨⟨by rw [ha0, hlnq]; omega⟩, ⟨by rw [ha0, hlnq]; omega⟩, ?_⟩
        rw [hsG, hstr]
        cbv
        refine call_con (ρ := []) hwakes ⟨by rfl, by rfl, by rfl, by cbv⟩ ?_
        rintro v H R js9 ⟨rfl, rfl, rfl⟩
        cbv
    · cbv
      refine call_con (ρ := [(0, .z), (1, .z)]) (h10 cap cap1) ⟨by rfl, by rfl, by rfl, by cbv; exact ⟨hvl, hvq, trivial⟩⟩ ?_
      rintro v H R js2 ⟨rfl, ⟨rfl, rfl, he2⟩ | ⟨rfl, rfl, he2⟩⟩
      · exfalso; exact he2 he1
      cbv
      refine call_con (ρ := [(0, .z), (2, .z)]) (h11 cap cap2) ⟨by rfl, by rfl, by rfl, by cbv; exact ⟨hvl, hvp, trivial⟩⟩ ?_
      rintro v H R js3 ⟨rfl, ⟨rfl, rfl, hf1⟩ | ⟨c3, rfl, rfl, hf1⟩⟩
      · cbv
        refine call_con (ρ := [(0, .z), (2, .z)]) (h12 cap cap2) ⟨by rfl, by rfl, by rfl, by cbv; exact ⟨hvl, hvp, trivial⟩⟩ ?_
        rintro v H R js4 ⟨rfl, ⟨rfl, rfl, hf2⟩ | ⟨c4, rfl, rfl, hf2⟩⟩
        rotate_left
        · exfalso; exact hf1 hf2
        cbv
        rw [hself]
        cbv
        refine ⟨⟨by rw [ha0, hlnq]; omega⟩, ⟨by rw [ha0, hlnq]; omega⟩, ?_⟩
        rw [hsF, hstr]
        cbv
        rw [hself]
        cbv
        rw [hstr]
        cbv
        refine call_con (ρ := []) hwakes ⟨by rfl, by rfl, by rfl, by cbv⟩ ?_
        rintro v H R js9 ⟨rfl, rfl, rfl⟩
        cbv
      · cbv
        refine call_con (ρ := [(0, .z), (2, .z)]) (h12 cap cap2) ⟨by rfl, by rfl, by rfl, by cbv; exact ⟨hvl, hvp, trivial⟩⟩ ?_
        rintro v H R js4 ⟨rfl, ⟨rfl, rfl, hf2⟩ | ⟨c4, rfl, rfl, hf2⟩⟩
        · exfalso; exact hf2 hf1
        cbv
        rw [hself]
        cbv
        refine ⟨⟨by rw [ha0, hlnq]; omega⟩, ⟨by rw [ha0, hlnq]; omega⟩, ?_⟩
        rw [hsF, hstr]
        cbv
        rw [hself]
        cbv
        refine ⟨⟨by rw [ha0, hlnq]; omega⟩, ⟨by rw [ha0, hlnq]; omega⟩, ?_⟩
        rw [hsG, hstr]
        cbv
        refine call_con (ρ := []) hwakes ⟨by rfl, by rfl, by rfl, by cbv⟩ ?_
        rintro v H R js9 ⟨rfl, rfl, rfl⟩
        cbv

theorem own : ownKnob Try.prog.godebug = none := by kernel_rfl
theorem bulk_ints {H : Type} (k : IntKind) : ∀ (l : List Int), Rows.uptoBulkAll (H := H) (lits k l) = l.length
  | [] => rfl
  | n :: l => by
    have := bulk_ints (H := H) k l
    simp only [lits, List.map_cons, Rows.uptoBulkAll, Rows.uptoBulk, List.length_cons] at this ⊢
    omega
theorem bulk_le {H : Type} {k : IntKind} {l : List Int} {d : DataW H} (h : (d = .nil ∧ l = []) ∨ ∃ rest, d = .slice (lits k l) rest) : l.length ≤ Rows.uptoBulk d := by
  rcases h with ⟨_, rfl⟩ | ⟨rest, rfl⟩
  · exact Nat.zero_le _
  · have := bulk_ints (H := H) k l
    simp only [Rows.uptoBulk]
    omega
set_option maxRecDepth 100000 in
theorem lifted (os : Os) (started : os.Started) (H : Type) (enc : TypeId × Value → H) (F : Stop.Interp) :
    ReturnsInHanded {} Try.checked os 4 .any ((Rows.OpenSpec.upto Rows.weightsPackSpec).pre6 enc Try.prog Try.f4 Rows.weightsPackUptoRow.domain false) (((Rows.OpenSpec.upto Rows.weightsPackSpec).at F).post enc Try.prog Try.f4 false true false false) := by
  refine returnsInHanded_of_cond (C := Try.checked) (s := Rows.OpenSpec.upto Rows.weightsPackSpec) (k := Rows.uptoSmall) rfl own started (by kernel_rfl) Try.func4
    (OpenSpec.witness (enc := enc) (C := Try.checked) (s := Rows.OpenSpec.upto Rows.weightsPackSpec) (k := Rows.uptoSmall) rfl false ⟨#[], #[.slice none 0 0, .slice none 0 0, .slice none 0 0, .int .i64 0], []⟩ 8 (by kernel_rfl) (by kernel_rfl) (by kernel_rfl)
      (x := ([.nil, .nil, .nil, .lit (.int .i64 0)], [], [])) (by kernel_rfl) rfl (by kernel_rfl)) ?_
  intro W base args ds gs before hval0 hW _ hk _
  have hval : ∀ (j : Nat) t v, Try.f4.params[j]? = some t → args[j]? = some v → Value.okWide Try.prog W .any base t v := hval0
  have hW' := hW
  obtain ⟨p, q, hA0, hV, rfl, hfz, hnd⟩ := hW
  have hA : DataW.TrodAll enc Try.prog W 0 (fun _ => true) true Try.f4.params.toList args.toList ds p := hA0
  rw [Try.params4] at hA hval
  obtain ⟨v0, vs0, d0, ds0, p0, q0, hargs0, rfl, rfl, h0, r0⟩ := trodAll_cons hA
  obtain ⟨v1, vs1, d1, ds1, p1, q1, hargs1, rfl, rfl, h1, r1⟩ := trodAll_cons r0
  obtain ⟨v2, vs2, d2, ds2, p2, q2, hargs2, rfl, rfl, h2, r2⟩ := trodAll_cons r1
  obtain ⟨v3, vs3, d3, ds3, p3, q3, hargs3, rfl, rfl, h3, r3⟩ := trodAll_cons r2
  obtain ⟨rfl, rfl, rfl⟩ := trodAll_nil r3
  obtain rfl : args = #[v0, v1, v2, v3] := by cases args; simp_all
  obtain ⟨rfl, rfl⟩ := trodVars_none hV
  obtain ⟨s0, l0, cap0, rfl, lt0, ho0, hw0, hc0, hd0⟩ := arg_intsD (P := Try.prog) Try.underlying30 Try.underlying5 (by kernel_rfl) (hval 0 30 v0 rfl rfl) h0
  obtain ⟨s1, l1, cap1, rfl, lt1, ho1, hw1, hc1, hd1⟩ := arg_intsD (P := Try.prog) Try.underlying30 Try.underlying5 (by kernel_rfl) (hval 1 30 v1 rfl rfl) h1
  obtain ⟨s2, l2, cap2, rfl, lt2, ho2, hw2, hc2, hd2⟩ := arg_intsD (P := Try.prog) Try.underlying30 Try.underlying5 (by kernel_rfl) (hval 2 30 v2 rfl rfl) h2
  obtain ⟨a3, rfl, rfl, rfl, w3⟩ := open_int Try.underlying3 (hval 3 3 v3 rfl rfl) h3
  have hbulk := of_decide_eq_true hk
  simp only [List.cons_append, List.nil_append, Rows.uptoBulkAll] at hbulk
  have hb0 := bulk_le hd0
  have hb1 := bulk_le hd1
  have hb2 := bulk_le hd2
  refine (con_below (law_con l0 l1 l2 a3 cap0 cap1 cap2 (fun x hx => wf_u8 (hw0 x hx)) (fun x hx => wf_u8 (hw1 x hx)) (fun x hx => wf_u8 (hw2 x hx)) (wf_i64 w3) (by omega) (by omega) (by omega) (by omega)) (by intro B hB; simp at hB; rcases hB with rfl | rfl | rfl <;> rfl) (ok_args [(s0, .ro .u8 l0), (s1, .ro .u8 l1), (s2, .ro .u8 l2)] (by intro e he; simp at he; rcases he with rfl | rfl | rfl; exact ⟨lt0, rfl, ho0⟩; exact ⟨lt1, rfl, ho1⟩; exact ⟨lt2, rfl, ho2⟩))).mono fun e W' ⟨he, hb⟩ => ⟨_, he, ?_⟩
  exact law_post (s := Rows.weightsPackSpec) hW' rfl (by kernel_rfl) Try.underlying4 (by kernel_rfl) (by kernel_rfl) rfl rfl rfl hb

theorem over : Rows.weightsPackUptoRow.holds Try.pinned (Rows.OpenSpec.upto Rows.weightsPackSpec) :=
  OpenClaim.holds_of_cond 4 Try.f4 rfl rfl rfl rfl rfl rfl rfl ⟨rfl, rfl, rfl, rfl, rfl⟩ rfl rfl rfl rfl rfl (by kernel_rfl) Try.func4 (by kernel_rfl)
    (of_decide_eq_true (by kernel_rfl)) (by unfold Func.isWrapper; first | (rw [if_pos (by decide +kernel)]; kernel_rfl) | (rw [if_neg (by decide +kernel)]; exact ⟨rfl, rfl⟩))
    (fun os started H enc _ F => lifted os started H enc F)

theorem proved : Rows.WeightsPackUptoSaid :=
  over
#print axioms proved
end Go.Proofs.Ytbipjekiobmpgaa.weightsPack
