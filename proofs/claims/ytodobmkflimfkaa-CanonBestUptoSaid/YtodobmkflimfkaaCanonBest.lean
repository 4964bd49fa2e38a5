/-
  For every row of counts and every bound, where they are of bulk at most 1048576, balerlaw05.CanonBest returns true and leaves its arguments as they were.
-/
import Derived.Test.YtodobmkflimfkaaA3
namespace Go.Proofs.Ytodobmkflimfkaa.canonBest
open Go Go.Sx Go.ChangeShapes Go.WideShapes Go.ChangeAt Go.RowKit
set_option linter.unusedVariables false
theorem wf_u32 {x : Int} (h : (Lit.int .u32 x).wf = true) : 0 ≤ x ∧ x < 4294967296 := by
  simp [Lit.wf, IntKind.min, IntKind.max, IntKind.signed, IntKind.bits] at h
  omega
theorem wf_i64 {x : Int} (h : (Lit.int .i64 x).wf = true) : -9223372036854775808 ≤ x ∧ x ≤ 9223372036854775807 := by
  simp [Lit.wf, IntKind.min, IntKind.max, IntKind.signed, IntKind.bits] at h
  omega
set_option maxHeartbeats 8000000
set_option maxRecDepth 100000
theorem law_con (l : List Int) (cap : Nat) (most : Int) (hl : ∀ c ∈ l, 0 ≤ c ∧ c < 4294967296) (hlen : l.length ≤ 1048576) (hmo : -9223372036854775808 ≤ most ∧ most ≤ 9223372036854775807) :
    Con Try.prog 3 [.slice 0 .z 1 l.length cap, .int .i64 most] [.ro .u32 l] (fun v H R => v = .bool true ∧ H = [.ro .u32 l] ∧ R = []) := by
  have hwakes := wakesG_con
  by_cases ha : Abl l most
  rotate_left
  · have hlim : Con Try.prog 15 [.slice 0 .z 1 l.length cap, .int .i64 most] [.ro .u32 l] (fun v H R => v = .tup [.val (.slice none 0 0), .int .i64 2] ∧ H = [.ro .u32 l] ∧ R = []) :=
      limit_con _ l most cap hl hlen hmo (fun _ => ⟨rfl, rfl, rfl⟩) (fun h => absurd h ha)
    have hable := able_con l most cap hl hlen hmo false ⟨fun h => (by cases h), fun h => absurd h ha⟩
    refine con_gen (con_cut 1 (by simp) (con_drop (con_walk hmix fn3 ?_)))
    intro vb vc vw vtoN vofN vaddN vsubN vmaxI vminI vcutN vgd vst vln vrep vsub vonto vsplice vstrEq vbyteV vnotB veqB hw qb qc qw qtoN qofN qaddN qsubN qmaxI qminI qcutN qgd qst qln qrep qsub qonto qsplice qstrEq qbyteV qnotB qeqB
    have hm := hmix; generalize Try.prog = P at *
    have e2 : vc .eql 2 2 = true := by rw [qc]; rfl
    have hnf : vnotB false = true := by rw [qnotB]; rfl
    generalize l.length = L at *
    cbv
    refine call_con (ρ := [(0, .z)]) hlim ⟨by rfl, by rfl, by rfl, by cbv; exact ⟨viewRfl _, trivial⟩⟩ ?_
    rintro v H R js ⟨rfl, rfl, rfl⟩
    cbv
    refine call_con (ρ := [(0, .z)]) hable ⟨by rfl, by rfl, by rfl, by cbv; exact ⟨viewRfl _, trivial⟩⟩ ?_
    rintro v H R js2 ⟨rfl, rfl, rfl⟩
    cbv
    rw [hnf]
    cbv
    rw [e2]
    cbv
    refine call_con (ρ := []) hwakes ⟨by rfl, by rfl, by rfl, by cbv⟩ ?_
    rintro v H R js3 ⟨rfl, rfl, rfl⟩
    cbv
  · obtain ⟨L, hL⟩ : ∃ L, L = l.length := ⟨_, rfl⟩
    have hlim : Con Try.prog 15 [.slice 0 .z 1 l.length cap, .int .i64 most] [.ro .u32 l] (fun v H R => ∃ o, LimF l most.toNat o ∧ v = .tup [.slice 1 .z 1 l.length l.length, .int .i64 0] ∧ H = [.ro .u32 l, .ints 5 .u8 o] ∧ R = []) :=
      limit_con _ l most cap hl hlen hmo (fun h => absurd ha h) (fun _ o ho => ⟨o, ho.facts ha, rfl, rfl, rfl⟩)
    have hable := able_con l most cap hl hlen hmo true ⟨fun _ => ha, fun _ => rfl⟩
    obtain ⟨b1, b2, b3, b4, b5⟩ := ha
    have hmt : most.toNat ≤ 15 := by omega
    have hright : ∀ o, LimF l most.toNat o → Con Try.prog 18 [.slice 0 .z 1 L L] [.ro .u8 o] (fun v H R => v = .bool true ∧ H = [.ro .u8 o] ∧ R = []) := fun o h => by
      have := refright5_con o L (h.isU8 hmt) (by rw [h.len]; omega) true ⟨fun _ => h.right b1 hmt, fun _ => rfl⟩
      rw [h.len, ← hL] at this
      exact this
    have hsum : ∀ o, LimF l most.toNat o → ∃ X : Int, Con Try.prog 19 [.slice 0 .z 1 L cap, .slice 1 .z 1 L L] [.ro .u32 l, .ro .u8 o] (fun v H R => v = .int .u64 X ∧ H = [.ro .u32 l, .ro .u8 o] ∧ R = []) ∧
        Con Try.prog 20 [.slice 0 .z 1 L cap, .int .i64 most] [.ro .u32 l] (fun v H R => v = .int .u64 X ∧ H = [.ro .u32 l] ∧ R = []) := fun o h => by
      obtain ⟨n, N, kc, sc, K, S, h1, h2, h3, h4, h5, h6, h7, h8⟩ := h.sum
      have hco := LimF.co h1 h2 h3 h4 h5
      rw [hL]
      refine ⟨sumN (fun s => l.getD s 0 * o.getD s 0) l.length, sum19_con l o cap l.length hl (h.isU8 hmt) b1 h.len, ?_⟩
      rw [h8]
      exact least_con l most cap hl ⟨b1, b2, b3, b4, b5⟩ h2 hco h6 h7
    have hent : ∀ o, LimF l most.toNat o → ∀ i, i < L → o.getD i 0 ≤ most ∧ (0 ≤ o.getD i 0 ∧ o.getD i 0 < 256) ∧ (o.getD i 0 = 0 ↔ l.getD i 0 = 0) := fun o h i hi => by
      have e1 := h.le i (by omega)
      have e2 := h.zero i (by omega)
      have e3 := hl (l.getD i 0) (by rw [List.getD_eq_getElem?_getD, List.getElem?_eq_getElem (by omega)]; exact List.getElem_mem _)
      exact ⟨by omega, by omega, by rw [e2]; omega⟩
    have holen : ∀ o, LimF l most.toNat o → o.length = L := fun o h => by rw [h.len, hL]
    have hL' : L ≤ 1024 := by omega
    have hlL : l.length = L := hL.symm
    rw [← hL] at hlim hable
    rw [← hL]
    clear b1 b2 b3 b4 b5 hmt hl hlen hmo hL
    refine con_gen (con_cut 1 (by simp) (con_drop (con_walk hmix fn3 ?_)))
    intro vb vc vw vtoN vofN vaddN vsubN vmaxI vminI vcutN vgd vst vln vrep vsub vonto vsplice vstrEq vbyteV vnotB veqB hw qb qc qw qtoN qofN qaddN qsubN qmaxI qminI qcutN qgd qst qln qrep qsub qonto qsplice qstrEq qbyteV qnotB qeqB
    have hm := hmix; generalize Try.prog = P at *
    have e0 : vc .neq 0 0 = false := by rw [qc]; rfl
    have hnt : vnotB true = false := by rw [qnotB]; rfl
    obtain ⟨LI, hLI⟩ : ∃ LI, LI = (L : Int) := ⟨_, rfl⟩
    have hof : vofN L = LI := by rw [qofN, hLI]
    have hneq : vc .neq LI LI = false := by rw [qc, neq_false]; simp
    have hadd : ∀ (x : Int) (i : Nat), x = i → i < L → vb .add .i64 x 1 = ((i + 1 : Nat) : Int) := fun x i h h' => by rw [qb, add_i64 (by omega) (by omega)]; omega
    have hadd0 : ∀ i, vaddN 0 i = i := fun i => by simp only [qaddN, Nat.zero_add]
    have hlss : ∀ (x y : Int) (i j : Nat), x = i → y = j → vc .lss x y = decide (i < j) := fun x y i j h1 h2 => by rw [qc]; exact lss_nat h1 h2
    have hto : ∀ (x : Int) (i : Nat), x = i → vtoN x = i := fun x i h => by rw [qtoN, h]; rfl
    have hvgd : ∀ (l : List Int) i, vgd l i = l.getD i 0 := fun l i => by rw [qgd]
    have hvl : ∀ o : List Int, o.length = L → vln o = L := fun o h => by rw [qln]; exact h
    have hvll := hvl l hlL
    have hgt : ∀ v : Int, 0 ≤ v → v < 256 → v ≤ most → vc .gtr (vw .i64 v) most = false := fun v h1 h2 h3 => by
      rw [qw, qc, gtr_false]; show ¬ most < IntKind.i64.wrap v; rw [wrap_i64 (by omega) (by omega)]; omega
    have heq : ∀ u v : Int, (u = 0 ↔ v = 0) → vnotB (veqB (vc .eql u 0) (vc .eql v 0)) = false := fun u v h => by
      rw [qnotB, qeqB, qc]
      show (!(cV .eql u 0 == cV .eql v 0)) = false
      rw [eql_eq, eql_eq]
      by_cases hu : u = 0
      · rw [decide_eq_true hu, decide_eq_true (h.1 hu)]; rfl
      · rw [decide_eq_false hu, decide_eq_false (fun hv => hu (h.2 hv))]; rfl
    have heX : ∀ X : Int, vc .eql X X = true := fun X => by rw [qc, eql_true]
    generalize hLF : LimF = LF at *
    clear hLF hlL
    cbv
    refine call_con (ρ := [(0, .z)]) hlim ⟨by rfl, by rfl, by rfl, by cbv; exact ⟨viewRfl _, trivial⟩⟩ ?_
    rintro v H R js ⟨o, ho, rfl, rfl, rfl⟩
    have hrt := hright o ho
    obtain ⟨X, hsm, hle⟩ := hsum o ho
    have hen := hent o ho
    have hvlo := hvl o (holen o ho)
    have hen2 : ∀ i, i < L → vc .gtr (vw .i64 (vgd o i)) most = false ∧ vnotB (veqB (vc .eql (vgd o i) 0) (vc .eql (vgd l i) 0)) = false := fun i hi => by
      obtain ⟨c1, c2, c3⟩ := hen i hi
      rw [hvgd, hvgd]
      exact ⟨hgt _ c2.1 c2.2 c1, heq _ _ c3⟩
    have hinv0 : (0 : Int) = ((0 : Nat) : Int) ∧ 0 ≤ L := ⟨rfl, Nat.zero_le _⟩
    clear hlim hright hsum hent holen hvl hen hgt heq hvgd ho
    cbv
    refine call_con (ρ := [(0, .z)]) hable ⟨by rfl, by rfl, by rfl, by cbv; exact ⟨viewRfl _, trivial⟩⟩ ?_
    rintro v H R js2 ⟨rfl, rfl, rfl⟩
    cbv
    rw [hnt]
    cbv
    rw [e0]
    cbv
    rw [hof, hneq]
    cbv
    refine call_con (ρ := [(1, .z)]) hrt ⟨by rfl, by rfl, by rfl, by cbv; exact ⟨viewRfl _, trivial⟩⟩ ?_
    rintro v H R js3 ⟨rfl, rfl, rfl⟩
    cbv
    rw [hnt]
    cbv
    rw [hof]
    refine loop_fam (α := Int × Nat) ([7] ++ [45, 46, 47, 48, 49, 50, 51, 52, 53, 54, 55, 56, 57, 58, 59, 60, 61, 62, 63, 64, 65, 66, 67]) []
      (fun (iI, i) => [(44, .int .i64 iI)])
      (fun _ => [])
      (fun (iI, i) => iI = i ∧ i ≤ L)
      (fun (iI, i) => L - i) hw hm ?_ ?_
    · refine Cv.genAt [44] [] (Cv.fold ([7] ++ [45, 46, 47, 48, 49, 50, 51, 52, 53, 54, 55, 56, 57, 58, 59, 60, 61, 62, 63, 64, 65, 66, 67]) 2 [] (by exact Nat.le_refl _) (by exact Nat.le_of_ble_eq_true rfl) (by rfl) (by cbv) ?_)
      intro js4
      exact ⟨(_, 0), hinv0, js4, rfl⟩
    clear hinv0
    rintro ⟨iI, i⟩ js4 ⟨g1, g2⟩
    have hc' := hlss iI LI i L g1 hLI
    by_cases hi : i < L
    · have hc1 : vc .lss iI LI = true := by rw [hc']; exact decide_eq_true hi
      have hti := hto iI i g1
      have hr : InR iI L := ⟨by omega⟩
      obtain ⟨c1, c2⟩ := hen2 i hi
      obtain ⟨i1, hi1⟩ : ∃ i1, i1 = i + 1 := ⟨_, rfl⟩
      have hnx : ∀ u : Int, u = vb .add .i64 iI 1 → (u = (i1 : Int) ∧ i1 ≤ L) ∧ L - i1 < L - i := fun u hu => ⟨⟨by rw [hu, hi1]; exact hadd iI i g1 hi, by omega⟩, by omega⟩
      clear hc' hen2 hadd hlss hto hi1
      cbv
      rw [hc1]
      cbv
      rw [hti, hvlo]
      refine ⟨hr, ⟨hi⟩, ?_⟩
      rw [c1]
      cbv
      rw [hti, hadd0, hvlo, hvll]
      refine ⟨hr, ⟨hi⟩, hr, ⟨hi⟩, ⟨hi⟩, ?_⟩
      rw [c2]
      cbv
      obtain ⟨u, hu⟩ : ∃ u, u = vb .add .i64 iI 1 := ⟨_, rfl⟩
      rw [← hu]
      have hf := hnx u hu
      refine Cv.fold ([7] ++ [45, 46, 47, 48, 49, 50, 51, 52, 53, 54, 55, 56, 57, 58, 59, 60, 61, 62, 63, 64, 65, 66, 67]) 2 [] (by exact Nat.le_refl _) (by exact Nat.le_of_ble_eq_true rfl) (by rfl) (by cbv) ?_
      intro js5
      exact ⟨(_, i1), hf, js5, rfl⟩
    · have hc1 : vc .lss iI LI = false := by rw [hc']; exact decide_eq_false hi
      clear hc' hen2 hadd hlss hto
      cbv
      rw [hc1]
      cbv
      refine call_con (ρ := [(0, .z), (1, .z)]) hsm ⟨by rfl, by rfl, by rfl, by cbv; exact ⟨viewRfl _, viewRfl _, trivial⟩⟩ ?_
      rintro v H R js5 ⟨rfl, rfl, rfl⟩
      cbv
      refine call_con (ρ := [(0, .z)]) hle ⟨by rfl, by rfl, by rfl, by cbv; exact ⟨viewRfl _, trivial⟩⟩ ?_
      rintro v H R js6 ⟨rfl, rfl, rfl⟩
      cbv
      rw [heX]
      cbv
      refine call_con (ρ := []) hwakes ⟨by rfl, by rfl, by rfl, by cbv⟩ ?_
      rintro v H R js7 ⟨rfl, rfl, rfl⟩
      cbv

theorem own : ownKnob Try.prog.godebug = none := by kernel_rfl
theorem bulk_ints {H : Type} (k : IntKind) : ∀ (l : List Int), Rows.uptoBulkAll (H := H) (lits k l) = l.length
  | [] => rfl
  | n :: l => by
    have := bulk_ints (H := H) k l
    simp only [lits, List.map_cons, Rows.uptoBulkAll, Rows.uptoBulk, List.length_cons] at this ⊢
    omega
theorem bulk_le {H : Type} {k : IntKind} {l : List Int} {d : DataW H} (h : (d = .nil ∧ l = []) ∨ ∃ rest, d = .slice (lits k l) rest) : l.length ≤ Rows.uptoBulk d := by
  rcases h with ⟨_, rfl⟩ | ⟨rest, rfl⟩
  · exact Nat.zero_le _
  · have := bulk_ints (H := H) k l
    simp only [Rows.uptoBulk]
    omega
set_option maxRecDepth 100000 in
theorem lifted (os : Os) (started : os.Started) (H : Type) (enc : TypeId × Value → H) (F : Stop.Interp) :
    ReturnsInHanded {} Try.checked os 3 .any ((Rows.OpenSpec.upto Rows.canonBestSpec).pre6 enc Try.prog Try.f3 Rows.canonBestUptoRow.domain false) (((Rows.OpenSpec.upto Rows.canonBestSpec).at F).post enc Try.prog Try.f3 false true false false) := by
  refine returnsInHanded_of_cond (C := Try.checked) (s := Rows.OpenSpec.upto Rows.canonBestSpec) (k := Rows.uptoSmall) rfl own started (by kernel_rfl) Try.func3
    (OpenSpec.witness (enc := enc) (C := Try.checked) (s := Rows.OpenSpec.upto Rows.canonBestSpec) (k := Rows.uptoSmall) rfl false ⟨#[], #[.slice none 0 0, .int .i64 0], []⟩ 8 (by kernel_rfl) (by kernel_rfl) (by kernel_rfl)
      (x := ([.nil, .lit (.int .i64 0)], [], [])) (by kernel_rfl) rfl (by kernel_rfl)) ?_
  intro W base args ds gs before hval0 hW _ hk _
  have hval : ∀ (j : Nat) t v, Try.f3.params[j]? = some t → args[j]? = some v → Value.okWide Try.prog W .any base t v := hval0
  have hW' := hW
  obtain ⟨p, q, hA0, hV, rfl, hfz, hnd⟩ := hW
  have hA : DataW.TrodAll enc Try.prog W 0 (fun _ => true) true Try.f3.params.toList args.toList ds p := hA0
  rw [Try.params3] at hA hval
  obtain ⟨v0, vs0, d0, ds0, p0, q0, hargs0, rfl, rfl, h0, r0⟩ := trodAll_cons hA
  obtain ⟨v1, vs1, d1, ds1, p1, q1, hargs1, rfl, rfl, h1, r1⟩ := trodAll_cons r0
  obtain ⟨rfl, rfl, rfl⟩ := trodAll_nil r1
  obtain rfl : args = #[v0, v1] := by cases args; simp_all
  obtain ⟨rfl, rfl⟩ := trodVars_none hV
  obtain ⟨s0, l0, cap0, rfl, lt0, ho0, hw0, hc0, hd0⟩ := arg_intsD (P := Try.prog) Try.underlying22 Try.underlying30 (by kernel_rfl) (hval 0 22 v0 rfl rfl) h0
  obtain ⟨a1, rfl, rfl, rfl, w1⟩ := open_int Try.underlying3 (hval 1 3 v1 rfl rfl) h1
  have hbulk := of_decide_eq_true hk
  simp only [List.cons_append, List.nil_append, Rows.uptoBulkAll] at hbulk
  have hb0 := bulk_le hd0
  refine (con_below (law_con l0 cap0 a1 (fun c hc => wf_u32 (hw0 c hc)) (by omega) (wf_i64 w1)) (by intro B hB; simp at hB; subst hB; rfl) (ok_args [(s0, .ro .u32 l0)] (by intro e he; simp at he; subst he; exact ⟨lt0, rfl, ho0⟩))).mono fun e W' ⟨he, hb⟩ => ⟨_, he, ?_⟩
  exact law_post (s := Rows.canonBestSpec) hW' rfl (by kernel_rfl) Try.underlying4 (by kernel_rfl) (by kernel_rfl) rfl rfl rfl hb

theorem over : Rows.canonBestUptoRow.holds Try.pinned (Rows.OpenSpec.upto Rows.canonBestSpec) :=
  OpenClaim.holds_of_cond 3 Try.f3 rfl rfl rfl rfl rfl rfl rfl ⟨rfl, rfl, rfl, rfl, rfl⟩ rfl rfl rfl rfl rfl (by kernel_rfl) Try.func3 (by kernel_rfl)
    (of_decide_eq_true (by kernel_rfl)) (by unfold Func.isWrapper; first | (rw [if_pos (by decide +kernel)]; kernel_rfl) | (rw [if_neg (by decide +kernel)]; exact ⟨rfl, rfl⟩))
    (fun os started H enc _ F => lifted os started H enc F)

theorem proved : Rows.CanonBestUptoSaid :=
  over
#print axioms proved
end Go.Proofs.Ytodobmkflimfkaa.canonBest
