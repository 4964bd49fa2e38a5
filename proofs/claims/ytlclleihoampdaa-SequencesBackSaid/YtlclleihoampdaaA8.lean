import Derived.Test.YtlclleihoampdaaA6
import Derived.Test.YtlclleihoampdaaA7
set_option linter.unusedVariables false
set_option linter.unusedSimpArgs false
namespace Go.Proofs.Ytlclleihoampdaa
open Go Go.Sx Go.Proofs
set_option maxRecDepth 10000
set_option maxHeartbeats 40000000
theorem key1w {A : Type} {Goal : Prop} (G : A → Prop) (hm : (∀ a, G a) → Goal) (hk : ∀ a, G a) : Goal := hm hk
theorem wout_byte {rows : List Row} {q : List Int} (h : WOut rows q) (h2 : rows.length ≤ 3000) : ∀ x ∈ q, isByte x := by
  obtain ⟨w0, w1, w2, d0, d1, d2, T0, T1, T2, c0, c1, c2, lL, lB, lM, sL, sB, sM, bits, H0, H1, H2, n0, n1, n2, m0, m1, m2, henc, rfl⟩ := h
  have hbits := enc3_bit henc
  have r0 := H0.wr
  have r1 := H1.wr
  have r2 := H2.wr
  intro x hx
  simp only [List.mem_append, List.mem_singleton] at hx
  rcases hx with ((((hx | rfl) | hx) | hx) | hx) | hx
  · exact hdrS_byte h2 x hx
  · exact ⟨by omega, by omega⟩
  · exact H0.byt x hx
  · exact H1.byt x hx
  · exact H2.byt x hx
  · refine pack_byte _ (fun b hb => ?_) x hx
    simp only [List.mem_append, List.mem_singleton] at hb
    rcases hb with (((hb | hb) | hb) | hb) | rfl
    · exact hbits b hb
    · exact bitsN_bit _ _ b hb
    · exact bitsN_bit _ _ b hb
    · exact bitsN_bit _ _ b hb
    · exact Or.inr rfl
theorem iff_f {P : Nat → Prop} {i : Nat} (h : false = true ↔ ∀ j, j < i → P j) : false = true ↔ ∀ j, j < i + 1 → P j :=
  ⟨fun e => (by cases e), fun a => absurd (h.2 fun j hj => a j (Nat.lt_succ_of_lt hj)) (by decide)⟩
theorem iff_n {P : Nat → Prop} {i : Nat} (h : ¬ P i) : false = true ↔ ∀ j, j < i + 1 → P j := ⟨fun e => (by cases e), fun a => absurd (a i (Nat.lt_succ_self i)) h⟩
theorem iff_t {P : Nat → Prop} {i : Nat} (h : ∀ j, j < i → P j) (hi : P i) : true = true ↔ ∀ j, j < i + 1 → P j := ⟨fun _ => fit_next h hi, fun _ => rfl⟩
theorem write_or (m cap : Nat) (f g h : Nat → Int) (rows : List Row) (hf : f = fun m => (rows.getD m (0, 0, 0)).1) (hg : g = fun m => (rows.getD m (0, 0, 0)).2.1) (hh : h = fun m => (rows.getD m (0, 0, 0)).2.2)
    (hm : m = rows.length) (hn3 : m ≤ 3000 ∨ (65535 < m ∧ m ≤ 9223372036854775807)) :
    Con Try.prog 10 [.slice 0 .z 3 m cap] [.roA 3 m (fun m => [.int .i64 (f m), .int .i64 (g m), .int .i64 (h m)])] (fun v H R => R = [] ∧
      (((∃ j, j < m ∧ ¬ Fit3 (f j) (g j) (h j)) ∧ v = .tup [.val (.slice none 0 0), .int .i64 2] ∧ H = [.roA 3 m (fun m => [.int .i64 (f m), .int .i64 (g m), .int .i64 (h m)])]) ∨
       ((∀ j, j < m → Fit3 (f j) (g j) (h j)) ∧ 65535 < m ∧ v = .tup [.val (.slice none 0 0), .int .i64 3] ∧ H = [.roA 3 m (fun m => [.int .i64 (f m), .int .i64 (g m), .int .i64 (h m)])]) ∨
       (m = 0 ∧ v = .tup [.slice 1 .z 1 1 1, .int .i64 0] ∧ H = [.roA 3 m (fun m => [.int .i64 (f m), .int .i64 (g m), .int .i64 (h m)]), .ints 5 .u8 [0]]) ∨
       ((∀ j, j < m → Fit3 (f j) (g j) (h j)) ∧ 1 ≤ m ∧ m ≤ 3000 ∧ ∃ (q : List Int) (ql c c' : Nat), ql = q.length ∧ ql ≤ c ∧ WOut rows q ∧ v = .tup [.slice 1 .z 1 ql c, .int .i64 0] ∧ H = [.roA 3 m (fun m => [.int .i64 (f m), .int .i64 (g m), .int .i64 (h m)]), .buf 5 .u8 q c']))) :=
  write13 _ m cap f g h rows hf hg hh hm hn3 (fun h1 => ⟨rfl, .inl ⟨h1, rfl, rfl⟩⟩) (fun h1 h2 => ⟨rfl, .inr (.inl ⟨h1, h2, rfl, rfl⟩)⟩) (fun h1 => ⟨rfl, .inr (.inr (.inl ⟨h1, rfl, rfl⟩))⟩)
    (fun h1 h2 h3 q ql c c' h4 h5 h6 => ⟨rfl, .inr (.inr (.inr ⟨h1, h2, h3, q, ql, c, c', h4, h5, h6, rfl, rfl⟩))⟩)
theorem law_con (n m cap : Nat) (f g h : Nat → Int) (rows : List Row) (hf : f = fun m => (rows.getD m (0, 0, 0)).1) (hg : g = fun m => (rows.getD m (0, 0, 0)).2.1) (hh : h = fun m => (rows.getD m (0, 0, 0)).2.2)
    (hmr : m = rows.length) (hnm : (n ≤ 3000 ∧ m = n) ∨ (3000 < n ∧ n ≤ 65535 ∧ m = 3000) ∨ (65535 < n ∧ m = n)) (hcap : n ≤ cap) (hcm : cap ≤ 9223372036854775807) :
    Con Try.prog 3 [.slice 0 .z 3 n cap] [.roA 3 m (fun m => [.int .i64 (f m), .int .i64 (g m), .int .i64 (h m)])] (fun v H R => v = .bool true ∧ H = [.roA 3 m (fun m => [.int .i64 (f m), .int .i64 (g m), .int .i64 (h m)])] ∧ R = []) := by
  have hn3 : m ≤ 3000 ∨ (65535 < m ∧ m ≤ 9223372036854775807) := by omega
  have hwr := write_or m cap f g h rows hf hg hh hmr hn3
  have hwk := wakes13_con
  obtain ⟨zz, hzz⟩ : ∃ zz : Nat → Int, zz = fun _ => 0 := ⟨_, rfl⟩
  have hr0 := fun cap h => read_none zz hzz [0] cap (by intro x hx; simp at hx; subst hx; exact ⟨by decide, by decide⟩) h seq_0
  simp only [List.length_cons, List.length_nil] at hr0
  have hrd : 1 ≤ m → m ≤ 3000 → ∀ (q : List Int) (c : Nat), WOut rows q → q.length ≤ 131072 → q.length ≤ c → ∃ T0 T1 T2, seqR q noT noT noT = (0, rows, T0, T1, T2) := fun h1 h2 q c h3 h4 h5 => by
    rw [hmr] at h1 h2
    exact wout_read h3 h1 h2 h4 noT noT noT
  have hrr := fun (h1 : 1 ≤ m) (h2 : m ≤ 3000) (q : List Int) (c : Nat) (h3 : WOut rows q) (h4 : q.length ≤ 131072) (h5 : q.length ≤ c) T0 T1 T2 hS => read_rows zz hzz q c (wout_byte h3 (by rw [hmr] at h2; exact h2)) h5 rows T0 T1 T2 (fun e => by rw [hmr, e] at h1; exact absurd h1 (by decide)) hS
  have hsm := fun m c1 c2 f2 g2 h2 (hm : m ≤ 3000) => same13_con m c1 c2 f g h f2 g2 h2 hm
  have f3 := fn3
  refine con_gen (con_cut 1 (by simp) (con_drop (con_walk hmix fn3 ?_)))
  intro vb vc vw vtoN vofN vaddN vsubN vmaxI vminI vcutN vgd vst vln vrep vsub vonto vsplice vstrEq vbyteV vnotB veqB hw qb qc qw qtoN qofN qaddN qsubN qmaxI qminI qcutN qgd qst qln qrep qsub qonto qsplice qstrEq qbyteV qnotB qeqB
  have hm := hmix; generalize Try.prog = P at *
  have hofn : ∀ n, vofN n = (n : Int) := fun n => by simp only [qofN]
  have hto : ∀ i : Nat, vtoN (i : Int) = i := fun i => by simp only [qtoN, Int.toNat_natCast]
  have hadd0 : ∀ i, vaddN 0 i = i := fun i => by simp only [qaddN, Nat.zero_add]
  obtain ⟨ni, hni⟩ : ∃ ni : Int, ni = n := ⟨_, rfl⟩
  have en : vofN n = ni := by rw [hofn, hni]
  obtain ⟨mi, hmi⟩ : ∃ mi : Int, mi = m := ⟨_, rfl⟩
  have em : vofN m = mi := by rw [hofn, hmi]
  have hnt : vnotB true = false := by rw [qnotB]; rfl
  have hnf : vnotB false = true := by rw [qnotB]; rfl
  refine' key1w (A := Nat → Value) _ (fun key => ?_) ?_
  rotate_left
  · rcases hnm with ⟨h1, h2⟩ | ⟨h1, h2, h3⟩ | ⟨h1, h2⟩
    · have g1 : vc .gtr ni 3000 = false := by rw [qc, gtr_false, hni]; omega
      cbv
      rw [en, g1]
      cbv
      rw [en]
      refine WX.cv (Cv.slotEq 0 (.slice 0 .z 3 m cap) (by rfl) (fun σ => by rw [h2]) (Cv.slotEq 21 (.slice 0 .z 3 m cap) (by rfl) (fun σ => by rw [h2]) (Cv.slotEq 22 (.int .i64 mi) (by rfl) (fun σ => by rw [hmi, hni, h2]) (Cv.fold [1011010] 1 [] (by exact Nat.le_refl _) (by exact Nat.le_of_ble_eq_true rfl) (by rfl) (by cbv) ?_))))
      intro js
      cbv
      exact key js
    · have g1 : vc .gtr ni 3000 = true := by rw [qc, gtr_true, hni]; omega
      have g2 : vc .leq ni 65535 = true := by rw [qc, leq_true, hni]; omega
      cbv
      rw [en, g1]
      cbv
      rw [en, g2]
      cbv
      refine ⟨⟨by decide, Int.ofNat_le.2 (Nat.le_trans (Nat.le_of_lt h1) hcap)⟩, ?_⟩
      refine WX.cv (Cv.slotEq 0 (.slice 0 .z 3 m cap) (by rfl) (fun σ => by rw [h3]) (Cv.slotEq 21 (.slice 0 .z 3 m cap) (by rfl) (fun σ => by rw [h3]) (Cv.slotEq 22 (.int .i64 mi) (by rfl) (fun σ => by rw [hmi, hofn, h3]) (Cv.fold [1011010] 1 [] (by exact Nat.le_refl _) (by exact Nat.le_of_ble_eq_true rfl) (by rfl) (by cbv) ?_))))
      intro js
      cbv
      exact key js
    · have g1 : vc .gtr ni 3000 = true := by rw [qc, gtr_true, hni]; omega
      have g2 : vc .leq ni 65535 = false := by rw [qc, leq_false, hni]; omega
      cbv
      rw [en, g1]
      cbv
      rw [en, g2]
      cbv
      rw [en]
      refine WX.cv (Cv.slotEq 0 (.slice 0 .z 3 m cap) (by rfl) (fun σ => by rw [h2]) (Cv.slotEq 21 (.slice 0 .z 3 m cap) (by rfl) (fun σ => by rw [h2]) (Cv.slotEq 22 (.int .i64 mi) (by rfl) (fun σ => by rw [hmi, hni, h2]) (Cv.fold [1011010] 1 [] (by exact Nat.le_refl _) (by exact Nat.le_of_ble_eq_true rfl) (by rfl) (by cbv) ?_))))
      intro js
      cbv
      exact key js
  · intro js0
    cbv
    refine loop_fam (α := Int × Nat × Bool) ([5] ++ (List.range' 24 35)) [] (fun (ii, i, b) => [(23, .int .i64 ii), (3, .bool b)]) (fun _ => []) (fun (ii, i, b) => ii = i ∧ i ≤ m ∧ (b = true ↔ ∀ j, j < i → Fit3 (f j) (g j) (h j))) (fun (ii, i, b) => m - i) hw hm ?_ ?_
    · refine Cv.genAt [23] [] (Cv.fold ([5] ++ (List.range' 24 35)) 1 [] (by exact Nat.le_refl _) (by exact Nat.le_of_ble_eq_true rfl) (by rfl) (by cbv) ?_)
      intro js
      exact ⟨(0, 0, true), ⟨rfl, Nat.zero_le _, by simp⟩, js, rfl⟩
    · rintro ⟨ii, i, b⟩ js ⟨hi, hin, hb⟩
      by_cases hlt : i < m
      · have hl1 : vc .lss ii mi = true := by rw [qc, lss_true, hi, hmi]; exact Int.ofNat_lt.2 hlt
        have eti : vtoN ii = i := by rw [hi]; exact hto i
        have hinr : 0 ≤ ii ∧ ii < (m : Int) := by rw [hi]; exact ⟨Int.natCast_nonneg i, Int.ofNat_lt.2 hlt⟩
        obtain ⟨ii1, hi1⟩ : ∃ ii1 : Int, ii1 = ((i + 1 : Nat) : Int) := ⟨_, rfl⟩
        have ei1 : vb .add .i64 ii 1 = ii1 := by rw [qb]; exact nextc9 hi hi1 hlt hn3
        have hmu : m - (i + 1) < m - i := Nat.sub_lt_sub_left hlt (Nat.lt_succ_self i)
        have hai : vaddN 0 i < m := by rw [hadd0]; exact hlt
        obtain ⟨x, y, z, hx, hy, hz⟩ : ∃ x y z, x = f i ∧ y = g i ∧ z = h i := ⟨_, _, _, rfl, rfl, rfl⟩
        cases b
        · cbv
          rw [hl1]
          cbv
          rw [eti]
          refine ⟨⟨hinr⟩, ⟨hai⟩, ⟨hlt⟩, ⟨hlt⟩, ⟨hlt⟩, fun _ => rfl, ?_⟩
          rw [ei1]
          refine Cv.fold ([5] ++ (List.range' 24 35)) 1 [] (by exact Nat.le_refl _) (by exact Nat.le_of_ble_eq_true rfl) (by rfl) (by cbv) ?_
          intro js
          exact ⟨(ii1, i + 1, false), ⟨⟨hi1, hlt, iff_f hb⟩, hmu⟩, js, rfl⟩
        · cbv
          rw [hl1]
          cbv
          rw [eti]
          refine ⟨⟨hinr⟩, ⟨hai⟩, ⟨hlt⟩, ⟨hlt⟩, ⟨hlt⟩, fun _ => rfl, ?_⟩
          rw [← hx, ← hy, ← hz]
          cases h0 : vc .geq x 0
          · cbv
            rw [ei1]
            refine Cv.fold ([5] ++ (List.range' 24 35)) 1 [] (by exact Nat.le_refl _) (by exact Nat.le_of_ble_eq_true rfl) (by rfl) (by cbv) ?_
            intro js
            exact ⟨(ii1, i + 1, false), ⟨⟨hi1, hlt, iff_n (i := i) (by rw [← hx, ← hy, ← hz]; exact fun hf => (by rw [qc, geq_false] at h0; exact h0 hf.1.1))⟩, hmu⟩, js, rfl⟩
          · cbv
            cases h1 : vc .leq x 131071
            · cbv
              rw [ei1]
              refine Cv.fold ([5] ++ (List.range' 24 35)) 1 [] (by exact Nat.le_refl _) (by exact Nat.le_of_ble_eq_true rfl) (by rfl) (by cbv) ?_
              intro js
              exact ⟨(ii1, i + 1, false), ⟨⟨hi1, hlt, iff_n (i := i) (by rw [← hx, ← hy, ← hz]; exact fun hf => (by rw [qc, leq_false] at h1; exact h1 hf.1.2))⟩, hmu⟩, js, rfl⟩
            · cbv
              cases h2 : vc .geq y 3
              · cbv
                rw [ei1]
                refine Cv.fold ([5] ++ (List.range' 24 35)) 1 [] (by exact Nat.le_refl _) (by exact Nat.le_of_ble_eq_true rfl) (by rfl) (by cbv) ?_
                intro js
                exact ⟨(ii1, i + 1, false), ⟨⟨hi1, hlt, iff_n (i := i) (by rw [← hx, ← hy, ← hz]; exact fun hf => (by rw [qc, geq_false] at h2; exact h2 hf.2.1.1))⟩, hmu⟩, js, rfl⟩
              · cbv
                cases h3 : vc .leq y 131074
                · cbv
                  rw [ei1]
                  refine Cv.fold ([5] ++ (List.range' 24 35)) 1 [] (by exact Nat.le_refl _) (by exact Nat.le_of_ble_eq_true rfl) (by rfl) (by cbv) ?_
                  intro js
                  exact ⟨(ii1, i + 1, false), ⟨⟨hi1, hlt, iff_n (i := i) (by rw [← hx, ← hy, ← hz]; exact fun hf => (by rw [qc, leq_false] at h3; exact h3 hf.2.1.2))⟩, hmu⟩, js, rfl⟩
                · cbv
                  cases h4 : vc .geq z 1
                  · cbv
                    rw [ei1]
                    refine Cv.fold ([5] ++ (List.range' 24 35)) 1 [] (by exact Nat.le_refl _) (by exact Nat.le_of_ble_eq_true rfl) (by rfl) (by cbv) ?_
                    intro js
                    exact ⟨(ii1, i + 1, false), ⟨⟨hi1, hlt, iff_n (i := i) (by rw [← hx, ← hy, ← hz]; exact fun hf => (by rw [qc, geq_false] at h4; exact h4 hf.2.2.1))⟩, hmu⟩, js, rfl⟩
                  · cbv
                    cases h5 : vc .leq z 268435456
                    · cbv
                      rw [ei1]
                      refine Cv.fold ([5] ++ (List.range' 24 35)) 1 [] (by exact Nat.le_refl _) (by exact Nat.le_of_ble_eq_true rfl) (by rfl) (by cbv) ?_
                      intro js
                      exact ⟨(ii1, i + 1, false), ⟨⟨hi1, hlt, iff_n (i := i) (by rw [← hx, ← hy, ← hz]; exact fun hf => (by rw [qc, leq_false] at h5; exact h5 hf.2.2.2))⟩, hmu⟩, js, rfl⟩
                    · cbv
                      rw [ei1]
                      refine Cv.fold ([5] ++ (List.range' 24 35)) 1 [] (by exact Nat.le_refl _) (by exact Nat.le_of_ble_eq_true rfl) (by rfl) (by cbv) ?_
                      intro js
                      exact ⟨(ii1, i + 1, true), ⟨⟨hi1, hlt, iff_t (hb.1 rfl) (by rw [← hx, ← hy, ← hz]; exact ⟨⟨(by rw [qc, geq_true] at h0; exact h0), (by rw [qc, leq_true] at h1; exact h1)⟩, ⟨(by rw [qc, geq_true] at h2; exact h2), (by rw [qc, leq_true] at h3; exact h3)⟩, (by rw [qc, geq_true] at h4; exact h4), (by rw [qc, leq_true] at h5; exact h5)⟩)⟩, hmu⟩, js, rfl⟩
      · have hl1 : vc .lss ii mi = false := by rw [qc, lss_false, hi, hmi]; exact fun h => hlt (Int.ofNat_lt.1 h)
        have him : i = m := Nat.le_antisymm hin (Nat.le_of_not_lt hlt)
        rw [him] at hb
        have e00 : vc .eql 0 0 = true := by rw [qc]; rfl
        have n00 : vc .neq 0 0 = false := by rw [qc]; rfl
        have e22 : vc .eql 2 2 = true := by rw [qc]; rfl
        have e33 : vc .eql 3 3 = true := by rw [qc]; rfl
        have hof0 : vofN 0 = 0 := by simp only [qofN]; rfl
        cbv
        rw [hl1]
        cbv
        refine call_con (ρ := [(0, .z)]) hwr ⟨by rfl, by rfl, by rfl, by cbv; (repeat' first | (refine And.intro ?_ ?_) | exact trivial | exact ⟨Nat.le_refl _⟩ | exact view_refl _ | exact fun _ => rfl | (simp only [renL3]; done) | (show SB.roA _ _ _ = SB.roA _ _ _; rfl) | exact funext fun _ => rfl)⟩ ?_
        rintro v H R js4 ⟨rfl, hor⟩
        rcases hor with ⟨hbad, rfl, rfl⟩ | ⟨hfit, h65, rfl, rfl⟩ | ⟨hm0, rfl, rfl⟩ | ⟨hfit, h1m, h3m, q, ql, c, c', hql, hqc, hwo, rfl, rfl⟩
        · have hbf : b = false := by
            cases b
            · rfl
            · obtain ⟨j, hj, hnf⟩ := hbad
              exact absurd (hb.1 rfl j hj) hnf
          subst hbf
          cbv
          (repeat refine And.intro (fun _ => rfl) ?_)
          rw [hnf]
          cbv
          rw [e22]
          cbv
          refine call_con (ρ := []) hwk ⟨by rfl, by rfl, by rfl, by cbv; (repeat' first | (refine And.intro ?_ ?_) | exact trivial | exact ⟨Nat.le_refl _⟩ | exact view_refl _ | exact fun _ => rfl | (simp only [renL3]; done) | (show SB.roA _ _ _ = SB.roA _ _ _; rfl) | exact funext fun _ => rfl)⟩ ?_
          rintro v H R js5 ⟨rfl, rfl, rfl⟩
          cbv
          (repeat refine And.intro (fun _ => rfl) ?_)
          exact trivial
        · have hbf : b = true := hb.2 hfit
          subst hbf
          have g65 : vc .gtr mi 65535 = true := by rw [qc, gtr_true, hmi]; exact Int.ofNat_lt.2 h65
          cbv
          (repeat refine And.intro (fun _ => rfl) ?_)
          rw [hnt]
          cbv
          rw [em, g65]
          cbv
          rw [e33]
          cbv
          refine call_con (ρ := []) hwk ⟨by rfl, by rfl, by rfl, by cbv; (repeat' first | (refine And.intro ?_ ?_) | exact trivial | exact ⟨Nat.le_refl _⟩ | exact view_refl _ | exact fun _ => rfl | (simp only [renL3]; done) | (show SB.roA _ _ _ = SB.roA _ _ _; rfl) | exact funext fun _ => rfl)⟩ ?_
          rintro v H R js5 ⟨rfl, rfl, rfl⟩
          cbv
          (repeat refine And.intro (fun _ => rfl) ?_)
          exact trivial
        · have hbf : b = true := hb.2 (fun j hj => by rw [hm0] at hj; exact absurd hj (Nat.not_lt_zero j))
          subst hbf
          subst hm0
          have ho1 : vofN 1 = 1 := by simp only [qofN]; rfl
          have g13 : vc .gtr 1 131072 = false := by rw [qc]; rfl
          have g65 : vc .gtr mi 65535 = false := by rw [qc, gtr_false, hmi]; decide
          cbv
          (repeat refine And.intro (fun _ => rfl) ?_)
          rw [hnt]
          cbv
          rw [em, g65]
          cbv
          rw [n00]
          cbv
          rw [ho1, g13]
          cbv
          refine callX_row [.slice 1 .z 1 1 1, .agg [.slice 2 .z 3 0 0, .val (.slice none 0 0), .val (.slice none 0 0)]] 79 3 (fun m => [.int .u8 (zz m), .int .u8 (zz m), .int .u16 (zz m)]) (by cbv; (repeat' first | (refine And.intro ?_ ?_) | exact trivial | exact ⟨Nat.le_refl _⟩ | exact view_refl _ | exact fun _ => rfl | (simp only [renL3]; done) | (show SB.roA _ _ _ = SB.roA _ _ _; rfl) | exact funext fun _ => rfl)) (by rfl) (fun σ => by simp [denL, den, more]) ?_
          cbv
          refine callX_row [.slice 1 .z 1 1 1, .agg [.slice 2 .z 3 0 0, .slice 3 .z 3 0 0, .val (.slice none 0 0)]] 79 3 (fun m => [.int .u8 (zz m), .int .u8 (zz m), .int .u16 (zz m)]) (by cbv; (repeat' first | (refine And.intro ?_ ?_) | exact trivial | exact ⟨Nat.le_refl _⟩ | exact view_refl _ | exact fun _ => rfl | (simp only [renL3]; done) | (show SB.roA _ _ _ = SB.roA _ _ _; rfl) | exact funext fun _ => rfl)) (by rfl) (fun σ => by simp [denL, den, more]) ?_
          cbv
          refine callX_row [.slice 1 .z 1 1 1, .agg [.slice 2 .z 3 0 0, .slice 3 .z 3 0 0, .slice 4 .z 3 0 0]] 79 3 (fun m => [.int .u8 (zz m), .int .u8 (zz m), .int .u16 (zz m)]) (by cbv; (repeat' first | (refine And.intro ?_ ?_) | exact trivial | exact ⟨Nat.le_refl _⟩ | exact view_refl _ | exact fun _ => rfl | (simp only [renL3]; done) | (show SB.roA _ _ _ = SB.roA _ _ _; rfl) | exact funext fun _ => rfl)) (by rfl) (fun σ => by simp [denL, den, more]) ?_
          cbv
          refine call_con (ρ := [(1, .z), (2, .z), (3, .z), (4, .z)]) (hr0 1 (by decide)) ⟨by rfl, by rfl, by rfl, by cbv; (repeat' first | (refine And.intro ?_ ?_) | exact trivial | exact ⟨Nat.le_refl _⟩ | exact view_refl _ | exact fun _ => rfl | (simp only [renL3]; done) | (show SB.roA _ _ _ = SB.roA _ _ _; rfl) | exact funext fun _ => rfl)⟩ ?_
          rintro v H R js5 ⟨rfl, m0, m1, m2, j0, j1, j2, hor⟩
          rcases hor with ⟨rfl, rfl⟩ | ⟨f2, g2, h2, cl, kl, rfl, rfl⟩
          · cbv
            (repeat refine And.intro (fun _ => rfl) ?_)
            rw [e00]
            cbv
            refine callX_row [.slice 0 .z 3 0 cap, .slice 6 .z 3 0 0] 24 3 (fun m => [.int .i64 (f m), .int .i64 (g m), .int .i64 (h m)]) (by cbv; (repeat' first | (refine And.intro ?_ ?_) | exact trivial | exact ⟨Nat.le_refl _⟩ | exact view_refl _ | exact fun _ => rfl | (simp only [renL3]; done) | (show SB.roA _ _ _ = SB.roA _ _ _; rfl) | exact funext fun _ => rfl)) (by rfl) (fun σ => by simp [denL, den, more]) ?_
            cbv
            refine call_con (ρ := [(0, .z), (6, .z)]) (hsm 0 cap 0 f g h (by decide) (fun i hi => absurd hi (Nat.not_lt_zero i))) ⟨by rfl, by rfl, by rfl, by cbv; (repeat' first | (refine And.intro ?_ ?_) | exact trivial | exact ⟨Nat.le_refl _⟩ | exact view_refl _ | exact fun _ => rfl | (simp only [renL3]; done) | (show SB.roA _ _ _ = SB.roA _ _ _; rfl) | exact funext fun _ => rfl)⟩ ?_
            rintro v H R js6 ⟨rfl, rfl, rfl⟩
            cbv
            (repeat refine And.intro (fun _ => rfl) ?_)
            refine call_con (ρ := []) hwk ⟨by rfl, by rfl, by rfl, by cbv; (repeat' first | (refine And.intro ?_ ?_) | exact trivial | exact ⟨Nat.le_refl _⟩ | exact view_refl _ | exact fun _ => rfl | (simp only [renL3]; done) | (show SB.roA _ _ _ = SB.roA _ _ _; rfl) | exact funext fun _ => rfl)⟩ ?_
            rintro v H R js7 ⟨rfl, rfl, rfl⟩
            cbv
            (repeat refine And.intro (fun _ => rfl) ?_)
            exact trivial
          · cbv
            (repeat refine And.intro (fun _ => rfl) ?_)
            rw [e00]
            cbv
            refine call_con (ρ := [(0, .z), (5, .z)]) (hsm 0 cap cl f2 g2 h2 (by decide) (fun i hi => absurd hi (Nat.not_lt_zero i))) ⟨by rfl, by rfl, by rfl, by cbv; (repeat' first | (refine And.intro ?_ ?_) | exact trivial | exact ⟨Nat.le_refl _⟩ | exact view_refl _ | exact fun _ => rfl | (simp only [renL3]; done) | (show SB.roA _ _ _ = SB.roA _ _ _; rfl) | exact funext fun _ => rfl)⟩ ?_
            rintro v H R js6 ⟨rfl, rfl, rfl⟩
            cbv
            (repeat refine And.intro (fun _ => rfl) ?_)
            refine call_con (ρ := []) hwk ⟨by rfl, by rfl, by rfl, by cbv; (repeat' first | (refine And.intro ?_ ?_) | exact trivial | exact ⟨Nat.le_refl _⟩ | exact view_refl _ | exact fun _ => rfl | (simp only [renL3]; done) | (show SB.roA _ _ _ = SB.roA _ _ _; rfl) | exact funext fun _ => rfl)⟩ ?_
            rintro v H R js7 ⟨rfl, rfl, rfl⟩
            cbv
            (repeat refine And.intro (fun _ => rfl) ?_)
            exact trivial
        · have hbf : b = true := hb.2 hfit
          subst hbf
          have g65 : vc .gtr mi 65535 = false := by rw [qc, gtr_false, hmi]; exact fun h => absurd (Int.ofNat_lt.1 h) (Nat.not_lt.2 (Nat.le_trans h3m (by decide)))
          obtain ⟨qi, hqi⟩ : ∃ qi : Int, qi = ql := ⟨_, rfl⟩
          have eq : vofN ql = qi := by rw [hofn, hqi]
          cbv
          (repeat refine And.intro (fun _ => rfl) ?_)
          rw [hnt]
          cbv
          rw [em, g65]
          cbv
          rw [n00]
          cbv
          rw [eq]
          by_cases hbig : 131072 < ql
          · have g13 : vc .gtr qi 131072 = true := by rw [qc, gtr_true, hqi]; exact Int.ofNat_lt.2 hbig
            rw [g13]
            cbv
            refine call_con (ρ := []) hwk ⟨by rfl, by rfl, by rfl, by cbv; (repeat' first | (refine And.intro ?_ ?_) | exact trivial | exact ⟨Nat.le_refl _⟩ | exact view_refl _ | exact fun _ => rfl | (simp only [renL3]; done) | (show SB.roA _ _ _ = SB.roA _ _ _; rfl) | exact funext fun _ => rfl)⟩ ?_
            rintro v H R js7 ⟨rfl, rfl, rfl⟩
            cbv
            (repeat refine And.intro (fun _ => rfl) ?_)
            exact trivial
          · have g13 : vc .gtr qi 131072 = false := by rw [qc, gtr_false, hqi]; exact fun h => hbig (Int.ofNat_lt.1 h)
            obtain ⟨T0, T1, T2, hS⟩ := hrd h1m h3m q c hwo (by rw [← hql]; exact Nat.le_of_not_lt hbig) (by rw [← hql]; exact hqc)
            have hrr' := hrr h1m h3m q c hwo (by rw [← hql]; exact Nat.le_of_not_lt hbig) (by rw [← hql]; exact hqc) T0 T1 T2 hS
            rw [← hql] at hrr'
            rw [g13]
            cbv
            refine callX_row [.slice 1 .z 1 ql c, .agg [.slice 2 .z 3 0 0, .val (.slice none 0 0), .val (.slice none 0 0)]] 79 3 (fun m => [.int .u8 (zz m), .int .u8 (zz m), .int .u16 (zz m)]) (by cbv; (repeat' first | (refine And.intro ?_ ?_) | exact trivial | exact ⟨Nat.le_refl _⟩ | exact view_refl _ | exact fun _ => rfl | (simp only [renL3]; done) | (show SB.roA _ _ _ = SB.roA _ _ _; rfl) | exact funext fun _ => rfl)) (by rfl) (fun σ => by simp [denL, den, more]) ?_
            cbv
            refine callX_row [.slice 1 .z 1 ql c, .agg [.slice 2 .z 3 0 0, .slice 3 .z 3 0 0, .val (.slice none 0 0)]] 79 3 (fun m => [.int .u8 (zz m), .int .u8 (zz m), .int .u16 (zz m)]) (by cbv; (repeat' first | (refine And.intro ?_ ?_) | exact trivial | exact ⟨Nat.le_refl _⟩ | exact view_refl _ | exact fun _ => rfl | (simp only [renL3]; done) | (show SB.roA _ _ _ = SB.roA _ _ _; rfl) | exact funext fun _ => rfl)) (by rfl) (fun σ => by simp [denL, den, more]) ?_
            cbv
            refine callX_row [.slice 1 .z 1 ql c, .agg [.slice 2 .z 3 0 0, .slice 3 .z 3 0 0, .slice 4 .z 3 0 0]] 79 3 (fun m => [.int .u8 (zz m), .int .u8 (zz m), .int .u16 (zz m)]) (by cbv; (repeat' first | (refine And.intro ?_ ?_) | exact trivial | exact ⟨Nat.le_refl _⟩ | exact view_refl _ | exact fun _ => rfl | (simp only [renL3]; done) | (show SB.roA _ _ _ = SB.roA _ _ _; rfl) | exact funext fun _ => rfl)) (by rfl) (fun σ => by simp [denL, den, more]) ?_
            cbv
            refine call_con (ρ := [(1, .z), (2, .z), (3, .z), (4, .z)]) hrr' ⟨by rfl, by rfl, by rfl, by cbv; (repeat' first | (refine And.intro ?_ ?_) | exact trivial | exact ⟨Nat.le_refl _⟩ | exact view_refl _ | exact fun _ => rfl | (simp only [renL3]; done) | (show SB.roA _ _ _ = SB.roA _ _ _; rfl) | exact funext fun _ => rfl)⟩ ?_
            rintro v H R js5 ⟨rfl, N0, N1, N2, A0, B0, C0, A1, B1, C1, A2, B2, C2, f2, g2, h2, ll, cl, kl, m0, m1, m2, j0, j1, j2, hll, hf2, hg2, hh2, rfl, rfl⟩
            obtain rfl : ll = m := hll.trans hmr.symm
            cbv
            (repeat refine And.intro (fun _ => rfl) ?_)
            rw [e00]
            cbv
            refine call_con (ρ := [(0, .z), (5, .z)]) (hsm ll cap cl f2 g2 h2 h3m (fun i _ => ⟨by rw [hf2, hf], by rw [hg2, hg], by rw [hh2, hh]⟩)) ⟨by rfl, by rfl, by rfl, by cbv; (repeat' first | (refine And.intro ?_ ?_) | exact trivial | exact ⟨Nat.le_refl _⟩ | exact view_refl _ | exact fun _ => rfl | (simp only [renL3]; done) | (show SB.roA _ _ _ = SB.roA _ _ _; rfl) | exact funext fun _ => rfl)⟩ ?_
            rintro v H R js6 ⟨rfl, rfl, rfl⟩
            cbv
            (repeat refine And.intro (fun _ => rfl) ?_)
            refine call_con (ρ := []) hwk ⟨by rfl, by rfl, by rfl, by cbv; (repeat' first | (refine And.intro ?_ ?_) | exact trivial | exact ⟨Nat.le_refl _⟩ | exact view_refl _ | exact fun _ => rfl | (simp only [renL3]; done) | (show SB.roA _ _ _ = SB.roA _ _ _; rfl) | exact funext fun _ => rfl)⟩ ?_
            rintro v H R js7 ⟨rfl, rfl, rfl⟩
            cbv
            (repeat refine And.intro (fun _ => rfl) ?_)
            exact trivial
end Go.Proofs.Ytlclleihoampdaa
