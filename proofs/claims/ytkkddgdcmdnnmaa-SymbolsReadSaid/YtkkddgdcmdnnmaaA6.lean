import Derived.Test.YtkkddgdcmdnnmaaA5
import Derived.Test.YtkkddgdcmdnnmaaA2
import Derived.Test.YtkkddgdcmdnnmaaA4
set_option linter.unusedVariables false
set_option linter.unusedSimpArgs false
namespace Go.Proofs.Ytkkddgdcmdnnmaa
open Go Go.Sx Go.Proofs
/-! The reference's Next and Read. -/
set_option maxRecDepth 10000
set_option maxHeartbeats 40000000
theorem refnext_one (b : List Int) (bl cap : Nat) (pI one : Int) :
    Con Try.prog 17 [.ptr 0 .z 2 0, .agg [.val (.slice none 0 0), .val (.slice none 0 0), .int .i64 one]] [.one 41 [.slice 1 .z 1 bl cap, .int .i64 pI], .ro .u8 b] (fun v H R => v = .tup [.int .i64 one, .int .i64 0] ∧ R = [] ∧ H = [.one 41 [.slice 1 .z 1 bl cap, .int .i64 pI], .ro .u8 b]) := by
  refine con_gen (con_cut 2 (by simp) (con_drop (con_walk hmix fn17 ?_)))
  intro vb vc vw vtoN vofN vaddN vsubN vmaxI vminI vcutN vgd vst vln vrep vsub vonto vsplice vstrEq vbyteV vnotB veqB hw qb qc qw qtoN qofN qaddN qsubN qmaxI qminI qcutN qgd qst qln qrep qsub qonto qsplice qstrEq qbyteV qnotB qeqB
  have hm := hmix; generalize Try.prog = P at *
  cbv
theorem refnext_len (l b : List Int) (cap cap2 cap3 pos : Nat) (pI z : Int) (hby : ∀ x ∈ b, isByte x) (hl : b.length ≤ 2 ^ 50) (hp : pos ≤ 8 * b.length) (hpI : pI = pos) (hR : Rt l) (hl0 : 0 < l.length) (hlm : l.length ≤ 1024) :
    Con Try.prog 17 [.ptr 0 .z 2 0, .agg [.slice 2 .z 1 l.length cap2, .slice 3 .z 1 l.length cap3, .int .i64 z]] [.one 41 [.slice 1 .z 1 b.length cap, .int .i64 pI], .ro .u8 b, .ro .u8 l, .ro .u16 (WL l)] (fun v H R => ∃ s e, ∃ q : Nat, ∃ qI : Int, v = .tup [.int .i64 s, .int .i64 e] ∧ qI = q ∧ Dec l b pos s e q ∧ R = [] ∧ H = [.one 41 [.slice 1 .z 1 b.length cap, .int .i64 qI], .ro .u8 b, .ro .u8 l, .ro .u16 (WL l)]) := by
  subst hpI
  have hw := refword_con l b pos cap cap2 cap3 hR hby hl hp
  obtain ⟨pI, hpI⟩ : ∃ pI : Int, pI = pos := ⟨_, rfl⟩
  rw [← hpI] at hw ⊢
  have hw2 : Con Try.prog 51 [.ptr 0 .z 2 0, .slice 2 .z 1 l.length cap2, .slice 3 .z 1 l.length cap3] [.one 41 [.slice 1 .z 1 b.length cap, .int .i64 pI], .ro .u8 b, .ro .u8 l, .ro .u16 (WL l)] (fun v H R => ∃ s e, ∃ q : Nat, ∃ qI : Int, v = .tup [.int .i64 s, .int .i64 e] ∧ qI = q ∧ Dec l b pos s e q ∧ R = [] ∧ H = [.one 41 [.slice 1 .z 1 b.length cap, .int .i64 qI], .ro .u8 b, .ro .u8 l, .ro .u16 (WL l)]) := by
    refine hw.mono ?_
    rintro v H R ⟨s, e, q, rfl, hd, rfl, rfl⟩
    exact ⟨s, e, q, q, rfl, rfl, hd, rfl, rfl⟩
  clear hw
  generalize Dec l b pos = D at *
  generalize WL l = W at *
  obtain ⟨bl, hbl⟩ : ∃ bl, bl = b.length := ⟨_, rfl⟩
  obtain ⟨ll, hll⟩ : ∃ ll, ll = l.length := ⟨_, rfl⟩
  rw [← hll] at hl0 hlm
  rw [← hbl, ← hll] at hw2 ⊢
  clear hbl hby hl hp
  refine con_gen (con_cut 4 (by simp) (con_drop (con_walk hmix fn17 ?_)))
  have hwc := hw2
  clear hw2
  intro vb vc vw vtoN vofN vaddN vsubN vmaxI vminI vcutN vgd vst vln vrep vsub vonto vsplice vstrEq vbyteV vnotB veqB hw qb qc qw qtoN qofN qaddN qsubN qmaxI qminI qcutN qgd qst qln qrep qsub qonto qsplice qstrEq qbyteV qnotB qeqB
  have hm := hmix; generalize Try.prog = P at *
  have e1 : vc .eql (vofN ll) 0 = false := by rw [qc, qofN]; exact decide_eq_false (by intro h; have h : (ll : Int) = 0 := h; omega)
  cbv
  rw [e1]
  cbv
  refine call_con (ρ := [(0, .z), (1, .z), (2, .z), (3, .z)]) hwc ⟨by rfl, by rfl, by rfl, by cbv; exact ⟨view_refl _, view_refl _, view_refl _, trivial⟩⟩ ?_
  rintro v H R js ⟨s, e, q, qI, rfl, hq, hd, rfl, rfl⟩
  cbv
  exact ⟨s, e, q, qI, rfl, hq, hd, rfl, rfl⟩
theorem exEq {α : Type} (a : α) : ∃ x, x = a := ⟨a, rfl⟩
theorem fam4 {α β γ δ : Type} {P : α × β × γ × δ → Prop} (h : ∀ a b c d, P (a, b, c, d)) : ∀ x, P x := fun ⟨a, b, c, d⟩ => h a b c d
theorem fam8 {α β γ δ ε ζ η θ : Type} {P : α × β × γ × δ × ε × ζ × η × θ → Prop} (h : ∀ a b c d e f g i, P (a, b, c, d, e, f, g, i)) : ∀ x, P x := fun ⟨a, b, c, d, e, f, g, i⟩ => h a b c d e f g i
def padZ (lens : List Int) (S : Nat) : List Int := lens ++ List.replicate (S - lens.length) 0
theorem padZ_len {lens : List Int} {S : Nat} (h : lens.length ≤ S) : (padZ lens S).length = S := by unfold padZ; simp; omega
theorem padZ_set {lens : List Int} {S : Nat} {v : Int} (h : lens.length < S) : (padZ lens S).set lens.length v = padZ (lens ++ [v]) S := by
  unfold padZ
  rw [List.set_append_right _ _ (Nat.le_refl _), Nat.sub_self, List.append_assoc]
  obtain ⟨m, hm⟩ : ∃ m, S - lens.length = m + 1 := ⟨S - lens.length - 1, by omega⟩
  rw [hm, List.replicate_succ, List.set_cons_zero, show S - (lens ++ [v]).length = m by simp; omega]
  rfl
theorem padZ_zero {lens : List Int} {S : Nat} (h : lens.length < S) : padZ (lens ++ [0]) S = padZ lens S := by
  unfold padZ
  obtain ⟨m, hm⟩ : ∃ m, S - lens.length = m + 1 := ⟨S - lens.length - 1, by omega⟩
  have h2 : S - (lens ++ [0]).length = m := by simp; omega
  rw [h2, hm, List.replicate_succ, List.append_assoc]
  rfl
theorem rdN_disj {size : Int} {F : Nat → Int → Int → Int → List Int → Int → Except Int ((List Int × Int) × Nat)} {q : Nat} {last row kind left l m tk2 : Int} {lens lens2 : List Int} {r1 : Except Int ((List Int × Int) × Nat)}
    (hN : r1 = rdN size F q last row kind lens left l m) (hf : (lens.length : Int) + m ≤ size) (h2 : lens2 = lens ++ List.replicate m.toNat l) (hlf : left - m * pw l = 32768 - tk2) (hl : (lens2.length : Int) = (lens.length : Int) + m) :
    ((lens2.length : Int) < size ∧ tk2 < 32768 ∧ F q last row kind lens2 (32768 - tk2) = r1) ∨ (((lens2.length : Int) = size ∨ 32768 ≤ tk2) ∧ r1 = .ok ((lens2, 32768 - tk2), q)) := by
  by_cases hst : left - m * pw l ≤ 0 ∨ (lens.length : Int) + m = size
  · right
    rw [rdN_stop hf hst, ← h2, hlf] at hN
    exact ⟨by omega, hN⟩
  · left
    rw [rdN_go hf hst, ← h2, hlf] at hN
    exact ⟨by omega, by omega, hN.symm⟩
theorem lp_k {S n n2 k mN : Nat} {m : Int} (hk : S - n ≤ k + 1) (h2 : n2 = n + mN) (hm : (mN : Int) = m) (h1 : 1 ≤ m) : S - n2 ≤ k := by omega
theorem lp_len {n n2 mN : Nat} {m : Int} (h2 : n2 = n + mN) (hm : (mN : Int) = m) : (n2 : Int) = (n : Int) + m := by omega
theorem lp_mu {mN t : Nat} {i i1 was : Int} (hi : i = was + (t : Int)) (hi1 : i1 = was + ((t + 1 : Nat) : Int)) (h : t < mN) : mN - (i1 - was).toNat < mN - (i - was).toNat := by omega
theorem lp_at {mN t S n : Nat} {at2 : Int} (h2 : at2 = ((n + t : Nat) : Int)) (hf : n + mN ≤ S) (h : t < mN) : 0 ≤ at2 ∧ at2 < ((S : Nat) : Int) := by omega
theorem lp_P {t mN n S : Nat} {w size : Int} (hw : 0 ≤ w ∧ w ≤ 16384) (ht : t ≤ mN) (hf : n + mN ≤ S) (hS : (S : Int) = size) (hs : size ≤ 1024) {tk tk2 : Int} (h : tk2 = tk + (t : Int) * w) (h0 : 0 ≤ tk) (h1 : tk < 32768) : 0 ≤ tk2 ∧ tk2 ≤ 16809984 := by
  have h1 : (t : Int) * w ≤ t * 16384 := Int.mul_le_mul_of_nonneg_left hw.2 (by omega)
  have h2 : (t : Int) ≤ 1024 := by omega
  have h3 : 0 ≤ (t : Int) * w := Int.mul_nonneg (by omega) hw.1
  omega
theorem lp_muM {t mN n S : Nat} {at_ at2 m : Int} (ha : at_ = (n : Int)) (h2 : at2 = ((n + t : Nat) : Int)) (hm : (mN : Int) = m) (hm1 : 1 ≤ m) (hf : n + mN ≤ S) (ht : t ≤ mN) (h : ¬ t < mN) : S - at2.toNat < S - at_.toNat := by omega
theorem lp_tk {taken tk2 w w1 lv : Int} {t : Nat} (h2 : tk2 = taken + (t : Int) * w) : tk2 + w = taken + ((t + 1 : Nat) : Int) * w := by
  rw [h2, show ((t + 1 : Nat) : Int) = (t : Int) + 1 from rfl, Int.add_mul, Int.one_mul, Int.add_assoc]
theorem refread_con (b : List Int) (cap pos : Nat) (pI size : Int) (hby : ∀ x ∈ b, isByte x) (hl : b.length ≤ 2 ^ 50) (hp : pos ≤ 8 * b.length) (hpI : pI = pos) :
    Con Try.prog 15 [.ptr 0 .z 2 0, .int .i64 size] [.one 41 [.slice 1 .z 1 b.length cap, .int .i64 pI], .ro .u8 b] (RefCode b (if 1 ≤ size ∧ size ≤ 1024 then readR b size pos else .error 2) (fun p => [.one 41 [.slice 1 .z 1 b.length cap, .int .i64 p], .ro .u8 b])) := by
  by_cases hs : 1 ≤ size ∧ size ≤ 1024
  rotate_left
  · rw [if_neg hs]
    unfold RefCode
    obtain ⟨bl, hbl⟩ : ∃ bl, bl = b.length := ⟨_, rfl⟩
    rw [← hbl] at hp
    simp only [← hbl]
    clear hl hby hbl
    refine con_gen (con_picks (con_drop (con_walk hmix fn15 ?_)))
    intro vb vc vw vtoN vofN vaddN vsubN vmaxI vminI vcutN vgd vst vln vrep vsub vonto vsplice vstrEq vbyteV vnotB veqB hw qb qc qw qtoN qofN qaddN qsubN qmaxI qminI qcutN qgd qst qln qrep qsub qonto qsplice qstrEq qbyteV qnotB qeqB
    have hm := hmix; generalize Try.prog = P at *
    by_cases h1 : size < 1
    · have e1 : vc .lss size 1 = true := by rw [qc, lss_true]; exact h1
      cbv
      rw [e1]
      cbv
      exact ⟨[0, 1], .tup [.agg [.val (.slice none 0 0), .val (.slice none 0 0), .lit .i64 0], .lit .i64 2], [.one 41 [.slice 1 .z 1 bl cap, .int .i64 pI], .ro .u8 b], rfl, rfl, rfl, rfl, ⟨rfl, rfl, trivial⟩, rfl, pos, pI, hpI, hp, .inr (.inr ⟨2, rfl, by decide, by decide, rfl, rfl⟩)⟩
    · have e1 : vc .lss size 1 = false := by rw [qc, lss_false]; exact h1
      have e2 : vc .gtr size 1024 = true := by rw [qc, gtr_true]; omega
      cbv
      rw [e1]
      cbv
      rw [e2]
      cbv
      exact ⟨[0, 1], .tup [.agg [.val (.slice none 0 0), .val (.slice none 0 0), .lit .i64 0], .lit .i64 2], [.one 41 [.slice 1 .z 1 bl cap, .int .i64 pI], .ro .u8 b], rfl, rfl, rfl, rfl, ⟨rfl, rfl, trivial⟩, rfl, pos, pI, hpI, hp, .inr (.inr ⟨2, rfl, by decide, by decide, rfl, rfl⟩)⟩
  rw [if_pos hs]
  have g2 := refgt_con b cap pos 2 pI 2 hby hl hp hpI rfl (by decide)
  have gn := fun (n pos : Nat) (pI nI : Int) hp hpI hnI hn => refgt_con b cap pos n pI nI hby hl hp hpI hnI hn
  have gf := fun (pos : Nat) (pI : Int) hp hpI => reffew_con b cap pos pI size hby hl hp hpI hs
  have gi := fun (pos sk : Nat) (pI skI : Int) hp hpI hsk h3 => refinner_con b cap pos sk pI skI hby hl hp hpI hsk h3
  have nx1 := fun (pI one : Int) => refnext_one b b.length cap pI one
  have nx2 := fun (l : List Int) (cap2 pos : Nat) (pI : Int) hp hpI hR h0 hm => refnext_len l b cap cap2 l.length pos pI 0 hby hl hp hpI hR h0 hm
  have hof := fun (l : List Int) (cap : Nat) hR => of50_con l cap hR
  have hrd : ∀ c q, readR b size pos = .ok (c, q) → CodeOk size c := fun c q h => (readR_ok hs hp h).1
  have hx2 : ∀ x q, gt b 2 pos = .ok (x, q) → 0 ≤ x ∧ x < 4 := fun x q h => by have := gt_ok h; omega
  have hgn : ∀ n p x q, gt b n p = .ok (x, q) → 0 ≤ x ∧ x < 2 ^ n := fun n p x q h => by have := gt_ok h; omega
  have hinn : ∀ sk p c q, sk ≤ 18 → p ≤ 8 * b.length → innerR b sk p = .ok (c, q) → InnOk c := fun sk p c q h1 h2 h => (innerR_ok h1 h2 h).1
  have nxr := fun b c hc p q x hp h => @nxR_range b c hc p q x hp h
  have k0 : ∀ e, gt b 2 pos = .error e → readR b size pos = .error e := fun e h => by unfold readR; rw [h]
  have k1 : ∀ q, gt b 2 pos = .ok (1, q) → readR b size pos = fewR b size q := fun q h => by unfold readR; rw [h]; rfl
  have k2 : ∀ x q e, gt b 2 pos = .ok (x, q) → x ≠ 1 → innerR b x.toNat q = .error e → readR b size pos = .error e := fun x q e h h1 h2 => by unfold readR; rw [h]; simp only [if_neg h1, h2]
  have k3 : ∀ x q c q2 e, gt b 2 pos = .ok (x, q) → x ≠ 1 → innerR b x.toNat q = .ok (c, q2) → rdR b (nxR b c) size size.toNat q2 8 0 0 [] 32768 = .error e → readR b size pos = .error e := fun x q c q2 e h h1 h2 h3 => by unfold readR; rw [h]; simp only [if_neg h1, h2, h3]
  have k4 : ∀ x q c q2 lens q3, gt b 2 pos = .ok (x, q) → x ≠ 1 → innerR b x.toNat q = .ok (c, q2) → rdR b (nxR b c) size size.toNat q2 8 0 0 [] 32768 = .ok ((lens, 0), q3) → readR b size pos = .ok (.inr (padZ lens size.toNat), q3) := fun x q c q2 lens q3 h h1 h2 h3 => by
    unfold readR padZ; rw [h]; simp only [if_neg h1, h2, h3, if_true]
    rw [show (size - (lens.length : Int)).toNat = size.toNat - lens.length by omega]
  have k5 : ∀ x q c q2 lens left q3, gt b 2 pos = .ok (x, q) → x ≠ 1 → innerR b x.toNat q = .ok (c, q2) → rdR b (nxR b c) size size.toNat q2 8 0 0 [] 32768 = .ok ((lens, left), q3) → left ≠ 0 → readR b size pos = .error 11 := fun x q c q2 lens left q3 h h1 h2 h3 h4 => by unfold readR; rw [h]; simp only [if_neg h1, h2, h3, if_neg h4]
  have f_e := @rdR_e b
  have f_a := @rdR_a b
  have f_g := @rdR_g b
  have f_b := @rdR_b b
  have n_pan := @rdN_pan
  have n_dj := @rdN_disj
  have pz_len := @padZ_len
  have pz_set := @padZ_set
  have pz_zero := @padZ_zero
  have pz_nil : ∀ S, padZ [] S = List.replicate S 0 := fun S => rfl
  have pw_p := fun x => pw_nonneg x
  have pw_u := fun x => @pw_le x
  have pw_d : ∀ l, l > 0 → pw l = 2 ^ (15 - l).toNat := fun l h => by unfold pw; rw [if_pos h]
  have pw_z : pw 0 = 0 := pw0
  generalize pw = PW at *
  generalize readR b size pos = r at *
  generalize fewR b size = FW at *
  generalize innerR b = IR at *
  generalize rdR b = RD at *
  generalize rdN = ND at *
  generalize padZ = PZ at *
  generalize hGT : gt b = GT at *
  clear hGT
  refine con_gen (con_picks (con_drop (con_walk hmix fn15 ?_)))
  intro vb vc vw vtoN vofN vaddN vsubN vmaxI vminI vcutN vgd vst vln vrep vsub vonto vsplice vstrEq vbyteV vnotB veqB hw qb qc qw qtoN qofN qaddN qsubN qmaxI qminI qcutN qgd qst qln qrep qsub qonto qsplice qstrEq qbyteV qnotB qeqB
  have hm := hmix; generalize Try.prog = P at *
  obtain ⟨bl, hbl⟩ : ∃ bl, bl = b.length := ⟨_, rfl⟩
  unfold RefR at g2 gn
  unfold RefCode at gf gi
  unfold RefCode
  simp only [← hbl] at g2 gn gf gi nx1 nx2 hp hinn ⊢
  clear hl hby
  have hto : ∀ i : Nat, vtoN (i : Int) = i := fun i => by simp only [qtoN, Int.toNat_natCast]
  have hadd0 : ∀ i, vaddN 0 i = i := fun i => by simp only [qaddN, Nat.zero_add]
  have hlnq : ∀ l, vln l = l.length := fun l => by rw [qln]
  have hst : ∀ L i v, vst L i v = L.set i v := fun L i v => by rw [qst]
  have e00 : vc .neq 0 0 = false := by rw [qc]; rfl
  have es1 : vc .lss size 1 = false := by rw [qc, lss_false]; omega
  have es2 : vc .gtr size 1024 = false := by rw [qc, gtr_false]; omega
  cbv
  rw [es1]
  cbv
  rw [es2]
  cbv
  refine call_con (ρ := [(0, .z), (1, .z)]) g2 ⟨by rfl, by rfl, by rfl, by cbv; exact ⟨view_refl _, trivial⟩⟩ ?_
  rintro v H R js ⟨rfl, q, qI, hq, hq8, rfl, ⟨x, hg, rfl⟩ | ⟨e, hg, he0, he1, rfl⟩⟩
  rotate_left
  · have hk := k0 e hg
    have ene : vc .neq e 0 = true := by rw [qc, neq_true]; omega
    cbv
    rw [ene]
    cbv
    exact ⟨[0, 1], .tup [.agg [.val (.slice none 0 0), .val (.slice none 0 0), .lit .i64 0], .int .i64 e], [.one 41 [.slice 1 .z 1 bl cap, .int .i64 qI], .ro .u8 b], rfl, rfl, rfl, rfl, ⟨rfl, rfl, trivial⟩, rfl, q, qI, hq, hq8, .inr (.inr ⟨e, hk, he0, he1, rfl, rfl⟩)⟩
  have hxr := hx2 x q hg
  have ewx : vw .i64 x = x := by rw [qw]; exact wrap_i64 (by omega) (by omega)
  have hgf := gf q qI hq8 hq
  have hgi := gi q x.toNat qI x hq8 hq (by simp only [nc]; omega)
  cbv
  rw [e00]
  cbv
  by_cases hx1 : x = 1
  · subst hx1
    have e11 : vc .eql 1 1 = true := by rw [qc]; rfl
    have hk := k1 q hg
    rw [e11]
    cbv
    refine call_con (ρ := [(0, .z), (1, .z)]) hgf ⟨by rfl, by rfl, by rfl, by cbv; exact ⟨view_refl _, trivial⟩⟩ ?_
    rintro v H R js ⟨rfl, q2, qI2, hq2, hq28, ⟨n, hf, rfl, rfl⟩ | ⟨L, cp, hf, rfl, rfl⟩ | ⟨e, hf, he0, he1, rfl, rfl⟩⟩
    · rw [hf] at hk
      cbv
      exact ⟨[0, 1], .tup [.agg [.val (.slice none 0 0), .val (.slice none 0 0), .int .i64 n], .int .i64 0], [.one 41 [.slice 1 .z 1 bl cap, .int .i64 qI2], .ro .u8 b], rfl, rfl, rfl, rfl, ⟨rfl, rfl, trivial⟩, rfl, q2, qI2, hq2, hq28, .inl ⟨n, hk, rfl, rfl⟩⟩
    · rw [hf] at hk
      obtain ⟨ll, hll⟩ : ∃ ll, ll = L.length := ⟨_, rfl⟩
      rw [← hll]
      generalize hW : WL L = W
      cbv
      subst hW
      exact ⟨[0, 1, 3, 4], .tup [.agg [.slice 2 .z 1 ll cp, .slice 3 .z 1 ll ll, .int .i64 0], .int .i64 0], [.one 41 [.slice 1 .z 1 bl cap, .int .i64 qI2], .ro .u8 b, .ints 5 .u8 L, .ints 116 .u16 (WL L)], rfl, rfl, rfl, rfl, ⟨rfl, rfl, rfl, rfl, trivial⟩, rfl, q2, qI2, hq2, hq28, .inr (.inl ⟨L, cp, hk, by rw [hll]; rfl, rfl⟩)⟩
    · rw [hf] at hk
      cbv
      exact ⟨[0, 1], .tup [.agg [.val (.slice none 0 0), .val (.slice none 0 0), .int .i64 0], .int .i64 e], [.one 41 [.slice 1 .z 1 bl cap, .int .i64 qI2], .ro .u8 b], rfl, rfl, rfl, rfl, ⟨rfl, rfl, trivial⟩, rfl, q2, qI2, hq2, hq28, .inr (.inr ⟨e, hk, he0, he1, rfl, rfl⟩)⟩
  have e11 : vc .eql x 1 = false := by rw [qc, eql_false]; exact hx1
  have hgi := hgi (by omega)
  rw [e11]
  cbv
  rw [ewx]
  refine call_con (ρ := [(0, .z), (1, .z)]) hgi ⟨by rfl, by rfl, by rfl, by cbv; exact ⟨view_refl _, trivial⟩⟩ ?_
  rintro v H R js2 ⟨rfl, q2, qI2, hq2, hq28, ⟨one, hf, rfl, rfl⟩ | ⟨L, cp, hf, rfl, rfl⟩ | ⟨e, hf, he0, he1, rfl, rfl⟩⟩
  · have hin := hinn _ _ _ _ (by omega) hq8 hf
    have hR2 : qI2 = (q2 : Int) := hq2
    refine Exists.elim (exEq (size.toNat)) (fun S hS => ?_)
    have htS : vtoN size = S := by rw [qtoN]; exact hS.symm
    have hSs : (S : Int) = size := by omega
    refine Exists.elim (exEq (RD (nxR b (.inl one)) size)) (fun RF hRF => ?_)
    have f_e := fun k p last row kind lens left e => @f_e (nxR b (.inl one)) size k p last row kind left e lens
    have f_a := fun k p q last row kind lens left x => @f_a (nxR b (.inl one)) size k p q last row kind left x lens
    have f_g := fun k p q last row kind lens left x e => @f_g (nxR b (.inl one)) size k p q last row kind left x e lens
    have f_b := fun k p q q2 last row kind lens left x n => @f_b (nxR b (.inl one)) size k p q q2 last row kind left x n lens
    rw [← hRF] at f_e f_a f_g f_b
    have k3 := fun e => k3 x q (.inl one) q2 e hg hx1 hf
    have k4 := fun lens q3 => k4 x q (.inl one) q2 lens q3 hg hx1 hf
    have k5 := fun lens left q3 => k5 x q (.inl one) q2 lens left q3 hg hx1 hf
    rw [← hRF, ← hS] at k3 k4 k5
    have hnr := fun p x q => nxr b (.inl one) hin p q x
    have hnx : ∀ (p : Nat) (pI : Int), pI = p → p ≤ 8 * bl → Con P 17 [.ptr 0 .z 2 0, .agg [.val (.slice none 0 0), .val (.slice none 0 0), .int .i64 one]] [.one 41 [.slice 1 .z 1 bl cap, .int .i64 pI], .ro .u8 b] (fun v H R => R = [] ∧ ∃ (q : Nat) (qI : Int), qI = q ∧ q ≤ 8 * bl ∧ H = [.one 41 [.slice 1 .z 1 bl cap, .int .i64 qI], .ro .u8 b] ∧ ((∃ x, nxR b (.inl one) p = .ok (x, q) ∧ v = .tup [.int .i64 x, .int .i64 0]) ∨ ∃ e, nxR b (.inl one) p = .error e ∧ 0 < e ∧ e < 100 ∧ v = .tup [.int .i64 0, .int .i64 e])) := fun p pI h1 h2 => by
      refine (nx1 pI one).mono ?_
      rintro v H R ⟨rfl, rfl, rfl⟩
      exact ⟨rfl, p, pI, h1, h2, rfl, .inl ⟨one, rfl, rfl⟩⟩
    rw [← hbl] at hnr
    clear hbl
    refine Exists.elim (exEq (nxR b (.inl one))) (fun NX hNX => ?_)
    rw [← hNX] at f_e f_a f_g f_b hnx hnr
    clear hNX
    obtain ⟨r1, hr1⟩ : ∃ r1, RF S q2 8 0 0 [] 32768 = r1 := ⟨_, rfl⟩
    rw [hr1] at k3 k4 k5
    clear hRF hin g2 gf gi hgf hgi nx1 nx2 k0 k1 k2 hx2 hinn nxr
    refine Exists.elim (exEq (PZ [] S)) (fun L0 hL0 => ?_)
    have hrepS : vrep S 0 = L0 := by rw [qrep, hL0]; exact (pz_nil S).symm
    cbv
    rw [e00]
    cbv
    rw [htS, hrepS]
    refine ⟨⟨by omega⟩, ⟨by omega⟩, ⟨by first | omega | (simp only [nc]; omega)⟩, ⟨by show size * 1 ≤ 281474976710656; omega⟩, ?_⟩
    refine loop_fam (α := Int × Int × Int × Int × Int × Nat × Int × List Int) (([15, 16, 17, 18, 19, 20] ++ [57, 58, 59, 60, 61, 62, 63, 64, 65, 66, 67, 68, 69, 70, 71, 72, 73, 74, 75, 76, 77, 78, 79, 80, 81, 82, 83, 84, 85, 86]) ++ ([87, 88, 89, 90, 91, 92, 93, 94, 95, 96, 97, 98, 99, 100, 101, 102, 103, 104, 105, 106, 107, 108, 109, 110, 111, 112, 113, 114, 115, 116] ++ [117, 118, 119, 120, 121, 122, 123, 124, 125, 126, 127, 128, 129, 130, 131, 132, 133, 134, 135, 136, 137, 138, 139, 140, 141, 142, 143, 144, 145, 146, 147])) []
      (fun (at_, taken, last, row, kind, p, pI, LL) => [(10, .int .i64 at_), (11, .int .i64 taken), (12, .int .u8 last), (13, .int .i64 row), (14, .int .i64 kind)])
      (fun (at_, taken, last, row, kind, p, pI, LL) => [(0, .one 41 [.slice 1 .z 1 bl cap, .int .i64 pI]), (4, .ints 5 .u8 LL)])
      (fun (at_, taken, last, row, kind, p, pI, LL) => ∃ lens : List Int, at_ = (lens.length : Int) ∧ lens.length ≤ S ∧ LL = PZ lens S ∧ pI = p ∧ p ≤ 8 * bl ∧ 0 ≤ taken ∧ taken ≤ 16809984 ∧
        (((lens.length : Int) < size ∧ taken < 32768 ∧ (∃ k, RF k p last row kind lens (32768 - taken) = r1 ∧ S - lens.length ≤ k) ∧ 1 ≤ last ∧ last ≤ 15 ∧ (kind < 16 ∨ (3 ≤ row ∧ row ≤ (lens.length : Int)))) ∨
         (((lens.length : Int) = size ∨ 32768 ≤ taken) ∧ r1 = .ok ((lens, 32768 - taken), p))))
      (fun (at_, taken, last, row, kind, p, pI, LL) => S - at_.toNat) hw hm ?_ ?_
    · refine Cv.genAt [10, 11, 12, 13, 14] [0] (Cv.fold (([15, 16, 17, 18, 19, 20] ++ [57, 58, 59, 60, 61, 62, 63, 64, 65, 66, 67, 68, 69, 70, 71, 72, 73, 74, 75, 76, 77, 78, 79, 80, 81, 82, 83, 84, 85, 86]) ++ ([87, 88, 89, 90, 91, 92, 93, 94, 95, 96, 97, 98, 99, 100, 101, 102, 103, 104, 105, 106, 107, 108, 109, 110, 111, 112, 113, 114, 115, 116] ++ [117, 118, 119, 120, 121, 122, 123, 124, 125, 126, 127, 128, 129, 130, 131, 132, 133, 134, 135, 136, 137, 138, 139, 140, 141, 142, 143, 144, 145, 146, 147])) 5 [] (by exact Nat.le_refl _) (by exact Nat.le_of_ble_eq_true rfl) (by rfl) (by cbv) ?_)
      intro js
      refine ⟨(_, _, _, _, _, q2, _, _), ?_, js, rfl⟩
      exact ⟨[], rfl, Nat.zero_le _, hL0, hR2, hq28, by decide, by decide, .inl ⟨by show (0 : Int) < size; omega, by decide, ⟨S, hr1, Nat.le_refl _⟩, by decide, by decide, .inl (by decide)⟩⟩
    refine fam8 (fun at_ taken last row kind p pI LL => ?_)
    intro js hI0
    refine Exists.elim hI0 (fun lens hI0 => ?_)
    have hat := hI0.1
    have hlS := hI0.2.1
    have hLL := hI0.2.2.1
    have hpI := hI0.2.2.2.1
    have hp8 := hI0.2.2.2.2.1
    have htk0 := hI0.2.2.2.2.2.1
    have htk1 := hI0.2.2.2.2.2.2.1
    have hI := hI0.2.2.2.2.2.2.2
    clear hI0
    have hat : at_ = (lens.length : Int) := hat
    have hSs : (S : Int) = size := hSs
    have hnxp := hnx p pI hpI hp8
    have hta : vtoN at_ = lens.length := by rw [hat]; exact hto _
    by_cases hact : (lens.length : Int) < size ∧ taken < 32768
    rotate_left
    · have hr1' : r1 = .ok ((lens, 32768 - taken), p) := by
        rcases hI with h | h
        · exact absurd ⟨h.1, h.2.1⟩ hact
        · exact h.2
      have hex : (vc .lss at_ size = true ∧ vc .lss taken 32768 = false) ∨ vc .lss at_ size = false := by
        by_cases h : (lens.length : Int) < size
        · left; exact ⟨by rw [qc, lss_true, hat]; exact h, by rw [qc, lss_false]; intro h2; exact hact ⟨h, h2⟩⟩
        · right; rw [qc, lss_false, hat]; exact h
      have hLLl : LL.length = S := by rw [hLL]; exact pz_len hlS
      rcases hex with ⟨e1, e2⟩ | e1
      · cbv
        rw [e1]
        cbv
        rw [e2]
        cbv
        by_cases h32 : taken = 32768
        · have e2 : vc .neq taken 32768 = false := by rw [qc, neq_false]; exact fun h => h h32
          rw [h32] at hr1'
          have hk := k4 _ _ hr1'
          rw [← hLL] at hk
          have hlfC := hrd _ _ hk
          have hofL := hof LL S hlfC.2.2.2
          rw [hLLl] at hofL
          rw [e2]
          cbv
          refine call_con (ρ := [(4, .z)]) hofL ⟨by rfl, by rfl, by rfl, by cbv; exact ⟨view_refl _, trivial⟩⟩ ?_
          rintro v H R js5 ⟨rfl, rfl, rfl⟩
          generalize hW : WL LL = W
          cbv
          subst hW
          exact ⟨[0, 1, 4, 5], .tup [.agg [.slice 2 .z 1 S S, .slice 3 .z 1 S S, .int .i64 0], .lit .i64 0], [.one 41 [.slice 1 .z 1 bl cap, .int .i64 pI], .ro .u8 b, .ints 5 .u8 LL, .ints 116 .u16 (WL LL)], rfl, rfl, rfl, rfl, ⟨rfl, rfl, rfl, rfl, trivial⟩, rfl, p, pI, hpI, hp8, .inr (.inl ⟨LL, S, hk, by rw [hLLl]; rfl, rfl⟩)⟩
        · have e2 : vc .neq taken 32768 = true := by rw [qc, neq_true]; exact h32
          have hk := k5 _ _ _ hr1' (by omega)
          rw [e2]
          cbv
          exact ⟨[0, 1], .tup [.agg [.val (.slice none 0 0), .val (.slice none 0 0), .lit .i64 0], .lit .i64 11], [.one 41 [.slice 1 .z 1 bl cap, .int .i64 pI], .ro .u8 b], rfl, rfl, rfl, rfl, ⟨rfl, rfl, trivial⟩, rfl, p, pI, hpI, hp8, .inr (.inr ⟨11, hk, by decide, by decide, rfl, rfl⟩)⟩
      · cbv
        rw [e1]
        cbv
        by_cases h32 : taken = 32768
        · have e2 : vc .neq taken 32768 = false := by rw [qc, neq_false]; exact fun h => h h32
          rw [h32] at hr1'
          have hk := k4 _ _ hr1'
          rw [← hLL] at hk
          have hlfC := hrd _ _ hk
          have hofL := hof LL S hlfC.2.2.2
          rw [hLLl] at hofL
          rw [e2]
          cbv
          refine call_con (ρ := [(4, .z)]) hofL ⟨by rfl, by rfl, by rfl, by cbv; exact ⟨view_refl _, trivial⟩⟩ ?_
          rintro v H R js5 ⟨rfl, rfl, rfl⟩
          generalize hW : WL LL = W
          cbv
          subst hW
          exact ⟨[0, 1, 4, 5], .tup [.agg [.slice 2 .z 1 S S, .slice 3 .z 1 S S, .int .i64 0], .lit .i64 0], [.one 41 [.slice 1 .z 1 bl cap, .int .i64 pI], .ro .u8 b, .ints 5 .u8 LL, .ints 116 .u16 (WL LL)], rfl, rfl, rfl, rfl, ⟨rfl, rfl, rfl, rfl, trivial⟩, rfl, p, pI, hpI, hp8, .inr (.inl ⟨LL, S, hk, by rw [hLLl]; rfl, rfl⟩)⟩
        · have e2 : vc .neq taken 32768 = true := by rw [qc, neq_true]; exact h32
          have hk := k5 _ _ _ hr1' (by omega)
          rw [e2]
          cbv
          exact ⟨[0, 1], .tup [.agg [.val (.slice none 0 0), .val (.slice none 0 0), .lit .i64 0], .lit .i64 11], [.one 41 [.slice 1 .z 1 bl cap, .int .i64 pI], .ro .u8 b], rfl, rfl, rfl, rfl, ⟨rfl, rfl, trivial⟩, rfl, p, pI, hpI, hp8, .inr (.inr ⟨11, hk, by decide, by decide, rfl, rfl⟩)⟩
    have hAll : (lens.length : Int) < size ∧ taken < 32768 ∧ (∃ k, RF k p last row kind lens (32768 - taken) = r1 ∧ S - lens.length ≤ k) ∧ 1 ≤ last ∧ last ≤ 15 ∧ (kind < 16 ∨ (3 ≤ row ∧ row ≤ (lens.length : Int))) := by
      rcases hI with h | h
      · exact h
      · omega
    have hls := hAll.1
    have htk := hAll.2.1
    have hla1 := hAll.2.2.2.1
    have hla2 := hAll.2.2.2.2.1
    have hrow := hAll.2.2.2.2.2
    have hlS1 : lens.length < S := by omega
    have hk2 : ∃ k2, RF (k2 + 1) p last row kind lens (32768 - taken) = r1 ∧ S - lens.length ≤ k2 + 1 := by
      obtain ⟨k, h1, h2⟩ := hAll.2.2.1
      exact ⟨k - 1, by rw [show k - 1 + 1 = k by omega]; exact h1, by omega⟩
    refine Exists.elim hk2 (fun k2 hk2 => ?_)
    have hRFk := hk2.1
    have hkS := hk2.2
    clear hAll hk2 hI
    have el1 : vc .lss at_ size = true := by rw [qc, lss_true, hat]; exact hls
    have el2 : vc .lss taken 32768 = true := by rw [qc, lss_true]; exact htk
    refine Exists.elim (exEq (((lens.length + 1 : Nat) : Int) : Int)) (fun at1 hat1 => ?_)
    have eat1 : vb .add .i64 at_ 1 = at1 := by rw [qb, add_i64 (by omega) (by omega)]; omega
    have hmu1 : S - at1.toNat < S - at_.toNat := by omega
    have hlsN : (lens.length : Int) + 1 ≤ size := by omega
    have hatR : 0 ≤ at_ ∧ at_ < ((S : Nat) : Int) := by omega
    have hLLl : LL.length = S := by rw [hLL]; exact pz_len hlS
    cbv
    rw [el1]
    cbv
    rw [el2]
    cbv
    refine call_con (ρ := [(0, .z), (1, .z)]) hnxp ⟨by rfl, by rfl, by rfl, by cbv; exact ⟨view_refl _, trivial⟩⟩ ?_
    rintro v H R js3 ⟨rfl, q3, qI3, hq3, hq38, rfl, ⟨x, hgx, rfl⟩ | ⟨e, hge, he0, he1, rfl⟩⟩
    rotate_left
    · have hS1 := f_e k2 p last row kind lens (32768 - taken) e hge
      rw [hRFk] at hS1
      have hk := k3 _ hS1
      have ene : vc .neq e 0 = true := by rw [qc, neq_true]; omega
      cbv
      rw [ene]
      cbv
      exact ⟨[0, 1], .tup [.agg [.val (.slice none 0 0), .val (.slice none 0 0), .lit .i64 0], .int .i64 e], [.one 41 [.slice 1 .z 1 bl cap, .int .i64 qI3], .ro .u8 b], rfl, rfl, rfl, rfl, ⟨rfl, rfl, trivial⟩, rfl, q3, qI3, hq3, hq38, .inr (.inr ⟨e, hk, he0, he1, rfl, rfl⟩)⟩
    have hxr := hnr p x q3 hp8 hgx
    cbv
    rw [e00]
    cbv
    by_cases hx16 : x < 16
    · have e16 : vc .lss x 16 = true := by rw [qc, lss_true]; exact hx16
      have hN := f_a k2 p q3 last row kind lens (32768 - taken) x hgx hx16
      rw [hRFk] at hN
      have ewx : vw .u8 x = x := by rw [qw]; exact wrap_u8 (by omega) (by omega)
      have hset : vst LL lens.length x = PZ (lens ++ [x]) S := by rw [hst, hLL]; exact pz_set hlS1
      refine Exists.elim (exEq (PZ (lens ++ [x]) S)) (fun L2 hL2 => ?_)
      rw [← hL2] at hset
      have hvLL : vln LL = S := by rw [hlnq]; exact hLLl
      have hll1 : (lens ++ [x]).length = lens.length + 1 := by simp
      have hrep1 : lens ++ List.replicate (1 : Int).toNat x = lens ++ [x] := rfl
      rw [e16]
      cbv
      rw [ewx, hta, hset]
      refine ⟨⟨hatR⟩, ⟨by rw [hvLL]; exact hlS1⟩, ?_⟩
      by_cases hx0 : x > 0
      · have e0 : vc .gtr x 0 = true := by rw [qc, gtr_true]; exact hx0
        rw [if_pos hx0] at hN
        refine Exists.elim (exEq (15 - x : Int)) (fun d hd => ?_)
        have e15 : vb .sub .i64 15 x = d := by rw [qb, sub_i64 (by omega) (by omega)]; exact hd.symm
        have ewd : vw .u64 d = d := by rw [qw]; exact wrap_u64 (by omega) (by omega)
        have hpd := pw_d x hx0
        have hpu := pw_u x
        have hpp := pw_p x
        rw [← hd] at hpd
        refine Exists.elim (exEq (PW x)) (fun w1 hw1 => ?_)
        rw [← hw1] at hpd hpu hpp
        have esh : vb .shl .i64 1 d = w1 := by
          have hd2 : d = 0 ∨ d = 1 ∨ d = 2 ∨ d = 3 ∨ d = 4 ∨ d = 5 ∨ d = 6 ∨ d = 7 ∨ d = 8 ∨ d = 9 ∨ d = 10 ∨ d = 11 ∨ d = 12 ∨ d = 13 ∨ d = 14 := by omega
          rw [qb, hpd]
          rcases hd2 with rfl | rfl | rfl | rfl | rfl | rfl | rfl | rfl | rfl | rfl | rfl | rfl | rfl | rfl | rfl <;> decide
        refine Exists.elim (exEq (taken + w1)) (fun tk2 htk2 => ?_)
        have etk : vb .add .i64 taken w1 = tk2 := by rw [qb, add_i64 (by omega) (by omega)]; exact htk2.symm
        have hd0 : 0 ≤ d := by omega
        have hlf : 32768 - taken - 1 * PW x = 32768 - tk2 := by rw [← hw1, htk2]; omega
        have htk2r : 0 ≤ tk2 ∧ tk2 ≤ 16809984 := by omega
        have hdisj : (((lens ++ [x]).length : Int) < size ∧ tk2 < 32768 ∧ (∃ k, RF k q3 x row 0 (lens ++ [x]) (32768 - tk2) = r1 ∧ S - (lens ++ [x]).length ≤ k) ∧ 1 ≤ x ∧ x ≤ 15 ∧ ((0 : Int) < 16 ∨ (3 ≤ row ∧ row ≤ ((lens ++ [x]).length : Int)))) ∨
            ((((lens ++ [x]).length : Int) = size ∨ 32768 ≤ tk2) ∧ r1 = .ok ((lens ++ [x], 32768 - tk2), q3)) := by
          have hl2i : ((lens ++ [x]).length : Int) = (lens.length : Int) + 1 := by rw [hll1]; rfl
          rcases n_dj hN hlsN hrep1.symm hlf hl2i with ⟨h1, h2, h3⟩ | ⟨h1, h3⟩
          · exact .inl ⟨h1, h2, ⟨k2, h3, lp_k hkS hll1 (m := 1) rfl (by decide)⟩, by omega, by omega, .inl (by decide)⟩
          · exact .inr ⟨h1, h3⟩
        rw [e0]
        cbv
        rw [e15, ewd, esh, etk, ewx, eat1]
        refine ⟨⟨hd0⟩, ?_⟩
        refine Cv.genAt [14] [] (Cv.fold (([15, 16, 17, 18, 19, 20] ++ [57, 58, 59, 60, 61, 62, 63, 64, 65, 66, 67, 68, 69, 70, 71, 72, 73, 74, 75, 76, 77, 78, 79, 80, 81, 82, 83, 84, 85, 86]) ++ ([87, 88, 89, 90, 91, 92, 93, 94, 95, 96, 97, 98, 99, 100, 101, 102, 103, 104, 105, 106, 107, 108, 109, 110, 111, 112, 113, 114, 115, 116] ++ [117, 118, 119, 120, 121, 122, 123, 124, 125, 126, 127, 128, 129, 130, 131, 132, 133, 134, 135, 136, 137, 138, 139, 140, 141, 142, 143, 144, 145, 146, 147])) 5 [] (by exact Nat.le_refl _) (by exact Nat.le_of_ble_eq_true rfl) (by rfl) (by cbv) ?_)
        intro js
        refine ⟨(_, _, _, _, _, q3, _, _), ?_, js, rfl⟩
        exact ⟨⟨lens ++ [x], by rw [hll1]; exact hat1, by rw [hll1]; exact hlS1, hL2, hq3, hq38, htk2r.1, htk2r.2, hdisj⟩, hmu1⟩
      · have e0 : vc .gtr x 0 = false := by rw [qc, gtr_false]; exact hx0
        have hx00 : x = 0 := by omega
        rw [if_neg hx0] at hN
        refine Exists.elim (exEq (taken)) (fun tk2 htk2 => ?_)
        have hlf : 32768 - taken - 1 * PW x = 32768 - tk2 := by rw [hx00, pw_z, htk2]; omega
        have htk2r : 0 ≤ tk2 ∧ tk2 ≤ 16809984 := by omega
        have hdisj : (((lens ++ [x]).length : Int) < size ∧ tk2 < 32768 ∧ (∃ k, RF k q3 last row 0 (lens ++ [x]) (32768 - tk2) = r1 ∧ S - (lens ++ [x]).length ≤ k) ∧ 1 ≤ last ∧ last ≤ 15 ∧ ((0 : Int) < 16 ∨ (3 ≤ row ∧ row ≤ ((lens ++ [x]).length : Int)))) ∨
            ((((lens ++ [x]).length : Int) = size ∨ 32768 ≤ tk2) ∧ r1 = .ok ((lens ++ [x], 32768 - tk2), q3)) := by
          have hl2i : ((lens ++ [x]).length : Int) = (lens.length : Int) + 1 := by rw [hll1]; rfl
          rcases n_dj hN hlsN hrep1.symm hlf hl2i with ⟨h1, h2, h3⟩ | ⟨h1, h3⟩
          · exact .inl ⟨h1, h2, ⟨k2, h3, lp_k hkS hll1 (m := 1) rfl (by decide)⟩, by omega, by omega, .inl (by decide)⟩
          · exact .inr ⟨h1, h3⟩
        subst htk2
        rw [e0]
        cbv
        rw [eat1]
        refine Cv.genAt [14] [] (Cv.fold (([15, 16, 17, 18, 19, 20] ++ [57, 58, 59, 60, 61, 62, 63, 64, 65, 66, 67, 68, 69, 70, 71, 72, 73, 74, 75, 76, 77, 78, 79, 80, 81, 82, 83, 84, 85, 86]) ++ ([87, 88, 89, 90, 91, 92, 93, 94, 95, 96, 97, 98, 99, 100, 101, 102, 103, 104, 105, 106, 107, 108, 109, 110, 111, 112, 113, 114, 115, 116] ++ [117, 118, 119, 120, 121, 122, 123, 124, 125, 126, 127, 128, 129, 130, 131, 132, 133, 134, 135, 136, 137, 138, 139, 140, 141, 142, 143, 144, 145, 146, 147])) 5 [] (by exact Nat.le_refl _) (by exact Nat.le_of_ble_eq_true rfl) (by rfl) (by cbv) ?_)
        intro js
        refine ⟨(_, _, _, _, _, q3, _, _), ?_, js, rfl⟩
        exact ⟨⟨lens ++ [x], by rw [hll1]; exact hat1, by rw [hll1]; exact hlS1, hL2, hq3, hq38, htk0, htk1, hdisj⟩, hmu1⟩
    · have e16 : vc .lss x 16 = false := by rw [qc, lss_false]; exact hx16
      have hx2 : x = 16 ∨ x = 17 := by omega
      refine Exists.elim (exEq (x - 14 : Int)) (fun x14 hx14 => ?_)
      have e14 : vb .sub .i64 x 14 = x14 := by rw [qb, sub_i64 (by omega) (by omega)]; exact hx14.symm
      have hgg := gn (x - 14).toNat q3 qI3 x14 hq38 hq3 (by simp only [nc]; omega) (by omega)
      have hF := fun e => f_g k2 p q3 last row kind lens (32768 - taken) x e hgx hx16
      have hB := fun q2 n => f_b k2 p q3 q2 last row kind lens (32768 - taken) x n hgx hx16
      have hgR := fun nn q2 => hgn (x - 14).toNat q3 nn q2
      rw [hRFk] at hF hB
      refine Exists.elim (exEq ((x - 14).toNat)) (fun kN hkN => ?_)
      rw [← hkN] at hgg hF hB hgR
      have hkv : (kN = 2 ∧ x = 16) ∨ (kN = 3 ∧ x = 17) := by omega
      rw [e16]
      cbv
      rw [e14]
      refine call_con (ρ := [(0, .z), (1, .z)]) hgg ⟨by rfl, by rfl, by rfl, by cbv; exact ⟨view_refl _, trivial⟩⟩ ?_
      rintro v H R js4 ⟨rfl, q4, qI4, hq4, hq48, rfl, ⟨nn, hgq, rfl⟩ | ⟨e, hge, he0, he1, rfl⟩⟩
      rotate_left
      · have hk := k3 _ (hF e hge)
        have ene : vc .neq e 0 = true := by rw [qc, neq_true]; omega
        cbv
        rw [ene]
        cbv
        exact ⟨[0, 1], .tup [.agg [.val (.slice none 0 0), .val (.slice none 0 0), .lit .i64 0], .int .i64 e], [.one 41 [.slice 1 .z 1 bl cap, .int .i64 qI4], .ro .u8 b], rfl, rfl, rfl, rfl, ⟨rfl, rfl, trivial⟩, rfl, q4, qI4, hq4, hq48, .inr (.inr ⟨e, hk, he0, he1, rfl, rfl⟩)⟩
      have hnr2 := hgR nn q4 hgq
      have hN := hB q4 nn hgq
      have hp2 : 1 ≤ (2 : Int) ^ kN ∧ (2 : Int) ^ kN ≤ 8 ∧ nn < 8 := by
        have h7 := hnr2.2
        rcases hkv with ⟨h, _⟩ | ⟨h, _⟩ <;> rw [h] at h7 ⊢ <;> omega
      refine Exists.elim (exEq (3 + nn : Int)) (fun n3 hn3 => ?_)
      have ewn : vw .i64 nn = nn := by rw [qw]; exact wrap_i64 (by omega) (by omega)
      have en3 : vb .add .i64 3 nn = n3 := by rw [qb, add_i64 (by omega) (by omega)]; exact hn3.symm
      refine Exists.elim (exEq (if x = 16 then last else 0 : Int)) (fun lv hlv => ?_)
      have hlv16 : x = 16 → lv = last := fun h => by rw [hlv, if_pos h]
      have hlv17 : ¬ x = 16 → lv = 0 := fun h => by rw [hlv, if_neg h]
      rw [← hlv] at hN
      cbv
      rw [e00]
      cbv
      by_cases hkx : kind = x
      · have ekx : vc .eql kind x = true := by rw [qc, eql_true]; exact hkx
        rw [if_pos hkx, if_pos hkx, ← hn3] at hN
        have hrow : kind < 16 ∨ (3 ≤ row ∧ row ≤ (lens.length : Int)) := hrow
        have hrw : 3 ≤ row ∧ row ≤ (lens.length : Int) := by
          rcases hrow with h9 | h9
          · exact absurd (hkx ▸ h9) hx16
          · exact h9
        have hls3 : (lens.length : Int) ≤ 1024 := by
          have hls : (lens.length : Int) < size := hls
          omega
        refine Exists.elim (exEq (row - 2 : Int)) (fun ra hra => ?_)
        have era : vb .sub .i64 row 2 = ra := by rw [qb, sub_i64 (by omega) (by omega)]; exact hra.symm
        have ew14 : vw .u64 x14 = x14 := by rw [qw]; exact wrap_u64 (by omega) (by omega)
        refine Exists.elim (exEq (ra * 2 ^ kN : Int)) (fun rb hrb => ?_)
        have hrbr : rb = ra * 4 ∨ rb = ra * 8 := by
          rcases hkv with ⟨h, _⟩ | ⟨h, _⟩
          · left; rw [hrb, h]; rfl
          · right; rw [hrb, h]; rfl
        have erb : vb .shl .i64 ra x14 = rb := by
          rw [qb, hrb]
          show IntKind.i64.wrap (ra * 2 ^ (min x14.toNat IntKind.i64.bits)) = _
          rw [show min x14.toNat IntKind.i64.bits = kN by
            have hk3 : kN ≤ 3 := by omega
            rw [show x14.toNat = kN by omega]; exact Nat.min_eq_left (Nat.le_trans hk3 (by decide))]
          rw [← hrb]
          exact wrap_i64 (by omega) (by omega)
        refine Exists.elim (exEq (rb + n3 : Int)) (fun row2 hrow2 => ?_)
        have erow : vb .add .i64 rb n3 = row2 := by rw [qb, add_i64 (by omega) (by omega)]; exact hrow2.symm
        refine Exists.elim (exEq (row2 - row : Int)) (fun m hm4 => ?_)
        rw [← hra, ← hrb, ← hrow2, ← hm4] at hN
        have hx140 : 0 ≤ x14 := by omega
        have hm1 : 1 ≤ m ∧ m ≤ 100000 := by omega
        have hrow3 : 3 ≤ row2 ∧ row2 ≤ 100000 := by omega
        have hrowX : 3 ≤ row2 ∧ row2 ≤ (lens.length : Int) + m := by omega
        refine Exists.elim (exEq (row : Int)) (fun was hwas => ?_)
        have hwm : was + m = row2 := by omega
        have hwas0 : 0 ≤ was ∧ was ≤ 1024 := by omega
        rw [ekx]
        cbv
        rw [ewn, era, ew14, erb, en3, erow]
        refine ⟨⟨hx140⟩, ?_⟩
        rw [← hwas]
        refine Exists.elim (exEq (at_ + row2 : Int)) (fun s2 hs2 => ?_)
        have hatb : 0 ≤ at_ ∧ at_ ≤ 1024 := by
          have hat : at_ = (lens.length : Int) := hat
          have hls : (lens.length : Int) < size := hls
          omega
        have ea1 : vb .add .i64 at_ row2 = s2 := by rw [qb, add_i64 (by omega) (by omega)]; exact hs2.symm
        refine Exists.elim (exEq (at_ + m : Int)) (fun s3 hs3 => ?_)
        have ea2 : vb .sub .i64 s2 was = s3 := by rw [qb, sub_i64 (by omega) (by omega)]; omega
        rw [ea1, ea2]
        by_cases hfit : (lens.length : Int) + m ≤ size
        rotate_left
        · have hS1 : r1 = .error 11 := by rw [hN]; exact n_pan hfit
          have hk := k3 _ hS1
          have egt : vc .gtr s3 size = true := by
            have hat : at_ = (lens.length : Int) := hat
            rw [qc, gtr_true, hs3, hat]; omega
          rw [egt]
          cbv
          exact ⟨[0, 1], .tup [.agg [.val (.slice none 0 0), .val (.slice none 0 0), .lit .i64 0], .lit .i64 11], [.one 41 [.slice 1 .z 1 bl cap, .int .i64 qI4], .ro .u8 b], rfl, rfl, rfl, rfl, ⟨rfl, rfl, trivial⟩, rfl, q4, qI4, hq4, hq48, .inr (.inr ⟨11, hk, by decide, by decide, rfl, rfl⟩)⟩
        have egt : vc .gtr s3 size = false := by
          have hat : at_ = (lens.length : Int) := hat
          rw [qc, gtr_false, hs3, hat]; omega
        have hpu := pw_u lv
        have hpp := pw_p lv
        refine Exists.elim (⟨m.toNat, by omega⟩ : ∃ mN : Nat, (mN : Int) = m) (fun mN hmN => ?_)
        have hmt : m.toNat = mN := by omega
        have hfitN : lens.length + mN ≤ S := by
          have hSs : (S : Int) = size := hSs
          have hmN : (mN : Int) = m := hmN
          omega
        rw [egt]
        cbv
        refine loop_fam (α := Int × Int × Int × List Int) ([129, 130, 131, 132, 133, 134, 135, 136, 137, 138, 139, 140, 141, 142, 143, 144, 145, 146, 147]) []
          (fun (i, at2, tk2, LL) => [(20, .int .i64 i), (10, .int .i64 at2), (11, .int .i64 tk2)])
          (fun (i, at2, tk2, LL) => [(4, .ints 5 .u8 LL)])
          (fun (i, at2, tk2, LL) => ∃ t : Nat, i = was + t ∧ t ≤ mN ∧ at2 = ((lens.length + t : Nat) : Int) ∧ tk2 = taken + t * PW lv ∧ LL = PZ (lens ++ List.replicate t lv) S)
          (fun (i, at2, tk2, LL) => mN - (i - was).toNat) hw hm ?_ ?_
        · refine Cv.genAt [20] [] (Cv.fold ([129, 130, 131, 132, 133, 134, 135, 136, 137, 138, 139, 140, 141, 142, 143, 144, 145, 146, 147]) 5 [] (by exact Nat.le_refl _) (by exact Nat.le_of_ble_eq_true rfl) (by rfl) (by cbv) ?_)
          intro js
          refine ⟨(_, _, _, _), ?_, js, rfl⟩
          exact ⟨0, by rw [hwas]; simp, Nat.zero_le _, hat, by simp, by simpa using hLL⟩
        refine fam4 (fun i at2 tk2 LL2 => ?_)
        intro js6 hI0
        refine Exists.elim hI0 (fun t hI0 => ?_)
        have hi := hI0.1
        have ht := hI0.2.1
        have hat2 := hI0.2.2.1
        have htk2 := hI0.2.2.2.1
        have hLL2 := hI0.2.2.2.2
        clear hI0
        have hi : i = was + (t : Int) := hi
        have hmN : (mN : Int) = m := hmN
        have hSs : (S : Int) = size := hSs
        have hat2 : at2 = ((lens.length + t : Nat) : Int) := hat2
        have hta2 : vtoN at2 = lens.length + t := by rw [hat2]; exact hto _
        have hlt1 : (lens ++ List.replicate t lv).length = lens.length + t := by simp
        have hLL2l : LL2.length = S := by rw [hLL2]; exact pz_len (by rw [hlt1]; omega)
        have hvL2 : vln LL2 = S := by rw [hlnq]; exact hLL2l
        have hc1 : t < mN → vc .lss i row2 = true := fun h => by rw [qc, lss_true]; omega
        have hc2 : ¬ t < mN → vc .lss i row2 = false := fun h => by rw [qc, lss_false]; omega
        refine Exists.elim (exEq (was + ((t + 1 : Nat) : Int) : Int)) (fun i1 hi1 => ?_)
        have ei1 : vb .add .i64 i 1 = i1 := by rw [qb, add_i64 (by omega) (by omega)]; omega
        refine Exists.elim (exEq (((lens.length + (t + 1) : Nat) : Int) : Int)) (fun at3 hat3 => ?_)
        have eat3 : vb .add .i64 at2 1 = at3 := by rw [qb, add_i64 (by omega) (by omega)]; omega
        have hmu2 : t < mN → mN - (i1 - was).toNat < mN - (i - was).toNat := fun h => lp_mu hi hi1 h
        have hatR2 : t < mN → 0 ≤ at2 ∧ at2 < ((S : Nat) : Int) := fun h => lp_at hat2 hfitN h
        have hltS : t < mN → (lens ++ List.replicate t lv).length < S := fun h => by rw [hlt1]; exact Nat.lt_of_lt_of_le (Nat.add_lt_add_left h _) hfitN
        have htkr : 0 ≤ tk2 ∧ tk2 ≤ 16809984 := lp_P ⟨hpp, hpu⟩ ht hfitN hSs hs.2 htk2 htk0 htk
        have hatM : ¬ t < mN → at2 = ((lens.length + mN : Nat) : Int) := fun h => by rw [hat2, show t = mN from Nat.le_antisymm ht (Nat.le_of_not_lt h)]
        have hmuM : ¬ t < mN → S - at2.toNat < S - at_.toNat := fun h => lp_muM hat hat2 hmN hm1.1 hfitN ht h
        cbv
        by_cases hlt : t < mN
        · have hmu2 := hmu2 hlt
          have hatR2 := hatR2 hlt
          have hltS := hltS hlt
          have hstep : lens ++ List.replicate t lv ++ [lv] = lens ++ List.replicate (t + 1) lv := by rw [List.append_assoc, ← List.replicate_succ']
          rw [hc1 hlt]
          cbv
          by_cases hx6 : x = 16
          · have e6 : vc .eql x 16 = true := by rw [qc, eql_true]; exact hx6
            have hlvl := hlv16 hx6
            refine Exists.elim (exEq (PZ (lens ++ List.replicate (t + 1) lv) S)) (fun L3 hL3 => ?_)
            have hset : vst LL2 (lens.length + t) last = L3 := by rw [hst, hLL2, hL3, ← hstep, ← hlvl, ← pz_set hltS, hlt1]
            refine Exists.elim (exEq (15 - last : Int)) (fun d hd => ?_)
            have e15 : vb .sub .u8 15 last = d := by rw [qb, hd]; exact wrap_u8 (by omega) (by omega)
            have ewd : vw .u64 d = d := by rw [qw]; exact wrap_u64 (by omega) (by omega)
            have hpd := pw_d last (by omega)
            rw [← hd] at hpd
            refine Exists.elim (exEq (PW last)) (fun w1 hw1 => ?_)
            have hw1r : 0 ≤ w1 ∧ w1 ≤ 16384 := by rw [hw1]; exact ⟨pw_p _, pw_u _⟩
            rw [← hw1] at hpd
            have esh : vb .shl .i64 1 d = w1 := by
              have hd2 : d = 0 ∨ d = 1 ∨ d = 2 ∨ d = 3 ∨ d = 4 ∨ d = 5 ∨ d = 6 ∨ d = 7 ∨ d = 8 ∨ d = 9 ∨ d = 10 ∨ d = 11 ∨ d = 12 ∨ d = 13 ∨ d = 14 := by omega
              rw [qb, hpd]
              rcases hd2 with rfl | rfl | rfl | rfl | rfl | rfl | rfl | rfl | rfl | rfl | rfl | rfl | rfl | rfl | rfl <;> decide
            refine Exists.elim (exEq (tk2 + w1)) (fun tk3 htk3 => ?_)
            have etk : vb .add .i64 tk2 w1 = tk3 := by rw [qb, add_i64 (by omega) (by omega)]; exact htk3.symm
            have htk3e : tk3 = taken + ((t + 1 : Nat) : Int) * PW lv := by
              rw [htk3, hw1, ← hlvl]; exact lp_tk (w1 := 0) (lv := 0) htk2
            have hd0 : 0 ≤ d := by omega
            refine Exists.elim (exEq (lens.length + t)) (fun atN hatN => ?_)
            have hatNS : atN < S := by rw [hatN, ← hlt1]; exact hltS
            rw [← hatN] at hta2 hset
            rw [e6]
            cbv
            rw [hta2, hset, e15, ewd, esh, etk, eat3, ei1]
            refine ⟨⟨hatR2⟩, ⟨by rw [hvL2]; exact hatNS⟩, ⟨hd0⟩, ?_⟩
            refine Cv.fold ([129, 130, 131, 132, 133, 134, 135, 136, 137, 138, 139, 140, 141, 142, 143, 144, 145, 146, 147]) 5 [] (by exact Nat.le_refl _) (by exact Nat.le_of_ble_eq_true rfl) (by rfl) (by cbv) ?_
            intro js
            refine ⟨(_, _, _, _), ?_, js, rfl⟩
            exact ⟨⟨t + 1, hi1, hlt, hat3, htk3e, hL3⟩, hmu2⟩
          · have e6 : vc .eql x 16 = false := by rw [qc, eql_false]; exact hx6
            have hlvl := hlv17 hx6
            have hLL3 : LL2 = PZ (lens ++ List.replicate (t + 1) lv) S := by rw [hLL2, ← hstep, hlvl]; rw [hlvl] at hltS; exact (pz_zero hltS).symm
            have htk3e : tk2 = taken + ((t + 1 : Nat) : Int) * PW lv := by rw [htk2, hlvl, pw_z, Int.mul_zero, Int.mul_zero]
            rw [e6]
            cbv
            rw [eat3, ei1]
            refine Cv.fold ([129, 130, 131, 132, 133, 134, 135, 136, 137, 138, 139, 140, 141, 142, 143, 144, 145, 146, 147]) 5 [] (by exact Nat.le_refl _) (by exact Nat.le_of_ble_eq_true rfl) (by rfl) (by cbv) ?_
            intro js
            refine ⟨(_, _, _, _), ?_, js, rfl⟩
            exact ⟨⟨t + 1, hi1, hlt, hat3, htk3e, hLL3⟩, hmu2⟩
        · have htm : t = mN := by omega
          have hatM := hatM hlt
          have hmuM := hmuM hlt
          refine Exists.elim (exEq (lens ++ List.replicate m.toNat lv)) (fun lens2 hlens2 => ?_)
          have hl2e : lens ++ List.replicate t lv = lens2 := by rw [hlens2, hmt, htm]
          have hl2l : lens2.length = lens.length + mN := by rw [hlens2, hmt]; simp
          have hlf : 32768 - taken - m * PW lv = 32768 - tk2 := by rw [htk2, htm, ← Int.sub_sub]; rw [← hmN]
          have hdisj : ((lens2.length : Int) < size ∧ tk2 < 32768 ∧ (∃ k, RF k q4 last row2 x lens2 (32768 - tk2) = r1 ∧ S - lens2.length ≤ k) ∧ 1 ≤ last ∧ last ≤ 15 ∧ (x < 16 ∨ (3 ≤ row2 ∧ row2 ≤ (lens2.length : Int)))) ∨
              (((lens2.length : Int) = size ∨ 32768 ≤ tk2) ∧ r1 = .ok ((lens2, 32768 - tk2), q4)) := by
            have hl2i : (lens2.length : Int) = (lens.length : Int) + m := lp_len hl2l hmN
            rcases n_dj hN hfit hlens2 hlf hl2i with ⟨h1, h2, h3⟩ | ⟨h1, h3⟩
            · exact .inl ⟨h1, h2, ⟨k2, h3, lp_k hkS hl2l hmN hm1.1⟩, hla1, hla2, .inr ⟨hrowX.1, by rw [hl2i]; exact hrowX.2⟩⟩
            · exact .inr ⟨h1, h3⟩
          have hl2S : lens2.length ≤ S := by rw [hl2l]; exact hfitN
          rw [hl2e] at hLL2
          rw [← hl2l] at hatM
          rw [hc2 hlt]
          cbv
          refine Cv.fold (([15, 16, 17, 18, 19, 20] ++ [57, 58, 59, 60, 61, 62, 63, 64, 65, 66, 67, 68, 69, 70, 71, 72, 73, 74, 75, 76, 77, 78, 79, 80, 81, 82, 83, 84, 85, 86]) ++ ([87, 88, 89, 90, 91, 92, 93, 94, 95, 96, 97, 98, 99, 100, 101, 102, 103, 104, 105, 106, 107, 108, 109, 110, 111, 112, 113, 114, 115, 116] ++ [117, 118, 119, 120, 121, 122, 123, 124, 125, 126, 127, 128, 129, 130, 131, 132, 133, 134, 135, 136, 137, 138, 139, 140, 141, 142, 143, 144, 145, 146, 147])) 5 [] (by exact Nat.le_refl _) (by exact Nat.le_of_ble_eq_true rfl) (by rfl) (by cbv) ?_
          intro js
          refine ⟨(_, _, _, _, _, q4, _, _), ?_, js, rfl⟩
          exact ⟨⟨lens2, hatM, hl2S, hLL2, hq4, hq48, htkr.1, htkr.2, hdisj⟩, hmuM⟩
      · have ekx : vc .eql kind x = false := by rw [qc, eql_false]; exact hkx
        rw [if_neg hkx, if_neg hkx, Int.zero_add, Int.sub_zero, ← hn3] at hN
        refine Exists.elim (exEq (n3 : Int)) (fun row2 hrow2 => ?_)
        refine Exists.elim (exEq (n3 : Int)) (fun m hm4 => ?_)
        have erow : vb .add .i64 0 n3 = row2 := by rw [qb, add_i64 (by omega) (by omega)]; omega
        have hNX : r1 = ND size (RF k2) q4 last row2 x lens (32768 - taken) lv m := by rw [hrow2, hm4]; exact hN
        have hN := hNX
        have hm1 : 1 ≤ m ∧ m ≤ 100000 := by omega
        have hrow3 : 3 ≤ row2 ∧ row2 ≤ 100000 := by omega
        have hrowX : 3 ≤ row2 ∧ row2 ≤ (lens.length : Int) + m := by omega
        refine Exists.elim (exEq (0 : Int)) (fun was hwas => ?_)
        have hwm : was + m = row2 := by omega
        have hwas0 : 0 ≤ was ∧ was ≤ 1024 := by omega
        rw [ekx]
        cbv
        rw [ewn, en3, erow]
        refine Exists.elim (exEq (at_ + row2 : Int)) (fun s2 hs2 => ?_)
        have hatb : 0 ≤ at_ ∧ at_ ≤ 1024 := by
          have hat : at_ = (lens.length : Int) := hat
          have hls : (lens.length : Int) < size := hls
          omega
        have ea1 : vb .add .i64 at_ row2 = s2 := by rw [qb, add_i64 (by omega) (by omega)]; exact hs2.symm
        refine Exists.elim (exEq (at_ + m : Int)) (fun s3 hs3 => ?_)
        have ea2 : vb .sub .i64 s2 0 = s3 := by rw [qb, sub_i64 (by omega) (by omega)]; omega
        rw [ea1, ea2]
        by_cases hfit : (lens.length : Int) + m ≤ size
        rotate_left
        · have hS1 : r1 = .error 11 := by rw [hN]; exact n_pan hfit
          have hk := k3 _ hS1
          have egt : vc .gtr s3 size = true := by
            have hat : at_ = (lens.length : Int) := hat
            rw [qc, gtr_true, hs3, hat]; omega
          rw [egt]
          cbv
          exact ⟨[0, 1], .tup [.agg [.val (.slice none 0 0), .val (.slice none 0 0), .lit .i64 0], .lit .i64 11], [.one 41 [.slice 1 .z 1 bl cap, .int .i64 qI4], .ro .u8 b], rfl, rfl, rfl, rfl, ⟨rfl, rfl, trivial⟩, rfl, q4, qI4, hq4, hq48, .inr (.inr ⟨11, hk, by decide, by decide, rfl, rfl⟩)⟩
        have egt : vc .gtr s3 size = false := by
          have hat : at_ = (lens.length : Int) := hat
          rw [qc, gtr_false, hs3, hat]; omega
        have hpu := pw_u lv
        have hpp := pw_p lv
        refine Exists.elim (⟨m.toNat, by omega⟩ : ∃ mN : Nat, (mN : Int) = m) (fun mN hmN => ?_)
        have hmt : m.toNat = mN := by omega
        have hfitN : lens.length + mN ≤ S := by
          have hSs : (S : Int) = size := hSs
          have hmN : (mN : Int) = m := hmN
          omega
        rw [egt]
        cbv
        refine loop_fam (α := Int × Int × Int × List Int) ([129, 130, 131, 132, 133, 134, 135, 136, 137, 138, 139, 140, 141, 142, 143, 144, 145, 146, 147]) []
          (fun (i, at2, tk2, LL) => [(20, .int .i64 i), (10, .int .i64 at2), (11, .int .i64 tk2)])
          (fun (i, at2, tk2, LL) => [(4, .ints 5 .u8 LL)])
          (fun (i, at2, tk2, LL) => ∃ t : Nat, i = was + t ∧ t ≤ mN ∧ at2 = ((lens.length + t : Nat) : Int) ∧ tk2 = taken + t * PW lv ∧ LL = PZ (lens ++ List.replicate t lv) S)
          (fun (i, at2, tk2, LL) => mN - (i - was).toNat) hw hm ?_ ?_
        · refine Cv.genAt [20] [] (Cv.fold ([129, 130, 131, 132, 133, 134, 135, 136, 137, 138, 139, 140, 141, 142, 143, 144, 145, 146, 147]) 5 [] (by exact Nat.le_refl _) (by exact Nat.le_of_ble_eq_true rfl) (by rfl) (by cbv) ?_)
          intro js
          refine ⟨(_, _, _, _), ?_, js, rfl⟩
          exact ⟨0, by rw [hwas]; simp, Nat.zero_le _, hat, by simp, by simpa using hLL⟩
        refine fam4 (fun i at2 tk2 LL2 => ?_)
        intro js6 hI0
        refine Exists.elim hI0 (fun t hI0 => ?_)
        have hi := hI0.1
        have ht := hI0.2.1
        have hat2 := hI0.2.2.1
        have htk2 := hI0.2.2.2.1
        have hLL2 := hI0.2.2.2.2
        clear hI0
        have hi : i = was + (t : Int) := hi
        have hmN : (mN : Int) = m := hmN
        have hSs : (S : Int) = size := hSs
        have hat2 : at2 = ((lens.length + t : Nat) : Int) := hat2
        have hta2 : vtoN at2 = lens.length + t := by rw [hat2]; exact hto _
        have hlt1 : (lens ++ List.replicate t lv).length = lens.length + t := by simp
        have hLL2l : LL2.length = S := by rw [hLL2]; exact pz_len (by rw [hlt1]; omega)
        have hvL2 : vln LL2 = S := by rw [hlnq]; exact hLL2l
        have hc1 : t < mN → vc .lss i row2 = true := fun h => by rw [qc, lss_true]; omega
        have hc2 : ¬ t < mN → vc .lss i row2 = false := fun h => by rw [qc, lss_false]; omega
        refine Exists.elim (exEq (was + ((t + 1 : Nat) : Int) : Int)) (fun i1 hi1 => ?_)
        have ei1 : vb .add .i64 i 1 = i1 := by rw [qb, add_i64 (by omega) (by omega)]; omega
        refine Exists.elim (exEq (((lens.length + (t + 1) : Nat) : Int) : Int)) (fun at3 hat3 => ?_)
        have eat3 : vb .add .i64 at2 1 = at3 := by rw [qb, add_i64 (by omega) (by omega)]; omega
        have hmu2 : t < mN → mN - (i1 - was).toNat < mN - (i - was).toNat := fun h => lp_mu hi hi1 h
        have hatR2 : t < mN → 0 ≤ at2 ∧ at2 < ((S : Nat) : Int) := fun h => lp_at hat2 hfitN h
        have hltS : t < mN → (lens ++ List.replicate t lv).length < S := fun h => by rw [hlt1]; exact Nat.lt_of_lt_of_le (Nat.add_lt_add_left h _) hfitN
        have htkr : 0 ≤ tk2 ∧ tk2 ≤ 16809984 := lp_P ⟨hpp, hpu⟩ ht hfitN hSs hs.2 htk2 htk0 htk
        have hatM : ¬ t < mN → at2 = ((lens.length + mN : Nat) : Int) := fun h => by rw [hat2, show t = mN from Nat.le_antisymm ht (Nat.le_of_not_lt h)]
        have hmuM : ¬ t < mN → S - at2.toNat < S - at_.toNat := fun h => lp_muM hat hat2 hmN hm1.1 hfitN ht h
        cbv
        by_cases hlt : t < mN
        · have hmu2 := hmu2 hlt
          have hatR2 := hatR2 hlt
          have hltS := hltS hlt
          have hstep : lens ++ List.replicate t lv ++ [lv] = lens ++ List.replicate (t + 1) lv := by rw [List.append_assoc, ← List.replicate_succ']
          rw [hc1 hlt]
          cbv
          by_cases hx6 : x = 16
          · have e6 : vc .eql x 16 = true := by rw [qc, eql_true]; exact hx6
            have hlvl := hlv16 hx6
            refine Exists.elim (exEq (PZ (lens ++ List.replicate (t + 1) lv) S)) (fun L3 hL3 => ?_)
            have hset : vst LL2 (lens.length + t) last = L3 := by rw [hst, hLL2, hL3, ← hstep, ← hlvl, ← pz_set hltS, hlt1]
            refine Exists.elim (exEq (15 - last : Int)) (fun d hd => ?_)
            have e15 : vb .sub .u8 15 last = d := by rw [qb, hd]; exact wrap_u8 (by omega) (by omega)
            have ewd : vw .u64 d = d := by rw [qw]; exact wrap_u64 (by omega) (by omega)
            have hpd := pw_d last (by omega)
            rw [← hd] at hpd
            refine Exists.elim (exEq (PW last)) (fun w1 hw1 => ?_)
            have hw1r : 0 ≤ w1 ∧ w1 ≤ 16384 := by rw [hw1]; exact ⟨pw_p _, pw_u _⟩
            rw [← hw1] at hpd
            have esh : vb .shl .i64 1 d = w1 := by
              have hd2 : d = 0 ∨ d = 1 ∨ d = 2 ∨ d = 3 ∨ d = 4 ∨ d = 5 ∨ d = 6 ∨ d = 7 ∨ d = 8 ∨ d = 9 ∨ d = 10 ∨ d = 11 ∨ d = 12 ∨ d = 13 ∨ d = 14 := by omega
              rw [qb, hpd]
              rcases hd2 with rfl | rfl | rfl | rfl | rfl | rfl | rfl | rfl | rfl | rfl | rfl | rfl | rfl | rfl | rfl <;> decide
            refine Exists.elim (exEq (tk2 + w1)) (fun tk3 htk3 => ?_)
            have etk : vb .add .i64 tk2 w1 = tk3 := by rw [qb, add_i64 (by omega) (by omega)]; exact htk3.symm
            have htk3e : tk3 = taken + ((t + 1 : Nat) : Int) * PW lv := by
              rw [htk3, hw1, ← hlvl]; exact lp_tk (w1 := 0) (lv := 0) htk2
            have hd0 : 0 ≤ d := by omega
            refine Exists.elim (exEq (lens.length + t)) (fun atN hatN => ?_)
            have hatNS : atN < S := by rw [hatN, ← hlt1]; exact hltS
            rw [← hatN] at hta2 hset
            rw [e6]
            cbv
            rw [hta2, hset, e15, ewd, esh, etk, eat3, ei1]
            refine ⟨⟨hatR2⟩, ⟨by rw [hvL2]; exact hatNS⟩, ⟨hd0⟩, ?_⟩
            refine Cv.fold ([129, 130, 131, 132, 133, 134, 135, 136, 137, 138, 139, 140, 141, 142, 143, 144, 145, 146, 147]) 5 [] (by exact Nat.le_refl _) (by exact Nat.le_of_ble_eq_true rfl) (by rfl) (by cbv) ?_
            intro js
            refine ⟨(_, _, _, _), ?_, js, rfl⟩
            exact ⟨⟨t + 1, hi1, hlt, hat3, htk3e, hL3⟩, hmu2⟩
          · have e6 : vc .eql x 16 = false := by rw [qc, eql_false]; exact hx6
            have hlvl := hlv17 hx6
            have hLL3 : LL2 = PZ (lens ++ List.replicate (t + 1) lv) S := by rw [hLL2, ← hstep, hlvl]; rw [hlvl] at hltS; exact (pz_zero hltS).symm
            have htk3e : tk2 = taken + ((t + 1 : Nat) : Int) * PW lv := by rw [htk2, hlvl, pw_z, Int.mul_zero, Int.mul_zero]
            rw [e6]
            cbv
            rw [eat3, ei1]
            refine Cv.fold ([129, 130, 131, 132, 133, 134, 135, 136, 137, 138, 139, 140, 141, 142, 143, 144, 145, 146, 147]) 5 [] (by exact Nat.le_refl _) (by exact Nat.le_of_ble_eq_true rfl) (by rfl) (by cbv) ?_
            intro js
            refine ⟨(_, _, _, _), ?_, js, rfl⟩
            exact ⟨⟨t + 1, hi1, hlt, hat3, htk3e, hLL3⟩, hmu2⟩
        · have htm : t = mN := by omega
          have hatM := hatM hlt
          have hmuM := hmuM hlt
          refine Exists.elim (exEq (lens ++ List.replicate m.toNat lv)) (fun lens2 hlens2 => ?_)
          have hl2e : lens ++ List.replicate t lv = lens2 := by rw [hlens2, hmt, htm]
          have hl2l : lens2.length = lens.length + mN := by rw [hlens2, hmt]; simp
          have hlf : 32768 - taken - m * PW lv = 32768 - tk2 := by rw [htk2, htm, ← Int.sub_sub]; rw [← hmN]
          have hdisj : ((lens2.length : Int) < size ∧ tk2 < 32768 ∧ (∃ k, RF k q4 last row2 x lens2 (32768 - tk2) = r1 ∧ S - lens2.length ≤ k) ∧ 1 ≤ last ∧ last ≤ 15 ∧ (x < 16 ∨ (3 ≤ row2 ∧ row2 ≤ (lens2.length : Int)))) ∨
              (((lens2.length : Int) = size ∨ 32768 ≤ tk2) ∧ r1 = .ok ((lens2, 32768 - tk2), q4)) := by
            have hl2i : (lens2.length : Int) = (lens.length : Int) + m := lp_len hl2l hmN
            rcases n_dj hN hfit hlens2 hlf hl2i with ⟨h1, h2, h3⟩ | ⟨h1, h3⟩
            · exact .inl ⟨h1, h2, ⟨k2, h3, lp_k hkS hl2l hmN hm1.1⟩, hla1, hla2, .inr ⟨hrowX.1, by rw [hl2i]; exact hrowX.2⟩⟩
            · exact .inr ⟨h1, h3⟩
          have hl2S : lens2.length ≤ S := by rw [hl2l]; exact hfitN
          rw [hl2e] at hLL2
          rw [← hl2l] at hatM
          rw [hc2 hlt]
          cbv
          refine Cv.fold (([15, 16, 17, 18, 19, 20] ++ [57, 58, 59, 60, 61, 62, 63, 64, 65, 66, 67, 68, 69, 70, 71, 72, 73, 74, 75, 76, 77, 78, 79, 80, 81, 82, 83, 84, 85, 86]) ++ ([87, 88, 89, 90, 91, 92, 93, 94, 95, 96, 97, 98, 99, 100, 101, 102, 103, 104, 105, 106, 107, 108, 109, 110, 111, 112, 113, 114, 115, 116] ++ [117, 118, 119, 120, 121, 122, 123, 124, 125, 126, 127, 128, 129, 130, 131, 132, 133, 134, 135, 136, 137, 138, 139, 140, 141, 142, 143, 144, 145, 146, 147])) 5 [] (by exact Nat.le_refl _) (by exact Nat.le_of_ble_eq_true rfl) (by rfl) (by cbv) ?_
          intro js
          refine ⟨(_, _, _, _, _, q4, _, _), ?_, js, rfl⟩
          exact ⟨⟨lens2, hatM, hl2S, hLL2, hq4, hq48, htkr.1, htkr.2, hdisj⟩, hmuM⟩
  · have hin := hinn _ _ _ _ (by omega) hq8 hf
    have hR2 : qI2 = (q2 : Int) := hq2
    refine Exists.elim (exEq (size.toNat)) (fun S hS => ?_)
    have htS : vtoN size = S := by rw [qtoN]; exact hS.symm
    have hSs : (S : Int) = size := by omega
    refine Exists.elim (exEq (RD (nxR b (.inr L)) size)) (fun RF hRF => ?_)
    have f_e := fun k p last row kind lens left e => @f_e (nxR b (.inr L)) size k p last row kind left e lens
    have f_a := fun k p q last row kind lens left x => @f_a (nxR b (.inr L)) size k p q last row kind left x lens
    have f_g := fun k p q last row kind lens left x e => @f_g (nxR b (.inr L)) size k p q last row kind left x e lens
    have f_b := fun k p q q2 last row kind lens left x n => @f_b (nxR b (.inr L)) size k p q q2 last row kind left x n lens
    rw [← hRF] at f_e f_a f_g f_b
    have k3 := fun e => k3 x q (.inr L) q2 e hg hx1 hf
    have k4 := fun lens q3 => k4 x q (.inr L) q2 lens q3 hg hx1 hf
    have k5 := fun lens left q3 => k5 x q (.inr L) q2 lens left q3 hg hx1 hf
    rw [← hRF, ← hS] at k3 k4 k5
    have hnr := fun p x q => nxr b (.inr L) hin p q x
    have hLl : L.length = 18 := hin.1
    refine Exists.elim (exEq (L.length)) (fun ll hll => ?_)
    refine Exists.elim (exEq (WL L)) (fun W hW => ?_)
    have hnx : ∀ (p : Nat) (pI : Int), pI = p → p ≤ 8 * bl → Con P 17 [.ptr 0 .z 2 0, .agg [.slice 2 .z 1 ll cp, .slice 3 .z 1 ll ll, .int .i64 0]] [.one 41 [.slice 1 .z 1 bl cap, .int .i64 pI], .ro .u8 b, .ro .u8 L, .ro .u16 W] (fun v H R => R = [] ∧ ∃ (q : Nat) (qI : Int), qI = q ∧ q ≤ 8 * bl ∧ H = [.one 41 [.slice 1 .z 1 bl cap, .int .i64 qI], .ro .u8 b, .ro .u8 L, .ro .u16 W] ∧ ((∃ x, nxR b (.inr L) p = .ok (x, q) ∧ v = .tup [.int .i64 x, .int .i64 0]) ∨ ∃ e, nxR b (.inr L) p = .error e ∧ 0 < e ∧ e < 100 ∧ v = .tup [.int .i64 0, .int .i64 e])) := fun p pI h1 h2 => by
      rw [hll, hW]
      refine (nx2 L cp p pI h2 h1 hin.2.2.2 (by omega) (by omega)).mono ?_
      rintro v H R ⟨s, e, q, qI, rfl, hq, hd, rfl, rfl⟩
      rcases hd.e with rfl | rfl
      · exact ⟨rfl, q, qI, hq, by have := hd.ok_range; omega, rfl, .inl ⟨s, decR_ok hd, rfl⟩⟩
      · refine ⟨rfl, q, qI, hq, ?_, rfl, .inr ⟨10, decR_err hd, by decide, by decide, ?_⟩⟩
        · rcases hd with ⟨_, _, _, _, _, _, _, _, _, _, _, h, _⟩ | ⟨_, _, h, _, _, _, h2⟩
          · cases h
          · omega
        · rcases hd with ⟨_, _, _, _, _, _, _, _, _, _, _, h, _⟩ | ⟨_, _, _, _, h, _, _⟩
          · cases h
          · rw [h]
    rw [← hll, ← hW]
    rw [← hbl] at hnr
    clear hbl
    refine Exists.elim (exEq (nxR b (.inr L))) (fun NX hNX => ?_)
    rw [← hNX] at f_e f_a f_g f_b hnx hnr
    clear hNX
    obtain ⟨r1, hr1⟩ : ∃ r1, RF S q2 8 0 0 [] 32768 = r1 := ⟨_, rfl⟩
    rw [hr1] at k3 k4 k5
    clear hRF hin g2 gf gi hgf hgi nx1 nx2 k0 k1 k2 hx2 hinn nxr
    refine Exists.elim (exEq (PZ [] S)) (fun L0 hL0 => ?_)
    have hrepS : vrep S 0 = L0 := by rw [qrep, hL0]; exact (pz_nil S).symm
    cbv
    rw [e00]
    cbv
    rw [htS, hrepS]
    refine ⟨⟨by omega⟩, ⟨by omega⟩, ⟨by first | omega | (simp only [nc]; omega)⟩, ⟨by show size * 1 ≤ 281474976710656; omega⟩, ?_⟩
    refine loop_fam (α := Int × Int × Int × Int × Int × Nat × Int × List Int) (([15, 16, 17, 18, 19, 20] ++ [57, 58, 59, 60, 61, 62, 63, 64, 65, 66, 67, 68, 69, 70, 71, 72, 73, 74, 75, 76, 77, 78, 79, 80, 81, 82, 83, 84, 85, 86]) ++ ([87, 88, 89, 90, 91, 92, 93, 94, 95, 96, 97, 98, 99, 100, 101, 102, 103, 104, 105, 106, 107, 108, 109, 110, 111, 112, 113, 114, 115, 116] ++ [117, 118, 119, 120, 121, 122, 123, 124, 125, 126, 127, 128, 129, 130, 131, 132, 133, 134, 135, 136, 137, 138, 139, 140, 141, 142, 143, 144, 145, 146, 147])) []
      (fun (at_, taken, last, row, kind, p, pI, LL) => [(10, .int .i64 at_), (11, .int .i64 taken), (12, .int .u8 last), (13, .int .i64 row), (14, .int .i64 kind)])
      (fun (at_, taken, last, row, kind, p, pI, LL) => [(0, .one 41 [.slice 1 .z 1 bl cap, .int .i64 pI]), (6, .ints 5 .u8 LL)])
      (fun (at_, taken, last, row, kind, p, pI, LL) => ∃ lens : List Int, at_ = (lens.length : Int) ∧ lens.length ≤ S ∧ LL = PZ lens S ∧ pI = p ∧ p ≤ 8 * bl ∧ 0 ≤ taken ∧ taken ≤ 16809984 ∧
        (((lens.length : Int) < size ∧ taken < 32768 ∧ (∃ k, RF k p last row kind lens (32768 - taken) = r1 ∧ S - lens.length ≤ k) ∧ 1 ≤ last ∧ last ≤ 15 ∧ (kind < 16 ∨ (3 ≤ row ∧ row ≤ (lens.length : Int)))) ∨
         (((lens.length : Int) = size ∨ 32768 ≤ taken) ∧ r1 = .ok ((lens, 32768 - taken), p))))
      (fun (at_, taken, last, row, kind, p, pI, LL) => S - at_.toNat) hw hm ?_ ?_
    · refine Cv.genAt [10, 11, 12, 13, 14] [0] (Cv.fold (([15, 16, 17, 18, 19, 20] ++ [57, 58, 59, 60, 61, 62, 63, 64, 65, 66, 67, 68, 69, 70, 71, 72, 73, 74, 75, 76, 77, 78, 79, 80, 81, 82, 83, 84, 85, 86]) ++ ([87, 88, 89, 90, 91, 92, 93, 94, 95, 96, 97, 98, 99, 100, 101, 102, 103, 104, 105, 106, 107, 108, 109, 110, 111, 112, 113, 114, 115, 116] ++ [117, 118, 119, 120, 121, 122, 123, 124, 125, 126, 127, 128, 129, 130, 131, 132, 133, 134, 135, 136, 137, 138, 139, 140, 141, 142, 143, 144, 145, 146, 147])) 7 [] (by exact Nat.le_refl _) (by exact Nat.le_of_ble_eq_true rfl) (by rfl) (by cbv) ?_)
      intro js
      refine ⟨(_, _, _, _, _, q2, _, _), ?_, js, rfl⟩
      exact ⟨[], rfl, Nat.zero_le _, hL0, hR2, hq28, by decide, by decide, .inl ⟨by show (0 : Int) < size; omega, by decide, ⟨S, hr1, Nat.le_refl _⟩, by decide, by decide, .inl (by decide)⟩⟩
    refine fam8 (fun at_ taken last row kind p pI LL => ?_)
    intro js hI0
    refine Exists.elim hI0 (fun lens hI0 => ?_)
    have hat := hI0.1
    have hlS := hI0.2.1
    have hLL := hI0.2.2.1
    have hpI := hI0.2.2.2.1
    have hp8 := hI0.2.2.2.2.1
    have htk0 := hI0.2.2.2.2.2.1
    have htk1 := hI0.2.2.2.2.2.2.1
    have hI := hI0.2.2.2.2.2.2.2
    clear hI0
    have hat : at_ = (lens.length : Int) := hat
    have hSs : (S : Int) = size := hSs
    have hnxp := hnx p pI hpI hp8
    have hta : vtoN at_ = lens.length := by rw [hat]; exact hto _
    by_cases hact : (lens.length : Int) < size ∧ taken < 32768
    rotate_left
    · have hr1' : r1 = .ok ((lens, 32768 - taken), p) := by
        rcases hI with h | h
        · exact absurd ⟨h.1, h.2.1⟩ hact
        · exact h.2
      have hex : (vc .lss at_ size = true ∧ vc .lss taken 32768 = false) ∨ vc .lss at_ size = false := by
        by_cases h : (lens.length : Int) < size
        · left; exact ⟨by rw [qc, lss_true, hat]; exact h, by rw [qc, lss_false]; intro h2; exact hact ⟨h, h2⟩⟩
        · right; rw [qc, lss_false, hat]; exact h
      have hLLl : LL.length = S := by rw [hLL]; exact pz_len hlS
      rcases hex with ⟨e1, e2⟩ | e1
      · cbv
        rw [e1]
        cbv
        rw [e2]
        cbv
        by_cases h32 : taken = 32768
        · have e2 : vc .neq taken 32768 = false := by rw [qc, neq_false]; exact fun h => h h32
          rw [h32] at hr1'
          have hk := k4 _ _ hr1'
          rw [← hLL] at hk
          have hlfC := hrd _ _ hk
          have hofL := hof LL S hlfC.2.2.2
          rw [hLLl] at hofL
          rw [e2]
          cbv
          refine call_con (ρ := [(6, .z)]) hofL ⟨by rfl, by rfl, by rfl, by cbv; exact ⟨view_refl _, trivial⟩⟩ ?_
          rintro v H R js5 ⟨rfl, rfl, rfl⟩
          generalize hW : WL LL = W
          cbv
          subst hW
          exact ⟨[0, 1, 6, 7], .tup [.agg [.slice 2 .z 1 S S, .slice 3 .z 1 S S, .int .i64 0], .lit .i64 0], [.one 41 [.slice 1 .z 1 bl cap, .int .i64 pI], .ro .u8 b, .ints 5 .u8 LL, .ints 116 .u16 (WL LL)], rfl, rfl, rfl, rfl, ⟨rfl, rfl, rfl, rfl, trivial⟩, rfl, p, pI, hpI, hp8, .inr (.inl ⟨LL, S, hk, by rw [hLLl]; rfl, rfl⟩)⟩
        · have e2 : vc .neq taken 32768 = true := by rw [qc, neq_true]; exact h32
          have hk := k5 _ _ _ hr1' (by omega)
          rw [e2]
          cbv
          exact ⟨[0, 1], .tup [.agg [.val (.slice none 0 0), .val (.slice none 0 0), .lit .i64 0], .lit .i64 11], [.one 41 [.slice 1 .z 1 bl cap, .int .i64 pI], .ro .u8 b], rfl, rfl, rfl, rfl, ⟨rfl, rfl, trivial⟩, rfl, p, pI, hpI, hp8, .inr (.inr ⟨11, hk, by decide, by decide, rfl, rfl⟩)⟩
      · cbv
        rw [e1]
        cbv
        by_cases h32 : taken = 32768
        · have e2 : vc .neq taken 32768 = false := by rw [qc, neq_false]; exact fun h => h h32
          rw [h32] at hr1'
          have hk := k4 _ _ hr1'
          rw [← hLL] at hk
          have hlfC := hrd _ _ hk
          have hofL := hof LL S hlfC.2.2.2
          rw [hLLl] at hofL
          rw [e2]
          cbv
          refine call_con (ρ := [(6, .z)]) hofL ⟨by rfl, by rfl, by rfl, by cbv; exact ⟨view_refl _, trivial⟩⟩ ?_
          rintro v H R js5 ⟨rfl, rfl, rfl⟩
          generalize hW : WL LL = W
          cbv
          subst hW
          exact ⟨[0, 1, 6, 7], .tup [.agg [.slice 2 .z 1 S S, .slice 3 .z 1 S S, .int .i64 0], .lit .i64 0], [.one 41 [.slice 1 .z 1 bl cap, .int .i64 pI], .ro .u8 b, .ints 5 .u8 LL, .ints 116 .u16 (WL LL)], rfl, rfl, rfl, rfl, ⟨rfl, rfl, rfl, rfl, trivial⟩, rfl, p, pI, hpI, hp8, .inr (.inl ⟨LL, S, hk, by rw [hLLl]; rfl, rfl⟩)⟩
        · have e2 : vc .neq taken 32768 = true := by rw [qc, neq_true]; exact h32
          have hk := k5 _ _ _ hr1' (by omega)
          rw [e2]
          cbv
          exact ⟨[0, 1], .tup [.agg [.val (.slice none 0 0), .val (.slice none 0 0), .lit .i64 0], .lit .i64 11], [.one 41 [.slice 1 .z 1 bl cap, .int .i64 pI], .ro .u8 b], rfl, rfl, rfl, rfl, ⟨rfl, rfl, trivial⟩, rfl, p, pI, hpI, hp8, .inr (.inr ⟨11, hk, by decide, by decide, rfl, rfl⟩)⟩
    have hAll : (lens.length : Int) < size ∧ taken < 32768 ∧ (∃ k, RF k p last row kind lens (32768 - taken) = r1 ∧ S - lens.length ≤ k) ∧ 1 ≤ last ∧ last ≤ 15 ∧ (kind < 16 ∨ (3 ≤ row ∧ row ≤ (lens.length : Int))) := by
      rcases hI with h | h
      · exact h
      · omega
    have hls := hAll.1
    have htk := hAll.2.1
    have hla1 := hAll.2.2.2.1
    have hla2 := hAll.2.2.2.2.1
    have hrow := hAll.2.2.2.2.2
    have hlS1 : lens.length < S := by omega
    have hk2 : ∃ k2, RF (k2 + 1) p last row kind lens (32768 - taken) = r1 ∧ S - lens.length ≤ k2 + 1 := by
      obtain ⟨k, h1, h2⟩ := hAll.2.2.1
      exact ⟨k - 1, by rw [show k - 1 + 1 = k by omega]; exact h1, by omega⟩
    refine Exists.elim hk2 (fun k2 hk2 => ?_)
    have hRFk := hk2.1
    have hkS := hk2.2
    clear hAll hk2 hI
    have el1 : vc .lss at_ size = true := by rw [qc, lss_true, hat]; exact hls
    have el2 : vc .lss taken 32768 = true := by rw [qc, lss_true]; exact htk
    refine Exists.elim (exEq (((lens.length + 1 : Nat) : Int) : Int)) (fun at1 hat1 => ?_)
    have eat1 : vb .add .i64 at_ 1 = at1 := by rw [qb, add_i64 (by omega) (by omega)]; omega
    have hmu1 : S - at1.toNat < S - at_.toNat := by omega
    have hlsN : (lens.length : Int) + 1 ≤ size := by omega
    have hatR : 0 ≤ at_ ∧ at_ < ((S : Nat) : Int) := by omega
    have hLLl : LL.length = S := by rw [hLL]; exact pz_len hlS
    cbv
    rw [el1]
    cbv
    rw [el2]
    cbv
    refine call_con (ρ := [(0, .z), (1, .z), (3, .z), (4, .z)]) hnxp ⟨by rfl, by rfl, by rfl, by cbv; exact ⟨view_refl _, view_refl _, view_refl _, trivial⟩⟩ ?_
    rintro v H R js3 ⟨rfl, q3, qI3, hq3, hq38, rfl, ⟨x, hgx, rfl⟩ | ⟨e, hge, he0, he1, rfl⟩⟩
    rotate_left
    · have hS1 := f_e k2 p last row kind lens (32768 - taken) e hge
      rw [hRFk] at hS1
      have hk := k3 _ hS1
      have ene : vc .neq e 0 = true := by rw [qc, neq_true]; omega
      cbv
      rw [ene]
      cbv
      exact ⟨[0, 1], .tup [.agg [.val (.slice none 0 0), .val (.slice none 0 0), .lit .i64 0], .int .i64 e], [.one 41 [.slice 1 .z 1 bl cap, .int .i64 qI3], .ro .u8 b], rfl, rfl, rfl, rfl, ⟨rfl, rfl, trivial⟩, rfl, q3, qI3, hq3, hq38, .inr (.inr ⟨e, hk, he0, he1, rfl, rfl⟩)⟩
    have hxr := hnr p x q3 hp8 hgx
    cbv
    rw [e00]
    cbv
    by_cases hx16 : x < 16
    · have e16 : vc .lss x 16 = true := by rw [qc, lss_true]; exact hx16
      have hN := f_a k2 p q3 last row kind lens (32768 - taken) x hgx hx16
      rw [hRFk] at hN
      have ewx : vw .u8 x = x := by rw [qw]; exact wrap_u8 (by omega) (by omega)
      have hset : vst LL lens.length x = PZ (lens ++ [x]) S := by rw [hst, hLL]; exact pz_set hlS1
      refine Exists.elim (exEq (PZ (lens ++ [x]) S)) (fun L2 hL2 => ?_)
      rw [← hL2] at hset
      have hvLL : vln LL = S := by rw [hlnq]; exact hLLl
      have hll1 : (lens ++ [x]).length = lens.length + 1 := by simp
      have hrep1 : lens ++ List.replicate (1 : Int).toNat x = lens ++ [x] := rfl
      rw [e16]
      cbv
      rw [ewx, hta, hset]
      refine ⟨⟨hatR⟩, ⟨by rw [hvLL]; exact hlS1⟩, ?_⟩
      by_cases hx0 : x > 0
      · have e0 : vc .gtr x 0 = true := by rw [qc, gtr_true]; exact hx0
        rw [if_pos hx0] at hN
        refine Exists.elim (exEq (15 - x : Int)) (fun d hd => ?_)
        have e15 : vb .sub .i64 15 x = d := by rw [qb, sub_i64 (by omega) (by omega)]; exact hd.symm
        have ewd : vw .u64 d = d := by rw [qw]; exact wrap_u64 (by omega) (by omega)
        have hpd := pw_d x hx0
        have hpu := pw_u x
        have hpp := pw_p x
        rw [← hd] at hpd
        refine Exists.elim (exEq (PW x)) (fun w1 hw1 => ?_)
        rw [← hw1] at hpd hpu hpp
        have esh : vb .shl .i64 1 d = w1 := by
          have hd2 : d = 0 ∨ d = 1 ∨ d = 2 ∨ d = 3 ∨ d = 4 ∨ d = 5 ∨ d = 6 ∨ d = 7 ∨ d = 8 ∨ d = 9 ∨ d = 10 ∨ d = 11 ∨ d = 12 ∨ d = 13 ∨ d = 14 := by omega
          rw [qb, hpd]
          rcases hd2 with rfl | rfl | rfl | rfl | rfl | rfl | rfl | rfl | rfl | rfl | rfl | rfl | rfl | rfl | rfl <;> decide
        refine Exists.elim (exEq (taken + w1)) (fun tk2 htk2 => ?_)
        have etk : vb .add .i64 taken w1 = tk2 := by rw [qb, add_i64 (by omega) (by omega)]; exact htk2.symm
        have hd0 : 0 ≤ d := by omega
        have hlf : 32768 - taken - 1 * PW x = 32768 - tk2 := by rw [← hw1, htk2]; omega
        have htk2r : 0 ≤ tk2 ∧ tk2 ≤ 16809984 := by omega
        have hdisj : (((lens ++ [x]).length : Int) < size ∧ tk2 < 32768 ∧ (∃ k, RF k q3 x row 0 (lens ++ [x]) (32768 - tk2) = r1 ∧ S - (lens ++ [x]).length ≤ k) ∧ 1 ≤ x ∧ x ≤ 15 ∧ ((0 : Int) < 16 ∨ (3 ≤ row ∧ row ≤ ((lens ++ [x]).length : Int)))) ∨
            ((((lens ++ [x]).length : Int) = size ∨ 32768 ≤ tk2) ∧ r1 = .ok ((lens ++ [x], 32768 - tk2), q3)) := by
          have hl2i : ((lens ++ [x]).length : Int) = (lens.length : Int) + 1 := by rw [hll1]; rfl
          rcases n_dj hN hlsN hrep1.symm hlf hl2i with ⟨h1, h2, h3⟩ | ⟨h1, h3⟩
          · exact .inl ⟨h1, h2, ⟨k2, h3, lp_k hkS hll1 (m := 1) rfl (by decide)⟩, by omega, by omega, .inl (by decide)⟩
          · exact .inr ⟨h1, h3⟩
        rw [e0]
        cbv
        rw [e15, ewd, esh, etk, ewx, eat1]
        refine ⟨⟨hd0⟩, ?_⟩
        refine Cv.genAt [14] [] (Cv.fold (([15, 16, 17, 18, 19, 20] ++ [57, 58, 59, 60, 61, 62, 63, 64, 65, 66, 67, 68, 69, 70, 71, 72, 73, 74, 75, 76, 77, 78, 79, 80, 81, 82, 83, 84, 85, 86]) ++ ([87, 88, 89, 90, 91, 92, 93, 94, 95, 96, 97, 98, 99, 100, 101, 102, 103, 104, 105, 106, 107, 108, 109, 110, 111, 112, 113, 114, 115, 116] ++ [117, 118, 119, 120, 121, 122, 123, 124, 125, 126, 127, 128, 129, 130, 131, 132, 133, 134, 135, 136, 137, 138, 139, 140, 141, 142, 143, 144, 145, 146, 147])) 7 [] (by exact Nat.le_refl _) (by exact Nat.le_of_ble_eq_true rfl) (by rfl) (by cbv) ?_)
        intro js
        refine ⟨(_, _, _, _, _, q3, _, _), ?_, js, rfl⟩
        exact ⟨⟨lens ++ [x], by rw [hll1]; exact hat1, by rw [hll1]; exact hlS1, hL2, hq3, hq38, htk2r.1, htk2r.2, hdisj⟩, hmu1⟩
      · have e0 : vc .gtr x 0 = false := by rw [qc, gtr_false]; exact hx0
        have hx00 : x = 0 := by omega
        rw [if_neg hx0] at hN
        refine Exists.elim (exEq (taken)) (fun tk2 htk2 => ?_)
        have hlf : 32768 - taken - 1 * PW x = 32768 - tk2 := by rw [hx00, pw_z, htk2]; omega
        have htk2r : 0 ≤ tk2 ∧ tk2 ≤ 16809984 := by omega
        have hdisj : (((lens ++ [x]).length : Int) < size ∧ tk2 < 32768 ∧ (∃ k, RF k q3 last row 0 (lens ++ [x]) (32768 - tk2) = r1 ∧ S - (lens ++ [x]).length ≤ k) ∧ 1 ≤ last ∧ last ≤ 15 ∧ ((0 : Int) < 16 ∨ (3 ≤ row ∧ row ≤ ((lens ++ [x]).length : Int)))) ∨
            ((((lens ++ [x]).length : Int) = size ∨ 32768 ≤ tk2) ∧ r1 = .ok ((lens ++ [x], 32768 - tk2), q3)) := by
          have hl2i : ((lens ++ [x]).length : Int) = (lens.length : Int) + 1 := by rw [hll1]; rfl
          rcases n_dj hN hlsN hrep1.symm hlf hl2i with ⟨h1, h2, h3⟩ | ⟨h1, h3⟩
          · exact .inl ⟨h1, h2, ⟨k2, h3, lp_k hkS hll1 (m := 1) rfl (by decide)⟩, by omega, by omega, .inl (by decide)⟩
          · exact .inr ⟨h1, h3⟩
        subst htk2
        rw [e0]
        cbv
        rw [eat1]
        refine Cv.genAt [14] [] (Cv.fold (([15, 16, 17, 18, 19, 20] ++ [57, 58, 59, 60, 61, 62, 63, 64, 65, 66, 67, 68, 69, 70, 71, 72, 73, 74, 75, 76, 77, 78, 79, 80, 81, 82, 83, 84, 85, 86]) ++ ([87, 88, 89, 90, 91, 92, 93, 94, 95, 96, 97, 98, 99, 100, 101, 102, 103, 104, 105, 106, 107, 108, 109, 110, 111, 112, 113, 114, 115, 116] ++ [117, 118, 119, 120, 121, 122, 123, 124, 125, 126, 127, 128, 129, 130, 131, 132, 133, 134, 135, 136, 137, 138, 139, 140, 141, 142, 143, 144, 145, 146, 147])) 7 [] (by exact Nat.le_refl _) (by exact Nat.le_of_ble_eq_true rfl) (by rfl) (by cbv) ?_)
        intro js
        refine ⟨(_, _, _, _, _, q3, _, _), ?_, js, rfl⟩
        exact ⟨⟨lens ++ [x], by rw [hll1]; exact hat1, by rw [hll1]; exact hlS1, hL2, hq3, hq38, htk0, htk1, hdisj⟩, hmu1⟩
    · have e16 : vc .lss x 16 = false := by rw [qc, lss_false]; exact hx16
      have hx2 : x = 16 ∨ x = 17 := by omega
      refine Exists.elim (exEq (x - 14 : Int)) (fun x14 hx14 => ?_)
      have e14 : vb .sub .i64 x 14 = x14 := by rw [qb, sub_i64 (by omega) (by omega)]; exact hx14.symm
      have hgg := gn (x - 14).toNat q3 qI3 x14 hq38 hq3 (by simp only [nc]; omega) (by omega)
      have hF := fun e => f_g k2 p q3 last row kind lens (32768 - taken) x e hgx hx16
      have hB := fun q2 n => f_b k2 p q3 q2 last row kind lens (32768 - taken) x n hgx hx16
      have hgR := fun nn q2 => hgn (x - 14).toNat q3 nn q2
      rw [hRFk] at hF hB
      refine Exists.elim (exEq ((x - 14).toNat)) (fun kN hkN => ?_)
      rw [← hkN] at hgg hF hB hgR
      have hkv : (kN = 2 ∧ x = 16) ∨ (kN = 3 ∧ x = 17) := by omega
      rw [e16]
      cbv
      rw [e14]
      refine call_con (ρ := [(0, .z), (1, .z)]) hgg ⟨by rfl, by rfl, by rfl, by cbv; exact ⟨view_refl _, trivial⟩⟩ ?_
      rintro v H R js4 ⟨rfl, q4, qI4, hq4, hq48, rfl, ⟨nn, hgq, rfl⟩ | ⟨e, hge, he0, he1, rfl⟩⟩
      rotate_left
      · have hk := k3 _ (hF e hge)
        have ene : vc .neq e 0 = true := by rw [qc, neq_true]; omega
        cbv
        rw [ene]
        cbv
        exact ⟨[0, 1], .tup [.agg [.val (.slice none 0 0), .val (.slice none 0 0), .lit .i64 0], .int .i64 e], [.one 41 [.slice 1 .z 1 bl cap, .int .i64 qI4], .ro .u8 b], rfl, rfl, rfl, rfl, ⟨rfl, rfl, trivial⟩, rfl, q4, qI4, hq4, hq48, .inr (.inr ⟨e, hk, he0, he1, rfl, rfl⟩)⟩
      have hnr2 := hgR nn q4 hgq
      have hN := hB q4 nn hgq
      have hp2 : 1 ≤ (2 : Int) ^ kN ∧ (2 : Int) ^ kN ≤ 8 ∧ nn < 8 := by
        have h7 := hnr2.2
        rcases hkv with ⟨h, _⟩ | ⟨h, _⟩ <;> rw [h] at h7 ⊢ <;> omega
      refine Exists.elim (exEq (3 + nn : Int)) (fun n3 hn3 => ?_)
      have ewn : vw .i64 nn = nn := by rw [qw]; exact wrap_i64 (by omega) (by omega)
      have en3 : vb .add .i64 3 nn = n3 := by rw [qb, add_i64 (by omega) (by omega)]; exact hn3.symm
      refine Exists.elim (exEq (if x = 16 then last else 0 : Int)) (fun lv hlv => ?_)
      have hlv16 : x = 16 → lv = last := fun h => by rw [hlv, if_pos h]
      have hlv17 : ¬ x = 16 → lv = 0 := fun h => by rw [hlv, if_neg h]
      rw [← hlv] at hN
      cbv
      rw [e00]
      cbv
      by_cases hkx : kind = x
      · have ekx : vc .eql kind x = true := by rw [qc, eql_true]; exact hkx
        rw [if_pos hkx, if_pos hkx, ← hn3] at hN
        have hrow : kind < 16 ∨ (3 ≤ row ∧ row ≤ (lens.length : Int)) := hrow
        have hrw : 3 ≤ row ∧ row ≤ (lens.length : Int) := by
          rcases hrow with h9 | h9
          · exact absurd (hkx ▸ h9) hx16
          · exact h9
        have hls3 : (lens.length : Int) ≤ 1024 := by
          have hls : (lens.length : Int) < size := hls
          omega
        refine Exists.elim (exEq (row - 2 : Int)) (fun ra hra => ?_)
        have era : vb .sub .i64 row 2 = ra := by rw [qb, sub_i64 (by omega) (by omega)]; exact hra.symm
        have ew14 : vw .u64 x14 = x14 := by rw [qw]; exact wrap_u64 (by omega) (by omega)
        refine Exists.elim (exEq (ra * 2 ^ kN : Int)) (fun rb hrb => ?_)
        have hrbr : rb = ra * 4 ∨ rb = ra * 8 := by
          rcases hkv with ⟨h, _⟩ | ⟨h, _⟩
          · left; rw [hrb, h]; rfl
          · right; rw [hrb, h]; rfl
        have erb : vb .shl .i64 ra x14 = rb := by
          rw [qb, hrb]
          show IntKind.i64.wrap (ra * 2 ^ (min x14.toNat IntKind.i64.bits)) = _
          rw [show min x14.toNat IntKind.i64.bits = kN by
            have hk3 : kN ≤ 3 := by omega
            rw [show x14.toNat = kN by omega]; exact Nat.min_eq_left (Nat.le_trans hk3 (by decide))]
          rw [← hrb]
          exact wrap_i64 (by omega) (by omega)
        refine Exists.elim (exEq (rb + n3 : Int)) (fun row2 hrow2 => ?_)
        have erow : vb .add .i64 rb n3 = row2 := by rw [qb, add_i64 (by omega) (by omega)]; exact hrow2.symm
        refine Exists.elim (exEq (row2 - row : Int)) (fun m hm4 => ?_)
        rw [← hra, ← hrb, ← hrow2, ← hm4] at hN
        have hx140 : 0 ≤ x14 := by omega
        have hm1 : 1 ≤ m ∧ m ≤ 100000 := by omega
        have hrow3 : 3 ≤ row2 ∧ row2 ≤ 100000 := by omega
        have hrowX : 3 ≤ row2 ∧ row2 ≤ (lens.length : Int) + m := by omega
        refine Exists.elim (exEq (row : Int)) (fun was hwas => ?_)
        have hwm : was + m = row2 := by omega
        have hwas0 : 0 ≤ was ∧ was ≤ 1024 := by omega
        rw [ekx]
        cbv
        rw [ewn, era, ew14, erb, en3, erow]
        refine ⟨⟨hx140⟩, ?_⟩
        rw [← hwas]
        refine Exists.elim (exEq (at_ + row2 : Int)) (fun s2 hs2 => ?_)
        have hatb : 0 ≤ at_ ∧ at_ ≤ 1024 := by
          have hat : at_ = (lens.length : Int) := hat
          have hls : (lens.length : Int) < size := hls
          omega
        have ea1 : vb .add .i64 at_ row2 = s2 := by rw [qb, add_i64 (by omega) (by omega)]; exact hs2.symm
        refine Exists.elim (exEq (at_ + m : Int)) (fun s3 hs3 => ?_)
        have ea2 : vb .sub .i64 s2 was = s3 := by rw [qb, sub_i64 (by omega) (by omega)]; omega
        rw [ea1, ea2]
        by_cases hfit : (lens.length : Int) + m ≤ size
        rotate_left
        · have hS1 : r1 = .error 11 := by rw [hN]; exact n_pan hfit
          have hk := k3 _ hS1
          have egt : vc .gtr s3 size = true := by
            have hat : at_ = (lens.length : Int) := hat
            rw [qc, gtr_true, hs3, hat]; omega
          rw [egt]
          cbv
          exact ⟨[0, 1], .tup [.agg [.val (.slice none 0 0), .val (.slice none 0 0), .lit .i64 0], .lit .i64 11], [.one 41 [.slice 1 .z 1 bl cap, .int .i64 qI4], .ro .u8 b], rfl, rfl, rfl, rfl, ⟨rfl, rfl, trivial⟩, rfl, q4, qI4, hq4, hq48, .inr (.inr ⟨11, hk, by decide, by decide, rfl, rfl⟩)⟩
        have egt : vc .gtr s3 size = false := by
          have hat : at_ = (lens.length : Int) := hat
          rw [qc, gtr_false, hs3, hat]; omega
        have hpu := pw_u lv
        have hpp := pw_p lv
        refine Exists.elim (⟨m.toNat, by omega⟩ : ∃ mN : Nat, (mN : Int) = m) (fun mN hmN => ?_)
        have hmt : m.toNat = mN := by omega
        have hfitN : lens.length + mN ≤ S := by
          have hSs : (S : Int) = size := hSs
          have hmN : (mN : Int) = m := hmN
          omega
        rw [egt]
        cbv
        refine loop_fam (α := Int × Int × Int × List Int) ([129, 130, 131, 132, 133, 134, 135, 136, 137, 138, 139, 140, 141, 142, 143, 144, 145, 146, 147]) []
          (fun (i, at2, tk2, LL) => [(20, .int .i64 i), (10, .int .i64 at2), (11, .int .i64 tk2)])
          (fun (i, at2, tk2, LL) => [(6, .ints 5 .u8 LL)])
          (fun (i, at2, tk2, LL) => ∃ t : Nat, i = was + t ∧ t ≤ mN ∧ at2 = ((lens.length + t : Nat) : Int) ∧ tk2 = taken + t * PW lv ∧ LL = PZ (lens ++ List.replicate t lv) S)
          (fun (i, at2, tk2, LL) => mN - (i - was).toNat) hw hm ?_ ?_
        · refine Cv.genAt [20] [] (Cv.fold ([129, 130, 131, 132, 133, 134, 135, 136, 137, 138, 139, 140, 141, 142, 143, 144, 145, 146, 147]) 7 [] (by exact Nat.le_refl _) (by exact Nat.le_of_ble_eq_true rfl) (by rfl) (by cbv) ?_)
          intro js
          refine ⟨(_, _, _, _), ?_, js, rfl⟩
          exact ⟨0, by rw [hwas]; simp, Nat.zero_le _, hat, by simp, by simpa using hLL⟩
        refine fam4 (fun i at2 tk2 LL2 => ?_)
        intro js6 hI0
        refine Exists.elim hI0 (fun t hI0 => ?_)
        have hi := hI0.1
        have ht := hI0.2.1
        have hat2 := hI0.2.2.1
        have htk2 := hI0.2.2.2.1
        have hLL2 := hI0.2.2.2.2
        clear hI0
        have hi : i = was + (t : Int) := hi
        have hmN : (mN : Int) = m := hmN
        have hSs : (S : Int) = size := hSs
        have hat2 : at2 = ((lens.length + t : Nat) : Int) := hat2
        have hta2 : vtoN at2 = lens.length + t := by rw [hat2]; exact hto _
        have hlt1 : (lens ++ List.replicate t lv).length = lens.length + t := by simp
        have hLL2l : LL2.length = S := by rw [hLL2]; exact pz_len (by rw [hlt1]; omega)
        have hvL2 : vln LL2 = S := by rw [hlnq]; exact hLL2l
        have hc1 : t < mN → vc .lss i row2 = true := fun h => by rw [qc, lss_true]; omega
        have hc2 : ¬ t < mN → vc .lss i row2 = false := fun h => by rw [qc, lss_false]; omega
        refine Exists.elim (exEq (was + ((t + 1 : Nat) : Int) : Int)) (fun i1 hi1 => ?_)
        have ei1 : vb .add .i64 i 1 = i1 := by rw [qb, add_i64 (by omega) (by omega)]; omega
        refine Exists.elim (exEq (((lens.length + (t + 1) : Nat) : Int) : Int)) (fun at3 hat3 => ?_)
        have eat3 : vb .add .i64 at2 1 = at3 := by rw [qb, add_i64 (by omega) (by omega)]; omega
        have hmu2 : t < mN → mN - (i1 - was).toNat < mN - (i - was).toNat := fun h => lp_mu hi hi1 h
        have hatR2 : t < mN → 0 ≤ at2 ∧ at2 < ((S : Nat) : Int) := fun h => lp_at hat2 hfitN h
        have hltS : t < mN → (lens ++ List.replicate t lv).length < S := fun h => by rw [hlt1]; exact Nat.lt_of_lt_of_le (Nat.add_lt_add_left h _) hfitN
        have htkr : 0 ≤ tk2 ∧ tk2 ≤ 16809984 := lp_P ⟨hpp, hpu⟩ ht hfitN hSs hs.2 htk2 htk0 htk
        have hatM : ¬ t < mN → at2 = ((lens.length + mN : Nat) : Int) := fun h => by rw [hat2, show t = mN from Nat.le_antisymm ht (Nat.le_of_not_lt h)]
        have hmuM : ¬ t < mN → S - at2.toNat < S - at_.toNat := fun h => lp_muM hat hat2 hmN hm1.1 hfitN ht h
        cbv
        by_cases hlt : t < mN
        · have hmu2 := hmu2 hlt
          have hatR2 := hatR2 hlt
          have hltS := hltS hlt
          have hstep : lens ++ List.replicate t lv ++ [lv] = lens ++ List.replicate (t + 1) lv := by rw [List.append_assoc, ← List.replicate_succ']
          rw [hc1 hlt]
          cbv
          by_cases hx6 : x = 16
          · have e6 : vc .eql x 16 = true := by rw [qc, eql_true]; exact hx6
            have hlvl := hlv16 hx6
            refine Exists.elim (exEq (PZ (lens ++ List.replicate (t + 1) lv) S)) (fun L3 hL3 => ?_)
            have hset : vst LL2 (lens.length + t) last = L3 := by rw [hst, hLL2, hL3, ← hstep, ← hlvl, ← pz_set hltS, hlt1]
            refine Exists.elim (exEq (15 - last : Int)) (fun d hd => ?_)
            have e15 : vb .sub .u8 15 last = d := by rw [qb, hd]; exact wrap_u8 (by omega) (by omega)
            have ewd : vw .u64 d = d := by rw [qw]; exact wrap_u64 (by omega) (by omega)
            have hpd := pw_d last (by omega)
            rw [← hd] at hpd
            refine Exists.elim (exEq (PW last)) (fun w1 hw1 => ?_)
            have hw1r : 0 ≤ w1 ∧ w1 ≤ 16384 := by rw [hw1]; exact ⟨pw_p _, pw_u _⟩
            rw [← hw1] at hpd
            have esh : vb .shl .i64 1 d = w1 := by
              have hd2 : d = 0 ∨ d = 1 ∨ d = 2 ∨ d = 3 ∨ d = 4 ∨ d = 5 ∨ d = 6 ∨ d = 7 ∨ d = 8 ∨ d = 9 ∨ d = 10 ∨ d = 11 ∨ d = 12 ∨ d = 13 ∨ d = 14 := by omega
              rw [qb, hpd]
              rcases hd2 with rfl | rfl | rfl | rfl | rfl | rfl | rfl | rfl | rfl | rfl | rfl | rfl | rfl | rfl | rfl <;> decide
            refine Exists.elim (exEq (tk2 + w1)) (fun tk3 htk3 => ?_)
            have etk : vb .add .i64 tk2 w1 = tk3 := by rw [qb, add_i64 (by omega) (by omega)]; exact htk3.symm
            have htk3e : tk3 = taken + ((t + 1 : Nat) : Int) * PW lv := by
              rw [htk3, hw1, ← hlvl]; exact lp_tk (w1 := 0) (lv := 0) htk2
            have hd0 : 0 ≤ d := by omega
            refine Exists.elim (exEq (lens.length + t)) (fun atN hatN => ?_)
            have hatNS : atN < S := by rw [hatN, ← hlt1]; exact hltS
            rw [← hatN] at hta2 hset
            rw [e6]
            cbv
            rw [hta2, hset, e15, ewd, esh, etk, eat3, ei1]
            refine ⟨⟨hatR2⟩, ⟨by rw [hvL2]; exact hatNS⟩, ⟨hd0⟩, ?_⟩
            refine Cv.fold ([129, 130, 131, 132, 133, 134, 135, 136, 137, 138, 139, 140, 141, 142, 143, 144, 145, 146, 147]) 7 [] (by exact Nat.le_refl _) (by exact Nat.le_of_ble_eq_true rfl) (by rfl) (by cbv) ?_
            intro js
            refine ⟨(_, _, _, _), ?_, js, rfl⟩
            exact ⟨⟨t + 1, hi1, hlt, hat3, htk3e, hL3⟩, hmu2⟩
          · have e6 : vc .eql x 16 = false := by rw [qc, eql_false]; exact hx6
            have hlvl := hlv17 hx6
            have hLL3 : LL2 = PZ (lens ++ List.replicate (t + 1) lv) S := by rw [hLL2, ← hstep, hlvl]; rw [hlvl] at hltS; exact (pz_zero hltS).symm
            have htk3e : tk2 = taken + ((t + 1 : Nat) : Int) * PW lv := by rw [htk2, hlvl, pw_z, Int.mul_zero, Int.mul_zero]
            rw [e6]
            cbv
            rw [eat3, ei1]
            refine Cv.fold ([129, 130, 131, 132, 133, 134, 135, 136, 137, 138, 139, 140, 141, 142, 143, 144, 145, 146, 147]) 7 [] (by exact Nat.le_refl _) (by exact Nat.le_of_ble_eq_true rfl) (by rfl) (by cbv) ?_
            intro js
            refine ⟨(_, _, _, _), ?_, js, rfl⟩
            exact ⟨⟨t + 1, hi1, hlt, hat3, htk3e, hLL3⟩, hmu2⟩
        · have htm : t = mN := by omega
          have hatM := hatM hlt
          have hmuM := hmuM hlt
          refine Exists.elim (exEq (lens ++ List.replicate m.toNat lv)) (fun lens2 hlens2 => ?_)
          have hl2e : lens ++ List.replicate t lv = lens2 := by rw [hlens2, hmt, htm]
          have hl2l : lens2.length = lens.length + mN := by rw [hlens2, hmt]; simp
          have hlf : 32768 - taken - m * PW lv = 32768 - tk2 := by rw [htk2, htm, ← Int.sub_sub]; rw [← hmN]
          have hdisj : ((lens2.length : Int) < size ∧ tk2 < 32768 ∧ (∃ k, RF k q4 last row2 x lens2 (32768 - tk2) = r1 ∧ S - lens2.length ≤ k) ∧ 1 ≤ last ∧ last ≤ 15 ∧ (x < 16 ∨ (3 ≤ row2 ∧ row2 ≤ (lens2.length : Int)))) ∨
              (((lens2.length : Int) = size ∨ 32768 ≤ tk2) ∧ r1 = .ok ((lens2, 32768 - tk2), q4)) := by
            have hl2i : (lens2.length : Int) = (lens.length : Int) + m := lp_len hl2l hmN
            rcases n_dj hN hfit hlens2 hlf hl2i with ⟨h1, h2, h3⟩ | ⟨h1, h3⟩
            · exact .inl ⟨h1, h2, ⟨k2, h3, lp_k hkS hl2l hmN hm1.1⟩, hla1, hla2, .inr ⟨hrowX.1, by rw [hl2i]; exact hrowX.2⟩⟩
            · exact .inr ⟨h1, h3⟩
          have hl2S : lens2.length ≤ S := by rw [hl2l]; exact hfitN
          rw [hl2e] at hLL2
          rw [← hl2l] at hatM
          rw [hc2 hlt]
          cbv
          refine Cv.fold (([15, 16, 17, 18, 19, 20] ++ [57, 58, 59, 60, 61, 62, 63, 64, 65, 66, 67, 68, 69, 70, 71, 72, 73, 74, 75, 76, 77, 78, 79, 80, 81, 82, 83, 84, 85, 86]) ++ ([87, 88, 89, 90, 91, 92, 93, 94, 95, 96, 97, 98, 99, 100, 101, 102, 103, 104, 105, 106, 107, 108, 109, 110, 111, 112, 113, 114, 115, 116] ++ [117, 118, 119, 120, 121, 122, 123, 124, 125, 126, 127, 128, 129, 130, 131, 132, 133, 134, 135, 136, 137, 138, 139, 140, 141, 142, 143, 144, 145, 146, 147])) 7 [] (by exact Nat.le_refl _) (by exact Nat.le_of_ble_eq_true rfl) (by rfl) (by cbv) ?_
          intro js
          refine ⟨(_, _, _, _, _, q4, _, _), ?_, js, rfl⟩
          exact ⟨⟨lens2, hatM, hl2S, hLL2, hq4, hq48, htkr.1, htkr.2, hdisj⟩, hmuM⟩
      · have ekx : vc .eql kind x = false := by rw [qc, eql_false]; exact hkx
        rw [if_neg hkx, if_neg hkx, Int.zero_add, Int.sub_zero, ← hn3] at hN
        refine Exists.elim (exEq (n3 : Int)) (fun row2 hrow2 => ?_)
        refine Exists.elim (exEq (n3 : Int)) (fun m hm4 => ?_)
        have erow : vb .add .i64 0 n3 = row2 := by rw [qb, add_i64 (by omega) (by omega)]; omega
        have hNX : r1 = ND size (RF k2) q4 last row2 x lens (32768 - taken) lv m := by rw [hrow2, hm4]; exact hN
        have hN := hNX
        have hm1 : 1 ≤ m ∧ m ≤ 100000 := by omega
        have hrow3 : 3 ≤ row2 ∧ row2 ≤ 100000 := by omega
        have hrowX : 3 ≤ row2 ∧ row2 ≤ (lens.length : Int) + m := by omega
        refine Exists.elim (exEq (0 : Int)) (fun was hwas => ?_)
        have hwm : was + m = row2 := by omega
        have hwas0 : 0 ≤ was ∧ was ≤ 1024 := by omega
        rw [ekx]
        cbv
        rw [ewn, en3, erow]
        refine Exists.elim (exEq (at_ + row2 : Int)) (fun s2 hs2 => ?_)
        have hatb : 0 ≤ at_ ∧ at_ ≤ 1024 := by
          have hat : at_ = (lens.length : Int) := hat
          have hls : (lens.length : Int) < size := hls
          omega
        have ea1 : vb .add .i64 at_ row2 = s2 := by rw [qb, add_i64 (by omega) (by omega)]; exact hs2.symm
        refine Exists.elim (exEq (at_ + m : Int)) (fun s3 hs3 => ?_)
        have ea2 : vb .sub .i64 s2 0 = s3 := by rw [qb, sub_i64 (by omega) (by omega)]; omega
        rw [ea1, ea2]
        by_cases hfit : (lens.length : Int) + m ≤ size
        rotate_left
        · have hS1 : r1 = .error 11 := by rw [hN]; exact n_pan hfit
          have hk := k3 _ hS1
          have egt : vc .gtr s3 size = true := by
            have hat : at_ = (lens.length : Int) := hat
            rw [qc, gtr_true, hs3, hat]; omega
          rw [egt]
          cbv
          exact ⟨[0, 1], .tup [.agg [.val (.slice none 0 0), .val (.slice none 0 0), .lit .i64 0], .lit .i64 11], [.one 41 [.slice 1 .z 1 bl cap, .int .i64 qI4], .ro .u8 b], rfl, rfl, rfl, rfl, ⟨rfl, rfl, trivial⟩, rfl, q4, qI4, hq4, hq48, .inr (.inr ⟨11, hk, by decide, by decide, rfl, rfl⟩)⟩
        have egt : vc .gtr s3 size = false := by
          have hat : at_ = (lens.length : Int) := hat
          rw [qc, gtr_false, hs3, hat]; omega
        have hpu := pw_u lv
        have hpp := pw_p lv
        refine Exists.elim (⟨m.toNat, by omega⟩ : ∃ mN : Nat, (mN : Int) = m) (fun mN hmN => ?_)
        have hmt : m.toNat = mN := by omega
        have hfitN : lens.length + mN ≤ S := by
          have hSs : (S : Int) = size := hSs
          have hmN : (mN : Int) = m := hmN
          omega
        rw [egt]
        cbv
        refine loop_fam (α := Int × Int × Int × List Int) ([129, 130, 131, 132, 133, 134, 135, 136, 137, 138, 139, 140, 141, 142, 143, 144, 145, 146, 147]) []
          (fun (i, at2, tk2, LL) => [(20, .int .i64 i), (10, .int .i64 at2), (11, .int .i64 tk2)])
          (fun (i, at2, tk2, LL) => [(6, .ints 5 .u8 LL)])
          (fun (i, at2, tk2, LL) => ∃ t : Nat, i = was + t ∧ t ≤ mN ∧ at2 = ((lens.length + t : Nat) : Int) ∧ tk2 = taken + t * PW lv ∧ LL = PZ (lens ++ List.replicate t lv) S)
          (fun (i, at2, tk2, LL) => mN - (i - was).toNat) hw hm ?_ ?_
        · refine Cv.genAt [20] [] (Cv.fold ([129, 130, 131, 132, 133, 134, 135, 136, 137, 138, 139, 140, 141, 142, 143, 144, 145, 146, 147]) 7 [] (by exact Nat.le_refl _) (by exact Nat.le_of_ble_eq_true rfl) (by rfl) (by cbv) ?_)
          intro js
          refine ⟨(_, _, _, _), ?_, js, rfl⟩
          exact ⟨0, by rw [hwas]; simp, Nat.zero_le _, hat, by simp, by simpa using hLL⟩
        refine fam4 (fun i at2 tk2 LL2 => ?_)
        intro js6 hI0
        refine Exists.elim hI0 (fun t hI0 => ?_)
        have hi := hI0.1
        have ht := hI0.2.1
        have hat2 := hI0.2.2.1
        have htk2 := hI0.2.2.2.1
        have hLL2 := hI0.2.2.2.2
        clear hI0
        have hi : i = was + (t : Int) := hi
        have hmN : (mN : Int) = m := hmN
        have hSs : (S : Int) = size := hSs
        have hat2 : at2 = ((lens.length + t : Nat) : Int) := hat2
        have hta2 : vtoN at2 = lens.length + t := by rw [hat2]; exact hto _
        have hlt1 : (lens ++ List.replicate t lv).length = lens.length + t := by simp
        have hLL2l : LL2.length = S := by rw [hLL2]; exact pz_len (by rw [hlt1]; omega)
        have hvL2 : vln LL2 = S := by rw [hlnq]; exact hLL2l
        have hc1 : t < mN → vc .lss i row2 = true := fun h => by rw [qc, lss_true]; omega
        have hc2 : ¬ t < mN → vc .lss i row2 = false := fun h => by rw [qc, lss_false]; omega
        refine Exists.elim (exEq (was + ((t + 1 : Nat) : Int) : Int)) (fun i1 hi1 => ?_)
        have ei1 : vb .add .i64 i 1 = i1 := by rw [qb, add_i64 (by omega) (by omega)]; omega
        refine Exists.elim (exEq (((lens.length + (t + 1) : Nat) : Int) : Int)) (fun at3 hat3 => ?_)
        have eat3 : vb .add .i64 at2 1 = at3 := by rw [qb, add_i64 (by omega) (by omega)]; omega
        have hmu2 : t < mN → mN - (i1 - was).toNat < mN - (i - was).toNat := fun h => lp_mu hi hi1 h
        have hatR2 : t < mN → 0 ≤ at2 ∧ at2 < ((S : Nat) : Int) := fun h => lp_at hat2 hfitN h
        have hltS : t < mN → (lens ++ List.replicate t lv).length < S := fun h => by rw [hlt1]; exact Nat.lt_of_lt_of_le (Nat.add_lt_add_left h _) hfitN
        have htkr : 0 ≤ tk2 ∧ tk2 ≤ 16809984 := lp_P ⟨hpp, hpu⟩ ht hfitN hSs hs.2 htk2 htk0 htk
        have hatM : ¬ t < mN → at2 = ((lens.length + mN : Nat) : Int) := fun h => by rw [hat2, show t = mN from Nat.le_antisymm ht (Nat.le_of_not_lt h)]
        have hmuM : ¬ t < mN → S - at2.toNat < S - at_.toNat := fun h => lp_muM hat hat2 hmN hm1.1 hfitN ht h
        cbv
        by_cases hlt : t < mN
        · have hmu2 := hmu2 hlt
          have hatR2 := hatR2 hlt
          have hltS := hltS hlt
          have hstep : lens ++ List.replicate t lv ++ [lv] = lens ++ List.replicate (t + 1) lv := by rw [List.append_assoc, ← List.replicate_succ']
          rw [hc1 hlt]
          cbv
          by_cases hx6 : x = 16
          · have e6 : vc .eql x 16 = true := by rw [qc, eql_true]; exact hx6
            have hlvl := hlv16 hx6
            refine Exists.elim (exEq (PZ (lens ++ List.replicate (t + 1) lv) S)) (fun L3 hL3 => ?_)
            have hset : vst LL2 (lens.length + t) last = L3 := by rw [hst, hLL2, hL3, ← hstep, ← hlvl, ← pz_set hltS, hlt1]
            refine Exists.elim (exEq (15 - last : Int)) (fun d hd => ?_)
            have e15 : vb .sub .u8 15 last = d := by rw [qb, hd]; exact wrap_u8 (by omega) (by omega)
            have ewd : vw .u64 d = d := by rw [qw]; exact wrap_u64 (by omega) (by omega)
            have hpd := pw_d last (by omega)
            rw [← hd] at hpd
            refine Exists.elim (exEq (PW last)) (fun w1 hw1 => ?_)
            have hw1r : 0 ≤ w1 ∧ w1 ≤ 16384 := by rw [hw1]; exact ⟨pw_p _, pw_u _⟩
            rw [← hw1] at hpd
            have esh : vb .shl .i64 1 d = w1 := by
              have hd2 : d = 0 ∨ d = 1 ∨ d = 2 ∨ d = 3 ∨ d = 4 ∨ d = 5 ∨ d = 6 ∨ d = 7 ∨ d = 8 ∨ d = 9 ∨ d = 10 ∨ d = 11 ∨ d = 12 ∨ d = 13 ∨ d = 14 := by omega
              rw [qb, hpd]
              rcases hd2 with rfl | rfl | rfl | rfl | rfl | rfl | rfl | rfl | rfl | rfl | rfl | rfl | rfl | rfl | rfl <;> decide
            refine Exists.elim (exEq (tk2 + w1)) (fun tk3 htk3 => ?_)
            have etk : vb .add .i64 tk2 w1 = tk3 := by rw [qb, add_i64 (by omega) (by omega)]; exact htk3.symm
            have htk3e : tk3 = taken + ((t + 1 : Nat) : Int) * PW lv := by
              rw [htk3, hw1, ← hlvl]; exact lp_tk (w1 := 0) (lv := 0) htk2
            have hd0 : 0 ≤ d := by omega
            refine Exists.elim (exEq (lens.length + t)) (fun atN hatN => ?_)
            have hatNS : atN < S := by rw [hatN, ← hlt1]; exact hltS
            rw [← hatN] at hta2 hset
            rw [e6]
            cbv
            rw [hta2, hset, e15, ewd, esh, etk, eat3, ei1]
            refine ⟨⟨hatR2⟩, ⟨by rw [hvL2]; exact hatNS⟩, ⟨hd0⟩, ?_⟩
            refine Cv.fold ([129, 130, 131, 132, 133, 134, 135, 136, 137, 138, 139, 140, 141, 142, 143, 144, 145, 146, 147]) 7 [] (by exact Nat.le_refl _) (by exact Nat.le_of_ble_eq_true rfl) (by rfl) (by cbv) ?_
            intro js
            refine ⟨(_, _, _, _), ?_, js, rfl⟩
            exact ⟨⟨t + 1, hi1, hlt, hat3, htk3e, hL3⟩, hmu2⟩
          · have e6 : vc .eql x 16 = false := by rw [qc, eql_false]; exact hx6
            have hlvl := hlv17 hx6
            have hLL3 : LL2 = PZ (lens ++ List.replicate (t + 1) lv) S := by rw [hLL2, ← hstep, hlvl]; rw [hlvl] at hltS; exact (pz_zero hltS).symm
            have htk3e : tk2 = taken + ((t + 1 : Nat) : Int) * PW lv := by rw [htk2, hlvl, pw_z, Int.mul_zero, Int.mul_zero]
            rw [e6]
            cbv
            rw [eat3, ei1]
            refine Cv.fold ([129, 130, 131, 132, 133, 134, 135, 136, 137, 138, 139, 140, 141, 142, 143, 144, 145, 146, 147]) 7 [] (by exact Nat.le_refl _) (by exact Nat.le_of_ble_eq_true rfl) (by rfl) (by cbv) ?_
            intro js
            refine ⟨(_, _, _, _), ?_, js, rfl⟩
            exact ⟨⟨t + 1, hi1, hlt, hat3, htk3e, hLL3⟩, hmu2⟩
        · have htm : t = mN := by omega
          have hatM := hatM hlt
          have hmuM := hmuM hlt
          refine Exists.elim (exEq (lens ++ List.replicate m.toNat lv)) (fun lens2 hlens2 => ?_)
          have hl2e : lens ++ List.replicate t lv = lens2 := by rw [hlens2, hmt, htm]
          have hl2l : lens2.length = lens.length + mN := by rw [hlens2, hmt]; simp
          have hlf : 32768 - taken - m * PW lv = 32768 - tk2 := by rw [htk2, htm, ← Int.sub_sub]; rw [← hmN]
          have hdisj : ((lens2.length : Int) < size ∧ tk2 < 32768 ∧ (∃ k, RF k q4 last row2 x lens2 (32768 - tk2) = r1 ∧ S - lens2.length ≤ k) ∧ 1 ≤ last ∧ last ≤ 15 ∧ (x < 16 ∨ (3 ≤ row2 ∧ row2 ≤ (lens2.length : Int)))) ∨
              (((lens2.length : Int) = size ∨ 32768 ≤ tk2) ∧ r1 = .ok ((lens2, 32768 - tk2), q4)) := by
            have hl2i : (lens2.length : Int) = (lens.length : Int) + m := lp_len hl2l hmN
            rcases n_dj hN hfit hlens2 hlf hl2i with ⟨h1, h2, h3⟩ | ⟨h1, h3⟩
            · exact .inl ⟨h1, h2, ⟨k2, h3, lp_k hkS hl2l hmN hm1.1⟩, hla1, hla2, .inr ⟨hrowX.1, by rw [hl2i]; exact hrowX.2⟩⟩
            · exact .inr ⟨h1, h3⟩
          have hl2S : lens2.length ≤ S := by rw [hl2l]; exact hfitN
          rw [hl2e] at hLL2
          rw [← hl2l] at hatM
          rw [hc2 hlt]
          cbv
          refine Cv.fold (([15, 16, 17, 18, 19, 20] ++ [57, 58, 59, 60, 61, 62, 63, 64, 65, 66, 67, 68, 69, 70, 71, 72, 73, 74, 75, 76, 77, 78, 79, 80, 81, 82, 83, 84, 85, 86]) ++ ([87, 88, 89, 90, 91, 92, 93, 94, 95, 96, 97, 98, 99, 100, 101, 102, 103, 104, 105, 106, 107, 108, 109, 110, 111, 112, 113, 114, 115, 116] ++ [117, 118, 119, 120, 121, 122, 123, 124, 125, 126, 127, 128, 129, 130, 131, 132, 133, 134, 135, 136, 137, 138, 139, 140, 141, 142, 143, 144, 145, 146, 147])) 7 [] (by exact Nat.le_refl _) (by exact Nat.le_of_ble_eq_true rfl) (by rfl) (by cbv) ?_
          intro js
          refine ⟨(_, _, _, _, _, q4, _, _), ?_, js, rfl⟩
          exact ⟨⟨lens2, hatM, hl2S, hLL2, hq4, hq48, htkr.1, htkr.2, hdisj⟩, hmuM⟩
  · have hk := k2 x q e hg hx1 hf
    have ene : vc .neq e 0 = true := by rw [qc, neq_true]; omega
    cbv
    rw [ene]
    cbv
    exact ⟨[0, 1], .tup [.agg [.val (.slice none 0 0), .val (.slice none 0 0), .lit .i64 0], .int .i64 e], [.one 41 [.slice 1 .z 1 bl cap, .int .i64 qI2], .ro .u8 b], rfl, rfl, rfl, rfl, ⟨rfl, rfl, trivial⟩, rfl, q2, qI2, hq2, hq28, .inr (.inr ⟨e, hk, he0, he1, rfl, rfl⟩)⟩
end Go.Proofs.Ytkkddgdcmdnnmaa
namespace Go.Proofs.Ytkkddgdcmdnnmaa
open Go Go.Sx Go.Proofs
/-! symbols.Next, balerlaw19.same, Left. -/
set_option maxRecDepth 10000
set_option maxHeartbeats 4000000
theorem symnext_one (b : List Int) (bl cap : Nat) (acc hv ai one : Int) :
    Con Try.prog 8 [.ptr 0 .z 4 0, .agg [.val (.slice none 0 0), .int .i64 one]] [(.one 81 [.fn 39 [.ptr 1 .z 1 0, .ptr 2 .z 1 0], .int .u64 acc, .int .i64 hv, .fn 40 [.ptr 2 .z 1 0, .ptr 1 .z 1 0]]), .one 3 [.int .i64 ai], .one 22 [.slice 3 .z 1 bl cap], .ro .u8 b] (fun v H R => v = .tup [.int .i64 one, .int .i64 0] ∧ R = [] ∧ H = [(.one 81 [.fn 39 [.ptr 1 .z 1 0, .ptr 2 .z 1 0], .int .u64 acc, .int .i64 hv, .fn 40 [.ptr 2 .z 1 0, .ptr 1 .z 1 0]]), .one 3 [.int .i64 ai], .one 22 [.slice 3 .z 1 bl cap], .ro .u8 b]) := by
  refine con_gen (con_cut 4 (by simp) (con_drop (con_walk hmix fn8 ?_)))
  intro vb vc vw vtoN vofN vaddN vsubN vmaxI vminI vcutN vgd vst vln vrep vsub vonto vsplice vstrEq vbyteV vnotB veqB hw qb qc qw qtoN qofN qaddN qsubN qmaxI qminI qcutN qgd qst qln qrep qsub qonto qsplice qstrEq qbyteV qnotB qeqB
  have hm := hmix; generalize Try.prog = P at *
  cbv
theorem symnext_len (l b : List Int) (pos cap cap2 : Nat) (acc hv ai one : Int) (hby : ∀ x ∈ b, isByte x) (hl : b.length ≤ 2 ^ 50) (h : RS b pos acc hv ai) (hp : pos ≤ 8 * b.length) (hlu : ∀ x ∈ l, isU8 x) (h5 : Right5 l) (hl0 : 0 < l.length) :
    Con Try.prog 8 [.ptr 0 .z 4 0, .agg [.slice 4 .z 1 l.length cap2, .int .i64 one]] [(.one 81 [.fn 39 [.ptr 1 .z 1 0, .ptr 2 .z 1 0], .int .u64 acc, .int .i64 hv, .fn 40 [.ptr 2 .z 1 0, .ptr 1 .z 1 0]]), .one 3 [.int .i64 ai], .one 22 [.slice 3 .z 1 b.length cap], .ro .u8 b, .ro .u8 l] (fun v H R => ∃ acc2 hv2 ai2 s e, ∃ q, v = .tup [.int .i64 s, .int .i64 e] ∧ RS b q acc2 hv2 ai2 ∧ Dec l b pos s e q ∧ R = [] ∧ H = [(.one 81 [.fn 39 [.ptr 1 .z 1 0, .ptr 2 .z 1 0], .int .u64 acc2, .int .i64 hv2, .fn 40 [.ptr 2 .z 1 0, .ptr 1 .z 1 0]]), .one 3 [.int .i64 ai2], .one 22 [.slice 3 .z 1 b.length cap], .ro .u8 b, .ro .u8 l]) := by
  have hw := read5_ok l b pos cap cap2 acc hv ai hlu h5 hby hl h hp
  have hlm : l.length ≤ 1024 := h5.1
  generalize Dec l b pos = D at *
  obtain ⟨RQ, hRS⟩ : ∃ RQ, RS b = RQ := ⟨_, rfl⟩
  rw [hRS] at hw ⊢
  obtain ⟨bl, hbl⟩ : ∃ bl, bl = b.length := ⟨_, rfl⟩
  obtain ⟨ll, hll⟩ : ∃ ll, ll = l.length := ⟨_, rfl⟩
  rw [← hll] at hl0 hlm
  rw [← hbl, ← hll] at hw ⊢
  clear hbl hby hl hp h hRS h5 hlu
  refine con_gen (con_cut 5 (by simp) (con_drop (con_walk hmix fn8 ?_)))
  have hwc := hw
  clear hw
  intro vb vc vw vtoN vofN vaddN vsubN vmaxI vminI vcutN vgd vst vln vrep vsub vonto vsplice vstrEq vbyteV vnotB veqB hw qb qc qw qtoN qofN qaddN qsubN qmaxI qminI qcutN qgd qst qln qrep qsub qonto qsplice qstrEq qbyteV qnotB qeqB
  have hm := hmix; generalize Try.prog = P at *
  have e1 : vc .eql (vofN ll) 0 = false := by rw [qc, qofN]; exact decide_eq_false (by intro h; have h : (ll : Int) = 0 := h; omega)
  cbv
  rw [e1]
  cbv
  refine call_con (ρ := [(0, .z), (1, .z), (2, .z), (3, .z), (4, .z)]) hwc ⟨by rfl, by rfl, by rfl, by cbv; exact ⟨view_refl _, view_refl _, trivial⟩⟩ ?_
  rintro v H R js ⟨acc2, hv2, ai2, s, e, q, rfl, h2, hD, rfl, rfl⟩
  cbv
  exact ⟨acc2, hv2, ai2, s, e, q, rfl, h2, hD, rfl, rfl⟩
theorem same_nil (n : Int) : Con Try.prog 16 [.agg [.val (.slice none 0 0), .int .i64 n], .agg [.val (.slice none 0 0), .val (.slice none 0 0), .int .i64 n]] [] (fun v H R => v = .bool true ∧ H = [] ∧ R = []) := by
  refine con_gen (con_cut 0 (by simp) (con_drop (con_walk hmix fn16 ?_)))
  intro vb vc vw vtoN vofN vaddN vsubN vmaxI vminI vcutN vgd vst vln vrep vsub vonto vsplice vstrEq vbyteV vnotB veqB hw qb qc qw qtoN qofN qaddN qsubN qmaxI qminI qcutN qgd qst qln qrep qsub qonto qsplice qstrEq qbyteV qnotB qeqB
  have hm := hmix; generalize Try.prog = P at *
  have e1 : vstrEq [] [] = true := by rw [qstrEq]; rfl
  have e2 : vc .eql n n = true := by rw [qc, eql_true]
  have e3 : vc .gtr 0 0 = false := by rw [qc]; rfl
  cbv
  rw [e1]
  cbv
  rw [e2]
  exact ⟨rfl, trivial⟩
theorem same_len (L : List Int) (W : List Int) (cp cp2 : Nat) (h0 : 0 < L.length) (hlm : L.length ≤ 1024) : Con Try.prog 16 [.agg [.slice 0 .z 1 L.length cp, .int .i64 0], .agg [.slice 1 .z 1 L.length cp2, .slice 2 .z 1 L.length L.length, .int .i64 0]] [.ro .u8 L, .ro .u8 L, .ro .u16 W] (fun v H R => v = .bool true ∧ H = [.ro .u8 L, .ro .u8 L, .ro .u16 W] ∧ R = []) := by
  refine con_gen (con_cut 3 (by simp) (con_drop (con_walk hmix fn16 ?_)))
  intro vb vc vw vtoN vofN vaddN vsubN vmaxI vminI vcutN vgd vst vln vrep vsub vonto vsplice vstrEq vbyteV vnotB veqB hw qb qc qw qtoN qofN qaddN qsubN qmaxI qminI qcutN qgd qst qln qrep qsub qonto qsplice qstrEq qbyteV qnotB qeqB
  have hm := hmix; generalize Try.prog = P at *
  have hsub : vsub L 0 L.length = L := by rw [qsub]; simp
  obtain ⟨ll, hll⟩ : ∃ ll, ll = L.length := ⟨_, rfl⟩
  rw [← hll] at hsub h0 hlm ⊢
  have e1 : vstrEq L L = true := by rw [qstrEq]; simp
  have hvl : vln L = ll := by rw [qln]; exact hll.symm
  have e3 : vc .gtr (vofN ll) 0 = true := by rw [qc, gtr_true, qofN]; show (0 : Int) < (ll : Int); omega
  have ha0 : ∀ i, vaddN 0 i = i := fun i => by rw [qaddN]; simp
  cbv
  refine ⟨⟨by rw [ha0, hvl]; exact Nat.le_refl _⟩, ⟨by rw [ha0, hvl]; exact Nat.le_refl _⟩, ?_⟩
  rw [hsub, e1]
  cbv
  rw [e3]
  cbv
theorem refleft19_con (b : List Int) (cap pos : Nat) (pI lf : Int) (hl : b.length ≤ 2 ^ 50) (hp : pos ≤ 8 * b.length) (hpI : pI = pos) (hlf : lf = 8 * (b.length : Int) - pos) :
    Con Try.prog 19 [.ptr 0 .z 2 0] [.one 41 [.slice 1 .z 1 b.length cap, .int .i64 pI], .ro .u8 b] (fun v H R => v = .int .i64 lf ∧ R = [] ∧ H = [.one 41 [.slice 1 .z 1 b.length cap, .int .i64 pI], .ro .u8 b]) := by
  subst hpI hlf
  exact refleft_con b cap pos hl hp
theorem rleft18_con (b : List Int) (pos cap : Nat) (acc hv ai lf : Int) (hl : b.length ≤ 2 ^ 50) (h : RS b pos acc hv ai) (hlf : lf = 8 * (b.length : Int) - pos) :
    Con Try.prog 18 [.ptr 0 .z 4 0] [(.one 81 [.fn 39 [.ptr 1 .z 1 0, .ptr 2 .z 1 0], .int .u64 acc, .int .i64 hv, .fn 40 [.ptr 2 .z 1 0, .ptr 1 .z 1 0]]), .one 3 [.int .i64 ai], .one 22 [.slice 3 .z 1 b.length cap], .ro .u8 b] (fun v H R => v = .int .i64 lf ∧ R = [] ∧ H = [(.one 81 [.fn 39 [.ptr 1 .z 1 0, .ptr 2 .z 1 0], .int .u64 acc, .int .i64 hv, .fn 40 [.ptr 2 .z 1 0, .ptr 1 .z 1 0]]), .one 3 [.int .i64 ai], .one 22 [.slice 3 .z 1 b.length cap], .ro .u8 b]) := by
  subst hlf
  exact rleft_rs b pos cap acc hv ai hl h
end Go.Proofs.Ytkkddgdcmdnnmaa
