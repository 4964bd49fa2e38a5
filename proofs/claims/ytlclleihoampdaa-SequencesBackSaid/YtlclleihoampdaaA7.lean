import Derived.Test.YtlclleihoampdaaA4
import Derived.Test.YtlclleihoampdaaA5
import Derived.Test.YtlclleihoampdaaED
set_option linter.unusedVariables false
set_option linter.unusedSimpArgs false
namespace Go.Proofs.Ytlclleihoampdaa
open Go Go.Sx Go.Proofs
set_option maxRecDepth 10000
set_option maxHeartbeats 40000000
theorem key4 {A B C D : Type} {Goal : Prop} (G Fc : A → B → C → D → Prop) (hm : (∀ a b c d, Fc a b c d → G a b c d) → Goal) (hk : ∀ a b c d, Fc a b c d → G a b c d) : Goal := hm hk
theorem getD_u8r {b : List Int} (hby : ∀ x ∈ b, isByte x) (i : Nat) : 0 ≤ b.getD i 0 ∧ b.getD i 0 < 256 := by
 rcases getD_mem_or (l := b) i with h | h
 ·exact hby _ h
 ·omega
theorem shl_i64 {x : Int} {n : Nat} (h0 : 0 ≤ x) (hn : n ≤ 32) (h1 : x ≤ 1000000000) : bV .shl .i64 x n = x * 2 ^ n := by
 show IntKind.i64.wrap (x * 2 ^ (min (n : Int).toNat 64)) = _
 rw [Int.toNat_natCast, Nat.min_eq_left (by omega)]
 have hp : (2 : Int) ^ n ≤ 2 ^ 32 := by exact_mod_cast Nat.pow_le_pow_right (by decide) hn
 have hp0 : (0 : Int) < 2 ^ n := Int.pow_pos (by decide)
 have h2 : x * 2 ^ n ≤ 1000000000 * 2 ^ 32 := Int.mul_le_mul h1 hp (by omega) (by omega)
 have h3 : 0 ≤ x * 2 ^ n := Int.mul_nonneg h0 (by omega)
 have e : (2 : Int) ^ 32 = 4294967296 := by decide
 exact wrap_i64 (by omega) (by omega)
theorem view_drop (b : List Int) (u cap : Nat) (hu : u ≤ b.length) (hc : b.length ≤ cap) : View (if cap = u then 0 else 0 + u) (b.drop u) b := by
 refine ⟨?_, fun i hi => ?_⟩
 ·rw [List.length_drop]; split <;> omega
 ·rw [List.length_drop] at hi
  rw [if_neg (by omega)]
  rw [List.getD_eq_getElem?_getD, List.getD_eq_getElem?_getD, List.getElem?_drop, Nat.zero_add]
theorem renL3 (ρ : List (Nat × Ix)) (n : Nat) (k1 k2 k3 : IntKind) (a b c : Int) : renL ρ n [.int k1 a, .int k2 b, .int k3 c] = [.int k1 a, .int k2 b, .int k3 c] := rfl
theorem joinG {A B : Prop} (G : Prop) (h1 : G → A) (h2 : G → B) (h : G) : A ∧ B := ⟨h1 h, h2 h⟩
theorem read13 (PT : SV → List SB → List Nat → Prop) (b : List Int) (cap n0 n1 n2 c0 c1 c2 k0 k1 k2 : Nat) (a0 b0 d0 a1 b1 d1 a2 b2 d2 : Nat → Int) (hby : ∀ x ∈ b, isByte x) (hcap : b.length ≤ cap)
  (hT0 : TbOk 35 ⟨n0, a0, b0, d0⟩) (hT1 : TbOk 31 ⟨n1, a1, b1, d1⟩) (hT2 : TbOk 52 ⟨n2, a2, b2, d2⟩)
  (hE : ∀ e : Int, (seqR b ⟨n0, a0, b0, d0⟩ ⟨n1, a1, b1, d1⟩ ⟨n2, a2, b2, d2⟩).1 = e → e ≠ 0 → ∀ (M0 M1 M2 j0 j1 j2 : Nat) (x0 y0 z0 x1 y1 z1 x2 y2 z2 : Nat → Int), PT (.tup [.val (.slice none 0 0), .agg [.val (.slice none 0 0), .val (.slice none 0 0), .val (.slice none 0 0)], .int .i64 e]) [.ro .u8 b, .bufA 79 3 M0 (fun m => [.int .u8 (x0 m), .int .u8 (y0 m), .int .u16 (z0 m)]) j0, .bufA 79 3 M1 (fun m => [.int .u8 (x1 m), .int .u8 (y1 m), .int .u16 (z1 m)]) j1, .bufA 79 3 M2 (fun m => [.int .u8 (x2 m), .int .u8 (y2 m), .int .u16 (z2 m)]) j2] [1, 2, 3])
  (hN : seqR b ⟨n0, a0, b0, d0⟩ ⟨n1, a1, b1, d1⟩ ⟨n2, a2, b2, d2⟩ = (0, [], ⟨n0, a0, b0, d0⟩, ⟨n1, a1, b1, d1⟩, ⟨n2, a2, b2, d2⟩) → PT (.tup [.val (.slice none 0 0), .agg [.slice 1 .z 3 n0 c0, .slice 2 .z 3 n1 c1, .slice 3 .z 3 n2 c2], .int .i64 0]) [.ro .u8 b, .bufA 79 3 n0 (fun m => [.int .u8 (a0 m), .int .u8 (b0 m), .int .u16 (d0 m)]) k0, .bufA 79 3 n1 (fun m => [.int .u8 (a1 m), .int .u8 (b1 m), .int .u16 (d1 m)]) k1, .bufA 79 3 n2 (fun m => [.int .u8 (a2 m), .int .u8 (b2 m), .int .u16 (d2 m)]) k2] [1, 2, 3])
  (hG : ∀ (LS : List (Int × Int × Int)) (N0 N1 N2 : Nat) (A0 B0 C0 A1 B1 C1 A2 B2 C2 : Nat → Int), seqR b ⟨n0, a0, b0, d0⟩ ⟨n1, a1, b1, d1⟩ ⟨n2, a2, b2, d2⟩ = (0, LS, ⟨N0, A0, B0, C0⟩, ⟨N1, A1, B1, C1⟩, ⟨N2, A2, B2, C2⟩) →
   ∀ (f g h : Nat → Int) (ll cl kl m0 m1 m2 j0 j1 j2 : Nat), ll = LS.length → (f = fun m => (LS.getD m (0, 0, 0)).1) → (g = fun m => (LS.getD m (0, 0, 0)).2.1) → (h = fun m => (LS.getD m (0, 0, 0)).2.2) →
    PT (.tup [.slice 4 .z 3 ll cl, .agg [.slice 1 .z 3 N0 m0, .slice 2 .z 3 N1 m1, .slice 3 .z 3 N2 m2], .int .i64 0])
     [.ro .u8 b, .bufA 79 3 N0 (fun m => [.int .u8 (A0 m), .int .u8 (B0 m), .int .u16 (C0 m)]) j0, .bufA 79 3 N1 (fun m => [.int .u8 (A1 m), .int .u8 (B1 m), .int .u16 (C1 m)]) j1, .bufA 79 3 N2 (fun m => [.int .u8 (A2 m), .int .u8 (B2 m), .int .u16 (C2 m)]) j2, .bufA 24 3 ll (fun m => [.int .i64 (f m), .int .i64 (g m), .int .i64 (h m)]) kl] [1, 2, 3]) :
  Con Try.prog 12 [.slice 0 .z 1 b.length cap, .agg [.slice 1 .z 3 n0 c0, .slice 2 .z 3 n1 c1, .slice 3 .z 3 n2 c2]] [.ro .u8 b, .bufA 79 3 n0 (fun m => [.int .u8 (a0 m), .int .u8 (b0 m), .int .u16 (d0 m)]) k0, .bufA 79 3 n1 (fun m => [.int .u8 (a1 m), .int .u8 (b1 m), .int .u16 (d1 m)]) k1, .bufA 79 3 n2 (fun m => [.int .u8 (a2 m), .int .u8 (b2 m), .int .u16 (d2 m)]) k2] PT := by
 obtain ⟨SR, hSR⟩ : ∃ x, x = seqR b ⟨n0, a0, b0, d0⟩ ⟨n1, a1, b1, d1⟩ ⟨n2, a2, b2, d2⟩ := ⟨_, rfl⟩
 rw [← hSR] at hE hN hG
 obtain ⟨cL, hcL⟩ : ∃ x, x = cntL := ⟨_, rfl⟩
 obtain ⟨cB, hcB⟩ : ∃ x, x = cntB := ⟨_, rfl⟩
 obtain ⟨cM, hcM⟩ : ∃ x, x = cntM := ⟨_, rfl⟩
 obtain ⟨bL, hbL⟩ : ∃ x, x = bitsL := ⟨_, rfl⟩
 obtain ⟨bM, hbM⟩ : ∃ x, x = bitsM := ⟨_, rfl⟩
 obtain ⟨gL, hgL⟩ : ∃ x, x = begL := ⟨_, rfl⟩
 obtain ⟨gM, hgM⟩ : ∃ x, x = begM := ⟨_, rfl⟩
 have hk := kinds_con cL cB cM bL bM gL gM hcL hcB hcM hbL hbM hgL hgM
 have f24 := fn24
 have f60 := fn60
 have f62 := fn62
 have f63 := fn63
 have htab0 := fun q c1 c2 c3 c4 => table_0 cL cB cM bL bM gL gM q c1 c2 c3 c4
 have htab1 := fun q c1 c2 c3 c4 => table_1 cL cB cM bL bM gL gM q c1 c2 c3 c4
 have htab2 := fun q c1 c2 c3 c4 => table_2 cL cB cM bL bM gL gM q c1 c2 c3 c4
 have hnewb := fun q c => new_bad q c
 have hnewg := fun q c => new_good q c
 have hlog := fun k n c => log_con k n c
 have hbits := fun q c => bits_con q c
 have hleft := fun q l c => left_con q l c
 have hofL := fun c f n => ofL_con' c f n gL bL hgL hbL
 have hofM := fun c f n => ofM_con' c f n gM bM hgM hbM
 have hofB := fun c f n => ofB_con' c f n
 have f37 := fn37
 obtain ⟨x0, hx0⟩ : ∃ x, x = b.getD 0 0 := ⟨_, rfl⟩
 obtain ⟨x1, hx1⟩ : ∃ x, x = b.getD 1 0 := ⟨_, rfl⟩
 obtain ⟨x2, hx2⟩ : ∃ x, x = b.getD 2 0 := ⟨_, rfl⟩
 have hx0r := getD_u8r hby 0
 have hx1r := getD_u8r hby 1
 have hx2r := getD_u8r hby 2
 rw [← hx0] at hx0r
 rw [← hx1] at hx1r
 rw [← hx2] at hx2r
 obtain ⟨bl, hbl⟩ : ∃ x, x = b.length := ⟨_, rfl⟩
 obtain ⟨bi, hbi⟩ : ∃ x : Int, x = bl := ⟨_, rfl⟩
 refine con_gen (con_moves (con_drop (con_walk hmix fn12 ?_)))
 intro vb vc vw vtoN vofN vaddN vsubN vmaxI vminI vcutN vgd vst vln vrep vsub vonto vsplice vstrEq vbyteV vnotB veqB hw qb qc qw qtoN qofN qaddN qsubN qmaxI qminI qcutN qgd qst qln qrep qsub qonto qsplice qstrEq qbyteV qnotB qeqB
 have hm := hmix; generalize Try.prog = P at *
 have ho : vofN bl = bi := by simp only [qofN]; exact hbi.symm
 have hln : vln b = bl := by simp only [qln]; exact hbl.symm
 have hadd0 : ∀ i, vaddN 0 i = i := fun i => by simp only [qaddN, Nat.zero_add]
 have hvg : ∀ i, vgd b i = b.getD i 0 := fun i => by simp only [qgd]
 rw [← hbl] at hcap ⊢
 by_cases hlg : 131072 < bl
 ·have h131 : vc .gtr bi 131072 = true := by rw [qc, gtr_true]; omega
  have hfe : SR.1 = 3 := by rw [hSR]; exact seqR_long (by omega)
  cbv
  rw [ho, h131]
  cbv
  (repeat refine And.intro (fun _ => rfl) ?_)
  refine ⟨[1, 2, 3], [0, 1, 2, 3], .tup [.val (.slice none 0 0), .agg [.val (.slice none 0 0), .val (.slice none 0 0), .val (.slice none 0 0)], .lit .i64 3], [.ro .u8 b, .bufA 79 3 n0 (fun m => [.int .u8 (a0 m), .int .u8 (b0 m), .int .u16 (d0 m)]) k0, .bufA 79 3 n1 (fun m => [.int .u8 (a1 m), .int .u8 (b1 m), .int .u16 (d1 m)]) k1, .bufA 79 3 n2 (fun m => [.int .u8 (a2 m), .int .u8 (b2 m), .int .u16 (d2 m)]) k2], rfl, rfl, rfl, rfl, rfl, ?_, ?_⟩
  ·exact ⟨rfl, rfl, fun _ => rfl, rfl, fun _ => rfl, rfl, fun _ => rfl, trivial⟩
  ·exact hE 3 hfe (by decide) _ _ _ _ _ _ _ _ _ _ _ _ _ _ _
 have hlen : b.length ≤ 131072 := by omega
 refine' key4 _ (fun (js : Nat → Value) (n at' ways : Int) => hdS b = (0, n, (at' - 1).toNat) ∧ 1 ≤ n ∧ n ≤ 100000 ∧ 2 ≤ at' ∧ at' ≤ 4 ∧ at' ≤ bi ∧ ways = b.getD (at' - 1).toNat 0 ∧ ways % 4 = 0) (fun key => ?_) ?_
 rotate_left
 ·have h131 : vc .gtr bi 131072 = false := by rw [qc, gtr_false]; omega
  by_cases hl0 : bl = 0
  ·have hb0 : vc .eql bi 0 = true := by rw [qc, eql_true]; omega
   have hfe : SR.1 = 10 := by rw [hSR]; exact seqR_hd hlen (hdS_0 (by omega)) (by decide)
   as_aux_lemma =>
   cbv
   rw [ho, h131]
   cbv
   rw [ho, hb0]
   cbv
   (repeat refine And.intro (fun _ => rfl) ?_)
   refine ⟨[1, 2, 3], [0, 1, 2, 3], .tup [.val (.slice none 0 0), .agg [.val (.slice none 0 0), .val (.slice none 0 0), .val (.slice none 0 0)], .lit .i64 10], [.ro .u8 b, .bufA 79 3 n0 (fun m => [.int .u8 (a0 m), .int .u8 (b0 m), .int .u16 (d0 m)]) k0, .bufA 79 3 n1 (fun m => [.int .u8 (a1 m), .int .u8 (b1 m), .int .u16 (d1 m)]) k1, .bufA 79 3 n2 (fun m => [.int .u8 (a2 m), .int .u8 (b2 m), .int .u16 (d2 m)]) k2], rfl, rfl, rfl, rfl, rfl, ?_, ?_⟩
   ·exact ⟨rfl, rfl, fun _ => rfl, rfl, fun _ => rfl, rfl, fun _ => rfl, trivial⟩
   ·exact hE 10 hfe (by decide) _ _ _ _ _ _ _ _ _ _ _ _ _ _ _
  have hb0 : vc .eql bi 0 = false := by rw [qc, eql_false]; omega
  have hin0 : (0 : Int) ≤ 0 ∧ (0 : Int) < (bl : Int) := by omega
  have hlt0 : vaddN 0 0 < vln b := by rw [hadd0, hln]; omega
  have hlt0' : 0 < vln b := by rw [hln]; omega
  have hg0 : vgd b 0 = x0 := by rw [hvg, hx0]
  have hwx : vw .i64 x0 = x0 := by rw [qw]; exact wrap_i64 (by omega) (by omega)
  by_cases hx255 : x0 = 255
  ·have v255 : vc .eql x0 255 = true := by rw [qc, eql_true]; exact hx255
   by_cases hs : bl < 3
   ·have vl : vc .lss bi 3 = true := by rw [qc, lss_true]; omega
    have hfe : SR.1 = 10 := by rw [hSR]; exact seqR_hd hlen (hdS_3a (by omega) (by rw [← hx0]; exact hx255) (by omega)) (by decide)
    as_aux_lemma =>
    cbv
    rw [ho, h131]
    cbv
    rw [ho, hb0]
    cbv
    (repeat refine And.intro (fun _ => rfl) ?_)
    refine ⟨⟨hin0⟩, ⟨hlt0⟩, ⟨hlt0'⟩, ?_⟩
    rw [hg0, hwx, v255]
    cbv
    rw [ho, vl]
    cbv
    (repeat refine And.intro (fun _ => rfl) ?_)
    refine ⟨[1, 2, 3], [0, 1, 2, 3], .tup [.val (.slice none 0 0), .agg [.val (.slice none 0 0), .val (.slice none 0 0), .val (.slice none 0 0)], .lit .i64 10], [.ro .u8 b, .bufA 79 3 n0 (fun m => [.int .u8 (a0 m), .int .u8 (b0 m), .int .u16 (d0 m)]) k0, .bufA 79 3 n1 (fun m => [.int .u8 (a1 m), .int .u8 (b1 m), .int .u16 (d1 m)]) k1, .bufA 79 3 n2 (fun m => [.int .u8 (a2 m), .int .u8 (b2 m), .int .u16 (d2 m)]) k2], rfl, rfl, rfl, rfl, rfl, ?_, ?_⟩
    ·exact ⟨rfl, rfl, fun _ => rfl, rfl, fun _ => rfl, rfl, fun _ => rfl, trivial⟩
    ·exact hE 10 hfe (by decide) _ _ _ _ _ _ _ _ _ _ _ _ _ _ _
   have vl : vc .lss bi 3 = false := by rw [qc, lss_false]; omega
   obtain ⟨nv, hnv⟩ : ∃ x, x = x1 + x2 * 256 + 32512 := ⟨_, rfl⟩
   have hw1 : vw .i64 x1 = x1 := by rw [qw]; exact wrap_i64 (by omega) (by omega)
   have hw2 : vw .i64 x2 = x2 := by rw [qw]; exact wrap_i64 (by omega) (by omega)
   have hg1 : vgd b 1 = x1 := by rw [hvg, hx1]
   have hg2 : vgd b 2 = x2 := by rw [hvg, hx2]
   have e1 : vb .shl .i64 x2 8 = x2 * 256 := by rw [qb]; exact shl_i64 (n := 8) (by omega) (by omega) (by omega)
   have e2 : vb .add .i64 x1 (x2 * 256) = x1 + x2 * 256 := by rw [qb]; exact add_i64 (by omega) (by omega)
   have e3 : vb .add .i64 (x1 + x2 * 256) 32512 = nv := by rw [qb, hnv]; exact add_i64 (by omega) (by omega)
   have hH : hdS b = (0, nv, 3) := by rw [hdS_3 (by rw [← hx0]; exact hx255) (by omega), ← hx1, ← hx2, hnv]
   have hin1 : (0 : Int) ≤ 1 ∧ (1 : Int) < (bl : Int) := by omega
   have hlt1 : vaddN 0 1 < vln b := by rw [hadd0, hln]; omega
   have hlt1' : 1 < vln b := by rw [hln]; omega
   have hin2 : (0 : Int) ≤ 2 ∧ (2 : Int) < (bl : Int) := by omega
   have hlt2 : vaddN 0 2 < vln b := by rw [hadd0, hln]; omega
   have hlt2' : 2 < vln b := by rw [hln]; omega
   have hn0 : ¬ nv = 0 := by omega
   have vn0 : vc .eql nv 0 = false := by rw [qc, eql_false]; exact hn0
   by_cases heq : bl = 3
   ·have vq : vc .eql bi 3 = true := by rw [qc, eql_true]; omega
    have hfe : SR.1 = 10 := by rw [hSR]; exact seqR_at hlen hH hn0 (by omega)
    as_aux_lemma =>
    cbv
    rw [ho, h131]
    cbv
    rw [ho, hb0]
    cbv
    (repeat refine And.intro (fun _ => rfl) ?_)
    refine ⟨⟨hin0⟩, ⟨hlt0⟩, ⟨hlt0'⟩, ?_⟩
    rw [hg0, hwx, v255]
    cbv
    rw [ho, vl]
    cbv
    (repeat refine And.intro (fun _ => rfl) ?_)
    refine ⟨⟨hin1⟩, ⟨hlt1⟩, ⟨hlt1'⟩, ⟨hin2⟩, ⟨hlt2⟩, ⟨hlt2'⟩, ?_⟩
    rw [hg1, hg2, hw1, hw2, e1, e2, e3]
    rw [vn0]
    cbv
    rw [ho, vq]
    cbv
    (repeat refine And.intro (fun _ => rfl) ?_)
    refine ⟨[1, 2, 3], [0, 1, 2, 3], .tup [.val (.slice none 0 0), .agg [.val (.slice none 0 0), .val (.slice none 0 0), .val (.slice none 0 0)], .lit .i64 10], [.ro .u8 b, .bufA 79 3 n0 (fun m => [.int .u8 (a0 m), .int .u8 (b0 m), .int .u16 (d0 m)]) k0, .bufA 79 3 n1 (fun m => [.int .u8 (a1 m), .int .u8 (b1 m), .int .u16 (d1 m)]) k1, .bufA 79 3 n2 (fun m => [.int .u8 (a2 m), .int .u8 (b2 m), .int .u16 (d2 m)]) k2], rfl, rfl, rfl, rfl, rfl, ?_, ?_⟩
    ·exact ⟨rfl, rfl, fun _ => rfl, rfl, fun _ => rfl, rfl, fun _ => rfl, trivial⟩
    ·exact hE 10 hfe (by decide) _ _ _ _ _ _ _ _ _ _ _ _ _ _ _
   have vq : vc .eql bi 3 = false := by rw [qc, eql_false]; omega
   have hina : (0 : Int) ≤ 3 ∧ (3 : Int) < (bl : Int) := by omega
   have hlta : vaddN 0 3 < vln b := by rw [hadd0, hln]; omega
   have hlta' : 3 < vln b := by rw [hln]; omega
   obtain ⟨ways, hways⟩ : ∃ x, x = b.getD 3 0 := ⟨_, rfl⟩
   have hwr := getD_u8r hby 3
   rw [← hways] at hwr
   have hgw : vgd b 3 = ways := by rw [hvg, hways]
   obtain ⟨w4, hw4⟩ : ∃ x, x = ways % 4 := ⟨_, rfl⟩
   have vw4 : vb .and .u8 ways 3 = w4 := by rw [qb, hw4]; exact and_mask (k := .u8) rfl 2 (by decide) hwr.1 (by show ways < 256; omega)
   by_cases hw0 : w4 = 0
   ·have vw4z : vc .neq w4 0 = false := by rw [qc, neq_false]; omega
    obtain ⟨at', hat⟩ : ∃ x : Int, x = 4 := ⟨_, rfl⟩
    have hF : hdS b = (0, nv, (at' - 1).toNat) ∧ 1 ≤ nv ∧ nv ≤ 100000 ∧ 2 ≤ at' ∧ at' ≤ 4 ∧ at' ≤ bi ∧ ways = b.getD (at' - 1).toNat 0 ∧ ways % 4 = 0 := by
     rw [hat]
     exact ⟨hH, by omega, by omega, by omega, by omega, by omega, hways, by omega⟩
    cbv
    rw [ho, h131]
    cbv
    rw [ho, hb0]
    cbv
    (repeat refine And.intro (fun _ => rfl) ?_)
    refine ⟨⟨hin0⟩, ⟨hlt0⟩, ⟨hlt0'⟩, ?_⟩
    rw [hg0, hwx, v255]
    cbv
    rw [ho, vl]
    cbv
    (repeat refine And.intro (fun _ => rfl) ?_)
    refine ⟨⟨hin1⟩, ⟨hlt1⟩, ⟨hlt1'⟩, ⟨hin2⟩, ⟨hlt2⟩, ⟨hlt2'⟩, ?_⟩
    rw [hg1, hg2, hw1, hw2, e1, e2, e3]
    rw [vn0]
    cbv
    rw [ho, vq]
    cbv
    (repeat refine And.intro (fun _ => rfl) ?_)
    refine ⟨⟨hina⟩, ⟨hlta⟩, ⟨hlta'⟩, ?_⟩
    rw [hgw, vw4, vw4z]
    cbv
    refine CallX.cv f24.go (Cv.slotEq 8 (.int .i64 at') (by rfl) (fun σ => by rw [hat]; rfl) (Cv.fold [1027069] 6 [] (by exact Nat.le_refl _) (by exact Nat.le_of_ble_eq_true rfl) (by rfl) (by cbv) ?_)) (by rfl)
    intro js
    cbv
    exact key js nv at' ways hF
   ·have vw4z : vc .neq w4 0 = true := by rw [qc, neq_true]; exact hw0
    have hfe : SR.1 = 11 := by rw [hSR]; exact seqR_ways hlen hH hn0 (by omega) (by rw [← hways]; omega)
    as_aux_lemma =>
    cbv
    rw [ho, h131]
    cbv
    rw [ho, hb0]
    cbv
    (repeat refine And.intro (fun _ => rfl) ?_)
    refine ⟨⟨hin0⟩, ⟨hlt0⟩, ⟨hlt0'⟩, ?_⟩
    rw [hg0, hwx, v255]
    cbv
    rw [ho, vl]
    cbv
    (repeat refine And.intro (fun _ => rfl) ?_)
    refine ⟨⟨hin1⟩, ⟨hlt1⟩, ⟨hlt1'⟩, ⟨hin2⟩, ⟨hlt2⟩, ⟨hlt2'⟩, ?_⟩
    rw [hg1, hg2, hw1, hw2, e1, e2, e3]
    rw [vn0]
    cbv
    rw [ho, vq]
    cbv
    (repeat refine And.intro (fun _ => rfl) ?_)
    refine ⟨⟨hina⟩, ⟨hlta⟩, ⟨hlta'⟩, ?_⟩
    rw [hgw, vw4, vw4z]
    cbv
    (repeat refine And.intro (fun _ => rfl) ?_)
    refine ⟨[1, 2, 3], [0, 1, 2, 3], .tup [.val (.slice none 0 0), .agg [.val (.slice none 0 0), .val (.slice none 0 0), .val (.slice none 0 0)], .lit .i64 11], [.ro .u8 b, .bufA 79 3 n0 (fun m => [.int .u8 (a0 m), .int .u8 (b0 m), .int .u16 (d0 m)]) k0, .bufA 79 3 n1 (fun m => [.int .u8 (a1 m), .int .u8 (b1 m), .int .u16 (d1 m)]) k1, .bufA 79 3 n2 (fun m => [.int .u8 (a2 m), .int .u8 (b2 m), .int .u16 (d2 m)]) k2], rfl, rfl, rfl, rfl, rfl, ?_, ?_⟩
    ·exact ⟨rfl, rfl, fun _ => rfl, rfl, fun _ => rfl, rfl, fun _ => rfl, trivial⟩
    ·exact hE 11 hfe (by decide) _ _ _ _ _ _ _ _ _ _ _ _ _ _ _
  by_cases hx128 : 128 ≤ x0
  ·have v255 : vc .eql x0 255 = false := by rw [qc, eql_false]; exact hx255
   have v128 : vc .geq x0 128 = true := by rw [qc, geq_true]; exact hx128
   by_cases hs : bl < 2
   ·have vl : vc .lss bi 2 = true := by rw [qc, lss_true]; omega
    have hfe : SR.1 = 10 := by rw [hSR]; exact seqR_hd hlen (hdS_2a (by omega) (by rw [← hx0]; exact hx255) (by rw [← hx0]; exact hx128) (by omega)) (by decide)
    as_aux_lemma =>
    cbv
    rw [ho, h131]
    cbv
    rw [ho, hb0]
    cbv
    (repeat refine And.intro (fun _ => rfl) ?_)
    refine ⟨⟨hin0⟩, ⟨hlt0⟩, ⟨hlt0'⟩, ?_⟩
    rw [hg0, hwx, v255]
    cbv
    rw [v128]
    cbv
    rw [ho, vl]
    cbv
    (repeat refine And.intro (fun _ => rfl) ?_)
    refine ⟨[1, 2, 3], [0, 1, 2, 3], .tup [.val (.slice none 0 0), .agg [.val (.slice none 0 0), .val (.slice none 0 0), .val (.slice none 0 0)], .lit .i64 10], [.ro .u8 b, .bufA 79 3 n0 (fun m => [.int .u8 (a0 m), .int .u8 (b0 m), .int .u16 (d0 m)]) k0, .bufA 79 3 n1 (fun m => [.int .u8 (a1 m), .int .u8 (b1 m), .int .u16 (d1 m)]) k1, .bufA 79 3 n2 (fun m => [.int .u8 (a2 m), .int .u8 (b2 m), .int .u16 (d2 m)]) k2], rfl, rfl, rfl, rfl, rfl, ?_, ?_⟩
    ·exact ⟨rfl, rfl, fun _ => rfl, rfl, fun _ => rfl, rfl, fun _ => rfl, trivial⟩
    ·exact hE 10 hfe (by decide) _ _ _ _ _ _ _ _ _ _ _ _ _ _ _
   have vl : vc .lss bi 2 = false := by rw [qc, lss_false]; omega
   obtain ⟨nv, hnv⟩ : ∃ x, x = (x0 - 128) * 256 + x1 := ⟨_, rfl⟩
   have hw1 : vw .i64 x1 = x1 := by rw [qw]; exact wrap_i64 (by omega) (by omega)
   have hg1 : vgd b 1 = x1 := by rw [hvg, hx1]
   have e1 : vb .sub .i64 x0 128 = x0 - 128 := by rw [qb]; exact sub_i64 (by omega) (by omega)
   have e2 : vb .shl .i64 (x0 - 128) 8 = (x0 - 128) * 256 := by rw [qb]; exact shl_i64 (n := 8) (by omega) (by omega) (by omega)
   have e3 : vb .add .i64 ((x0 - 128) * 256) x1 = nv := by rw [qb, hnv]; exact add_i64 (by omega) (by omega)
   have hH : hdS b = (0, nv, 2) := by rw [hdS_2 (by rw [← hx0]; exact hx255) (by rw [← hx0]; exact hx128) (by omega), ← hx0, ← hx1, hnv]
   have hin1 : (0 : Int) ≤ 1 ∧ (1 : Int) < (bl : Int) := by omega
   have hlt1 : vaddN 0 1 < vln b := by rw [hadd0, hln]; omega
   have hlt1' : 1 < vln b := by rw [hln]; omega
   by_cases hn0 : nv = 0
   ·have vn0 : vc .eql nv 0 = true := by rw [qc, eql_true]; exact hn0
    have hz := seqR_0 (TL := ⟨n0, a0, b0, d0⟩) (TB := ⟨n1, a1, b1, d1⟩) (TM := ⟨n2, a2, b2, d2⟩) hlen (show hdS b = (0, 0, 2) by rw [hH, hn0])
    rw [← hSR] at hz
    by_cases hgt : 2 < bl
    ·have vg : vc .gtr bi 2 = true := by rw [qc, gtr_true]; omega
     have hfe : SR.1 = 11 := by rw [hz, if_pos (by omega)]
     as_aux_lemma =>
     cbv
     rw [ho, h131]
     cbv
     rw [ho, hb0]
     cbv
     (repeat refine And.intro (fun _ => rfl) ?_)
     refine ⟨⟨hin0⟩, ⟨hlt0⟩, ⟨hlt0'⟩, ?_⟩
     rw [hg0, hwx, v255]
     cbv
     rw [v128]
     cbv
     rw [ho, vl]
     cbv
     (repeat refine And.intro (fun _ => rfl) ?_)
     refine ⟨⟨hin1⟩, ⟨hlt1⟩, ⟨hlt1'⟩, ?_⟩
     rw [e1, e2, hg1, hw1, e3]
     rw [vn0]
     cbv
     rw [ho, vg]
     cbv
     (repeat refine And.intro (fun _ => rfl) ?_)
     refine ⟨[1, 2, 3], [0, 1, 2, 3], .tup [.val (.slice none 0 0), .agg [.val (.slice none 0 0), .val (.slice none 0 0), .val (.slice none 0 0)], .lit .i64 11], [.ro .u8 b, .bufA 79 3 n0 (fun m => [.int .u8 (a0 m), .int .u8 (b0 m), .int .u16 (d0 m)]) k0, .bufA 79 3 n1 (fun m => [.int .u8 (a1 m), .int .u8 (b1 m), .int .u16 (d1 m)]) k1, .bufA 79 3 n2 (fun m => [.int .u8 (a2 m), .int .u8 (b2 m), .int .u16 (d2 m)]) k2], rfl, rfl, rfl, rfl, rfl, ?_, ?_⟩
     ·exact ⟨rfl, rfl, fun _ => rfl, rfl, fun _ => rfl, rfl, fun _ => rfl, trivial⟩
     ·exact hE 11 hfe (by decide) _ _ _ _ _ _ _ _ _ _ _ _ _ _ _
    ·have vg : vc .gtr bi 2 = false := by rw [qc, gtr_false]; omega
     have hfe := hN (by rw [hz, if_neg (by omega)])
     as_aux_lemma =>
     cbv
     rw [ho, h131]
     cbv
     rw [ho, hb0]
     cbv
     (repeat refine And.intro (fun _ => rfl) ?_)
     refine ⟨⟨hin0⟩, ⟨hlt0⟩, ⟨hlt0'⟩, ?_⟩
     rw [hg0, hwx, v255]
     cbv
     rw [v128]
     cbv
     rw [ho, vl]
     cbv
     (repeat refine And.intro (fun _ => rfl) ?_)
     refine ⟨⟨hin1⟩, ⟨hlt1⟩, ⟨hlt1'⟩, ?_⟩
     rw [e1, e2, hg1, hw1, e3]
     rw [vn0]
     cbv
     rw [ho, vg]
     cbv
     (repeat refine And.intro (fun _ => rfl) ?_)
     refine ⟨[1, 2, 3], [0, 1, 2, 3], .tup [.val (.slice none 0 0), .agg [.slice 1 .z 3 n0 c0, .slice 2 .z 3 n1 c1, .slice 3 .z 3 n2 c2], .lit .i64 0], [.ro .u8 b, .bufA 79 3 n0 (fun m => [.int .u8 (a0 m), .int .u8 (b0 m), .int .u16 (d0 m)]) k0, .bufA 79 3 n1 (fun m => [.int .u8 (a1 m), .int .u8 (b1 m), .int .u16 (d1 m)]) k1, .bufA 79 3 n2 (fun m => [.int .u8 (a2 m), .int .u8 (b2 m), .int .u16 (d2 m)]) k2], rfl, rfl, rfl, rfl, rfl, ?_, hfe⟩
     exact ⟨rfl, rfl, fun _ => rfl, rfl, fun _ => rfl, rfl, fun _ => rfl, trivial⟩
   have vn0 : vc .eql nv 0 = false := by rw [qc, eql_false]; exact hn0
   by_cases heq : bl = 2
   ·have vq : vc .eql bi 2 = true := by rw [qc, eql_true]; omega
    have hfe : SR.1 = 10 := by rw [hSR]; exact seqR_at hlen hH hn0 (by omega)
    as_aux_lemma =>
    cbv
    rw [ho, h131]
    cbv
    rw [ho, hb0]
    cbv
    (repeat refine And.intro (fun _ => rfl) ?_)
    refine ⟨⟨hin0⟩, ⟨hlt0⟩, ⟨hlt0'⟩, ?_⟩
    rw [hg0, hwx, v255]
    cbv
    rw [v128]
    cbv
    rw [ho, vl]
    cbv
    (repeat refine And.intro (fun _ => rfl) ?_)
    refine ⟨⟨hin1⟩, ⟨hlt1⟩, ⟨hlt1'⟩, ?_⟩
    rw [e1, e2, hg1, hw1, e3]
    rw [vn0]
    cbv
    rw [ho, vq]
    cbv
    (repeat refine And.intro (fun _ => rfl) ?_)
    refine ⟨[1, 2, 3], [0, 1, 2, 3], .tup [.val (.slice none 0 0), .agg [.val (.slice none 0 0), .val (.slice none 0 0), .val (.slice none 0 0)], .lit .i64 10], [.ro .u8 b, .bufA 79 3 n0 (fun m => [.int .u8 (a0 m), .int .u8 (b0 m), .int .u16 (d0 m)]) k0, .bufA 79 3 n1 (fun m => [.int .u8 (a1 m), .int .u8 (b1 m), .int .u16 (d1 m)]) k1, .bufA 79 3 n2 (fun m => [.int .u8 (a2 m), .int .u8 (b2 m), .int .u16 (d2 m)]) k2], rfl, rfl, rfl, rfl, rfl, ?_, ?_⟩
    ·exact ⟨rfl, rfl, fun _ => rfl, rfl, fun _ => rfl, rfl, fun _ => rfl, trivial⟩
    ·exact hE 10 hfe (by decide) _ _ _ _ _ _ _ _ _ _ _ _ _ _ _
   have vq : vc .eql bi 2 = false := by rw [qc, eql_false]; omega
   have hina : (0 : Int) ≤ 2 ∧ (2 : Int) < (bl : Int) := by omega
   have hlta : vaddN 0 2 < vln b := by rw [hadd0, hln]; omega
   have hlta' : 2 < vln b := by rw [hln]; omega
   obtain ⟨ways, hways⟩ : ∃ x, x = b.getD 2 0 := ⟨_, rfl⟩
   have hwr := getD_u8r hby 2
   rw [← hways] at hwr
   have hgw : vgd b 2 = ways := by rw [hvg, hways]
   obtain ⟨w4, hw4⟩ : ∃ x, x = ways % 4 := ⟨_, rfl⟩
   have vw4 : vb .and .u8 ways 3 = w4 := by rw [qb, hw4]; exact and_mask (k := .u8) rfl 2 (by decide) hwr.1 (by show ways < 256; omega)
   by_cases hw0 : w4 = 0
   ·have vw4z : vc .neq w4 0 = false := by rw [qc, neq_false]; omega
    obtain ⟨at', hat⟩ : ∃ x : Int, x = 3 := ⟨_, rfl⟩
    have hF : hdS b = (0, nv, (at' - 1).toNat) ∧ 1 ≤ nv ∧ nv ≤ 100000 ∧ 2 ≤ at' ∧ at' ≤ 4 ∧ at' ≤ bi ∧ ways = b.getD (at' - 1).toNat 0 ∧ ways % 4 = 0 := by
     rw [hat]
     exact ⟨hH, by omega, by omega, by omega, by omega, by omega, hways, by omega⟩
    cbv
    rw [ho, h131]
    cbv
    rw [ho, hb0]
    cbv
    (repeat refine And.intro (fun _ => rfl) ?_)
    refine ⟨⟨hin0⟩, ⟨hlt0⟩, ⟨hlt0'⟩, ?_⟩
    rw [hg0, hwx, v255]
    cbv
    rw [v128]
    cbv
    rw [ho, vl]
    cbv
    (repeat refine And.intro (fun _ => rfl) ?_)
    refine ⟨⟨hin1⟩, ⟨hlt1⟩, ⟨hlt1'⟩, ?_⟩
    rw [e1, e2, hg1, hw1, e3]
    rw [vn0]
    cbv
    rw [ho, vq]
    cbv
    (repeat refine And.intro (fun _ => rfl) ?_)
    refine ⟨⟨hina⟩, ⟨hlta⟩, ⟨hlta'⟩, ?_⟩
    rw [hgw, vw4, vw4z]
    cbv
    refine CallX.cv f24.go (Cv.slotEq 8 (.int .i64 at') (by rfl) (fun σ => by rw [hat]; rfl) (Cv.fold [1027069] 6 [] (by exact Nat.le_refl _) (by exact Nat.le_of_ble_eq_true rfl) (by rfl) (by cbv) ?_)) (by rfl)
    intro js
    cbv
    exact key js nv at' ways hF
   ·have vw4z : vc .neq w4 0 = true := by rw [qc, neq_true]; exact hw0
    have hfe : SR.1 = 11 := by rw [hSR]; exact seqR_ways hlen hH hn0 (by omega) (by rw [← hways]; omega)
    as_aux_lemma =>
    cbv
    rw [ho, h131]
    cbv
    rw [ho, hb0]
    cbv
    (repeat refine And.intro (fun _ => rfl) ?_)
    refine ⟨⟨hin0⟩, ⟨hlt0⟩, ⟨hlt0'⟩, ?_⟩
    rw [hg0, hwx, v255]
    cbv
    rw [v128]
    cbv
    rw [ho, vl]
    cbv
    (repeat refine And.intro (fun _ => rfl) ?_)
    refine ⟨⟨hin1⟩, ⟨hlt1⟩, ⟨hlt1'⟩, ?_⟩
    rw [e1, e2, hg1, hw1, e3]
    rw [vn0]
    cbv
    rw [ho, vq]
    cbv
    (repeat refine And.intro (fun _ => rfl) ?_)
    refine ⟨⟨hina⟩, ⟨hlta⟩, ⟨hlta'⟩, ?_⟩
    rw [hgw, vw4, vw4z]
    cbv
    (repeat refine And.intro (fun _ => rfl) ?_)
    refine ⟨[1, 2, 3], [0, 1, 2, 3], .tup [.val (.slice none 0 0), .agg [.val (.slice none 0 0), .val (.slice none 0 0), .val (.slice none 0 0)], .lit .i64 11], [.ro .u8 b, .bufA 79 3 n0 (fun m => [.int .u8 (a0 m), .int .u8 (b0 m), .int .u16 (d0 m)]) k0, .bufA 79 3 n1 (fun m => [.int .u8 (a1 m), .int .u8 (b1 m), .int .u16 (d1 m)]) k1, .bufA 79 3 n2 (fun m => [.int .u8 (a2 m), .int .u8 (b2 m), .int .u16 (d2 m)]) k2], rfl, rfl, rfl, rfl, rfl, ?_, ?_⟩
    ·exact ⟨rfl, rfl, fun _ => rfl, rfl, fun _ => rfl, rfl, fun _ => rfl, trivial⟩
    ·exact hE 11 hfe (by decide) _ _ _ _ _ _ _ _ _ _ _ _ _ _ _
  ·have v255 : vc .eql x0 255 = false := by rw [qc, eql_false]; exact hx255
   have v128 : vc .geq x0 128 = false := by rw [qc, geq_false]; exact hx128
   have vl : vc .lss bi 1 = false := by rw [qc, lss_false]; omega
   have hH : hdS b = (0, x0, 1) := by rw [hdS_1 (by omega) (by rw [← hx0]; exact hx255) (by rw [← hx0]; exact hx128), ← hx0]
   by_cases hn0 : x0 = 0
   ·have vn0 : vc .eql x0 0 = true := by rw [qc, eql_true]; exact hn0
    have hz := seqR_0 (TL := ⟨n0, a0, b0, d0⟩) (TB := ⟨n1, a1, b1, d1⟩) (TM := ⟨n2, a2, b2, d2⟩) hlen (show hdS b = (0, 0, 1) by rw [hH, hn0])
    rw [← hSR] at hz
    by_cases hgt : 1 < bl
    ·have vg : vc .gtr bi 1 = true := by rw [qc, gtr_true]; omega
     have hfe : SR.1 = 11 := by rw [hz, if_pos (by omega)]
     as_aux_lemma =>
     cbv
     rw [ho, h131]
     cbv
     rw [ho, hb0]
     cbv
     (repeat refine And.intro (fun _ => rfl) ?_)
     refine ⟨⟨hin0⟩, ⟨hlt0⟩, ⟨hlt0'⟩, ?_⟩
     rw [hg0, hwx, v255]
     cbv
     rw [v128]
     cbv
     rw [ho, vl]
     cbv
     rw [vn0]
     cbv
     rw [ho, vg]
     cbv
     (repeat refine And.intro (fun _ => rfl) ?_)
     refine ⟨[1, 2, 3], [0, 1, 2, 3], .tup [.val (.slice none 0 0), .agg [.val (.slice none 0 0), .val (.slice none 0 0), .val (.slice none 0 0)], .lit .i64 11], [.ro .u8 b, .bufA 79 3 n0 (fun m => [.int .u8 (a0 m), .int .u8 (b0 m), .int .u16 (d0 m)]) k0, .bufA 79 3 n1 (fun m => [.int .u8 (a1 m), .int .u8 (b1 m), .int .u16 (d1 m)]) k1, .bufA 79 3 n2 (fun m => [.int .u8 (a2 m), .int .u8 (b2 m), .int .u16 (d2 m)]) k2], rfl, rfl, rfl, rfl, rfl, ?_, ?_⟩
     ·exact ⟨rfl, rfl, fun _ => rfl, rfl, fun _ => rfl, rfl, fun _ => rfl, trivial⟩
     ·exact hE 11 hfe (by decide) _ _ _ _ _ _ _ _ _ _ _ _ _ _ _
    ·have vg : vc .gtr bi 1 = false := by rw [qc, gtr_false]; omega
     have hfe := hN (by rw [hz, if_neg (by omega)])
     as_aux_lemma =>
     cbv
     rw [ho, h131]
     cbv
     rw [ho, hb0]
     cbv
     (repeat refine And.intro (fun _ => rfl) ?_)
     refine ⟨⟨hin0⟩, ⟨hlt0⟩, ⟨hlt0'⟩, ?_⟩
     rw [hg0, hwx, v255]
     cbv
     rw [v128]
     cbv
     rw [ho, vl]
     cbv
     rw [vn0]
     cbv
     rw [ho, vg]
     cbv
     (repeat refine And.intro (fun _ => rfl) ?_)
     refine ⟨[1, 2, 3], [0, 1, 2, 3], .tup [.val (.slice none 0 0), .agg [.slice 1 .z 3 n0 c0, .slice 2 .z 3 n1 c1, .slice 3 .z 3 n2 c2], .lit .i64 0], [.ro .u8 b, .bufA 79 3 n0 (fun m => [.int .u8 (a0 m), .int .u8 (b0 m), .int .u16 (d0 m)]) k0, .bufA 79 3 n1 (fun m => [.int .u8 (a1 m), .int .u8 (b1 m), .int .u16 (d1 m)]) k1, .bufA 79 3 n2 (fun m => [.int .u8 (a2 m), .int .u8 (b2 m), .int .u16 (d2 m)]) k2], rfl, rfl, rfl, rfl, rfl, ?_, hfe⟩
     exact ⟨rfl, rfl, fun _ => rfl, rfl, fun _ => rfl, rfl, fun _ => rfl, trivial⟩
   have vn0 : vc .eql x0 0 = false := by rw [qc, eql_false]; exact hn0
   by_cases heq : bl = 1
   ·have vq : vc .eql bi 1 = true := by rw [qc, eql_true]; omega
    have hfe : SR.1 = 10 := by rw [hSR]; exact seqR_at hlen hH hn0 (by omega)
    as_aux_lemma =>
    cbv
    rw [ho, h131]
    cbv
    rw [ho, hb0]
    cbv
    (repeat refine And.intro (fun _ => rfl) ?_)
    refine ⟨⟨hin0⟩, ⟨hlt0⟩, ⟨hlt0'⟩, ?_⟩
    rw [hg0, hwx, v255]
    cbv
    rw [v128]
    cbv
    rw [ho, vl]
    cbv
    rw [vn0]
    cbv
    rw [ho, vq]
    cbv
    (repeat refine And.intro (fun _ => rfl) ?_)
    refine ⟨[1, 2, 3], [0, 1, 2, 3], .tup [.val (.slice none 0 0), .agg [.val (.slice none 0 0), .val (.slice none 0 0), .val (.slice none 0 0)], .lit .i64 10], [.ro .u8 b, .bufA 79 3 n0 (fun m => [.int .u8 (a0 m), .int .u8 (b0 m), .int .u16 (d0 m)]) k0, .bufA 79 3 n1 (fun m => [.int .u8 (a1 m), .int .u8 (b1 m), .int .u16 (d1 m)]) k1, .bufA 79 3 n2 (fun m => [.int .u8 (a2 m), .int .u8 (b2 m), .int .u16 (d2 m)]) k2], rfl, rfl, rfl, rfl, rfl, ?_, ?_⟩
    ·exact ⟨rfl, rfl, fun _ => rfl, rfl, fun _ => rfl, rfl, fun _ => rfl, trivial⟩
    ·exact hE 10 hfe (by decide) _ _ _ _ _ _ _ _ _ _ _ _ _ _ _
   have vq : vc .eql bi 1 = false := by rw [qc, eql_false]; omega
   have hina : (0 : Int) ≤ 1 ∧ (1 : Int) < (bl : Int) := by omega
   have hlta : vaddN 0 1 < vln b := by rw [hadd0, hln]; omega
   have hlta' : 1 < vln b := by rw [hln]; omega
   obtain ⟨ways, hways⟩ : ∃ x, x = b.getD 1 0 := ⟨_, rfl⟩
   have hwr := getD_u8r hby 1
   rw [← hways] at hwr
   have hgw : vgd b 1 = ways := by rw [hvg, hways]
   obtain ⟨w4, hw4⟩ : ∃ x, x = ways % 4 := ⟨_, rfl⟩
   have vw4 : vb .and .u8 ways 3 = w4 := by rw [qb, hw4]; exact and_mask (k := .u8) rfl 2 (by decide) hwr.1 (by show ways < 256; omega)
   by_cases hw0 : w4 = 0
   ·have vw4z : vc .neq w4 0 = false := by rw [qc, neq_false]; omega
    obtain ⟨at', hat⟩ : ∃ x : Int, x = 2 := ⟨_, rfl⟩
    have hF : hdS b = (0, x0, (at' - 1).toNat) ∧ 1 ≤ x0 ∧ x0 ≤ 100000 ∧ 2 ≤ at' ∧ at' ≤ 4 ∧ at' ≤ bi ∧ ways = b.getD (at' - 1).toNat 0 ∧ ways % 4 = 0 := by
     rw [hat]
     exact ⟨hH, by omega, by omega, by omega, by omega, by omega, hways, by omega⟩
    cbv
    rw [ho, h131]
    cbv
    rw [ho, hb0]
    cbv
    (repeat refine And.intro (fun _ => rfl) ?_)
    refine ⟨⟨hin0⟩, ⟨hlt0⟩, ⟨hlt0'⟩, ?_⟩
    rw [hg0, hwx, v255]
    cbv
    rw [v128]
    cbv
    rw [ho, vl]
    cbv
    rw [vn0]
    cbv
    rw [ho, vq]
    cbv
    (repeat refine And.intro (fun _ => rfl) ?_)
    refine ⟨⟨hina⟩, ⟨hlta⟩, ⟨hlta'⟩, ?_⟩
    rw [hgw, vw4, vw4z]
    cbv
    refine CallX.cv f24.go (Cv.slotEq 8 (.int .i64 at') (by rfl) (fun σ => by rw [hat]; rfl) (Cv.fold [1027069] 6 [] (by exact Nat.le_refl _) (by exact Nat.le_of_ble_eq_true rfl) (by rfl) (by cbv) ?_)) (by rfl)
    intro js
    cbv
    exact key js x0 at' ways hF
   ·have vw4z : vc .neq w4 0 = true := by rw [qc, neq_true]; exact hw0
    have hfe : SR.1 = 11 := by rw [hSR]; exact seqR_ways hlen hH hn0 (by omega) (by rw [← hways]; omega)
    as_aux_lemma =>
    cbv
    rw [ho, h131]
    cbv
    rw [ho, hb0]
    cbv
    (repeat refine And.intro (fun _ => rfl) ?_)
    refine ⟨⟨hin0⟩, ⟨hlt0⟩, ⟨hlt0'⟩, ?_⟩
    rw [hg0, hwx, v255]
    cbv
    rw [v128]
    cbv
    rw [ho, vl]
    cbv
    rw [vn0]
    cbv
    rw [ho, vq]
    cbv
    (repeat refine And.intro (fun _ => rfl) ?_)
    refine ⟨⟨hina⟩, ⟨hlta⟩, ⟨hlta'⟩, ?_⟩
    rw [hgw, vw4, vw4z]
    cbv
    (repeat refine And.intro (fun _ => rfl) ?_)
    refine ⟨[1, 2, 3], [0, 1, 2, 3], .tup [.val (.slice none 0 0), .agg [.val (.slice none 0 0), .val (.slice none 0 0), .val (.slice none 0 0)], .lit .i64 11], [.ro .u8 b, .bufA 79 3 n0 (fun m => [.int .u8 (a0 m), .int .u8 (b0 m), .int .u16 (d0 m)]) k0, .bufA 79 3 n1 (fun m => [.int .u8 (a1 m), .int .u8 (b1 m), .int .u16 (d1 m)]) k1, .bufA 79 3 n2 (fun m => [.int .u8 (a2 m), .int .u8 (b2 m), .int .u16 (d2 m)]) k2], rfl, rfl, rfl, rfl, rfl, ?_, ?_⟩
    ·exact ⟨rfl, rfl, fun _ => rfl, rfl, fun _ => rfl, rfl, fun _ => rfl, trivial⟩
    ·exact hE 11 hfe (by decide) _ _ _ _ _ _ _ _ _ _ _ _ _ _ _
 ·intro js n at' ways ⟨hH, hn1, hn2, hat1, hat2, hat3, hws, hw4⟩
  obtain ⟨u, hu⟩ : ∃ u : Nat, at' = u := ⟨at'.toNat, by omega⟩
  have hu1 : (at' - 1).toNat = u - 1 := by omega
  rw [hu1] at hH hws
  have hwr : 0 ≤ ways ∧ ways < 256 := by rw [hws]; exact getD_u8r hby (u - 1)
  have hnn : n ≠ 0 := by omega
  have hau : ¬ b.length = u - 1 := by omega
  have hw40 : b.getD (u - 1) 0 % 4 = 0 := by rw [← hws]; exact hw4
  have h00 : vc .neq 0 0 = false := by rw [qc]; rfl
  obtain ⟨u0, hu0⟩ : ∃ x : Nat, x = u - 1 + 1 := ⟨_, rfl⟩
  have at0e : at' = u0 := by omega
  have hto0 : vtoN at' = u0 := by simp only [qtoN]; omega
  have hin0 : 0 ≤ at' ∧ at' ≤ (bl : Int) := by omega
  have hub0 : u0 ≤ b.length := by omega
  obtain ⟨q0, hq0⟩ : ∃ q, q = b.drop u0 := ⟨_, rfl⟩
  obtain ⟨ql0, hql0⟩ : ∃ q, q = q0.length := ⟨_, rfl⟩
  have hqlb0 : ql0 = bl - u0 := by rw [hql0, hq0, List.length_drop, hbl]
  have hsb0 : vsubN bl u0 = ql0 := by simp only [qsubN]; exact hqlb0.symm
  obtain ⟨sc0, hsc0⟩ : ∃ s, s = vsubN cap u0 := ⟨_, rfl⟩
  obtain ⟨cu0, hcu0⟩ : ∃ s, s = vcutN 0 u0 cap := ⟨_, rfl⟩
  have hvw0 : View cu0 q0 b := by rw [hcu0, hq0, qcutN]; exact view_drop b u0 cap (by omega) (by omega)
  have hqy0 : ∀ x ∈ q0, isByte x := fun x hx => hby x (by rw [hq0] at hx; exact List.mem_of_mem_drop hx)
  have hqn0 : q0.length ≤ 140737488355328 := by omega
  obtain ⟨y0, hy0⟩ : ∃ y, y = ways / 64 % 4 := ⟨_, rfl⟩
  obtain ⟨z0, hz0⟩ : ∃ y, y = ways / 64 := ⟨_, rfl⟩
  have e01 : vb .shr .u8 ways 6 = z0 := by rw [qb, hz0]; exact shr_eq (k := .u8) (by decide)
  have e02 : vb .and .u8 z0 3 = y0 := by rw [qb, hy0, ← hz0]; exact and_mask (k := .u8) rfl 2 (by decide) (by omega) (by show z0 < 256; omega)
  obtain ⟨⟨e0, us0, ⟨N0, A0, B0, C0⟩⟩, hr0⟩ : ∃ r, tabK 9 35 6 cntL y0 q0 ⟨n0, a0, b0, d0⟩ = r := ⟨_, rfl⟩
  have ht0 := fun c => htab0 q0 c sc0 n0 k0 c0 a0 b0 d0 y0 e0 us0 N0 A0 B0 C0 (by omega) hqy0 hqn0 hcL hr0
  rw [← hql0] at ht0
  have hr0' : tabK 9 35 6 cntL (b.getD (u - 1) 0 / 64 % 4) (b.drop (u - 1 + 1)) ⟨n0, a0, b0, d0⟩ = (e0, us0, ⟨N0, A0, B0, C0⟩) := by rw [← hws, ← hy0, ← hu0, ← hq0]; exact hr0
  have hfe0 : e0 ≠ 0 → SR.1 = e0 := fun h => by rw [hSR]; exact seqR_t0 hlen hH hnn hau hw40 hr0' h
  have hv0 : e0 ≠ 0 → vc .neq e0 0 = true := fun h => by rw [qc, neq_true]; exact h
  by_cases he0 : e0 = 0
  rotate_left
  ·refine call_con (ρ := []) hk ⟨by rfl, by rfl, by rfl, by cbv; exact ⟨fun _ => rfl, fun _ => rfl, fun _ => rfl, trivial⟩⟩ ?_
   rintro v H R js2 ⟨rfl, c, rfl, rfl⟩
   cbv
   (repeat refine And.intro (fun _ => rfl) ?_)
   refine WX.unr 4 hw hm ?_
   cbv
   rw [e01, e02, hto0]
   refine ⟨⟨by decide⟩, ⟨hin0⟩, ?_⟩
   rw [hsb0, ← hsc0, ← hcu0]
   refine inl_walk hw hm f60 (by rfl) ?_
   cbv
   (repeat refine And.intro (fun _ => rfl) ?_)
   intro js3
   cbv
   refine call_con (ρ := [(19, .z), (0, .n cu0), (1, .z), (6, .z), (7, .z), (8, .z), (9, .z), (10, .z), (11, .z), (12, .z), (13, .z), (14, .z), (15, .z), (16, .z), (17, .z), (18, .z)]) (ht0 c) ⟨by rfl, by rfl, by rfl, by cbv; (repeat refine And.intro (fun _ => rfl) ?_); exact ⟨hvw0, by simp only [renL3, and_self], fun _ => rfl, trivial⟩⟩ ?_
   rintro v H R js4 (⟨_, rfl, rfl, uu, rfl⟩ | ⟨he, _⟩)
   rotate_left
   ·exfalso; exact he0 he
   cbv
   (repeat refine And.intro (fun _ => rfl) ?_)
   rw [hv0 he0]
   cbv
   (repeat refine And.intro (fun _ => rfl) ?_)
   refine ⟨[1, 2, 3], [0, 1, 2, 3], .tup [.val (.slice none 0 0), .agg [.val (.slice none 0 0), .val (.slice none 0 0), .val (.slice none 0 0)], .int .i64 e0], [.ro .u8 b, .bufA 79 3 n0 (fun m => [.int .u8 (a0 m), .int .u8 (b0 m), .int .u16 (d0 m)]) k0, .bufA 79 3 n1 (fun m => [.int .u8 (a1 m), .int .u8 (b1 m), .int .u16 (d1 m)]) k1, .bufA 79 3 n2 (fun m => [.int .u8 (a2 m), .int .u8 (b2 m), .int .u16 (d2 m)]) k2], rfl, rfl, rfl, rfl, rfl, ?_, ?_⟩
   ·exact ⟨rfl, rfl, fun _ => rfl, rfl, fun _ => rfl, rfl, fun _ => rfl, trivial⟩
   ·exact hE e0 (hfe0 he0) he0 _ _ _ _ _ _ _ _ _ _ _ _ _ _ _
  subst he0
  clear hfe0 hv0
  obtain ⟨hT0', hN0, hus0, hus0'⟩ := tabK_ok hT0 cntL_right (by decide) hqy0 hr0
  obtain ⟨u1, hu1⟩ : ∃ x : Nat, x = u - 1 + 1 + us0.toNat := ⟨_, rfl⟩
  obtain ⟨at1, at1e⟩ : ∃ x : Int, x = u1 := ⟨_, rfl⟩
  have hadd1 : vb .add .i64 at' us0 = at1 := by rw [qb, at1e, hu1]; have := add_i64 (x := at') (y := us0) (by omega) (by omega); rw [this]; omega
  have hto1 : vtoN at1 = u1 := by simp only [qtoN]; omega
  have hin1 : 0 ≤ at1 ∧ at1 ≤ (bl : Int) := by omega
  have hub1 : u1 ≤ b.length := by omega
  obtain ⟨q1, hq1⟩ : ∃ q, q = b.drop u1 := ⟨_, rfl⟩
  obtain ⟨ql1, hql1⟩ : ∃ q, q = q1.length := ⟨_, rfl⟩
  have hqlb1 : ql1 = bl - u1 := by rw [hql1, hq1, List.length_drop, hbl]
  have hsb1 : vsubN bl u1 = ql1 := by simp only [qsubN]; exact hqlb1.symm
  obtain ⟨sc1, hsc1⟩ : ∃ s, s = vsubN cap u1 := ⟨_, rfl⟩
  obtain ⟨cu1, hcu1⟩ : ∃ s, s = vcutN 0 u1 cap := ⟨_, rfl⟩
  have hvw1 : View cu1 q1 b := by rw [hcu1, hq1, qcutN]; exact view_drop b u1 cap (by omega) (by omega)
  have hqy1 : ∀ x ∈ q1, isByte x := fun x hx => hby x (by rw [hq1] at hx; exact List.mem_of_mem_drop hx)
  have hqn1 : q1.length ≤ 140737488355328 := by omega
  obtain ⟨y1, hy1⟩ : ∃ y, y = ways / 16 % 4 := ⟨_, rfl⟩
  obtain ⟨z1, hz1⟩ : ∃ y, y = ways / 16 := ⟨_, rfl⟩
  have e11 : vb .shr .u8 ways 4 = z1 := by rw [qb, hz1]; exact shr_eq (k := .u8) (by decide)
  have e12 : vb .and .u8 z1 3 = y1 := by rw [qb, hy1, ← hz1]; exact and_mask (k := .u8) rfl 2 (by decide) (by omega) (by show z1 < 256; omega)
  obtain ⟨⟨e1, us1, ⟨N1, A1, B1, C1⟩⟩, hr1⟩ : ∃ r, tabK 8 31 5 cntB y1 q1 ⟨n1, a1, b1, d1⟩ = r := ⟨_, rfl⟩
  have ht1 := fun c => htab1 q1 c sc1 n1 k1 c1 a1 b1 d1 y1 e1 us1 N1 A1 B1 C1 (by omega) hqy1 hqn1 hcB hr1
  rw [← hql1] at ht1
  have hr1' : tabK 8 31 5 cntB (b.getD (u - 1) 0 / 16 % 4) (b.drop (u - 1 + 1 + us0.toNat)) ⟨n1, a1, b1, d1⟩ = (e1, us1, ⟨N1, A1, B1, C1⟩) := by rw [← hws, ← hy1, ← hu1, ← hq1]; exact hr1
  have hfe1 : e1 ≠ 0 → SR.1 = e1 := fun h => by rw [hSR]; exact seqR_t1 hlen hH hnn hau hw40 hr0' hr1' h
  have hv1 : e1 ≠ 0 → vc .neq e1 0 = true := fun h => by rw [qc, neq_true]; exact h
  by_cases he1 : e1 = 0
  rotate_left
  ·refine call_con (ρ := []) hk ⟨by rfl, by rfl, by rfl, by cbv; exact ⟨fun _ => rfl, fun _ => rfl, fun _ => rfl, trivial⟩⟩ ?_
   rintro v H R js2 ⟨rfl, c, rfl, rfl⟩
   cbv
   (repeat refine And.intro (fun _ => rfl) ?_)
   refine WX.unr 4 hw hm ?_
   cbv
   rw [e01, e02, hto0]
   refine ⟨⟨by decide⟩, ⟨hin0⟩, ?_⟩
   rw [hsb0, ← hsc0, ← hcu0]
   refine inl_walk hw hm f60 (by rfl) ?_
   cbv
   (repeat refine And.intro (fun _ => rfl) ?_)
   intro js3
   cbv
   refine call_con (ρ := [(19, .z), (0, .n cu0), (1, .z), (6, .z), (7, .z), (8, .z), (9, .z), (10, .z), (11, .z), (12, .z), (13, .z), (14, .z), (15, .z), (16, .z), (17, .z), (18, .z)]) (ht0 c) ⟨by rfl, by rfl, by rfl, by cbv; (repeat refine And.intro (fun _ => rfl) ?_); exact ⟨hvw0, by simp only [renL3, and_self], fun _ => rfl, trivial⟩⟩ ?_
   rintro v H R js4 (⟨he, _⟩ | ⟨_, rfl, cp0, c0', rfl, rfl⟩)
   ·exfalso; exact he rfl
   cbv
   (repeat refine And.intro (fun _ => rfl) ?_)
   simp only [renL3]
   rw [h00]
   cbv
   (repeat refine And.intro (fun _ => rfl) ?_)
   refine inl_walk hw hm f60 (by rfl) ?_
   cbv
   (repeat refine And.intro (fun _ => rfl) ?_)
   intro js5
   cbv
   rw [hadd1, e11, e12, hto1]
   refine ⟨⟨by decide⟩, ⟨hin1⟩, ?_⟩
   rw [hsb1, ← hsc1, ← hcu1]
   refine inl_walk hw hm f63 (by rfl) ?_
   cbv
   (repeat refine And.intro (fun _ => rfl) ?_)
   intro js3
   cbv
   refine call_con (ρ := [(19, .z), (0, .n cu1), (2, .z), (6, .z), (7, .z), (8, .z), (9, .z), (10, .z), (11, .z), (12, .z), (13, .z), (14, .z), (15, .z), (16, .z), (17, .z), (18, .z)]) (ht1 c) ⟨by rfl, by rfl, by rfl, by cbv; (repeat refine And.intro (fun _ => rfl) ?_); exact ⟨hvw1, by simp only [renL3, and_self], fun _ => rfl, trivial⟩⟩ ?_
   rintro v H R js4 (⟨_, rfl, rfl, uu, rfl⟩ | ⟨he, _⟩)
   rotate_left
   ·exfalso; exact he1 he
   cbv
   (repeat refine And.intro (fun _ => rfl) ?_)
   rw [hv1 he1]
   cbv
   (repeat refine And.intro (fun _ => rfl) ?_)
   refine ⟨[1, 2, 3], [0, 1, 2, 3], .tup [.val (.slice none 0 0), .agg [.val (.slice none 0 0), .val (.slice none 0 0), .val (.slice none 0 0)], .int .i64 e1], [.ro .u8 b, .bufA 79 3 N0 (fun m => [.int .u8 (A0 m), .int .u8 (B0 m), .int .u16 (C0 m)]) c0', .bufA 79 3 n1 (fun m => [.int .u8 (a1 m), .int .u8 (b1 m), .int .u16 (d1 m)]) k1, .bufA 79 3 n2 (fun m => [.int .u8 (a2 m), .int .u8 (b2 m), .int .u16 (d2 m)]) k2], rfl, rfl, rfl, rfl, rfl, ?_, ?_⟩
   ·exact ⟨rfl, rfl, fun _ => rfl, rfl, fun _ => rfl, rfl, fun _ => rfl, trivial⟩
   ·exact hE e1 (hfe1 he1) he1 _ _ _ _ _ _ _ _ _ _ _ _ _ _ _
  subst he1
  clear hfe1 hv1
  obtain ⟨hT1', hN1, hus1, hus1'⟩ := tabK_ok hT1 cntB_right (by decide) hqy1 hr1
  obtain ⟨u2, hu2⟩ : ∃ x : Nat, x = u - 1 + 1 + us0.toNat + us1.toNat := ⟨_, rfl⟩
  obtain ⟨at2, at2e⟩ : ∃ x : Int, x = u2 := ⟨_, rfl⟩
  have hadd2 : vb .add .i64 at1 us1 = at2 := by rw [qb, at2e, hu2]; have := add_i64 (x := at1) (y := us1) (by omega) (by omega); rw [this]; omega
  have hto2 : vtoN at2 = u2 := by simp only [qtoN]; omega
  have hin2 : 0 ≤ at2 ∧ at2 ≤ (bl : Int) := by omega
  have hub2 : u2 ≤ b.length := by omega
  obtain ⟨q2, hq2⟩ : ∃ q, q = b.drop u2 := ⟨_, rfl⟩
  obtain ⟨ql2, hql2⟩ : ∃ q, q = q2.length := ⟨_, rfl⟩
  have hqlb2 : ql2 = bl - u2 := by rw [hql2, hq2, List.length_drop, hbl]
  have hsb2 : vsubN bl u2 = ql2 := by simp only [qsubN]; exact hqlb2.symm
  obtain ⟨sc2, hsc2⟩ : ∃ s, s = vsubN cap u2 := ⟨_, rfl⟩
  obtain ⟨cu2, hcu2⟩ : ∃ s, s = vcutN 0 u2 cap := ⟨_, rfl⟩
  have hvw2 : View cu2 q2 b := by rw [hcu2, hq2, qcutN]; exact view_drop b u2 cap (by omega) (by omega)
  have hqy2 : ∀ x ∈ q2, isByte x := fun x hx => hby x (by rw [hq2] at hx; exact List.mem_of_mem_drop hx)
  have hqn2 : q2.length ≤ 140737488355328 := by omega
  obtain ⟨y2, hy2⟩ : ∃ y, y = ways / 4 % 4 := ⟨_, rfl⟩
  obtain ⟨z2, hz2⟩ : ∃ y, y = ways / 4 := ⟨_, rfl⟩
  have e21 : vb .shr .u8 ways 2 = z2 := by rw [qb, hz2]; exact shr_eq (k := .u8) (by decide)
  have e22 : vb .and .u8 z2 3 = y2 := by rw [qb, hy2, ← hz2]; exact and_mask (k := .u8) rfl 2 (by decide) (by omega) (by show z2 < 256; omega)
  obtain ⟨⟨e2, us2, ⟨N2, A2, B2, C2⟩⟩, hr2⟩ : ∃ r, tabK 9 52 6 cntM y2 q2 ⟨n2, a2, b2, d2⟩ = r := ⟨_, rfl⟩
  have ht2 := fun c => htab2 q2 c sc2 n2 k2 c2 a2 b2 d2 y2 e2 us2 N2 A2 B2 C2 (by omega) hqy2 hqn2 hcM hr2
  rw [← hql2] at ht2
  have hr2' : tabK 9 52 6 cntM (b.getD (u - 1) 0 / 4 % 4) (b.drop (u - 1 + 1 + us0.toNat + us1.toNat)) ⟨n2, a2, b2, d2⟩ = (e2, us2, ⟨N2, A2, B2, C2⟩) := by rw [← hws, ← hy2, ← hu2, ← hq2]; exact hr2
  have hfe2 : e2 ≠ 0 → SR.1 = e2 := fun h => by rw [hSR]; exact seqR_t2 hlen hH hnn hau hw40 hr0' hr1' hr2' h
  have hv2 : e2 ≠ 0 → vc .neq e2 0 = true := fun h => by rw [qc, neq_true]; exact h
  by_cases he2 : e2 = 0
  rotate_left
  ·refine call_con (ρ := []) hk ⟨by rfl, by rfl, by rfl, by cbv; exact ⟨fun _ => rfl, fun _ => rfl, fun _ => rfl, trivial⟩⟩ ?_
   rintro v H R js2 ⟨rfl, c, rfl, rfl⟩
   cbv
   (repeat refine And.intro (fun _ => rfl) ?_)
   refine WX.unr 4 hw hm ?_
   cbv
   rw [e01, e02, hto0]
   refine ⟨⟨by decide⟩, ⟨hin0⟩, ?_⟩
   rw [hsb0, ← hsc0, ← hcu0]
   refine inl_walk hw hm f60 (by rfl) ?_
   cbv
   (repeat refine And.intro (fun _ => rfl) ?_)
   intro js3
   cbv
   refine call_con (ρ := [(19, .z), (0, .n cu0), (1, .z), (6, .z), (7, .z), (8, .z), (9, .z), (10, .z), (11, .z), (12, .z), (13, .z), (14, .z), (15, .z), (16, .z), (17, .z), (18, .z)]) (ht0 c) ⟨by rfl, by rfl, by rfl, by cbv; (repeat refine And.intro (fun _ => rfl) ?_); exact ⟨hvw0, by simp only [renL3, and_self], fun _ => rfl, trivial⟩⟩ ?_
   rintro v H R js4 (⟨he, _⟩ | ⟨_, rfl, cp0, c0', rfl, rfl⟩)
   ·exfalso; exact he rfl
   cbv
   (repeat refine And.intro (fun _ => rfl) ?_)
   simp only [renL3]
   rw [h00]
   cbv
   (repeat refine And.intro (fun _ => rfl) ?_)
   refine inl_walk hw hm f60 (by rfl) ?_
   cbv
   (repeat refine And.intro (fun _ => rfl) ?_)
   intro js5
   cbv
   rw [hadd1, e11, e12, hto1]
   refine ⟨⟨by decide⟩, ⟨hin1⟩, ?_⟩
   rw [hsb1, ← hsc1, ← hcu1]
   refine inl_walk hw hm f63 (by rfl) ?_
   cbv
   (repeat refine And.intro (fun _ => rfl) ?_)
   intro js3
   cbv
   refine call_con (ρ := [(19, .z), (0, .n cu1), (2, .z), (6, .z), (7, .z), (8, .z), (9, .z), (10, .z), (11, .z), (12, .z), (13, .z), (14, .z), (15, .z), (16, .z), (17, .z), (18, .z)]) (ht1 c) ⟨by rfl, by rfl, by rfl, by cbv; (repeat refine And.intro (fun _ => rfl) ?_); exact ⟨hvw1, by simp only [renL3, and_self], fun _ => rfl, trivial⟩⟩ ?_
   rintro v H R js4 (⟨he, _⟩ | ⟨_, rfl, cp1, c1', rfl, rfl⟩)
   ·exfalso; exact he rfl
   cbv
   (repeat refine And.intro (fun _ => rfl) ?_)
   simp only [renL3]
   rw [h00]
   cbv
   (repeat refine And.intro (fun _ => rfl) ?_)
   refine inl_walk hw hm f63 (by rfl) ?_
   cbv
   (repeat refine And.intro (fun _ => rfl) ?_)
   intro js5
   cbv
   rw [hadd2, e21, e22, hto2]
   refine ⟨⟨by decide⟩, ⟨hin2⟩, ?_⟩
   rw [hsb2, ← hsc2, ← hcu2]
   refine inl_walk hw hm f62 (by rfl) ?_
   cbv
   (repeat refine And.intro (fun _ => rfl) ?_)
   intro js3
   cbv
   refine call_con (ρ := [(19, .z), (0, .n cu2), (3, .z), (6, .z), (7, .z), (8, .z), (9, .z), (10, .z), (11, .z), (12, .z), (13, .z), (14, .z), (15, .z), (16, .z), (17, .z), (18, .z)]) (ht2 c) ⟨by rfl, by rfl, by rfl, by cbv; (repeat refine And.intro (fun _ => rfl) ?_); exact ⟨hvw2, by simp only [renL3, and_self], fun _ => rfl, trivial⟩⟩ ?_
   rintro v H R js4 (⟨_, rfl, rfl, uu, rfl⟩ | ⟨he, _⟩)
   rotate_left
   ·exfalso; exact he2 he
   cbv
   (repeat refine And.intro (fun _ => rfl) ?_)
   rw [hv2 he2]
   cbv
   (repeat refine And.intro (fun _ => rfl) ?_)
   refine ⟨[1, 2, 3], [0, 1, 2, 3], .tup [.val (.slice none 0 0), .agg [.val (.slice none 0 0), .val (.slice none 0 0), .val (.slice none 0 0)], .int .i64 e2], [.ro .u8 b, .bufA 79 3 N0 (fun m => [.int .u8 (A0 m), .int .u8 (B0 m), .int .u16 (C0 m)]) c0', .bufA 79 3 N1 (fun m => [.int .u8 (A1 m), .int .u8 (B1 m), .int .u16 (C1 m)]) c1', .bufA 79 3 n2 (fun m => [.int .u8 (a2 m), .int .u8 (b2 m), .int .u16 (d2 m)]) k2], rfl, rfl, rfl, rfl, rfl, ?_, ?_⟩
   ·exact ⟨rfl, rfl, fun _ => rfl, rfl, fun _ => rfl, rfl, fun _ => rfl, trivial⟩
   ·exact hE e2 (hfe2 he2) he2 _ _ _ _ _ _ _ _ _ _ _ _ _ _ _
  subst he2
  clear hfe2 hv2
  obtain ⟨hT2', hN2, hus2, hus2'⟩ := tabK_ok hT2 cntM_right (by decide) hqy2 hr2
  obtain ⟨u3, hu3⟩ : ∃ x : Nat, x = u - 1 + 1 + us0.toNat + us1.toNat + us2.toNat := ⟨_, rfl⟩
  obtain ⟨at3, at3e⟩ : ∃ x : Int, x = u3 := ⟨_, rfl⟩
  have hadd3 : vb .add .i64 at2 us2 = at3 := by rw [qb, at3e, hu3]; have := add_i64 (x := at2) (y := us2) (by omega) (by omega); rw [this]; omega
  have hto3 : vtoN at3 = u3 := by simp only [qtoN]; omega
  have hin3 : 0 ≤ at3 ∧ at3 ≤ (bl : Int) := by omega
  have hub3 : u3 ≤ b.length := by omega
  obtain ⟨q3, hq3⟩ : ∃ q, q = b.drop u3 := ⟨_, rfl⟩
  obtain ⟨ql3, hql3⟩ : ∃ q, q = q3.length := ⟨_, rfl⟩
  have hqlb3 : ql3 = bl - u3 := by rw [hql3, hq3, List.length_drop, hbl]
  have hsb3 : vsubN bl u3 = ql3 := by simp only [qsubN]; exact hqlb3.symm
  obtain ⟨sc3, hsc3⟩ : ∃ s, s = vsubN cap u3 := ⟨_, rfl⟩
  obtain ⟨cu3, hcu3⟩ : ∃ s, s = vcutN 0 u3 cap := ⟨_, rfl⟩
  have hvw3 : View cu3 q3 b := by rw [hcu3, hq3, qcutN]; exact view_drop b u3 cap (by omega) (by omega)
  have hqy3 : ∀ x ∈ q3, isByte x := fun x hx => hby x (by rw [hq3] at hx; exact List.mem_of_mem_drop hx)
  have hqn3 : q3.length ≤ 140737488355328 := by omega
  have hSq := seqR_t hlen hH hnn hau hw40 hr0' hr1' hr2'
  rw [← hSR, ← hu3, ← hq3] at hSq
  by_cases hlz : q3.getLastD 0 = 0
  ·have hnb := hnewb q3 sc3 hlz (by omega)
   rw [← hql3] at hnb
   have hfe : SR.1 = 11 := by rw [hSq]; exact seqT_zero hlz
   refine call_con (ρ := []) hk ⟨by rfl, by rfl, by rfl, by cbv; exact ⟨fun _ => rfl, fun _ => rfl, fun _ => rfl, trivial⟩⟩ ?_
   rintro v H R js2 ⟨rfl, c, rfl, rfl⟩
   cbv
   (repeat refine And.intro (fun _ => rfl) ?_)
   refine WX.unr 4 hw hm ?_
   cbv
   rw [e01, e02, hto0]
   refine ⟨⟨by decide⟩, ⟨hin0⟩, ?_⟩
   rw [hsb0, ← hsc0, ← hcu0]
   refine inl_walk hw hm f60 (by rfl) ?_
   cbv
   (repeat refine And.intro (fun _ => rfl) ?_)
   intro js3
   cbv
   refine call_con (ρ := [(19, .z), (0, .n cu0), (1, .z), (6, .z), (7, .z), (8, .z), (9, .z), (10, .z), (11, .z), (12, .z), (13, .z), (14, .z), (15, .z), (16, .z), (17, .z), (18, .z)]) (ht0 c) ⟨by rfl, by rfl, by rfl, by cbv; (repeat refine And.intro (fun _ => rfl) ?_); exact ⟨hvw0, by simp only [renL3, and_self], fun _ => rfl, trivial⟩⟩ ?_
   rintro v H R js4 (⟨he, _⟩ | ⟨_, rfl, cp0, c0', rfl, rfl⟩)
   ·exfalso; exact he rfl
   cbv
   (repeat refine And.intro (fun _ => rfl) ?_)
   simp only [renL3]
   rw [h00]
   cbv
   (repeat refine And.intro (fun _ => rfl) ?_)
   refine inl_walk hw hm f60 (by rfl) ?_
   cbv
   (repeat refine And.intro (fun _ => rfl) ?_)
   intro js5
   cbv
   rw [hadd1, e11, e12, hto1]
   refine ⟨⟨by decide⟩, ⟨hin1⟩, ?_⟩
   rw [hsb1, ← hsc1, ← hcu1]
   refine inl_walk hw hm f63 (by rfl) ?_
   cbv
   (repeat refine And.intro (fun _ => rfl) ?_)
   intro js3
   cbv
   refine call_con (ρ := [(19, .z), (0, .n cu1), (2, .z), (6, .z), (7, .z), (8, .z), (9, .z), (10, .z), (11, .z), (12, .z), (13, .z), (14, .z), (15, .z), (16, .z), (17, .z), (18, .z)]) (ht1 c) ⟨by rfl, by rfl, by rfl, by cbv; (repeat refine And.intro (fun _ => rfl) ?_); exact ⟨hvw1, by simp only [renL3, and_self], fun _ => rfl, trivial⟩⟩ ?_
   rintro v H R js4 (⟨he, _⟩ | ⟨_, rfl, cp1, c1', rfl, rfl⟩)
   ·exfalso; exact he rfl
   cbv
   (repeat refine And.intro (fun _ => rfl) ?_)
   simp only [renL3]
   rw [h00]
   cbv
   (repeat refine And.intro (fun _ => rfl) ?_)
   refine inl_walk hw hm f63 (by rfl) ?_
   cbv
   (repeat refine And.intro (fun _ => rfl) ?_)
   intro js5
   cbv
   rw [hadd2, e21, e22, hto2]
   refine ⟨⟨by decide⟩, ⟨hin2⟩, ?_⟩
   rw [hsb2, ← hsc2, ← hcu2]
   refine inl_walk hw hm f62 (by rfl) ?_
   cbv
   (repeat refine And.intro (fun _ => rfl) ?_)
   intro js3
   cbv
   refine call_con (ρ := [(19, .z), (0, .n cu2), (3, .z), (6, .z), (7, .z), (8, .z), (9, .z), (10, .z), (11, .z), (12, .z), (13, .z), (14, .z), (15, .z), (16, .z), (17, .z), (18, .z)]) (ht2 c) ⟨by rfl, by rfl, by rfl, by cbv; (repeat refine And.intro (fun _ => rfl) ?_); exact ⟨hvw2, by simp only [renL3, and_self], fun _ => rfl, trivial⟩⟩ ?_
   rintro v H R js4 (⟨he, _⟩ | ⟨_, rfl, cp2, c2', rfl, rfl⟩)
   ·exfalso; exact he rfl
   cbv
   (repeat refine And.intro (fun _ => rfl) ?_)
   simp only [renL3]
   rw [h00]
   cbv
   (repeat refine And.intro (fun _ => rfl) ?_)
   refine inl_walk hw hm f62 (by rfl) ?_
   cbv
   (repeat refine And.intro (fun _ => rfl) ?_)
   intro js5
   cbv
   rw [hadd3, hto3]
   refine ⟨⟨hin3⟩, ?_⟩
   rw [hsb3, ← hsc3, ← hcu3]
   refine call_con (ρ := [(0, .n cu3)]) hnb ⟨by rfl, by rfl, by rfl, by cbv; (repeat refine And.intro (fun _ => rfl) ?_); exact ⟨hvw3, trivial⟩⟩ ?_
   rintro v H R js6 ⟨rfl, rfl, rfl⟩
   cbv
   (repeat refine And.intro (fun _ => rfl) ?_)
   refine ⟨[1, 2, 3], [0, 1, 2, 3], .tup [.val (.slice none 0 0), .agg [.val (.slice none 0 0), .val (.slice none 0 0), .val (.slice none 0 0)], .lit .i64 11], [.ro .u8 b, .bufA 79 3 N0 (fun m => [.int .u8 (A0 m), .int .u8 (B0 m), .int .u16 (C0 m)]) c0', .bufA 79 3 N1 (fun m => [.int .u8 (A1 m), .int .u8 (B1 m), .int .u16 (C1 m)]) c1', .bufA 79 3 N2 (fun m => [.int .u8 (A2 m), .int .u8 (B2 m), .int .u16 (C2 m)]) c2'], rfl, rfl, rfl, rfl, rfl, ?_, ?_⟩
   ·exact ⟨rfl, rfl, fun _ => rfl, rfl, fun _ => rfl, rfl, fun _ => rfl, trivial⟩
   ·exact hE 11 hfe (by decide) _ _ _ _ _ _ _ _ _ _ _ _ _ _ _
  obtain ⟨lg0, hNl0, hlgm0, hcell0⟩ := hT0'.resolve_left hN0
  have hNl0 : N0 = 2 ^ lg0 := hNl0
  have hl20 : Nat.log2 N0 = lg0 := by rw [hNl0]; exact Nat.log2_two_pow
  have hNp0 : (2 : Int) ^ lg0 = N0 := by rw [hNl0]; push_cast; rfl
  have hNb0 : N0 ≤ 4096 := by rw [hNl0]; exact Nat.le_trans (Nat.pow_le_pow_right (by decide) hlgm0) (by decide)
  have hlg0 := fun cp A B C => hlog lg0 N0 cp A B C hNl0 hlgm0
  obtain ⟨lI0, hlI0⟩ : ∃ x : Int, x = lg0 := ⟨_, rfl⟩
  obtain ⟨lg1, hNl1, hlgm1, hcell1⟩ := hT1'.resolve_left hN1
  have hNl1 : N1 = 2 ^ lg1 := hNl1
  have hl21 : Nat.log2 N1 = lg1 := by rw [hNl1]; exact Nat.log2_two_pow
  have hNp1 : (2 : Int) ^ lg1 = N1 := by rw [hNl1]; push_cast; rfl
  have hNb1 : N1 ≤ 4096 := by rw [hNl1]; exact Nat.le_trans (Nat.pow_le_pow_right (by decide) hlgm1) (by decide)
  have hlg1 := fun cp A B C => hlog lg1 N1 cp A B C hNl1 hlgm1
  obtain ⟨lI1, hlI1⟩ : ∃ x : Int, x = lg1 := ⟨_, rfl⟩
  obtain ⟨lg2, hNl2, hlgm2, hcell2⟩ := hT2'.resolve_left hN2
  have hNl2 : N2 = 2 ^ lg2 := hNl2
  have hl22 : Nat.log2 N2 = lg2 := by rw [hNl2]; exact Nat.log2_two_pow
  have hNp2 : (2 : Int) ^ lg2 = N2 := by rw [hNl2]; push_cast; rfl
  have hNb2 : N2 ≤ 4096 := by rw [hNl2]; exact Nat.le_trans (Nat.pow_le_pow_right (by decide) hlgm2) (by decide)
  have hlg2 := fun cp A B C => hlog lg2 N2 cp A B C hNl2 hlgm2
  obtain ⟨lI2, hlI2⟩ : ∃ x : Int, x = lg2 := ⟨_, rfl⟩
  have hcell0 : ∀ k, k < N0 → 0 ≤ A0 k ∧ A0 k ≤ 35 ∧ 0 ≤ B0 k ∧ B0 k ≤ 12 ∧ 0 ≤ C0 k ∧ C0 k + 2 ^ (B0 k).toNat ≤ N0 := hcell0
  have hcell1 : ∀ k, k < N1 → 0 ≤ A1 k ∧ A1 k ≤ 31 ∧ 0 ≤ B1 k ∧ B1 k ≤ 12 ∧ 0 ≤ C1 k ∧ C1 k + 2 ^ (B1 k).toNat ≤ N1 := hcell1
  have hcell2 : ∀ k, k < N2 → 0 ≤ A2 k ∧ A2 k ≤ 52 ∧ 0 ≤ B2 k ∧ B2 k ≤ 12 ∧ 0 ≤ C2 k ∧ C2 k + 2 ^ (B2 k).toNat ≤ N2 := hcell2
  obtain ⟨p0, hp0⟩ : ∃ p, p = markAt q3 := ⟨_, rfl⟩
  have hng := hnewg q3 sc3 hlz hqy3 hqn3
  rw [show (8 * ((q3.length : Int) - 1) + (len8 (q3.getLastD 0) - 1)) = p0 from hp0.symm, ← hql3] at hng
  obtain ⟨P0, hP0, hP1, _⟩ := markAt_spec q3 hlz hqy3
  have hp0r : 0 ≤ p0 ∧ p0 ≤ 8 * (ql3 : Int) := by rw [hp0, hP0]; omega
  have hbits' : ∀ (cq : Nat) (p pn kI x : Int) (k : Nat), kI = k → k ≤ 40 → -1000000000 ≤ p → p ≤ 8 * (ql3 : Int) → pn = p - kI → x = rd q3 p k → Con P 36 [.ptr 0 .z 2 0, .int .i64 kI] [.one 143 [.slice 1 .z 1 ql3 cq, .int .i64 p], .ro .u8 q3] (fun v H R => v = .int .u64 x ∧ R = [] ∧ H = [.one 143 [.slice 1 .z 1 ql3 cq, .int .i64 pn], .ro .u8 q3]) := by
   intro cq p pn kI x k h1 h2 h3 h4 h5 h6
   have hc := hbits q3 cq p kI hqy3 (by omega) (by omega)
   have e1 : clampN kI = k := by unfold clampN; (repeat' split) <;> omega
   have e2 : floorP (p - (clampN kI : Int)) = pn := by rw [e1]; unfold floorP; rw [if_neg (by omega)]; omega
   rw [e2, e1, ← h6, ← hql3] at hc
   exact hc
  obtain ⟨s0, hs0⟩ : ∃ x, x = rd q3 p0 lg0 := ⟨_, rfl⟩
  have hsr0 : 0 ≤ s0 ∧ s0 < N0 := by have := rd_bound q3 p0 lg0; rw [hs0, ← hNp0]; exact this
  have hws0 : vw .i64 s0 = s0 := by rw [qw]; exact wrap_i64 (by omega) (by omega)
  obtain ⟨p1, hp1⟩ : ∃ x, x = p0 - lI0 := ⟨_, rfl⟩
  have hbs0 := fun cq => hbits' cq p0 p1 lI0 s0 lg0 hlI0 (by omega) (by omega) (by omega) hp1 hs0
  obtain ⟨s1, hs1⟩ : ∃ x, x = rd q3 p1 lg1 := ⟨_, rfl⟩
  have hsr1 : 0 ≤ s1 ∧ s1 < N1 := by have := rd_bound q3 p1 lg1; rw [hs1, ← hNp1]; exact this
  have hws1 : vw .i64 s1 = s1 := by rw [qw]; exact wrap_i64 (by omega) (by omega)
  obtain ⟨p2, hp2⟩ : ∃ x, x = p1 - lI1 := ⟨_, rfl⟩
  have hbs1 := fun cq => hbits' cq p1 p2 lI1 s1 lg1 hlI1 (by omega) (by omega) (by omega) hp2 hs1
  obtain ⟨s2, hs2⟩ : ∃ x, x = rd q3 p2 lg2 := ⟨_, rfl⟩
  have hsr2 : 0 ≤ s2 ∧ s2 < N2 := by have := rd_bound q3 p2 lg2; rw [hs2, ← hNp2]; exact this
  have hws2 : vw .i64 s2 = s2 := by rw [qw]; exact wrap_i64 (by omega) (by omega)
  obtain ⟨p3, hp3⟩ : ∃ x, x = p2 - lI2 := ⟨_, rfl⟩
  have hbs2 := fun cq => hbits' cq p2 p3 lI2 s2 lg2 hlI2 (by omega) (by omega) (by omega) hp3 hs2
  have hr3 : vrep 3 0 = [0, 0, 0] := by rw [qrep]; rfl
  have hl3 : ∀ x y z : Int, vln [x, y, z] = 3 := fun x y z => by rw [qln]; rfl
  have hst0 : ∀ x y z w : Int, vst [x, y, z] 0 w = [w, y, z] := fun x y z w => by rw [qst]; rfl
  have hgd0 : ∀ x y z : Int, vgd [x, y, z] 0 = x := fun x y z => by rw [qgd]; rfl
  have hst1 : ∀ x y z w : Int, vst [x, y, z] 1 w = [x, w, z] := fun x y z w => by rw [qst]; rfl
  have hgd1 : ∀ x y z : Int, vgd [x, y, z] 1 = y := fun x y z => by rw [qgd]; rfl
  have hst2 : ∀ x y z w : Int, vst [x, y, z] 2 w = [x, y, w] := fun x y z w => by rw [qst]; rfl
  have hgd2 : ∀ x y z : Int, vgd [x, y, z] 2 = z := fun x y z => by rw [qgd]; rfl
  obtain ⟨⟨LS, Q⟩, hRR⟩ : ∃ r, rowsR q3 ⟨N0, A0, B0, C0⟩ ⟨N1, A1, B1, C1⟩ ⟨N2, A2, B2, C2⟩ n.toNat s0 s1 s2 p3 [] = r := ⟨_, rfl⟩
  obtain ⟨hQ1, hQ0⟩ := seqT_rows hlz hp0 hl20 hl21 hl22 hlI0 hlI1 hlI2 hs0 hp1 hs1 hp2 hs2 hp3 hRR
  rw [← hSq] at hQ1 hQ0
  have hstart : n = (n.toNat : Int) ∧ 1 ≤ n.toNat ∧ 0 + n.toNat ≤ 100000 ∧ -1000 * (100001 - (n.toNat : Int)) ≤ p3 ∧ p3 ≤ 8 * (q3.length : Int) := by omega
  have hadd1' : ∀ i, vaddN i 1 = i + 1 := fun i => by simp only [qaddN]
  have hpv : ∀ x, vc .neq x 0 = true ↔ x ≠ 0 := fun x => by rw [qc]; exact neq_true
  have hpe : ∀ x, vc .eql x 0 = decide (x = 0) := fun x => by rw [qc]; rfl
  have hpn : ∀ x, vc .neq x 0 = decide (x ≠ 0) := fun x => by rw [qc]; by_cases h : x = 0 <;> simp [cV, h]
  have hws64 : ∀ x : Int, 0 ≤ x ∧ x ≤ 1000000000000 → vw .i64 x = x := fun x hx => by rw [qw]; exact wrap64 hx
  have hsub1 : ∀ (x y : Int) (m : Nat), x = m → y = x - 1 → 1 ≤ m → m ≤ 100000 → vb .sub .i64 x 1 = y := fun x y m h1 h2 h3 h4 => by rw [qb, h2]; exact sub_i64 (by omega) (by omega)
  have hfits : ∀ l m : Nat, l + m ≤ 100000 → 1 ≤ m → (l + 1) * 24 ≤ 140737488355328 := fun l m h1 h2 => by omega
  refine call_con (ρ := []) hk ⟨by rfl, by rfl, by rfl, by cbv; exact ⟨fun _ => rfl, fun _ => rfl, fun _ => rfl, trivial⟩⟩ ?_
  rintro v H R js2 ⟨rfl, c, rfl, rfl⟩
  cbv
  (repeat refine And.intro (fun _ => rfl) ?_)
  refine WX.unr 4 hw hm ?_
  cbv
  rw [e01, e02, hto0]
  refine ⟨⟨by decide⟩, ⟨hin0⟩, ?_⟩
  rw [hsb0, ← hsc0, ← hcu0]
  refine inl_walk hw hm f60 (by rfl) ?_
  cbv
  (repeat refine And.intro (fun _ => rfl) ?_)
  intro js3
  cbv
  refine call_con (ρ := [(19, .z), (0, .n cu0), (1, .z), (6, .z), (7, .z), (8, .z), (9, .z), (10, .z), (11, .z), (12, .z), (13, .z), (14, .z), (15, .z), (16, .z), (17, .z), (18, .z)]) (ht0 c) ⟨by rfl, by rfl, by rfl, by cbv; (repeat refine And.intro (fun _ => rfl) ?_); exact ⟨hvw0, by simp only [renL3, and_self], fun _ => rfl, trivial⟩⟩ ?_
  rintro v H R js4 (⟨he, _⟩ | ⟨_, rfl, cp0, c0', rfl, rfl⟩)
  ·exfalso; exact he rfl
  cbv
  (repeat refine And.intro (fun _ => rfl) ?_)
  simp only [renL3]
  rw [h00]
  cbv
  (repeat refine And.intro (fun _ => rfl) ?_)
  refine inl_walk hw hm f60 (by rfl) ?_
  cbv
  (repeat refine And.intro (fun _ => rfl) ?_)
  intro js5
  cbv
  rw [hadd1, e11, e12, hto1]
  refine ⟨⟨by decide⟩, ⟨hin1⟩, ?_⟩
  rw [hsb1, ← hsc1, ← hcu1]
  refine inl_walk hw hm f63 (by rfl) ?_
  cbv
  (repeat refine And.intro (fun _ => rfl) ?_)
  intro js3
  cbv
  refine call_con (ρ := [(19, .z), (0, .n cu1), (2, .z), (6, .z), (7, .z), (8, .z), (9, .z), (10, .z), (11, .z), (12, .z), (13, .z), (14, .z), (15, .z), (16, .z), (17, .z), (18, .z)]) (ht1 c) ⟨by rfl, by rfl, by rfl, by cbv; (repeat refine And.intro (fun _ => rfl) ?_); exact ⟨hvw1, by simp only [renL3, and_self], fun _ => rfl, trivial⟩⟩ ?_
  rintro v H R js4 (⟨he, _⟩ | ⟨_, rfl, cp1, c1', rfl, rfl⟩)
  ·exfalso; exact he rfl
  cbv
  (repeat refine And.intro (fun _ => rfl) ?_)
  simp only [renL3]
  rw [h00]
  cbv
  (repeat refine And.intro (fun _ => rfl) ?_)
  refine inl_walk hw hm f63 (by rfl) ?_
  cbv
  (repeat refine And.intro (fun _ => rfl) ?_)
  intro js5
  cbv
  rw [hadd2, e21, e22, hto2]
  refine ⟨⟨by decide⟩, ⟨hin2⟩, ?_⟩
  rw [hsb2, ← hsc2, ← hcu2]
  refine inl_walk hw hm f62 (by rfl) ?_
  cbv
  (repeat refine And.intro (fun _ => rfl) ?_)
  intro js3
  cbv
  refine call_con (ρ := [(19, .z), (0, .n cu2), (3, .z), (6, .z), (7, .z), (8, .z), (9, .z), (10, .z), (11, .z), (12, .z), (13, .z), (14, .z), (15, .z), (16, .z), (17, .z), (18, .z)]) (ht2 c) ⟨by rfl, by rfl, by rfl, by cbv; (repeat refine And.intro (fun _ => rfl) ?_); exact ⟨hvw2, by simp only [renL3, and_self], fun _ => rfl, trivial⟩⟩ ?_
  rintro v H R js4 (⟨he, _⟩ | ⟨_, rfl, cp2, c2', rfl, rfl⟩)
  ·exfalso; exact he rfl
  cbv
  (repeat refine And.intro (fun _ => rfl) ?_)
  simp only [renL3]
  rw [h00]
  cbv
  (repeat refine And.intro (fun _ => rfl) ?_)
  refine inl_walk hw hm f62 (by rfl) ?_
  cbv
  (repeat refine And.intro (fun _ => rfl) ?_)
  intro js5
  cbv
  rw [hadd3, hto3]
  refine ⟨⟨hin3⟩, ?_⟩
  rw [hsb3, ← hsc3, ← hcu3]
  refine call_con (ρ := [(0, .n cu3)]) hng ⟨by rfl, by rfl, by rfl, by cbv; (repeat refine And.intro (fun _ => rfl) ?_); exact ⟨hvw3, trivial⟩⟩ ?_
  rintro v H R js6 ⟨rfl, rfl, cq, rfl⟩
  cbv
  (repeat refine And.intro (fun _ => rfl) ?_)
  rw [hr3]
  refine WX.unr 4 hw hm ?_
  cbv
  refine ⟨⟨by decide⟩, ?_⟩
  refine inl_walk hw hm f60 (by rfl) ?_
  cbv
  (repeat refine And.intro (fun _ => rfl) ?_)
  intro js7
  cbv
  refine call_con (ρ := [(1, .z)]) (hlg0 _ A0 B0 C0) ⟨by rfl, by rfl, by rfl, by cbv; (repeat' first | (refine And.intro ?_ ?_) | exact trivial | exact ⟨Nat.le_refl _⟩ | exact view_refl _ | exact fun _ => rfl | (simp only [renL3]; done) | (show SB.roA _ _ _ = SB.roA _ _ _; rfl) | exact funext fun _ => rfl)⟩ ?_
  rintro v H R js8 ⟨⟨ki, hki, rfl⟩, rfl, rfl⟩
  obtain rfl : ki = lI0 := hki.trans hlI0.symm
  cbv
  (repeat refine And.intro (fun _ => rfl) ?_)
  refine call_con (ρ := [(21, .z), (20, .z)]) (hbs0 cq) ⟨by rfl, by rfl, by rfl, by cbv; (repeat' first | (refine And.intro ?_ ?_) | exact trivial | exact ⟨Nat.le_refl _⟩ | exact view_refl _ | exact fun _ => rfl | (simp only [renL3]; done) | (show SB.roA _ _ _ = SB.roA _ _ _; rfl) | exact funext fun _ => rfl)⟩ ?_
  rintro v H R js9 ⟨rfl, rfl, rfl⟩
  cbv
  (repeat refine And.intro (fun _ => rfl) ?_)
  rw [hws0]
  refine ⟨⟨by decide⟩, ⟨by rw [hl3]; decide⟩, ?_⟩
  rw [hst0]
  cbv
  refine ⟨⟨by decide⟩, ?_⟩
  refine inl_walk hw hm f63 (by rfl) ?_
  cbv
  (repeat refine And.intro (fun _ => rfl) ?_)
  intro js7
  cbv
  refine call_con (ρ := [(2, .z)]) (hlg1 _ A1 B1 C1) ⟨by rfl, by rfl, by rfl, by cbv; (repeat' first | (refine And.intro ?_ ?_) | exact trivial | exact ⟨Nat.le_refl _⟩ | exact view_refl _ | exact fun _ => rfl | (simp only [renL3]; done) | (show SB.roA _ _ _ = SB.roA _ _ _; rfl) | exact funext fun _ => rfl)⟩ ?_
  rintro v H R js8 ⟨⟨ki, hki, rfl⟩, rfl, rfl⟩
  obtain rfl : ki = lI1 := hki.trans hlI1.symm
  cbv
  (repeat refine And.intro (fun _ => rfl) ?_)
  refine call_con (ρ := [(21, .z), (20, .z)]) (hbs1 cq) ⟨by rfl, by rfl, by rfl, by cbv; (repeat' first | (refine And.intro ?_ ?_) | exact trivial | exact ⟨Nat.le_refl _⟩ | exact view_refl _ | exact fun _ => rfl | (simp only [renL3]; done) | (show SB.roA _ _ _ = SB.roA _ _ _; rfl) | exact funext fun _ => rfl)⟩ ?_
  rintro v H R js9 ⟨rfl, rfl, rfl⟩
  cbv
  (repeat refine And.intro (fun _ => rfl) ?_)
  rw [hws1]
  refine ⟨⟨by decide⟩, ⟨by rw [hl3]; decide⟩, ?_⟩
  rw [hst1]
  cbv
  refine ⟨⟨by decide⟩, ?_⟩
  refine inl_walk hw hm f62 (by rfl) ?_
  cbv
  (repeat refine And.intro (fun _ => rfl) ?_)
  intro js7
  cbv
  refine call_con (ρ := [(3, .z)]) (hlg2 _ A2 B2 C2) ⟨by rfl, by rfl, by rfl, by cbv; (repeat' first | (refine And.intro ?_ ?_) | exact trivial | exact ⟨Nat.le_refl _⟩ | exact view_refl _ | exact fun _ => rfl | (simp only [renL3]; done) | (show SB.roA _ _ _ = SB.roA _ _ _; rfl) | exact funext fun _ => rfl)⟩ ?_
  rintro v H R js8 ⟨⟨ki, hki, rfl⟩, rfl, rfl⟩
  obtain rfl : ki = lI2 := hki.trans hlI2.symm
  cbv
  (repeat refine And.intro (fun _ => rfl) ?_)
  refine call_con (ρ := [(21, .z), (20, .z)]) (hbs2 cq) ⟨by rfl, by rfl, by rfl, by cbv; (repeat' first | (refine And.intro ?_ ?_) | exact trivial | exact ⟨Nat.le_refl _⟩ | exact view_refl _ | exact fun _ => rfl | (simp only [renL3]; done) | (show SB.roA _ _ _ = SB.roA _ _ _; rfl) | exact funext fun _ => rfl)⟩ ?_
  rintro v H R js9 ⟨rfl, rfl, rfl⟩
  cbv
  (repeat refine And.intro (fun _ => rfl) ?_)
  rw [hws2]
  refine ⟨⟨by decide⟩, ⟨by rw [hl3]; decide⟩, ?_⟩
  rw [hst2]
  cbv
  clear hbs0 hbs1 hbs2 hlg0 hlg1 hlg2 hng hr0' hr1' hr2' hr0 hr1 hr2 ht0 ht1 ht2 hk htab0 htab1 htab2 hnewb hnewg hlog hT0 hT1 hT2 e01 e02 e11 e12 e21 e22 hvw0 hvw1 hvw2 hvw3
  refine WX.cv (Cv.nilTA 4 3 24 (fun m => [.int .i64 0, .int .i64 0, .int .i64 0]) (by rfl) (by cbv; (repeat' first | (refine And.intro ?_ ?_) | exact trivial | exact ⟨Nat.le_refl _⟩ | exact view_refl _ | exact fun _ => rfl | (simp only [renL3]; done) | (show SB.roA _ _ _ = SB.roA _ _ _; rfl) | exact funext fun _ => rfl)) (Cv.here ?_))
  cbv
  refine loop_fam (α := Int × Int × Int × Int × Int × Nat × Nat × (Nat → Int) × (Nat → Int) × (Nat → Int) × List (Int × Int × Int)) [1018009, 1169078] [23, 3, 2, 1]
   (fun (nI, t0, t1, t2, p, ll, cl, f, g, h, ls) => [(4, .slice 23 .z 3 ll cl), (7, .int .i64 nI)])
   (fun (nI, t0, t1, t2, p, ll, cl, f, g, h, ls) => [(21, .one 143 [.slice 20 .z 1 ql3 cq, .int .i64 p]), (22, .ints 61 .i64 [t0, t1, t2]), (23, .bufA 24 3 ll (fun m => [.int .i64 (f m), .int .i64 (g m), .int .i64 (h m)]) cl)])
   (fun (nI, t0, t1, t2, p, ll, cl, f, g, h, ls) => ∃ m : Nat, nI = m ∧ 1 ≤ m ∧ rowsR q3 ⟨N0, A0, B0, C0⟩ ⟨N1, A1, B1, C1⟩ ⟨N2, A2, B2, C2⟩ m t0 t1 t2 p ls = (LS, Q) ∧ ll = ls.length ∧ ll + m ≤ 100000 ∧
    f = (fun m => (ls.getD m (0, 0, 0)).1) ∧ g = (fun m => (ls.getD m (0, 0, 0)).2.1) ∧ h = (fun m => (ls.getD m (0, 0, 0)).2.2) ∧ (0 ≤ t0 ∧ t0 < N0) ∧ (0 ≤ t1 ∧ t1 < N1) ∧ (0 ≤ t2 ∧ t2 < N2) ∧ -1000 * (100001 - (m : Int)) ≤ p ∧ p ≤ 8 * (q3.length : Int)) (fun (nI, _) => nI.toNat) hw hm ?_ ?_
  ·refine Cv.fold [1018009, 1169078] 24 [23, 3, 2, 1] (by exact Nat.le_refl _) (by exact Nat.le_of_ble_eq_true rfl) (by rfl) (by cbv) ?_
   intro js
   refine ⟨(n, s0, s1, s2, p3, 0, 0, fun _ => 0, fun _ => 0, fun _ => 0, []), ?_, js, rfl⟩
   exact ⟨n.toNat, hstart.1, hstart.2.1, hRR, rfl, hstart.2.2.1, rfl, rfl, rfl, hsr0, hsr1, hsr2, hstart.2.2.2.1, hstart.2.2.2.2⟩
  ·rintro ⟨nI, t0, t1, t2, p, ll, cl, f, g, h, ls⟩ js ⟨m, hm1, hm2, hR, hll, hlm, hf, hg, hh, ht0, ht1, ht2, hp1, hp2⟩
   as_aux_lemma =>
   cbv
   (repeat refine And.intro (fun _ => rfl) ?_)
   rw [hr3]
   refine round_names hcell0 hcell1 hcell2 hNb0 hNb1 hNb2 hm1 hm2 hR (by rw [← hll]; exact hlm) ht0 ht1 ht2 hp1 hp2 (fun kL kM kB aL aM aB xbL xbM xbB xcL xcM xcB fL nL fM nM fB nB xL xM xB vL vM vB pa pb pc y0 y1 y2 u0 u1 u2 pd pe pf n1 ls1 f1 g1 h1 SL SB SM eL eM eB VB VM VL Y0 Y2 Y1 hn1' hf1 hg1 hh1 hls1 hlast hmore => ?_)
   have htiL : vtoN t0 = kL := by simp only [qtoN]; have := SL.tk; omega
   have hlaL : vaddN 0 kL < N0 := by rw [hadd0]; exact SL.lt
   have hwaL : vw .i64 aL = aL := by rw [qw]; exact wrap64 SL.aw
   have hwxL : vw .i64 xL = xL := by rw [qw]; exact wrap64 VL.xw
   have hwvL : vb .add .i64 fL xL = vL := by rw [qb, VL.v]; exact add64 VL.fw VL.xw
   have hbtL := fun cq => hbits' cq pb pc nL xL _ VL.nk VL.k40 VL.pr (by rw [hql3]; exact VL.pr2) VL.p2 VL.xr
   have ht0L := SL.ir
   have hltL := SL.lt
   have heaL := SL.ea
   have htiB : vtoN t1 = kB := by simp only [qtoN]; have := SB.tk; omega
   have hlaB : vaddN 0 kB < N1 := by rw [hadd0]; exact SB.lt
   have hwaB : vw .i64 aB = aB := by rw [qw]; exact wrap64 SB.aw
   have hwxB : vw .i64 xB = xB := by rw [qw]; exact wrap64 VB.xw
   have hwvB : vb .add .i64 fB xB = vB := by rw [qb, VB.v]; exact add64 VB.fw VB.xw
   have hbtB := fun cq => hbits' cq p pa nB xB _ VB.nk VB.k40 VB.pr (by rw [hql3]; exact VB.pr2) VB.p2 VB.xr
   have ht0B := SB.ir
   have hltB := SB.lt
   have heaB := SB.ea
   have htiM : vtoN t2 = kM := by simp only [qtoN]; have := SM.tk; omega
   have hlaM : vaddN 0 kM < N2 := by rw [hadd0]; exact SM.lt
   have hwaM : vw .i64 aM = aM := by rw [qw]; exact wrap64 SM.aw
   have hwxM : vw .i64 xM = xM := by rw [qw]; exact wrap64 VM.xw
   have hwvM : vb .add .i64 fM xM = vM := by rw [qb, VM.v]; exact add64 VM.fw VM.xw
   have hbtM := fun cq => hbits' cq pa pb nM xM _ VM.nk VM.k40 VM.pr (by rw [hql3]; exact VM.pr2) VM.p2 VM.xr
   have ht0M := SM.ir
   have hltM := SM.lt
   have heaM := SM.ea
   refine WX.unr 4 hw hm ?_
   cbv
   have hz0L : 0 < N0 := Nat.lt_of_le_of_lt (Nat.zero_le _) hltL
   have hz0B : 0 < N1 := Nat.lt_of_le_of_lt (Nat.zero_le _) hltB
   have hz0M : 0 < N2 := Nat.lt_of_le_of_lt (Nat.zero_le _) hltM
   have hcofL := hofL aL fL nL SL.ar eL
   have hcofM := hofM aM fM nM SM.ar eM
   have hcofB := hofB aB fB nB SB.ar eB
   (repeat first | refine And.intro ⟨by decide⟩ ?_ | refine And.intro ⟨by rw [hl3]; decide⟩ ?_ | refine And.intro (fun _ => rfl) ?_ | refine And.intro trivial ?_)
   rw [hgd1]
   refine inl_walk hw hm f63 (by rfl) ?_
   cbv
   (repeat refine And.intro (fun _ => rfl) ?_)
   intro js10
   cbv
   rw [htiB]
   (repeat' first | (refine And.intro ?_ ?_) | exact trivial | exact ⟨by decide⟩ | exact ⟨by rw [hl3]; decide⟩ | exact ⟨ht0B⟩ | exact ⟨hltB⟩ | exact ⟨hlaB⟩ | exact ⟨hz0B⟩ | exact congrArg (SV.int .i64) (hgd1 t0 t1 t2) | exact congrArg (SV.int .u8) heaB | exact fun _ => rfl)
   rw [heaB, hwaB]
   refine call_con (ρ := []) hcofB ⟨by rfl, by rfl, by rfl, by cbv; (repeat' first | (refine And.intro ?_ ?_) | exact trivial | exact ⟨Nat.le_refl _⟩ | exact view_refl _ | exact fun _ => rfl | (simp only [renL3]; done) | (show SB.roA _ _ _ = SB.roA _ _ _; rfl) | exact funext fun _ => rfl)⟩ ?_
   rintro v H R js11 ⟨rfl, rfl, rfl⟩
   cbv
   (repeat' first | (refine And.intro ?_ ?_) | exact trivial | exact ⟨by decide⟩ | exact ⟨by rw [hl3]; decide⟩ | exact ⟨ht0B⟩ | exact ⟨hltB⟩ | exact ⟨hlaB⟩ | exact ⟨hz0B⟩ | exact congrArg (SV.int .i64) (hgd1 t0 t1 t2) | exact congrArg (SV.int .u8) heaB | exact fun _ => rfl)
   refine call_con (ρ := [(21, .z), (20, .z)]) (hbtB cq) ⟨by rfl, by rfl, by rfl, by cbv; (repeat' first | (refine And.intro ?_ ?_) | exact trivial | exact ⟨Nat.le_refl _⟩ | exact view_refl _ | exact fun _ => rfl | (simp only [renL3]; done) | (show SB.roA _ _ _ = SB.roA _ _ _; rfl) | exact funext fun _ => rfl)⟩ ?_
   rintro v H R js12 ⟨rfl, rfl, rfl⟩
   cbv
   (repeat refine And.intro (fun _ => rfl) ?_)
   rw [hwxB, hwvB]
   refine ⟨⟨by decide⟩, ⟨by rw [hl3]; decide⟩, ?_⟩
   rw [hst1]
   cbv
   (repeat first | refine And.intro ⟨by decide⟩ ?_ | refine And.intro ⟨by rw [hl3]; decide⟩ ?_ | refine And.intro (fun _ => rfl) ?_ | refine And.intro trivial ?_)
   rw [hgd2]
   refine inl_walk hw hm f62 (by rfl) ?_
   cbv
   (repeat refine And.intro (fun _ => rfl) ?_)
   intro js10
   cbv
   rw [htiM]
   (repeat' first | (refine And.intro ?_ ?_) | exact trivial | exact ⟨by decide⟩ | exact ⟨by rw [hl3]; decide⟩ | exact ⟨ht0M⟩ | exact ⟨hltM⟩ | exact ⟨hlaM⟩ | exact ⟨hz0M⟩ | exact congrArg (SV.int .i64) (hgd2 t0 t1 t2) | exact congrArg (SV.int .u8) heaM | exact fun _ => rfl)
   rw [heaM, hwaM]
   refine call_con (ρ := [(15, .z), (18, .z), (17, .z), (16, .z), (14, .z)]) hcofM ⟨by rfl, by rfl, by rfl, by cbv; (repeat' first | (refine And.intro ?_ ?_) | exact trivial | exact ⟨Nat.le_refl _⟩ | exact view_refl _ | exact fun _ => rfl | (simp only [renL3]; done) | (show SB.roA _ _ _ = SB.roA _ _ _; rfl) | exact funext fun _ => rfl)⟩ ?_
   rintro v H R js11 ⟨rfl, rfl, rfl⟩
   cbv
   (repeat' first | (refine And.intro ?_ ?_) | exact trivial | exact ⟨by decide⟩ | exact ⟨by rw [hl3]; decide⟩ | exact ⟨ht0M⟩ | exact ⟨hltM⟩ | exact ⟨hlaM⟩ | exact ⟨hz0M⟩ | exact congrArg (SV.int .i64) (hgd2 t0 t1 t2) | exact congrArg (SV.int .u8) heaM | exact fun _ => rfl)
   refine call_con (ρ := [(21, .z), (20, .z)]) (hbtM cq) ⟨by rfl, by rfl, by rfl, by cbv; (repeat' first | (refine And.intro ?_ ?_) | exact trivial | exact ⟨Nat.le_refl _⟩ | exact view_refl _ | exact fun _ => rfl | (simp only [renL3]; done) | (show SB.roA _ _ _ = SB.roA _ _ _; rfl) | exact funext fun _ => rfl)⟩ ?_
   rintro v H R js12 ⟨rfl, rfl, rfl⟩
   cbv
   (repeat refine And.intro (fun _ => rfl) ?_)
   rw [hwxM, hwvM]
   refine ⟨⟨by decide⟩, ⟨by rw [hl3]; decide⟩, ?_⟩
   rw [hst2]
   cbv
   (repeat first | refine And.intro ⟨by decide⟩ ?_ | refine And.intro ⟨by rw [hl3]; decide⟩ ?_ | refine And.intro (fun _ => rfl) ?_ | refine And.intro trivial ?_)
   rw [hgd0]
   refine inl_walk hw hm f60 (by rfl) ?_
   cbv
   (repeat refine And.intro (fun _ => rfl) ?_)
   intro js10
   cbv
   rw [htiL]
   (repeat' first | (refine And.intro ?_ ?_) | exact trivial | exact ⟨by decide⟩ | exact ⟨by rw [hl3]; decide⟩ | exact ⟨ht0L⟩ | exact ⟨hltL⟩ | exact ⟨hlaL⟩ | exact ⟨hz0L⟩ | exact congrArg (SV.int .i64) (hgd0 t0 t1 t2) | exact congrArg (SV.int .u8) heaL | exact fun _ => rfl)
   rw [heaL, hwaL]
   refine call_con (ρ := [(10, .z), (13, .z), (12, .z), (11, .z), (9, .z)]) hcofL ⟨by rfl, by rfl, by rfl, by cbv; (repeat' first | (refine And.intro ?_ ?_) | exact trivial | exact ⟨Nat.le_refl _⟩ | exact view_refl _ | exact fun _ => rfl | (simp only [renL3]; done) | (show SB.roA _ _ _ = SB.roA _ _ _; rfl) | exact funext fun _ => rfl)⟩ ?_
   rintro v H R js11 ⟨rfl, rfl, rfl⟩
   cbv
   (repeat' first | (refine And.intro ?_ ?_) | exact trivial | exact ⟨by decide⟩ | exact ⟨by rw [hl3]; decide⟩ | exact ⟨ht0L⟩ | exact ⟨hltL⟩ | exact ⟨hlaL⟩ | exact ⟨hz0L⟩ | exact congrArg (SV.int .i64) (hgd0 t0 t1 t2) | exact congrArg (SV.int .u8) heaL | exact fun _ => rfl)
   refine call_con (ρ := [(21, .z), (20, .z)]) (hbtL cq) ⟨by rfl, by rfl, by rfl, by cbv; (repeat' first | (refine And.intro ?_ ?_) | exact trivial | exact ⟨Nat.le_refl _⟩ | exact view_refl _ | exact fun _ => rfl | (simp only [renL3]; done) | (show SB.roA _ _ _ = SB.roA _ _ _; rfl) | exact funext fun _ => rfl)⟩ ?_
   rintro v H R js12 ⟨rfl, rfl, rfl⟩
   cbv
   (repeat refine And.intro (fun _ => rfl) ?_)
   rw [hwxL, hwvL]
   refine ⟨⟨by decide⟩, ⟨by rw [hl3]; decide⟩, ?_⟩
   rw [hst0]
   cbv
   have hft := hfits ll m hlm hm2
   have hef : updI f ll vL = f1 := by rw [hf, hll]; exact hf1.symm
   have heg : updI g ll vM = g1 := by rw [hg, hll]; exact hg1.symm
   have heh : updI h ll vB = h1 := by rw [hh, hll]; exact hh1.symm
   have hsub := hsub1 nI n1 m hm1 hn1' hm2 (Nat.le_trans (Nat.le_add_left m ll) hlm)
   (repeat first | refine And.intro ⟨by decide⟩ ?_ | refine And.intro ⟨by rw [hl3]; decide⟩ ?_ | refine And.intro (fun _ => rfl) ?_ | refine And.intro trivial ?_ | refine And.intro ⟨Nat.le_refl _⟩ ?_ | refine And.intro ⟨by rw [hadd1']; exact hft⟩ ?_)
   intro cl1 js13 hle13
   cbv
   rw [hgd0, hgd2, hgd1, hadd1', extF_3, hef, heg, heh, hsub]
   by_cases hone : m = 1
   ·have hz1 : vc .eql n1 0 = true := by rw [hpe]; exact decide_eq_true (hlast hone).1
    have hlf := hleft q3 ql3 cq pc
    rw [hz1]
    cbv
    (repeat refine And.intro (fun _ => rfl) ?_)
    refine call_con (ρ := [(21, .z), (20, .z)]) hlf ⟨by rfl, by rfl, by rfl, by cbv; (repeat' first | (refine And.intro ?_ ?_) | exact trivial | exact ⟨Nat.le_refl _⟩ | exact view_refl _ | exact fun _ => rfl | (simp only [renL3]; done) | (show SB.roA _ _ _ = SB.roA _ _ _; rfl) | exact funext fun _ => rfl)⟩ ?_
    rintro v H R js14 ⟨rfl, rfl, rfl⟩
    cbv
    (repeat refine And.intro (fun _ => rfl) ?_)
    by_cases hpc : pc = 0
    ·have hzp : vc .neq pc 0 = false := by rw [hpn]; exact decide_eq_false (fun h => h hpc)
     have hfin := hQ0 ((hlast hone).2.2.trans hpc)
     rw [(hlast hone).2.1] at hfin
     rw [hzp]
     cbv
     (repeat refine And.intro (fun _ => rfl) ?_)
     refine ⟨[1, 2, 3], [0, 1, 2, 3, 23], .tup [.slice 4 .z 3 (ll + 1) cl1, .agg [.slice 1 .z 3 N0 cp0, .slice 2 .z 3 N1 cp1, .slice 3 .z 3 N2 cp2], .lit .i64 0], [.ro .u8 b, .bufA 79 3 N0 (fun m => [.int .u8 (A0 m), .int .u8 (B0 m), .int .u16 (C0 m)]) c0', .bufA 79 3 N1 (fun m => [.int .u8 (A1 m), .int .u8 (B1 m), .int .u16 (C1 m)]) c1', .bufA 79 3 N2 (fun m => [.int .u8 (A2 m), .int .u8 (B2 m), .int .u16 (C2 m)]) c2', .bufA 24 3 (ll + 1) (fun m => [.int .i64 (f1 m), .int .i64 (g1 m), .int .i64 (h1 m)]) cl1], rfl, rfl, rfl, rfl, rfl, ?_, ?_⟩
     ·exact ⟨rfl, rfl, fun _ => rfl, rfl, fun _ => rfl, rfl, fun _ => rfl, rfl, fun _ => rfl, trivial⟩
     ·exact hG ls1 N0 N1 N2 A0 B0 C0 A1 B1 C1 A2 B2 C2 hfin f1 g1 h1 (ll + 1) cl1 cl1 cp0 cp1 cp2 c0' c1' c2' (by rw [hll]; exact hls1.2.2.2) hls1.1 hls1.2.1 hls1.2.2.1
    ·have hzp : vc .neq pc 0 = true := by rw [hpn]; exact decide_eq_true hpc
     have hfe := hQ1 (fun h => hpc ((hlast hone).2.2.symm.trans h))
     rw [hzp]
     cbv
     (repeat refine And.intro (fun _ => rfl) ?_)
     refine ⟨[1, 2, 3], [0, 1, 2, 3], .tup [.val (.slice none 0 0), .agg [.val (.slice none 0 0), .val (.slice none 0 0), .val (.slice none 0 0)], .lit .i64 11], [.ro .u8 b, .bufA 79 3 N0 (fun m => [.int .u8 (A0 m), .int .u8 (B0 m), .int .u16 (C0 m)]) c0', .bufA 79 3 N1 (fun m => [.int .u8 (A1 m), .int .u8 (B1 m), .int .u16 (C1 m)]) c1', .bufA 79 3 N2 (fun m => [.int .u8 (A2 m), .int .u8 (B2 m), .int .u16 (C2 m)]) c2'], rfl, rfl, rfl, rfl, rfl, ?_, ?_⟩
     ·exact ⟨rfl, rfl, fun _ => rfl, rfl, fun _ => rfl, rfl, fun _ => rfl, trivial⟩
     ·exact hE 11 hfe (by decide) _ _ _ _ _ _ _ _ _ _ _ _ _ _ _
   ·have hz1 : vc .eql n1 0 = false := by rw [hpe]; exact decide_eq_false (hmore hone).1
    rw [hz1]
    cbv
    (repeat refine And.intro (fun _ => rfl) ?_)
    refine WX.unr 4 hw hm ?_
    cbv
    have hbyL := fun cq => hbits' cq pc pd xbL y0 _ Y0.nk Y0.k40 Y0.pr (by rw [hql3]; exact Y0.pr2) Y0.p2 Y0.xr
    have hwyL : vw .i64 y0 = y0 := hws64 _ Y0.xw
    have hwcL : vw .i64 xcL = xcL := hws64 _ SL.cw
    have hwbL : vw .i64 xbL = xbL := hws64 _ SL.bw
    have hwuL : vb .add .i64 xcL y0 = u0 := by rw [qb, Y0.v]; exact add64 Y0.fw Y0.xw
    have hebL := SL.eb
    have hecL := SL.ec
    (repeat first | refine And.intro ⟨by decide⟩ ?_ | refine And.intro ⟨by rw [hl3]; decide⟩ ?_ | refine And.intro (fun _ => rfl) ?_ | refine And.intro trivial ?_)
    rw [hgd0]
    apply joinG
    ·intro key
     refine inl_walk hw hm f60 (by rfl) ?_
     cbv
     (repeat refine And.intro (fun _ => rfl) ?_)
     intro js15
     cbv
     rw [htiL]
     (repeat' first | (refine And.intro ?_ ?_) | exact trivial | exact ⟨by decide⟩ | exact ⟨by rw [hl3]; decide⟩ | exact ⟨ht0L⟩ | exact ⟨hltL⟩ | exact ⟨hlaL⟩ | exact ⟨hz0L⟩ | exact congrArg (SV.int .i64) (hgd0 t0 t1 t2) | exact congrArg (SV.int .u8) heaL | exact fun _ => rfl)
     rw [hebL, hecL, hwbL, hwcL]
     exact key
    ·intro key
     (repeat' first | (refine And.intro ?_ ?_) | exact trivial | exact ⟨by decide⟩ | exact ⟨by rw [hl3]; decide⟩ | exact ⟨ht0L⟩ | exact ⟨hltL⟩ | exact ⟨hlaL⟩ | exact ⟨hz0L⟩ | exact congrArg (SV.int .i64) (hgd0 t0 t1 t2) | exact congrArg (SV.int .u8) heaL | exact fun _ => rfl)
     refine inl_walk hw hm f60 (by rfl) ?_
     cbv
     (repeat refine And.intro (fun _ => rfl) ?_)
     intro js15
     cbv
     rw [htiL]
     (repeat' first | (refine And.intro ?_ ?_) | exact trivial | exact ⟨by decide⟩ | exact ⟨by rw [hl3]; decide⟩ | exact ⟨ht0L⟩ | exact ⟨hltL⟩ | exact ⟨hlaL⟩ | exact ⟨hz0L⟩ | exact congrArg (SV.int .i64) (hgd0 t0 t1 t2) | exact congrArg (SV.int .u8) heaL | exact fun _ => rfl)
     rw [hebL, hecL, hwbL, hwcL]
     exact key
    refine call_con (ρ := [(21, .z), (20, .z)]) (hbyL cq) ⟨by rfl, by rfl, by rfl, by cbv; (repeat' first | (refine And.intro ?_ ?_) | exact trivial | exact ⟨Nat.le_refl _⟩ | exact view_refl _ | exact fun _ => rfl | (simp only [renL3]; done) | (show SB.roA _ _ _ = SB.roA _ _ _; rfl) | exact funext fun _ => rfl)⟩ ?_
    rintro v H R js16 ⟨rfl, rfl, rfl⟩
    cbv
    (repeat refine And.intro (fun _ => rfl) ?_)
    rw [hwyL, hwuL]
    refine ⟨⟨by decide⟩, ⟨by rw [hl3]; decide⟩, ?_⟩
    rw [hst0]
    cbv
    have hbyM := fun cq => hbits' cq pd pe xbM y2 _ Y2.nk Y2.k40 Y2.pr (by rw [hql3]; exact Y2.pr2) Y2.p2 Y2.xr
    have hwyM : vw .i64 y2 = y2 := hws64 _ Y2.xw
    have hwcM : vw .i64 xcM = xcM := hws64 _ SM.cw
    have hwbM : vw .i64 xbM = xbM := hws64 _ SM.bw
    have hwuM : vb .add .i64 xcM y2 = u2 := by rw [qb, Y2.v]; exact add64 Y2.fw Y2.xw
    have hebM := SM.eb
    have hecM := SM.ec
    (repeat first | refine And.intro ⟨by decide⟩ ?_ | refine And.intro ⟨by rw [hl3]; decide⟩ ?_ | refine And.intro (fun _ => rfl) ?_ | refine And.intro trivial ?_)
    rw [hgd2]
    apply joinG
    ·intro key
     refine inl_walk hw hm f62 (by rfl) ?_
     cbv
     (repeat refine And.intro (fun _ => rfl) ?_)
     intro js15
     cbv
     rw [htiM]
     (repeat' first | (refine And.intro ?_ ?_) | exact trivial | exact ⟨by decide⟩ | exact ⟨by rw [hl3]; decide⟩ | exact ⟨ht0M⟩ | exact ⟨hltM⟩ | exact ⟨hlaM⟩ | exact ⟨hz0M⟩ | exact congrArg (SV.int .i64) (hgd2 u0 t1 t2) | exact congrArg (SV.int .u8) heaM | exact fun _ => rfl)
     rw [hebM, hecM, hwbM, hwcM]
     exact key
    ·intro key
     (repeat' first | (refine And.intro ?_ ?_) | exact trivial | exact ⟨by decide⟩ | exact ⟨by rw [hl3]; decide⟩ | exact ⟨ht0M⟩ | exact ⟨hltM⟩ | exact ⟨hlaM⟩ | exact ⟨hz0M⟩ | exact congrArg (SV.int .i64) (hgd2 u0 t1 t2) | exact congrArg (SV.int .u8) heaM | exact fun _ => rfl)
     refine inl_walk hw hm f62 (by rfl) ?_
     cbv
     (repeat refine And.intro (fun _ => rfl) ?_)
     intro js15
     cbv
     rw [htiM]
     (repeat' first | (refine And.intro ?_ ?_) | exact trivial | exact ⟨by decide⟩ | exact ⟨by rw [hl3]; decide⟩ | exact ⟨ht0M⟩ | exact ⟨hltM⟩ | exact ⟨hlaM⟩ | exact ⟨hz0M⟩ | exact congrArg (SV.int .i64) (hgd2 u0 t1 t2) | exact congrArg (SV.int .u8) heaM | exact fun _ => rfl)
     rw [hebM, hecM, hwbM, hwcM]
     exact key
    refine call_con (ρ := [(21, .z), (20, .z)]) (hbyM cq) ⟨by rfl, by rfl, by rfl, by cbv; (repeat' first | (refine And.intro ?_ ?_) | exact trivial | exact ⟨Nat.le_refl _⟩ | exact view_refl _ | exact fun _ => rfl | (simp only [renL3]; done) | (show SB.roA _ _ _ = SB.roA _ _ _; rfl) | exact funext fun _ => rfl)⟩ ?_
    rintro v H R js16 ⟨rfl, rfl, rfl⟩
    cbv
    (repeat refine And.intro (fun _ => rfl) ?_)
    rw [hwyM, hwuM]
    refine ⟨⟨by decide⟩, ⟨by rw [hl3]; decide⟩, ?_⟩
    rw [hst2]
    cbv
    have hbyB := fun cq => hbits' cq pe pf xbB y1 _ Y1.nk Y1.k40 Y1.pr (by rw [hql3]; exact Y1.pr2) Y1.p2 Y1.xr
    have hwyB : vw .i64 y1 = y1 := hws64 _ Y1.xw
    have hwcB : vw .i64 xcB = xcB := hws64 _ SB.cw
    have hwbB : vw .i64 xbB = xbB := hws64 _ SB.bw
    have hwuB : vb .add .i64 xcB y1 = u1 := by rw [qb, Y1.v]; exact add64 Y1.fw Y1.xw
    have hebB := SB.eb
    have hecB := SB.ec
    (repeat first | refine And.intro ⟨by decide⟩ ?_ | refine And.intro ⟨by rw [hl3]; decide⟩ ?_ | refine And.intro (fun _ => rfl) ?_ | refine And.intro trivial ?_)
    rw [hgd1]
    apply joinG
    ·intro key
     refine inl_walk hw hm f63 (by rfl) ?_
     cbv
     (repeat refine And.intro (fun _ => rfl) ?_)
     intro js15
     cbv
     rw [htiB]
     (repeat' first | (refine And.intro ?_ ?_) | exact trivial | exact ⟨by decide⟩ | exact ⟨by rw [hl3]; decide⟩ | exact ⟨ht0B⟩ | exact ⟨hltB⟩ | exact ⟨hlaB⟩ | exact ⟨hz0B⟩ | exact congrArg (SV.int .i64) (hgd1 u0 t1 u2) | exact congrArg (SV.int .u8) heaB | exact fun _ => rfl)
     rw [hebB, hecB, hwbB, hwcB]
     exact key
    ·intro key
     (repeat' first | (refine And.intro ?_ ?_) | exact trivial | exact ⟨by decide⟩ | exact ⟨by rw [hl3]; decide⟩ | exact ⟨ht0B⟩ | exact ⟨hltB⟩ | exact ⟨hlaB⟩ | exact ⟨hz0B⟩ | exact congrArg (SV.int .i64) (hgd1 u0 t1 u2) | exact congrArg (SV.int .u8) heaB | exact fun _ => rfl)
     refine inl_walk hw hm f63 (by rfl) ?_
     cbv
     (repeat refine And.intro (fun _ => rfl) ?_)
     intro js15
     cbv
     rw [htiB]
     (repeat' first | (refine And.intro ?_ ?_) | exact trivial | exact ⟨by decide⟩ | exact ⟨by rw [hl3]; decide⟩ | exact ⟨ht0B⟩ | exact ⟨hltB⟩ | exact ⟨hlaB⟩ | exact ⟨hz0B⟩ | exact congrArg (SV.int .i64) (hgd1 u0 t1 u2) | exact congrArg (SV.int .u8) heaB | exact fun _ => rfl)
     rw [hebB, hecB, hwbB, hwcB]
     exact key
    refine call_con (ρ := [(21, .z), (20, .z)]) (hbyB cq) ⟨by rfl, by rfl, by rfl, by cbv; (repeat' first | (refine And.intro ?_ ?_) | exact trivial | exact ⟨Nat.le_refl _⟩ | exact view_refl _ | exact fun _ => rfl | (simp only [renL3]; done) | (show SB.roA _ _ _ = SB.roA _ _ _; rfl) | exact funext fun _ => rfl)⟩ ?_
    rintro v H R js16 ⟨rfl, rfl, rfl⟩
    cbv
    (repeat refine And.intro (fun _ => rfl) ?_)
    rw [hwyB, hwuB]
    refine ⟨⟨by decide⟩, ⟨by rw [hl3]; decide⟩, ?_⟩
    rw [hst1]
    cbv
    refine Cv.fold [1018009, 1169078] 24 [23, 3, 2, 1] (by exact Nat.le_refl _) (by exact Nat.le_of_ble_eq_true rfl) (by rfl) (by cbv) ?_
    intro js17
    refine ⟨(n1, u0, u1, u2, pf, ll + 1, cl1, f1, g1, h1, ls1), ?_, js17, rfl⟩
    have hm' := hmore hone
    exact ⟨⟨m - 1, hm'.2.2.1, hm'.2.2.2.1, hm'.2.2.2.2.1, by rw [hll]; exact hls1.2.2.2, by rw [hll, hls1.2.2.2]; exact hm'.2.2.2.2.2.1, hls1.1, hls1.2.1, hls1.2.2.1, hm'.2.2.2.2.2.2.1, hm'.2.2.2.2.2.2.2.1, hm'.2.2.2.2.2.2.2.2.1, hm'.2.2.2.2.2.2.2.2.2.1, hm'.2.2.2.2.2.2.2.2.2.2⟩, hm'.2.1⟩
end Go.Proofs.Ytlclleihoampdaa
namespace Go.Proofs.Ytlclleihoampdaa
open Go Go.Sx Go.Proofs
def kOf (lits back : Int) : Int := if lits = 0 then back else back - 1
def dOf (a b c k : Int) : Int := if k = 0 then a else if k = 1 then b else if k = 2 then c else bV .sub .i64 a 1
def val3 (a b c lits back : Int) : Int × Int × Int × Int × Int :=
 if back < 1 then (0, 2, a, b, c)
 else if 3 < back then (bV .sub .i64 back 3, 0, bV .sub .i64 back 3, a, b)
 else if dOf a b c (kOf lits back) < 1 then (0, 11, a, b, c)
 else (dOf a b c (kOf lits back), 0, dOf a b c (kOf lits back), if kOf lits back = 0 then b else a, if kOf lits back ≤ 1 then c else b)
def sh3 (i x y z : Int) : Int × Int := if i = 0 then (y, z) else if i = 1 then (x, z) else (x, y)
set_option maxRecDepth 10000
set_option maxHeartbeats 40000000
theorem value_con (a b c lits back : Int) :
  Con Try.prog 32 [.ptr 0 .z 1 0, .int .i64 lits, .int .i64 back] [.ints 61 .i64 [a, b, c]]
   (fun v H R => ∃ d e x y z, val3 a b c lits back = (d, e, x, y, z) ∧ v = .tup [.int .i64 d, .int .i64 e] ∧ R = [] ∧ H = [.ints 61 .i64 [x, y, z]]) := by
 refine con_gen (con_cut 1 (by simp) (con_drop (con_walk hmix fn32 ?_)))
 intro vb vc vw vtoN vofN vaddN vsubN vmaxI vminI vcutN vgd vst vln vrep vsub vonto vsplice vstrEq vbyteV vnotB veqB hw qb qc qw qtoN qofN qaddN qsubN qmaxI qminI qcutN qgd qst qln qrep qsub qonto qsplice qstrEq qbyteV qnotB qeqB
 have hm := hmix; generalize Try.prog = P at *
 have hv1 : back < 1 → val3 a b c lits back = (0, 2, a, b, c) := fun h => by unfold val3; rw [if_pos h]
 have hv2 : 3 < back → val3 a b c lits back = (bV .sub .i64 back 3, 0, bV .sub .i64 back 3, a, b) := fun h => by unfold val3; rw [if_neg (by omega), if_pos h]
 have hv3 : ¬ back < 1 → ¬ 3 < back → ∀ k d, kOf lits back = k → dOf a b c k = d → d < 1 → val3 a b c lits back = (0, 11, a, b, c) := fun h1 h2 k d h3 h4 h5 => by
  unfold val3; rw [if_neg h1, if_neg h2, h3, h4, if_pos h5]
 have hv4 : ¬ back < 1 → ¬ 3 < back → ∀ k d, kOf lits back = k → dOf a b c k = d → ¬ d < 1 → val3 a b c lits back = (d, 0, d, if k = 0 then b else a, if k ≤ 1 then c else b) := fun h1 h2 k d h3 h4 h5 => by
  unfold val3; rw [if_neg h1, if_neg h2, h3, h4, if_neg h5]
 have hk : kOf lits back = if lits = 0 then back else back - 1 := rfl
 have hd : ∀ k, dOf a b c k = if k = 0 then a else if k = 1 then b else if k = 2 then c else bV .sub .i64 a 1 := fun _ => rfl
 rw [← qb] at hv2
 rw [← qb] at hd
 generalize val3 a b c lits back = V at *
 generalize kOf lits back = KK at *
 generalize dOf a b c = DD at *
 have hl3 : ∀ x y z : Int, vln [x, y, z] = 3 := fun x y z => by rw [qln]; rfl
 have hg0 : ∀ x y z : Int, vgd [x, y, z] 0 = x := fun x y z => by rw [qgd]; rfl
 have hg1 : ∀ x y z : Int, vgd [x, y, z] 1 = y := fun x y z => by rw [qgd]; rfl
 have hg2 : ∀ x y z : Int, vgd [x, y, z] 2 = z := fun x y z => by rw [qgd]; rfl
 have hs0 : ∀ x y z w : Int, vst [x, y, z] 0 w = [w, y, z] := fun x y z w => by rw [qst]; rfl
 have hs1 : ∀ x y z w : Int, vst [x, y, z] 1 w = [x, w, z] := fun x y z w => by rw [qst]; rfl
 have hs2 : ∀ x y z w : Int, vst [x, y, z] 2 w = [x, y, w] := fun x y z w => by rw [qst]; rfl
 cbv
 generalize hz1 : vc .lss back 1 = z1
 cases z1
 rotate_left
 ·cbv
  rw [qc, lss_true] at hz1
  exact ⟨0, 2, a, b, c, hv1 hz1, rfl, rfl, rfl⟩
 rw [qc, lss_false] at hz1
 cbv
 generalize hz2 : vc .gtr back 3 = z2
 cases z2
 rotate_left
 ·rw [qc, gtr_true] at hz2
  have h2 := hv2 hz2
  obtain ⟨B3, hB3⟩ : ∃ B3, vb .sub .i64 back 3 = B3 := ⟨_, rfl⟩
  rw [hB3] at h2
  cbv
  rw [hB3, hl3, hg0, hg1, hs0, hl3, hs1, hl3, hs2, hl3]
  refine ⟨⟨by decide⟩, ⟨by decide⟩, ⟨by decide⟩, ⟨by decide⟩, ⟨by decide⟩, ⟨by decide⟩, ⟨by decide⟩, ⟨by decide⟩, ⟨by decide⟩, ?_⟩
  exact ⟨_, _, _, _, _, h2, by rw [hg0]; rfl, rfl, rfl⟩
 rw [qc, gtr_false] at hz2
 have hv3 := hv3 hz1 hz2
 have hv4 := hv4 hz1 hz2
 obtain ⟨b1, hb1⟩ : ∃ b1, b1 = back - 1 := ⟨_, rfl⟩
 have eb1 : vb .sub .i64 back 1 = b1 := by rw [qb, sub_i64 (by omega) (by omega)]; omega
 have eb2 : vb .add .i64 b1 1 = back := by rw [qb, add_i64 (by omega) (by omega)]; omega
 cbv
 rw [eb1]
 generalize hz3 : vc .eql lits 0 = z3
 have hK : ∃ K, K = KK ∧ 0 ≤ K ∧ K ≤ 3 ∧ (z3 = true → back = K) ∧ (z3 = false → b1 = K) := by
  cases z3
  ·rw [qc, eql_false] at hz3
   rw [if_neg hz3] at hk
   exact ⟨KK, rfl, by omega, by omega, (fun h => by cases h), fun _ => by omega⟩
  ·rw [qc, eql_true] at hz3
   rw [if_pos hz3] at hk
   exact ⟨KK, rfl, by omega, by omega, (fun _ => by omega), (fun h => by cases h)⟩
 obtain ⟨K, hK1, hK2, hK3, hK4, hK5⟩ := hK
 obtain ⟨d, hdd⟩ : ∃ d, d = DD K := ⟨_, rfl⟩
 have hv3 := hv3 K d hK1.symm hdd.symm
 have hv4 := hv4 K d hK1.symm hdd.symm
 have hm3 : K < 3 → ∃ m : Nat, m < 3 ∧ vtoN K = m ∧ vgd [a, b, c] m = d := fun h => by
  rw [hdd, hd]
  rcases (by omega : K = 0 ∨ K = 1 ∨ K = 2) with e | e | e
  ·exact ⟨0, by omega, by rw [e, qtoN]; rfl, by rw [hg0, if_pos e]⟩
  ·exact ⟨1, by omega, by rw [e, qtoN]; rfl, by rw [hg1, if_neg (by omega), if_pos e]⟩
  ·exact ⟨2, by omega, by rw [e, qtoN]; rfl, by rw [hg2, if_neg (by omega), if_neg (by omega), if_pos e]⟩
 have hm4 : K = 3 → vb .sub .i64 a 1 = d := fun h => by rw [hdd, hd, if_neg (by omega), if_neg (by omega), if_neg (by omega)]
 obtain ⟨i0, hi0⟩ : ∃ i0, i0 = vminI K 2 := ⟨_, rfl⟩
 have hi1 : i0 = if 2 < K then 2 else K := by rw [hi0, qminI]
 have hsh : sh3 i0 a b c = (if K = 0 then b else a, if K ≤ 1 then c else b) := by
  unfold sh3
  rcases (by omega : K = 0 ∨ K = 1 ∨ K = 2 ∨ K = 3) with e | e | e | e <;> rw [hi1, e] <;> simp
 have hi2 : 0 ≤ i0 ∧ i0 ≤ 2 := by rw [hi1]; split <;> omega
 have ht0 : vtoN 0 = 0 := by rw [qtoN]; rfl
 have ht1 : vtoN 1 = 1 := by rw [qtoN]; rfl
 have ht2 : vtoN 2 = 2 := by rw [qtoN]; rfl
 have hu1 : vb .sub .i64 1 1 = 0 := by rw [qb]; rfl
 have hu2 : vb .sub .i64 2 1 = 1 := by rw [qb]; rfl
 have hsh0 : ∀ x y z, sh3 0 x y z = (y, z) := fun _ _ _ => rfl
 have hsh1 : ∀ x y z, sh3 1 x y z = sh3 0 x x z := fun _ _ _ => rfl
 have hsh2 : ∀ x y z, sh3 2 x y z = sh3 1 x y y := fun _ _ _ => rfl
 generalize sh3 = SH at *
 clear hz3 hk hv1 hv2 hd hdd
 cases z3
 ·have hK5 := hK5 rfl
  clear hK4 eb2 eb1
  cbv
  rw [hK5]
  clear hK5 hb1
  rw [hl3, hg0]
  refine ⟨⟨by decide⟩, ⟨by decide⟩, ?_⟩
  generalize hz4 : vc .lss K 3 = z4
  cases z4
  ·rw [qc, lss_false] at hz4
   rw [hm4 (by omega)]
   cbv
   generalize hz5 : vc .lss d 1 = z5
   cases z5
   rotate_left
   ·rw [qc, lss_true] at hz5
    cbv
    exact ⟨_, _, _, _, _, hv3 hz5, rfl, rfl, rfl⟩
   ·rw [qc, lss_false] at hz5
    have hv4 := hv4 hz5
    cbv
    rw [← hi0]
    refine loop_fam (α := Int × Int × Int) [59, 60, 61, 62, 63, 64, 65, 66, 67, 68, 69, 70, 71, 72] [] (fun (i, _, _) => [(10, .int .i64 i)]) (fun (_, y, z) => [(0, .ints 61 .i64 [a, y, z])])
     (fun (i, y, z) => 0 ≤ i ∧ i ≤ 2 ∧ SH i a y z = SH i0 a b c) (fun (i, _, _) => i.toNat) hw hm ?_ ?_
    ·refine Cv.genAt [10] [0] (Cv.fold [59, 60, 61, 62, 63, 64, 65, 66, 67, 68, 69, 70, 71, 72] 1 [] (by exact Nat.le_refl _) (by exact Nat.le_of_ble_eq_true rfl) (by rfl) (by cbv) ?_)
     intro js
     refine ⟨(_, _, _), ?_, js, rfl⟩
     exact ⟨hi2.1, hi2.2, rfl⟩
    ·rintro ⟨i, y, z⟩ js ⟨hi3, hi4, hshi⟩
     cbv
     generalize hz6 : vc .gtr i 0 = z6
     cases z6
     ·rw [qc, gtr_false] at hz6
      obtain rfl : i = 0 := by omega
      rw [hsh0, hsh] at hshi
      cbv
      rw [hl3, hs0]
      refine ⟨⟨by decide⟩, ⟨by decide⟩, ?_⟩
      simp only [Prod.mk.injEq] at hshi
      obtain ⟨e1, e2⟩ := hshi
      rw [← e1, ← e2] at hv4
      exact ⟨_, _, _, _, _, hv4, rfl, rfl, rfl⟩
     ·rw [qc, gtr_true] at hz6
      rcases (by omega : i = 1 ∨ i = 2) with rfl | rfl
      ·rw [hsh1] at hshi
       cbv
       rw [hu1, ht0, ht1, hl3, hg0, hs1]
       refine ⟨⟨by decide⟩, ⟨by decide⟩, ⟨by decide⟩, ⟨by decide⟩, ?_⟩
       refine Cv.fold [59, 60, 61, 62, 63, 64, 65, 66, 67, 68, 69, 70, 71, 72] 1 [] (by exact Nat.le_refl _) (by exact Nat.le_of_ble_eq_true rfl) (by rfl) (by cbv) ?_
       intro js
       refine ⟨(_, _, _), ?_, js, rfl⟩
       exact ⟨⟨by omega, by omega, hshi⟩, by show (0 : Int).toNat < (1 : Int).toNat; decide⟩
      ·rw [hsh2] at hshi
       cbv
       rw [hu2, ht1, ht2, hl3, hg1, hs2]
       refine ⟨⟨by decide⟩, ⟨by decide⟩, ⟨by decide⟩, ⟨by decide⟩, ?_⟩
       refine Cv.fold [59, 60, 61, 62, 63, 64, 65, 66, 67, 68, 69, 70, 71, 72] 1 [] (by exact Nat.le_refl _) (by exact Nat.le_of_ble_eq_true rfl) (by rfl) (by cbv) ?_
       intro js
       refine ⟨(_, _, _), ?_, js, rfl⟩
       exact ⟨⟨by omega, by omega, hshi⟩, by show (1 : Int).toNat < (2 : Int).toNat; decide⟩
  ·rw [qc, lss_true] at hz4
   obtain ⟨m, hmm, htK, hgK⟩ := hm3 hz4
   cbv
   rw [htK, hgK, hl3]
   refine ⟨⟨⟨hK2, hz4⟩⟩, ⟨hmm⟩, ?_⟩
   generalize hz5 : vc .lss d 1 = z5
   cases z5
   rotate_left
   ·rw [qc, lss_true] at hz5
    cbv
    exact ⟨_, _, _, _, _, hv3 hz5, rfl, rfl, rfl⟩
   ·rw [qc, lss_false] at hz5
    have hv4 := hv4 hz5
    cbv
    rw [← hi0]
    refine loop_fam (α := Int × Int × Int) [59, 60, 61, 62, 63, 64, 65, 66, 67, 68, 69, 70, 71, 72] [] (fun (i, _, _) => [(10, .int .i64 i)]) (fun (_, y, z) => [(0, .ints 61 .i64 [a, y, z])])
     (fun (i, y, z) => 0 ≤ i ∧ i ≤ 2 ∧ SH i a y z = SH i0 a b c) (fun (i, _, _) => i.toNat) hw hm ?_ ?_
    ·refine Cv.genAt [10] [0] (Cv.fold [59, 60, 61, 62, 63, 64, 65, 66, 67, 68, 69, 70, 71, 72] 1 [] (by exact Nat.le_refl _) (by exact Nat.le_of_ble_eq_true rfl) (by rfl) (by cbv) ?_)
     intro js
     refine ⟨(_, _, _), ?_, js, rfl⟩
     exact ⟨hi2.1, hi2.2, rfl⟩
    ·rintro ⟨i, y, z⟩ js ⟨hi3, hi4, hshi⟩
     cbv
     generalize hz6 : vc .gtr i 0 = z6
     cases z6
     ·rw [qc, gtr_false] at hz6
      obtain rfl : i = 0 := by omega
      rw [hsh0, hsh] at hshi
      cbv
      rw [hl3, hs0]
      refine ⟨⟨by decide⟩, ⟨by decide⟩, ?_⟩
      simp only [Prod.mk.injEq] at hshi
      obtain ⟨e1, e2⟩ := hshi
      rw [← e1, ← e2] at hv4
      exact ⟨_, _, _, _, _, hv4, rfl, rfl, rfl⟩
     ·rw [qc, gtr_true] at hz6
      rcases (by omega : i = 1 ∨ i = 2) with rfl | rfl
      ·rw [hsh1] at hshi
       cbv
       rw [hu1, ht0, ht1, hl3, hg0, hs1]
       refine ⟨⟨by decide⟩, ⟨by decide⟩, ⟨by decide⟩, ⟨by decide⟩, ?_⟩
       refine Cv.fold [59, 60, 61, 62, 63, 64, 65, 66, 67, 68, 69, 70, 71, 72] 1 [] (by exact Nat.le_refl _) (by exact Nat.le_of_ble_eq_true rfl) (by rfl) (by cbv) ?_
       intro js
       refine ⟨(_, _, _), ?_, js, rfl⟩
       exact ⟨⟨by omega, by omega, hshi⟩, by show (0 : Int).toNat < (1 : Int).toNat; decide⟩
      ·rw [hsh2] at hshi
       cbv
       rw [hu2, ht1, ht2, hl3, hg1, hs2]
       refine ⟨⟨by decide⟩, ⟨by decide⟩, ⟨by decide⟩, ⟨by decide⟩, ?_⟩
       refine Cv.fold [59, 60, 61, 62, 63, 64, 65, 66, 67, 68, 69, 70, 71, 72] 1 [] (by exact Nat.le_refl _) (by exact Nat.le_of_ble_eq_true rfl) (by rfl) (by cbv) ?_
       intro js
       refine ⟨(_, _, _), ?_, js, rfl⟩
       exact ⟨⟨by omega, by omega, hshi⟩, by show (1 : Int).toNat < (2 : Int).toNat; decide⟩
 ·have hK4 := hK4 rfl
  clear hK5
  cbv
  rw [eb2, hK4]
  clear hK4 eb1 eb2 hb1
  rw [hl3, hg0]
  refine ⟨⟨by decide⟩, ⟨by decide⟩, ?_⟩
  generalize hz4 : vc .lss K 3 = z4
  cases z4
  ·rw [qc, lss_false] at hz4
   rw [hm4 (by omega)]
   cbv
   generalize hz5 : vc .lss d 1 = z5
   cases z5
   rotate_left
   ·rw [qc, lss_true] at hz5
    cbv
    exact ⟨_, _, _, _, _, hv3 hz5, rfl, rfl, rfl⟩
   ·rw [qc, lss_false] at hz5
    have hv4 := hv4 hz5
    cbv
    rw [← hi0]
    refine loop_fam (α := Int × Int × Int) [59, 60, 61, 62, 63, 64, 65, 66, 67, 68, 69, 70, 71, 72] [] (fun (i, _, _) => [(10, .int .i64 i)]) (fun (_, y, z) => [(0, .ints 61 .i64 [a, y, z])])
     (fun (i, y, z) => 0 ≤ i ∧ i ≤ 2 ∧ SH i a y z = SH i0 a b c) (fun (i, _, _) => i.toNat) hw hm ?_ ?_
    ·refine Cv.genAt [10] [0] (Cv.fold [59, 60, 61, 62, 63, 64, 65, 66, 67, 68, 69, 70, 71, 72] 1 [] (by exact Nat.le_refl _) (by exact Nat.le_of_ble_eq_true rfl) (by rfl) (by cbv) ?_)
     intro js
     refine ⟨(_, _, _), ?_, js, rfl⟩
     exact ⟨hi2.1, hi2.2, rfl⟩
    ·rintro ⟨i, y, z⟩ js ⟨hi3, hi4, hshi⟩
     cbv
     generalize hz6 : vc .gtr i 0 = z6
     cases z6
     ·rw [qc, gtr_false] at hz6
      obtain rfl : i = 0 := by omega
      rw [hsh0, hsh] at hshi
      cbv
      rw [hl3, hs0]
      refine ⟨⟨by decide⟩, ⟨by decide⟩, ?_⟩
      simp only [Prod.mk.injEq] at hshi
      obtain ⟨e1, e2⟩ := hshi
      rw [← e1, ← e2] at hv4
      exact ⟨_, _, _, _, _, hv4, rfl, rfl, rfl⟩
     ·rw [qc, gtr_true] at hz6
      rcases (by omega : i = 1 ∨ i = 2) with rfl | rfl
      ·rw [hsh1] at hshi
       cbv
       rw [hu1, ht0, ht1, hl3, hg0, hs1]
       refine ⟨⟨by decide⟩, ⟨by decide⟩, ⟨by decide⟩, ⟨by decide⟩, ?_⟩
       refine Cv.fold [59, 60, 61, 62, 63, 64, 65, 66, 67, 68, 69, 70, 71, 72] 1 [] (by exact Nat.le_refl _) (by exact Nat.le_of_ble_eq_true rfl) (by rfl) (by cbv) ?_
       intro js
       refine ⟨(_, _, _), ?_, js, rfl⟩
       exact ⟨⟨by omega, by omega, hshi⟩, by show (0 : Int).toNat < (1 : Int).toNat; decide⟩
      ·rw [hsh2] at hshi
       cbv
       rw [hu2, ht1, ht2, hl3, hg1, hs2]
       refine ⟨⟨by decide⟩, ⟨by decide⟩, ⟨by decide⟩, ⟨by decide⟩, ?_⟩
       refine Cv.fold [59, 60, 61, 62, 63, 64, 65, 66, 67, 68, 69, 70, 71, 72] 1 [] (by exact Nat.le_refl _) (by exact Nat.le_of_ble_eq_true rfl) (by rfl) (by cbv) ?_
       intro js
       refine ⟨(_, _, _), ?_, js, rfl⟩
       exact ⟨⟨by omega, by omega, hshi⟩, by show (1 : Int).toNat < (2 : Int).toNat; decide⟩
  ·rw [qc, lss_true] at hz4
   obtain ⟨m, hmm, htK, hgK⟩ := hm3 hz4
   cbv
   rw [htK, hgK, hl3]
   refine ⟨⟨⟨hK2, hz4⟩⟩, ⟨hmm⟩, ?_⟩
   generalize hz5 : vc .lss d 1 = z5
   cases z5
   rotate_left
   ·rw [qc, lss_true] at hz5
    cbv
    exact ⟨_, _, _, _, _, hv3 hz5, rfl, rfl, rfl⟩
   ·rw [qc, lss_false] at hz5
    have hv4 := hv4 hz5
    cbv
    rw [← hi0]
    refine loop_fam (α := Int × Int × Int) [59, 60, 61, 62, 63, 64, 65, 66, 67, 68, 69, 70, 71, 72] [] (fun (i, _, _) => [(10, .int .i64 i)]) (fun (_, y, z) => [(0, .ints 61 .i64 [a, y, z])])
     (fun (i, y, z) => 0 ≤ i ∧ i ≤ 2 ∧ SH i a y z = SH i0 a b c) (fun (i, _, _) => i.toNat) hw hm ?_ ?_
    ·refine Cv.genAt [10] [0] (Cv.fold [59, 60, 61, 62, 63, 64, 65, 66, 67, 68, 69, 70, 71, 72] 1 [] (by exact Nat.le_refl _) (by exact Nat.le_of_ble_eq_true rfl) (by rfl) (by cbv) ?_)
     intro js
     refine ⟨(_, _, _), ?_, js, rfl⟩
     exact ⟨hi2.1, hi2.2, rfl⟩
    ·rintro ⟨i, y, z⟩ js ⟨hi3, hi4, hshi⟩
     cbv
     generalize hz6 : vc .gtr i 0 = z6
     cases z6
     ·rw [qc, gtr_false] at hz6
      obtain rfl : i = 0 := by omega
      rw [hsh0, hsh] at hshi
      cbv
      rw [hl3, hs0]
      refine ⟨⟨by decide⟩, ⟨by decide⟩, ?_⟩
      simp only [Prod.mk.injEq] at hshi
      obtain ⟨e1, e2⟩ := hshi
      rw [← e1, ← e2] at hv4
      exact ⟨_, _, _, _, _, hv4, rfl, rfl, rfl⟩
     ·rw [qc, gtr_true] at hz6
      rcases (by omega : i = 1 ∨ i = 2) with rfl | rfl
      ·rw [hsh1] at hshi
       cbv
       rw [hu1, ht0, ht1, hl3, hg0, hs1]
       refine ⟨⟨by decide⟩, ⟨by decide⟩, ⟨by decide⟩, ⟨by decide⟩, ?_⟩
       refine Cv.fold [59, 60, 61, 62, 63, 64, 65, 66, 67, 68, 69, 70, 71, 72] 1 [] (by exact Nat.le_refl _) (by exact Nat.le_of_ble_eq_true rfl) (by rfl) (by cbv) ?_
       intro js
       refine ⟨(_, _, _), ?_, js, rfl⟩
       exact ⟨⟨by omega, by omega, hshi⟩, by show (0 : Int).toNat < (1 : Int).toNat; decide⟩
      ·rw [hsh2] at hshi
       cbv
       rw [hu2, ht1, ht2, hl3, hg1, hs2]
       refine ⟨⟨by decide⟩, ⟨by decide⟩, ⟨by decide⟩, ⟨by decide⟩, ?_⟩
       refine Cv.fold [59, 60, 61, 62, 63, 64, 65, 66, 67, 68, 69, 70, 71, 72] 1 [] (by exact Nat.le_refl _) (by exact Nat.le_of_ble_eq_true rfl) (by rfl) (by cbv) ?_
       intro js
       refine ⟨(_, _, _), ?_, js, rfl⟩
       exact ⟨⟨by omega, by omega, hshi⟩, by show (1 : Int).toNat < (2 : Int).toNat; decide⟩
end Go.Proofs.Ytlclleihoampdaa
namespace Go.Proofs.Ytlclleihoampdaa
open Go Go.Sx Go.Proofs
set_option maxRecDepth 10000
set_option maxHeartbeats 40000000
def Hits (a b c lits dist p : Int) : Prop := ∃ x y z, val3 a b c lits p = (dist, 0, x, y, z)
theorem pick_con (a b c lits dist : Int) :
  Con Try.prog 33 [.ptr 0 .z 1 0, .int .i64 lits, .int .i64 dist] [.ints 61 .i64 [a, b, c]]
   (fun v H R => ∃ p, v = .int .i64 p ∧ R = [] ∧ H = [.ints 61 .i64 [a, b, c]] ∧ (dist < 1 → p = 0) ∧ (¬ dist < 1 → (1 ≤ p ∧ p ≤ 3 ∧ Hits a b c lits dist p) ∨ p = bV .add .i64 dist 3)) := by
 refine con_gen (con_cut 1 (by simp) (con_drop (con_walk hmix fn33 ?_)))
 intro vb vc vw vtoN vofN vaddN vsubN vmaxI vminI vcutN vgd vst vln vrep vsub vonto vsplice vstrEq vbyteV vnotB veqB hw qb qc qw qtoN qofN qaddN qsubN qmaxI qminI qcutN qgd qst qln qrep qsub qonto qsplice qstrEq qbyteV qnotB qeqB
 have hval := fun p => value_con a b c lits p
 have hH : ∀ p x y z, val3 a b c lits p = (dist, 0, x, y, z) → Hits a b c lits dist p := fun p x y z h => ⟨x, y, z, h⟩
 have hm := hmix; generalize Try.prog = P at *
 generalize hVV : val3 a b c lits = VV at *
 generalize Hits a b c lits dist = HT at *
 obtain ⟨p3, hp3⟩ : ∃ p3, vb .add .i64 dist 3 = p3 := ⟨_, rfl⟩
 have hp3' : p3 = bV .add .i64 dist 3 := by rw [← hp3, qb]
 generalize bV .add .i64 dist 3 = pB at *
 have hl3 : ∀ x y z : Int, vln [x, y, z] = 3 := fun x y z => by rw [qln]; rfl
 have hg0 : ∀ x y z : Int, vgd [x, y, z] 0 = x := fun x y z => by rw [qgd]; rfl
 have hg1 : ∀ x y z : Int, vgd [x, y, z] 1 = y := fun x y z => by rw [qgd]; rfl
 have hg2 : ∀ x y z : Int, vgd [x, y, z] 2 = z := fun x y z => by rw [qgd]; rfl
 have hs0 : ∀ x y z w : Int, vst [x, y, z] 0 w = [w, y, z] := fun x y z w => by rw [qst]; rfl
 have hs1 : ∀ x y z w : Int, vst [x, y, z] 1 w = [x, w, z] := fun x y z w => by rw [qst]; rfl
 have hs2 : ∀ x y z w : Int, vst [x, y, z] 2 w = [x, y, w] := fun x y z w => by rw [qst]; rfl
 have hr3 : vrep 3 0 = [0, 0, 0] := by rw [qrep]; rfl
 cbv
 generalize hz1 : vc .lss dist 1 = z1
 cases z1
 rotate_left
 ·cbv
  rw [qc, lss_true] at hz1
  exact ⟨0, rfl, rfl, rfl, fun _ => rfl, fun h => absurd hz1 h⟩
 rw [qc, lss_false] at hz1
 cbv
 refine loop_fam (α := Int) ([8, 9, 10] ++ [17, 18, 19, 20, 21, 22, 23, 24, 25, 26, 27, 28, 29, 30, 31, 32, 33, 34, 35, 36]) [] (fun k => [(7, .int .i64 k)]) (fun _ => [])
  (fun k => 1 ≤ k ∧ k ≤ 4) (fun k => (4 - k).toNat) hw hm ?_ ?_
 ·refine Cv.genAt [7] [] (Cv.fold ([8, 9, 10] ++ [17, 18, 19, 20, 21, 22, 23, 24, 25, 26, 27, 28, 29, 30, 31, 32, 33, 34, 35, 36]) 1 [] (by exact Nat.le_refl _) (by exact Nat.le_of_ble_eq_true rfl) (by rfl) (by cbv) ?_)
  intro js
  refine ⟨_, ?_, js, rfl⟩
  exact ⟨by decide, by decide⟩
 ·rintro k js ⟨hk1, hk2⟩
  cbv
  generalize hz2 : vc .lss k 4 = z2
  cases z2
  ·rw [qc, lss_false] at hz2
   cbv
   rw [hp3]
   exact ⟨p3, rfl, rfl, rfl, fun h => absurd h hz1, fun _ => .inr hp3'⟩
  ·rw [qc, lss_true] at hz2
   have hval := hval k
   obtain ⟨k1, hk3⟩ : ∃ k1, k1 = k + 1 := ⟨_, rfl⟩
   have ek : vb .add .i64 k 1 = k1 := by rw [qb, add_i64 (by omega) (by omega)]; omega
   cbv
   rw [hl3, hg0, hg1, hg2, hr3, hs0, hs1, hs2, hl3, hl3, hl3]
   refine ⟨⟨by decide⟩, ⟨by decide⟩, ⟨by decide⟩, ⟨by decide⟩, ⟨by decide⟩, ⟨by decide⟩, ?_⟩
   refine call_con (ρ := [(1, .z)]) hval ⟨by rfl, by rfl, by rfl, by cbv⟩ ?_
   rintro v H R js2 ⟨d, e, x, y, z, hV, rfl, rfl, rfl⟩
   cbv
   generalize hz3 : vc .eql e 0 = z3
   have hend : ∀ _ : Unit, (4 - k1).toNat < (4 - k).toNat := fun _ => by omega
   cases z3
   ·cbv
    rw [ek]
    refine Cv.fold ([8, 9, 10] ++ [17, 18, 19, 20, 21, 22, 23, 24, 25, 26, 27, 28, 29, 30, 31, 32, 33, 34, 35, 36]) 1 [] (by exact Nat.le_refl _) (by exact Nat.le_of_ble_eq_true rfl) (by rfl) (by cbv) ?_
    intro js
    refine ⟨_, ?_, js, rfl⟩
    exact ⟨⟨by omega, by omega⟩, hend ()⟩
   ·rw [qc, eql_true] at hz3
    cbv
    generalize hz4 : vc .eql d dist = z4
    cases z4
    ·cbv
     rw [ek]
     refine Cv.fold ([8, 9, 10] ++ [17, 18, 19, 20, 21, 22, 23, 24, 25, 26, 27, 28, 29, 30, 31, 32, 33, 34, 35, 36]) 1 [] (by exact Nat.le_refl _) (by exact Nat.le_of_ble_eq_true rfl) (by rfl) (by cbv) ?_
     intro js
     refine ⟨_, ?_, js, rfl⟩
     exact ⟨⟨by omega, by omega⟩, hend ()⟩
    ·rw [qc, eql_true] at hz4
     subst hz3 hz4
     have hh := hH _ _ _ _ hV
     cbv
     exact ⟨k, rfl, rfl, rfl, fun h => absurd h hz1, fun _ => .inl ⟨hk1, by omega, hh⟩⟩
end Go.Proofs.Ytlclleihoampdaa
namespace Go.Proofs.Ytlclleihoampdaa
open Go Go.Sx Go.Proofs
set_option maxRecDepth 10000
set_option maxHeartbeats 40000000
def noT : Tb := ⟨0, fun _ => 0, fun _ => 0, fun _ => 0⟩
theorem noT_ok (most : Int) : TbOk most ⟨0, fun _ => 0, fun _ => 0, fun _ => 0⟩ := .inl rfl
theorem read_bad (zz : Nat → Int) (hzz : zz = fun _ => 0) (b : List Int) (cap : Nat) (hby : ∀ x ∈ b, isByte x) (hcap : b.length ≤ cap) (e : Int) (he : e ≠ 0) (h : (seqR b noT noT noT).1 = e) :
  Con Try.prog 12 [.slice 0 .z 1 b.length cap, .agg [.slice 1 .z 3 0 0, .slice 2 .z 3 0 0, .slice 3 .z 3 0 0]] [.ro .u8 b, .bufA 79 3 0 (fun m => [.int .u8 (zz m), .int .u8 (zz m), .int .u16 (zz m)]) 0, .bufA 79 3 0 (fun m => [.int .u8 (zz m), .int .u8 (zz m), .int .u16 (zz m)]) 0, .bufA 79 3 0 (fun m => [.int .u8 (zz m), .int .u8 (zz m), .int .u16 (zz m)]) 0]
   (fun v H R => R = [1, 2, 3] ∧ v = .tup [.val (.slice none 0 0), .agg [.val (.slice none 0 0), .val (.slice none 0 0), .val (.slice none 0 0)], .int .i64 e] ∧ ∃ (M0 M1 M2 j0 j1 j2 : Nat) (x0 y0 z0 x1 y1 z1 x2 y2 z2 : Nat → Int),
    H = [.ro .u8 b, .bufA 79 3 M0 (fun m => [.int .u8 (x0 m), .int .u8 (y0 m), .int .u16 (z0 m)]) j0, .bufA 79 3 M1 (fun m => [.int .u8 (x1 m), .int .u8 (y1 m), .int .u16 (z1 m)]) j1, .bufA 79 3 M2 (fun m => [.int .u8 (x2 m), .int .u8 (y2 m), .int .u16 (z2 m)]) j2]) := by
 subst hzz
 refine read13 _ b cap 0 0 0 0 0 0 0 0 0 (fun _ => 0) (fun _ => 0) (fun _ => 0) (fun _ => 0) (fun _ => 0) (fun _ => 0) (fun _ => 0) (fun _ => 0) (fun _ => 0) hby hcap (noT_ok _) (noT_ok _) (noT_ok _) ?_ ?_ ?_
 ·intro e' h1 h2 M0 M1 M2 j0 j1 j2 x0 y0 z0 x1 y1 z1 x2 y2 z2
  have : e' = e := h1.symm.trans h
  subst this
  exact ⟨rfl, rfl, M0, M1, M2, j0, j1, j2, x0, y0, z0, x1, y1, z1, x2, y2, z2, rfl⟩
 ·intro h1
  exact absurd ((congrArg (·.1) h1).symm.trans h).symm he
 ·intro LS N0 N1 N2 A0 B0 C0 A1 B1 C1 A2 B2 C2 h1
  exact absurd ((congrArg (·.1) h1).symm.trans h).symm he
theorem read_none (zz : Nat → Int) (hzz : zz = fun _ => 0) (b : List Int) (cap : Nat) (hby : ∀ x ∈ b, isByte x) (hcap : b.length ≤ cap) (hS : seqR b noT noT noT = (0, [], noT, noT, noT)) :
  Con Try.prog 12 [.slice 0 .z 1 b.length cap, .agg [.slice 1 .z 3 0 0, .slice 2 .z 3 0 0, .slice 3 .z 3 0 0]] [.ro .u8 b, .bufA 79 3 0 (fun m => [.int .u8 (zz m), .int .u8 (zz m), .int .u16 (zz m)]) 0, .bufA 79 3 0 (fun m => [.int .u8 (zz m), .int .u8 (zz m), .int .u16 (zz m)]) 0, .bufA 79 3 0 (fun m => [.int .u8 (zz m), .int .u8 (zz m), .int .u16 (zz m)]) 0]
   (fun v H R => R = [1, 2, 3] ∧ ∃ m0 m1 m2 j0 j1 j2 : Nat, (v = .tup [.val (.slice none 0 0), .agg [.slice 1 .z 3 0 m0, .slice 2 .z 3 0 m1, .slice 3 .z 3 0 m2], .int .i64 0] ∧ H = [.ro .u8 b, .bufA 79 3 0 (fun m => [.int .u8 (zz m), .int .u8 (zz m), .int .u16 (zz m)]) j0, .bufA 79 3 0 (fun m => [.int .u8 (zz m), .int .u8 (zz m), .int .u16 (zz m)]) j1, .bufA 79 3 0 (fun m => [.int .u8 (zz m), .int .u8 (zz m), .int .u16 (zz m)]) j2]) ∨
    (∃ (f g h : Nat → Int) (cl kl : Nat), v = .tup [.slice 4 .z 3 0 cl, .agg [.slice 1 .z 3 0 m0, .slice 2 .z 3 0 m1, .slice 3 .z 3 0 m2], .int .i64 0] ∧ H = [.ro .u8 b, .bufA 79 3 0 (fun m => [.int .u8 (zz m), .int .u8 (zz m), .int .u16 (zz m)]) j0, .bufA 79 3 0 (fun m => [.int .u8 (zz m), .int .u8 (zz m), .int .u16 (zz m)]) j1, .bufA 79 3 0 (fun m => [.int .u8 (zz m), .int .u8 (zz m), .int .u16 (zz m)]) j2, .bufA 24 3 0 (fun m => [.int .i64 (f m), .int .i64 (g m), .int .i64 (h m)]) kl])) := by
 subst hzz
 refine read13 _ b cap 0 0 0 0 0 0 0 0 0 (fun _ => 0) (fun _ => 0) (fun _ => 0) (fun _ => 0) (fun _ => 0) (fun _ => 0) (fun _ => 0) (fun _ => 0) (fun _ => 0) hby hcap (noT_ok _) (noT_ok _) (noT_ok _) ?_ ?_ ?_
 ·intro e' h1 h2
  exact absurd (h1.symm.trans (congrArg (·.1) hS)) h2
 ·intro h1
  exact ⟨rfl, 0, 0, 0, 0, 0, 0, .inl ⟨rfl, rfl⟩⟩
 ·intro LS N0 N1 N2 A0 B0 C0 A1 B1 C1 A2 B2 C2 h1 f g h ll cl kl m0 m1 m2 j0 j1 j2 hll _ _ _
  have h2 := h1.symm.trans hS
  simp only [noT, Prod.mk.injEq, Tb.mk.injEq] at h2
  obtain ⟨_, rfl, ⟨rfl, rfl, rfl, rfl⟩, ⟨rfl, rfl, rfl, rfl⟩, rfl, rfl, rfl, rfl⟩ := h2
  have hll : ll = 0 := hll
  subst hll
  exact ⟨rfl, m0, m1, m2, j0, j1, j2, .inr ⟨f, g, h, cl, kl, rfl, rfl⟩⟩
theorem read_rows (zz : Nat → Int) (hzz : zz = fun _ => 0) (b : List Int) (cap : Nat) (hby : ∀ x ∈ b, isByte x) (hcap : b.length ≤ cap) (rows : List Row) (T0 T1 T2 : Tb) (hne : rows ≠ []) (h : seqR b noT noT noT = (0, rows, T0, T1, T2)) :
  Con Try.prog 12 [.slice 0 .z 1 b.length cap, .agg [.slice 1 .z 3 0 0, .slice 2 .z 3 0 0, .slice 3 .z 3 0 0]] [.ro .u8 b, .bufA 79 3 0 (fun m => [.int .u8 (zz m), .int .u8 (zz m), .int .u16 (zz m)]) 0, .bufA 79 3 0 (fun m => [.int .u8 (zz m), .int .u8 (zz m), .int .u16 (zz m)]) 0, .bufA 79 3 0 (fun m => [.int .u8 (zz m), .int .u8 (zz m), .int .u16 (zz m)]) 0]
   (fun v H R => R = [1, 2, 3] ∧ ∃ (N0 N1 N2 : Nat) (A0 B0 C0 A1 B1 C1 A2 B2 C2 f g h : Nat → Int) (ll cl kl m0 m1 m2 j0 j1 j2 : Nat), ll = rows.length ∧ (f = fun m => (rows.getD m (0, 0, 0)).1) ∧ (g = fun m => (rows.getD m (0, 0, 0)).2.1) ∧ (h = fun m => (rows.getD m (0, 0, 0)).2.2) ∧
    v = .tup [.slice 4 .z 3 ll cl, .agg [.slice 1 .z 3 N0 m0, .slice 2 .z 3 N1 m1, .slice 3 .z 3 N2 m2], .int .i64 0] ∧
    H = [.ro .u8 b, .bufA 79 3 N0 (fun m => [.int .u8 (A0 m), .int .u8 (B0 m), .int .u16 (C0 m)]) j0, .bufA 79 3 N1 (fun m => [.int .u8 (A1 m), .int .u8 (B1 m), .int .u16 (C1 m)]) j1, .bufA 79 3 N2 (fun m => [.int .u8 (A2 m), .int .u8 (B2 m), .int .u16 (C2 m)]) j2, .bufA 24 3 ll (fun m => [.int .i64 (f m), .int .i64 (g m), .int .i64 (h m)]) kl]) := by
 subst hzz
 refine read13 _ b cap 0 0 0 0 0 0 0 0 0 (fun _ => 0) (fun _ => 0) (fun _ => 0) (fun _ => 0) (fun _ => 0) (fun _ => 0) (fun _ => 0) (fun _ => 0) (fun _ => 0) hby hcap (noT_ok _) (noT_ok _) (noT_ok _) ?_ ?_ ?_
 ·intro e' h1 h2
  exact absurd (h1.symm.trans (congrArg (·.1) h)) h2
 ·intro h1
  exact absurd ((congrArg (·.2.1) h).symm.trans (congrArg (·.2.1) h1)) hne
 ·intro LS N0 N1 N2 A0 B0 C0 A1 B1 C1 A2 B2 C2 h1 f g h' ll cl kl m0 m1 m2 j0 j1 j2 hll hf hg hh
  have h2 : rows = LS := (congrArg (·.2.1) h).symm.trans (congrArg (·.2.1) h1)
  subst h2
  exact ⟨rfl, N0, N1, N2, A0, B0, C0, A1, B1, C1, A2, B2, C2, f, g, h', ll, cl, kl, m0, m1, m2, j0, j1, j2, hll, hf, hg, hh, rfl, rfl⟩
theorem seq_0 : seqR [0] noT noT noT = (0, [], noT, noT, noT) := rfl
theorem seq_00 : (seqR [0, 0] noT noT noT).1 = 11 := rfl
theorem val_w : val3 1 4 8 5 2 = (4, 0, 4, 1, 8) := by decide
theorem no_hit (p : Int) : ¬ (1 ≤ p ∧ p ≤ 3 ∧ Hits 4 1 8 5 100 p) := by
 rintro ⟨h1, h2, x, y, z, h⟩
 rcases (by omega : p = 1 ∨ p = 2 ∨ p = 3) with rfl | rfl | rfl <;> revert h <;> simp [val3, dOf, kOf]
theorem wakes13_con : Con Try.prog 11 [] [] (fun v H R => v = .bool true ∧ H = [] ∧ R = []) := by
 obtain ⟨zz, hzz⟩ : ∃ zz : Nat → Int, zz = fun _ => 0 := ⟨_, rfl⟩
 have h1 := fun cap h => read_none zz hzz [0] cap (by intro x hx; simp at hx; subst hx; exact ⟨by decide, by decide⟩) h seq_0
 have h2 := fun cap h => read_bad zz hzz [0, 0] cap (by intro x hx; simp at hx; subst hx; exact ⟨by decide, by decide⟩) h 11 (by decide) seq_00
 simp only [List.length_cons, List.length_nil] at h1 h2
 have h8 := value_con 1 4 8 5 2
 have h6 := pick_con 4 1 8 5 100
 rw [val_w] at h8
 have hno := no_hit
 have h103 : bV .add .i64 100 3 = 103 := by decide
 rw [h103] at h6
 generalize Hits 4 1 8 5 100 = HT at *
 clear hzz
 refine con_gen (con_cut 0 (by simp) (con_drop (con_walk hmix fn11 ?_)))
 intro vb vc vw vtoN vofN vaddN vsubN vmaxI vminI vcutN vgd vst vln vrep vsub vonto vsplice vstrEq vbyteV vnotB veqB hw qb qc qw qtoN qofN qaddN qsubN qmaxI qminI qcutN qgd qst qln qrep qsub qonto qsplice qstrEq qbyteV qnotB qeqB
 have hm := hmix; generalize Try.prog = P at *
 have hr3 : vrep 3 0 = [0, 0, 0] := by simp only [qrep]; rfl
 have hl3 : ∀ x y z : Int, vln [x, y, z] = 3 := fun x y z => by simp only [qln]; rfl
 have hs0 : vst [0, 0, 0] 0 1 = [1, 0, 0] := by simp only [qst]; rfl
 have hs1 : vst [1, 0, 0] 1 4 = [1, 4, 0] := by simp only [qst]; rfl
 have hs2 : vst [1, 4, 0] 2 8 = [1, 4, 8] := by simp only [qst]; rfl
 have hg0 : vgd [4, 1, 8] 0 = 4 := by simp only [qgd]; rfl
 have hg1 : vgd [4, 1, 8] 1 = 1 := by simp only [qgd]; rfl
 have hg2 : vgd [4, 1, 8] 2 = 8 := by simp only [qgd]; rfl
 have hof0 : vofN 0 = 0 := by simp only [qofN]; rfl
 have e11' : vc .eql 1 1 = true := by rw [qc]; rfl
 have e88 : vc .eql 8 8 = true := by rw [qc]; rfl
 have e00 : vc .eql 0 0 = true := by rw [qc]; rfl
 have e44 : vc .eql 4 4 = true := by rw [qc]; rfl
 have e11 : vc .eql 11 11 = true := by rw [qc]; rfl
 have e03 : vc .eql 103 103 = true := by rw [qc]; rfl
 cbv
 refine callX_row [.slice 0 .z 1 1 1, .agg [.slice 1 .z 3 0 0, .val (.slice none 0 0), .val (.slice none 0 0)]] 79 3 (fun m => [.int .u8 (zz m), .int .u8 (zz m), .int .u16 (zz m)]) (by cbv) (by rfl) (fun σ => by simp [denL, den, more]) ?_
 cbv
 refine callX_row [.slice 0 .z 1 1 1, .agg [.slice 1 .z 3 0 0, .slice 2 .z 3 0 0, .val (.slice none 0 0)]] 79 3 (fun m => [.int .u8 (zz m), .int .u8 (zz m), .int .u16 (zz m)]) (by cbv; (repeat' first | (refine And.intro ?_ ?_) | exact trivial | exact ⟨Nat.le_refl _⟩ | exact view_refl _ | exact fun _ => rfl | (simp only [renL3]; done) | (show SB.roA _ _ _ = SB.roA _ _ _; rfl) | exact funext fun _ => rfl)) (by rfl) (fun σ => by simp [denL, den, more]) ?_
 cbv
 refine callX_row [.slice 0 .z 1 1 1, .agg [.slice 1 .z 3 0 0, .slice 2 .z 3 0 0, .slice 3 .z 3 0 0]] 79 3 (fun m => [.int .u8 (zz m), .int .u8 (zz m), .int .u16 (zz m)]) (by cbv; (repeat' first | (refine And.intro ?_ ?_) | exact trivial | exact ⟨Nat.le_refl _⟩ | exact view_refl _ | exact fun _ => rfl | (simp only [renL3]; done) | (show SB.roA _ _ _ = SB.roA _ _ _; rfl) | exact funext fun _ => rfl)) (by rfl) (fun σ => by simp [denL, den, more]) ?_
 cbv
 refine call_con (ρ := [(0, .z), (1, .z), (2, .z), (3, .z)]) (h1 1 (by decide)) ⟨by rfl, by rfl, by rfl, by cbv; (repeat' first | (refine And.intro ?_ ?_) | exact trivial | exact ⟨Nat.le_refl _⟩ | exact view_refl _ | exact fun _ => rfl | (simp only [renL3]; done) | (show SB.roA _ _ _ = SB.roA _ _ _; rfl) | exact funext fun _ => rfl)⟩ ?_
 rintro v H R js ⟨rfl, m0, m1, m2, j0, j1, j2, hor⟩
 rcases hor with ⟨rfl, rfl⟩ | ⟨f, g, h, cl, kl, rfl, rfl⟩
 ·cbv
  (repeat refine And.intro (fun _ => rfl) ?_)
  refine callX_row [.slice 5 .z 1 2 2, .agg [.slice 6 .z 3 0 0, .val (.slice none 0 0), .val (.slice none 0 0)]] 79 3 (fun m => [.int .u8 (zz m), .int .u8 (zz m), .int .u16 (zz m)]) (by cbv; (repeat' first | (refine And.intro ?_ ?_) | exact trivial | exact ⟨Nat.le_refl _⟩ | exact view_refl _ | exact fun _ => rfl | (simp only [renL3]; done) | (show SB.roA _ _ _ = SB.roA _ _ _; rfl) | exact funext fun _ => rfl)) (by rfl) (fun σ => by simp [denL, den, more]) ?_
  cbv
  refine callX_row [.slice 5 .z 1 2 2, .agg [.slice 6 .z 3 0 0, .slice 7 .z 3 0 0, .val (.slice none 0 0)]] 79 3 (fun m => [.int .u8 (zz m), .int .u8 (zz m), .int .u16 (zz m)]) (by cbv; (repeat' first | (refine And.intro ?_ ?_) | exact trivial | exact ⟨Nat.le_refl _⟩ | exact view_refl _ | exact fun _ => rfl | (simp only [renL3]; done) | (show SB.roA _ _ _ = SB.roA _ _ _; rfl) | exact funext fun _ => rfl)) (by rfl) (fun σ => by simp [denL, den, more]) ?_
  cbv
  refine callX_row [.slice 5 .z 1 2 2, .agg [.slice 6 .z 3 0 0, .slice 7 .z 3 0 0, .slice 8 .z 3 0 0]] 79 3 (fun m => [.int .u8 (zz m), .int .u8 (zz m), .int .u16 (zz m)]) (by cbv; (repeat' first | (refine And.intro ?_ ?_) | exact trivial | exact ⟨Nat.le_refl _⟩ | exact view_refl _ | exact fun _ => rfl | (simp only [renL3]; done) | (show SB.roA _ _ _ = SB.roA _ _ _; rfl) | exact funext fun _ => rfl)) (by rfl) (fun σ => by simp [denL, den, more]) ?_
  cbv
  refine call_con (ρ := [(5, .z), (6, .z), (7, .z), (8, .z)]) (h2 2 (by decide)) ⟨by rfl, by rfl, by rfl, by cbv; (repeat' first | (refine And.intro ?_ ?_) | exact trivial | exact ⟨Nat.le_refl _⟩ | exact view_refl _ | exact fun _ => rfl | (simp only [renL3]; done) | (show SB.roA _ _ _ = SB.roA _ _ _; rfl) | exact funext fun _ => rfl)⟩ ?_
  rintro v H R js2 ⟨rfl, rfl, M0, M1, M2, i0, i1, i2, x0, y0, z0, x1, y1, z1, x2, y2, z2, rfl⟩
  cbv
  (repeat refine And.intro (fun _ => rfl) ?_)
  rw [hr3, hs0, hs1, hs2, hl3, hl3, hl3]
  refine ⟨⟨by decide⟩, ⟨by decide⟩, ⟨by decide⟩, ?_⟩
  refine call_con (ρ := [(10, .z)]) h8 ⟨by rfl, by rfl, by rfl, by cbv; (repeat' first | (refine And.intro ?_ ?_) | exact trivial | exact ⟨Nat.le_refl _⟩ | exact view_refl _ | exact fun _ => rfl | (simp only [renL3]; done) | (show SB.roA _ _ _ = SB.roA _ _ _; rfl) | exact funext fun _ => rfl)⟩ ?_
  rintro v H R js3 ⟨d, e, x, y, z, hV, rfl, rfl, rfl⟩
  simp only [Prod.mk.injEq] at hV
  obtain ⟨rfl, rfl, rfl, rfl, rfl⟩ := hV
  cbv
  (repeat refine And.intro (fun _ => rfl) ?_)
  rw [e00]
  cbv
  rw [e11]
  cbv
  rw [e44]
  cbv
  rw [e00]
  cbv
  rw [hl3]
  refine ⟨⟨by decide⟩, ⟨by decide⟩, ⟨by decide⟩, ?_⟩
  rw [hg0, hg1, hg2, e44]
  cbv
  rw [e11']
  cbv
  rw [e88]
  cbv
  refine call_con (ρ := [(10, .z)]) h6 ⟨by rfl, by rfl, by rfl, by cbv; (repeat' first | (refine And.intro ?_ ?_) | exact trivial | exact ⟨Nat.le_refl _⟩ | exact view_refl _ | exact fun _ => rfl | (simp only [renL3]; done) | (show SB.roA _ _ _ = SB.roA _ _ _; rfl) | exact funext fun _ => rfl)⟩ ?_
  rintro v H R js4 ⟨p, rfl, rfl, rfl, _, hp⟩
  obtain rfl : p = 103 := (hp (by decide)).resolve_left (hno p)
  cbv
  (repeat refine And.intro (fun _ => rfl) ?_)
  rw [e03]
  cbv
 ·cbv
  (repeat refine And.intro (fun _ => rfl) ?_)
  refine callX_row [.slice 6 .z 1 2 2, .agg [.slice 7 .z 3 0 0, .val (.slice none 0 0), .val (.slice none 0 0)]] 79 3 (fun m => [.int .u8 (zz m), .int .u8 (zz m), .int .u16 (zz m)]) (by cbv; (repeat' first | (refine And.intro ?_ ?_) | exact trivial | exact ⟨Nat.le_refl _⟩ | exact view_refl _ | exact fun _ => rfl | (simp only [renL3]; done) | (show SB.roA _ _ _ = SB.roA _ _ _; rfl) | exact funext fun _ => rfl)) (by rfl) (fun σ => by simp [denL, den, more]) ?_
  cbv
  refine callX_row [.slice 6 .z 1 2 2, .agg [.slice 7 .z 3 0 0, .slice 8 .z 3 0 0, .val (.slice none 0 0)]] 79 3 (fun m => [.int .u8 (zz m), .int .u8 (zz m), .int .u16 (zz m)]) (by cbv; (repeat' first | (refine And.intro ?_ ?_) | exact trivial | exact ⟨Nat.le_refl _⟩ | exact view_refl _ | exact fun _ => rfl | (simp only [renL3]; done) | (show SB.roA _ _ _ = SB.roA _ _ _; rfl) | exact funext fun _ => rfl)) (by rfl) (fun σ => by simp [denL, den, more]) ?_
  cbv
  refine callX_row [.slice 6 .z 1 2 2, .agg [.slice 7 .z 3 0 0, .slice 8 .z 3 0 0, .slice 9 .z 3 0 0]] 79 3 (fun m => [.int .u8 (zz m), .int .u8 (zz m), .int .u16 (zz m)]) (by cbv; (repeat' first | (refine And.intro ?_ ?_) | exact trivial | exact ⟨Nat.le_refl _⟩ | exact view_refl _ | exact fun _ => rfl | (simp only [renL3]; done) | (show SB.roA _ _ _ = SB.roA _ _ _; rfl) | exact funext fun _ => rfl)) (by rfl) (fun σ => by simp [denL, den, more]) ?_
  cbv
  refine call_con (ρ := [(6, .z), (7, .z), (8, .z), (9, .z)]) (h2 2 (by decide)) ⟨by rfl, by rfl, by rfl, by cbv; (repeat' first | (refine And.intro ?_ ?_) | exact trivial | exact ⟨Nat.le_refl _⟩ | exact view_refl _ | exact fun _ => rfl | (simp only [renL3]; done) | (show SB.roA _ _ _ = SB.roA _ _ _; rfl) | exact funext fun _ => rfl)⟩ ?_
  rintro v H R js2 ⟨rfl, rfl, M0, M1, M2, i0, i1, i2, x0, y0, z0, x1, y1, z1, x2, y2, z2, rfl⟩
  cbv
  (repeat refine And.intro (fun _ => rfl) ?_)
  rw [hr3, hs0, hs1, hs2, hl3, hl3, hl3]
  refine ⟨⟨by decide⟩, ⟨by decide⟩, ⟨by decide⟩, ?_⟩
  refine call_con (ρ := [(11, .z)]) h8 ⟨by rfl, by rfl, by rfl, by cbv; (repeat' first | (refine And.intro ?_ ?_) | exact trivial | exact ⟨Nat.le_refl _⟩ | exact view_refl _ | exact fun _ => rfl | (simp only [renL3]; done) | (show SB.roA _ _ _ = SB.roA _ _ _; rfl) | exact funext fun _ => rfl)⟩ ?_
  rintro v H R js3 ⟨d, e, x, y, z, hV, rfl, rfl, rfl⟩
  simp only [Prod.mk.injEq] at hV
  obtain ⟨rfl, rfl, rfl, rfl, rfl⟩ := hV
  cbv
  (repeat refine And.intro (fun _ => rfl) ?_)
  rw [e00]
  cbv
  rw [hof0, e00]
  cbv
  rw [e11]
  cbv
  rw [e44]
  cbv
  rw [e00]
  cbv
  rw [hl3]
  refine ⟨⟨by decide⟩, ⟨by decide⟩, ⟨by decide⟩, ?_⟩
  rw [hg0, hg1, hg2, e44]
  cbv
  rw [e11']
  cbv
  rw [e88]
  cbv
  refine call_con (ρ := [(11, .z)]) h6 ⟨by rfl, by rfl, by rfl, by cbv; (repeat' first | (refine And.intro ?_ ?_) | exact trivial | exact ⟨Nat.le_refl _⟩ | exact view_refl _ | exact fun _ => rfl | (simp only [renL3]; done) | (show SB.roA _ _ _ = SB.roA _ _ _; rfl) | exact funext fun _ => rfl)⟩ ?_
  rintro v H R js4 ⟨p, rfl, rfl, rfl, _, hp⟩
  obtain rfl : p = 103 := (hp (by decide)).resolve_left (hno p)
  cbv
  (repeat refine And.intro (fun _ => rfl) ?_)
  rw [e03]
  cbv
end Go.Proofs.Ytlclleihoampdaa
namespace Go.Proofs.Ytlclleihoampdaa
open Go Go.Sx Go.Proofs
set_option maxRecDepth 10000
set_option maxHeartbeats 4000000
theorem same13_con (n c1 c2 : Nat) (f g h f2 g2 h2 : Nat → Int) (hn : n ≤ 3000) (he : ∀ i, i < n → f2 i = f i ∧ g2 i = g i ∧ h2 i = h i) : Con Try.prog 13 [.slice 0 .z 3 n c1, .slice 1 .z 3 n c2] [.roA 3 n (fun m => [.int .i64 (f m), .int .i64 (g m), .int .i64 (h m)]), .roA 3 n (fun m => [.int .i64 (f2 m), .int .i64 (g2 m), .int .i64 (h2 m)])]
  (fun v H R => v = .bool true ∧ H = [.roA 3 n (fun m => [.int .i64 (f m), .int .i64 (g m), .int .i64 (h m)]), .roA 3 n (fun m => [.int .i64 (f2 m), .int .i64 (g2 m), .int .i64 (h2 m)])] ∧ R = []) := by
 refine con_gen (con_cut 2 (by simp) (con_drop (con_walk hmix fn13 ?_)))
 intro vb vc vw vtoN vofN vaddN vsubN vmaxI vminI vcutN vgd vst vln vrep vsub vonto vsplice vstrEq vbyteV vnotB veqB hw qb qc qw qtoN qofN qaddN qsubN qmaxI qminI qcutN qgd qst qln qrep qsub qonto qsplice qstrEq qbyteV qnotB qeqB
 have hm := hmix; generalize Try.prog = P at *
 have hto : ∀ i : Nat, vtoN (i : Int) = i := fun i => by simp only [qtoN, Int.toNat_natCast]
 have hadd0 : ∀ i, vaddN 0 i = i := fun i => by simp only [qaddN, Nat.zero_add]
 obtain ⟨ni, hni⟩ : ∃ ni : Int, ni = n := ⟨_, rfl⟩
 have ho : vofN n = ni := by simp only [qofN]; exact hni.symm
 have h1 : vc .neq ni ni = false := by rw [qc, neq_false]; simp
 have hself : ∀ x, vc .eql x x = true := fun x => by rw [qc, eql_true]
 cbv
 rw [ho, h1]
 cbv
 rw [ho]
 refine loop_fam (α := Int × Nat) ([5] ++ (List.range' 14 12)) [] (fun (k, i) => [(13, .int .i64 k)]) (fun _ => []) (fun (k, i) => k = i ∧ i ≤ n) (fun (k, i) => n - i) hw hm ?_ ?_
 ·refine Cv.genAt [13] [] (Cv.fold ([5] ++ (List.range' 14 12)) 2 [] (by exact Nat.le_refl _) (by exact Nat.le_of_ble_eq_true rfl) (by rfl) (by cbv) ?_)
  intro js
  exact ⟨(0, 0), ⟨rfl, Nat.zero_le _⟩, js, rfl⟩
 ·rintro ⟨k, i⟩ js ⟨hk, hi⟩
  by_cases hlt : i < n
  ·have hl1 : vc .lss k ni = true := by rw [qc, lss_true, hk, hni]; exact Int.ofNat_lt.2 hlt
   have hti : vtoN k = i := by rw [hk]; exact hto i
   have hinR : 0 ≤ k ∧ k < (n : Int) := by rw [hk]; exact ⟨Int.natCast_nonneg i, Int.ofNat_lt.2 hlt⟩
   obtain ⟨k1, hk1⟩ : ∃ k1 : Int, k1 = ((i + 1 : Nat) : Int) := ⟨_, rfl⟩
   have ek : vb .add .i64 k 1 = k1 := by rw [qb, hk1, hk, add_i64 (by omega) (by omega)]; omega
   have hmu : n - (i + 1) < n - i := Nat.sub_lt_sub_left hlt (Nat.lt_succ_self i)
   have hai : vaddN 0 i < n := by rw [hadd0]; exact hlt
   have h0n : 0 < n := Nat.lt_of_le_of_lt (Nat.zero_le _) hlt
   obtain ⟨hef, heg, heh⟩ := he i hlt
   obtain ⟨x, hx⟩ : ∃ x, x = f i := ⟨_, rfl⟩
   obtain ⟨y, hy⟩ : ∃ y, y = g i := ⟨_, rfl⟩
   obtain ⟨z, hz⟩ : ∃ z, z = h i := ⟨_, rfl⟩
   cbv
   rw [hl1]
   cbv
   rw [hti]
   refine ⟨⟨hinR⟩, ⟨hai⟩, ⟨hlt⟩, ⟨hlt⟩, ⟨hlt⟩, ⟨hinR⟩, ⟨hai⟩, ⟨hlt⟩, ⟨hlt⟩, ⟨hlt⟩, ?_⟩
   rw [hef, hself]
   cbv
   rw [heg, hself]
   cbv
   rw [heh, hself]
   cbv
   rw [ek]
   refine Cv.fold ([5] ++ (List.range' 14 12)) 2 [] (by exact Nat.le_refl _) (by exact Nat.le_of_ble_eq_true rfl) (by rfl) (by cbv) ?_
   intro js
   exact ⟨(k1, i + 1), ⟨⟨hk1, hlt⟩, hmu⟩, js, rfl⟩
  ·have hl1 : vc .lss k ni = false := by rw [qc, lss_false, hk, hni]; exact fun h => hlt (Int.ofNat_lt.1 h)
   cbv
   rw [hl1]
   cbv
end Go.Proofs.Ytlclleihoampdaa
