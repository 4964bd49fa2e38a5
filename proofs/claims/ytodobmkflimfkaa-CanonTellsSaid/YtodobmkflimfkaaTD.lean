import Derived.Test.YtodobmkflimfkaaTC
namespace Go.Proofs.Ytodobmkflimfkaa
open Go Go.Sx Go.Proofs
/-! balerlaw05.same of two like rows. -/
set_option maxRecDepth 10000
set_option maxHeartbeats 4000000
theorem same5_con (W : List Int) (n cap cap2 : Nat) (hn : n = W.length) (hl : n ≤ 9223372036854775807) :
    Con Try.prog 51 [.slice 0 .z 1 n cap, .slice 1 .z 1 n cap2] [.ro .u16 W, .ro .u16 W] (fun v H R => v = .bool true ∧ H = [.ro .u16 W, .ro .u16 W] ∧ R = []) := by
  refine con_gen (con_cut 2 (by simp) (con_drop (con_walk hmix fn51 ?_)))
  intro vb vc vw vtoN vofN vaddN vsubN vmaxI vminI vcutN vgd vst vln vrep vsub vonto vsplice vstrEq vbyteV vnotB veqB hw qb qc qw qtoN qofN qaddN qsubN qmaxI qminI qcutN qgd qst qln qrep qsub qonto qsplice qstrEq qbyteV qnotB qeqB
  have hm := hmix; generalize Try.prog = P at *
  have hto : ∀ i : Nat, vtoN (i : Int) = i := fun i => by simp only [qtoN, Int.toNat_natCast]
  have hadd0 : ∀ i, vaddN 0 i = i := fun i => by simp only [qaddN, Nat.zero_add]
  have hvl : vln W = n := by simp only [qln]; exact hn.symm
  have hvgd : ∀ l i, vgd l i = l.getD i 0 := fun l i => by simp only [qgd]
  have hself : ∀ x, vc .neq x x = false := fun x => by rw [qc, neq_eq]; simp
  cbv
  rw [hself]
  cbv
  refine loop_fam (α := Int) ([5] ++ [14, 15, 16, 17, 18, 19, 20, 21, 22, 23, 24, 25]) [] (fun k => [(13, .int .i64 k)]) (fun _ => []) (fun k => ∃ i : Nat, k = i ∧ i ≤ n) (fun k => n - k.toNat) hw hm ?_ ?_
  · refine Cv.genAt [13] [] (Cv.fold ([5] ++ [14, 15, 16, 17, 18, 19, 20, 21, 22, 23, 24, 25]) 2 [] (by exact Nat.le_refl _) (by exact Nat.le_of_ble_eq_true rfl) (by rfl) (by cbv) ?_)
    intro js
    refine ⟨_, ?_, js, rfl⟩
    exact ⟨0, rfl, by omega⟩
  · rintro k js ⟨i, hk, hi⟩
    cbv
    split
    · rename_i hlt
      cbv
      have hlt : i < n := by rw [qc, lss_true] at hlt; simp only [qofN] at hlt; simp only [nc] at *; omega
      have hti : vtoN k = i := by rw [hk]; exact hto i
      have hinR : 0 ≤ k ∧ k < (n : Int) := by simp only [nc] at *; omega
      obtain ⟨k1, hk1⟩ : ∃ k1 : Int, k1 = ((i + 1 : Nat) : Int) := ⟨_, rfl⟩
      have ek : vb .add .i64 k 1 = k1 := by simp only [nc] at *; rw [qb, add_i64 (by omega) (by omega)]; omega
      have hmu : ∀ _ : Unit, n - k1.toNat < n - k.toNat := fun _ => by simp only [nc] at *; omega
      have hlw : i < vln W := by omega
      rw [hti, hadd0, hvgd, hself]
      refine ⟨⟨hinR⟩, ⟨hlw⟩, ⟨hlw⟩, ⟨hinR⟩, ⟨hlw⟩, ⟨hlw⟩, ?_⟩
      cbv
      rw [ek]
      refine Cv.fold ([5] ++ [14, 15, 16, 17, 18, 19, 20, 21, 22, 23, 24, 25]) 2 [] (by exact Nat.le_refl _) (by exact Nat.le_of_ble_eq_true rfl) (by rfl) (by cbv) ?_
      intro js
      refine ⟨_, ?_, js, rfl⟩
      exact ⟨⟨i + 1, hk1, hlt⟩, hmu ()⟩
    · rename_i hge
      cbv
theorem same5_nil : Con Try.prog 51 [.val (.slice none 0 0), .val (.slice none 0 0)] [] (fun v H R => v = .bool true ∧ H = [] ∧ R = []) := by
  refine con_gen (con_cut 0 (by simp) (con_drop (con_run 100 [] hmix trivial fn51 ?_)))
  generalize Try.prog = P at *
  cbv
/-- Both ways of writing a symbol, whatever the lengths are. -/
theorem writes5 (l : List Int) (cap : Nat) (hlu : ∀ c ∈ l, isU8 c) (hlen : l.length ≤ 9223372036854775807) : ∃ (E : Int → Int) (B : Int → List Int), (∀ s, (B s).length ≤ 15) ∧
    (∀ (bs bl : List Int) (bn c : Nat) (bm s : Int), Wr bs bl bn bm → bs.length ≤ 2 ^ 30 → Con Try.prog 42 [.ptr 0 .z 2 0, .slice 2 .z 1 l.length cap, .int .i64 s] [.one 92 [.slice 1 .z 1 bn c, .int .i64 bm], .buf 5 .u8 bl c, .ro .u8 l]
      (fun v H R => R = [1] ∧ ∃ l' n' m' c', Wr (bs ++ B s) l' n' m' ∧ v = .int .i64 (E s) ∧ H = [.one 92 [.slice 1 .z 1 n' c', .int .i64 m'], .buf 5 .u8 l' c', .ro .u8 l])) ∧
    (∀ (bl : List Int) (bn c : Nat) (s : Int), bn = bl.length → bl.length ≤ 2 ^ 30 → Con Try.prog 52 [.ptr 0 .z 1 0, .slice 2 .z 1 l.length cap, .int .i64 s] [.one 95 [.slice 1 .z 1 bn c], .buf 5 .u8 bl c, .ro .u8 l]
      (fun v H R => R = [1] ∧ ∃ n' c', n' = (bl ++ B s).length ∧ v = .int .i64 (E s) ∧ H = [.one 95 [.slice 1 .z 1 n' c'], .buf 5 .u8 (bl ++ B s) c', .ro .u8 l])) := by
  by_cases h5 : Right5 l
  · have hR := h5.rt hlu
    refine ⟨wE l, wB l, fun s => ?_, fun bs bl bn c bm s h1 h2 => write5_con l bs bl bn c cap bm s hlu h5 h1 h2, fun bl bn c s h1 h2 => refwrite5_con l bl bn c cap s hlu h5 h1 h2⟩
    have h1 := wB_length l s
    have h2 := hR.l15 s.toNat
    rw [h1]; split <;> omega
  · refine ⟨fun _ => 50, fun _ => [], fun s => by simp, fun bs bl bn c bm s h1 h2 => ?_, fun bl bn c s h1 h2 => ?_⟩
    · refine con_red [1] ((write5_bad l bl bn c cap bm s hlu hlen h5).mono ?_)
      rintro v H R ⟨rfl, rfl, rfl⟩
      exact ⟨rfl, rfl, bl, bn, bm, c, by rw [List.append_nil]; exact h1, rfl, rfl⟩
    · refine con_red [1] ((refwrite5_bad l bl bn c cap s hlu hlen h5).mono ?_)
      rintro v H R ⟨rfl, rfl, rfl⟩
      exact ⟨rfl, rfl, bn, c, by rw [List.append_nil]; exact h1, rfl, by rw [List.append_nil]⟩
theorem Dec.le {l b : List Int} {p q : Nat} {s e : Int} (h : Dec l b p s e q) : q ≤ 8 * b.length := by
  rcases h with ⟨L, i, h1, h2, h3, h4, h5, h6, h7, h8, rfl, rfl, rfl⟩ | ⟨L, h1, h2, h3, rfl, rfl, rfl⟩
  · omega
  · omega
/-- Both ways of reading a symbol, whatever the lengths are. -/
theorem reads5 (l b : List Int) (cap cap2 : Nat) (hlu : ∀ c ∈ l, isU8 c) (hlen : l.length ≤ 9223372036854775807) (hby : ∀ x ∈ b, isByte x) (hb : b.length ≤ 2 ^ 50) : ∃ D : Nat → Int → Int → Nat → Prop, (∀ p s e q s' e' q', D p s e q → D p s' e' q' → s = s' ∧ e = e' ∧ q = q') ∧
    (∀ p s e q, p ≤ 8 * b.length → D p s e q → q ≤ 8 * b.length) ∧
    (∀ (p c : Nat) (acc hv ai : Int), RS b p acc hv ai → p ≤ 8 * b.length → Con Try.prog 34 [.ptr 0 .z 4 0, .slice 4 .z 1 l.length cap] [(.one 131 [.fn 80 [.ptr 1 .z 1 0, .ptr 2 .z 1 0], .int .u64 (acc), .int .i64 (hv), .fn 81 [.ptr 2 .z 1 0, .ptr 1 .z 1 0]]), .one 3 [.int .i64 ai], .one 23 [.slice 3 .z 1 b.length c], .ro .u8 b, .ro .u8 l]
      (fun v H R => ∃ acc2 hv2 ai2 s e : Int, ∃ q : Nat, v = .tup [.int .i64 s, .int .i64 e] ∧ RS b q acc2 hv2 ai2 ∧ D p s e q ∧ R = [] ∧
        H = [(.one 131 [.fn 80 [.ptr 1 .z 1 0, .ptr 2 .z 1 0], .int .u64 (acc2), .int .i64 (hv2), .fn 81 [.ptr 2 .z 1 0, .ptr 1 .z 1 0]]), .one 3 [.int .i64 ai2], .one 23 [.slice 3 .z 1 b.length c], .ro .u8 b, .ro .u8 l])) ∧
    (∀ (p : Nat) (pI : Int), pI = p → p ≤ 8 * b.length → Con Try.prog 55 [.ptr 0 .z 2 0, .slice 2 .z 1 l.length cap] [.one 76 [.slice 1 .z 1 b.length cap2, .int .i64 pI], .ro .u8 b, .ro .u8 l]
      (fun v H R => ∃ s e qI : Int, ∃ q : Nat, v = .tup [.int .i64 s, .int .i64 e] ∧ qI = q ∧ D p s e q ∧ R = [] ∧ H = [.one 76 [.slice 1 .z 1 b.length cap2, .int .i64 qI], .ro .u8 b, .ro .u8 l])) := by
  by_cases h5 : Right5 l
  · refine ⟨Dec l b, fun p s e q s' e' q' h h' => h.det h', fun p s e q _ h => h.le, fun p c acc hv ai h1 h2 => ?_, fun p pI h1 h2 => refread5_ok l b p cap2 cap pI h1 hlu h5 hby hb h2⟩
    exact read5_ok l b p c cap acc hv ai hlu h5 hby hb h1 h2
  · refine ⟨fun p s e q => s = 0 ∧ e = 50 ∧ q = p, fun p s e q s' e' q' h h' => ⟨by rw [h.1, h'.1], by rw [h.2.1, h'.2.1], by rw [h.2.2, h'.2.2]⟩, fun p s e q h1 h => by rw [h.2.2]; exact h1, fun p c acc hv ai h1 h2 => ?_, fun p pI h1 h2 => ?_⟩
    · refine (read5_bad l b b.length c cap acc hv ai hlu hlen h5).mono ?_
      rintro v H R ⟨rfl, rfl, rfl⟩
      exact ⟨acc, hv, ai, 0, 50, p, rfl, h1, ⟨rfl, rfl, rfl⟩, rfl, rfl⟩
    · refine (refread5_bad l b b.length cap2 cap pI hlu hlen h5).mono ?_
      rintro v H R ⟨rfl, rfl, rfl⟩
      exact ⟨0, 50, pI, p, rfl, h1, ⟨rfl, rfl, rfl⟩, rfl, rfl⟩
end Go.Proofs.Ytodobmkflimfkaa
