import Derived.Test.YtaaklikigccdfaaA3
import Derived.Test.YtaaklikigccdfaaA2
set_option linter.unusedVariables false
set_option linter.unusedSimpArgs false
namespace Go.Proofs.Ytaaklikigccdfaa
open Go Go.Sx Go.Proofs
/-! literals.rows: one row, or four. -/
set_option maxRecDepth 10000
set_option maxHeartbeats 40000000
def seg (b : List Int) (o n : Nat) : List Int := (b.drop o).take n
theorem seg_len {b : List Int} {o n : Nat} (h : o + n ≤ b.length) : (seg b o n).length = n := by unfold seg; rw [List.length_take, List.length_drop]; omega
theorem seg_get (b : List Int) (o : Nat) {n i : Nat} (h : i < n) : (seg b o n).getD i 0 = b.getD (o + i) 0 := by
  unfold seg
  rw [List.getD_eq_getElem?_getD, List.getD_eq_getElem?_getD, List.getElem?_take, if_pos h, List.getElem?_drop]
theorem seg_mem {b : List Int} {o n : Nat} {p : Int → Prop} (h : ∀ c ∈ b, p c) : ∀ c ∈ seg b o n, p c := fun c hc => h c (List.mem_of_mem_drop (List.mem_of_mem_take hc))
theorem view_seg {b : List Int} {o n x : Nat} (h : o + n ≤ b.length) (hx : x = o ∨ n = 0 ∧ x ≤ b.length) : View x (seg b o n) b := by
  refine ⟨?_, fun i hi => ?_⟩
  · rw [seg_len h]; omega
  · rw [seg_len h] at hi
    rw [seg_get b o hi]
    rcases hx with rfl | ⟨rfl, _⟩
    · rfl
    · omega
/-- Two bytes as a number. -/
def w2 (b : List Int) (i : Nat) : Int := b.getD (2 * i) 0 + b.getD (2 * i + 1) 0 * 256
theorem numA_seg2 (b : List Int) (i : Nat) : numA (seg b (2 * i) 2) 2 = w2 b i := by
  have e1 := seg_get b (2 * i) (n := 2) (i := 0) (by decide)
  have e2 := seg_get b (2 * i) (n := 2) (i := 1) (by decide)
  simp only [numA, e1, e2, w2]
  show 0 + b.getD (2 * i + 0) 0 * 2 ^ (8 * 0) + b.getD (2 * i + 1) 0 * 2 ^ (8 * 1) = _
  rw [show (2 : Int) ^ (8 * 0) = 1 by decide, show (2 : Int) ^ (8 * 1) = 256 by decide, Nat.add_zero]
  omega
theorem w2_range {b : List Int} (hb : ∀ c ∈ b, isU8 c) (i : Nat) : 0 ≤ w2 b i ∧ w2 b i < 65536 := by
  have h1 := getD_u8 hb (2 * i)
  have h2 := getD_u8 hb (2 * i + 1)
  unfold isU8 at h1 h2
  unfold w2
  omega
theorem number_seg {b : List Int} {i : Nat} (cap : Nat) (hb : ∀ c ∈ b, isU8 c) (h : 2 * i + 2 ≤ b.length) :
    Con Try.prog 23 [.slice 0 .z 1 2 cap] [.ro .u8 (seg b (2 * i) 2)] (fun v H R => v = .int .u64 (w2 b i) ∧ H = [.ro .u8 (seg b (2 * i) 2)] ∧ R = []) := by
  have hlen := seg_len h
  have := number_con (seg b (2 * i) 2) cap (seg_mem hb) (by omega)
  rw [hlen, numA_seg2] at this
  exact this
theorem refnumber_seg {b : List Int} {i : Nat} (cap : Nat) (hb : ∀ c ∈ b, isU8 c) (h : 2 * i + 2 ≤ b.length) :
    Con Try.prog 55 [.slice 0 .z 1 2 cap] [.ro .u8 (seg b (2 * i) 2)] (fun v H R => v = .int .u64 (w2 b i) ∧ H = [.ro .u8 (seg b (2 * i) 2)] ∧ R = []) := by
  have hlen := seg_len h
  have := refnumber_con (seg b (2 * i) 2) cap (seg_mem hb) (by omega)
  rw [hlen, numA_seg2] at this
  exact this
/-- Rows: n are left, from byte q on; L is what they told so far. -/
noncomputable def rowsF (w b : List Int) (size each : Int) : Nat → Nat → List Int → Option (List Int)
  | 0, _, L => some L
  | n + 1, q, L =>
    if (b.length : Int) - q < (if 1 ≤ n then w2 b (3 - n) else (b.length : Int) - q) then none
    else match unR w (seg b q (if 1 ≤ n then w2 b (3 - n) else (b.length : Int) - q).toNat) (if 1 ≤ n then each else size - 3 * each) with
      | none => none
      | some l => rowsF w b size each n (q + (if 1 ≤ n then w2 b (3 - n) else (b.length : Int) - q).toNat) (L ++ l)
noncomputable def rowsR (w b : List Int) (size n : Int) : Option (List Int) :=
  if n = 1 then unR w b size else if b.length < 6 ∨ size < 3 * ((size + 3) / 4) then none else rowsF w b size ((size + 3) / 4) 4 6 []
theorem rowsF_no {w : List Int} (h : ¬ ∃ M, Wt w M) (b : List Int) (size each : Int) (n q : Nat) (L : List Int) : rowsF w b size each (n + 1) q L = none := by
  rw [rowsF]
  simp only [unR_no h, ite_self]
theorem rowsR_no {w : List Int} (h : ¬ ∃ M, Wt w M) (b : List Int) (size n : Int) : rowsR w b size n = none := by
  unfold rowsR
  split
  · exact unR_no h b size
  · split
    · rfl
    · exact rowsF_no h b size _ 3 6 []
/-- A round, told of its row k and of how many bytes are wanted. -/
theorem rowsF_round {w b : List Int} {size each k wt : Int} {n q : Nat} {L : List Int} (hk : k = if 1 ≤ n then w2 b (3 - n) else (b.length : Int) - q) (hwt : wt = if 1 ≤ n then each else size - 3 * each) :
    ((b.length : Int) - q < k → rowsF w b size each (n + 1) q L = none) ∧ (¬ (b.length : Int) - q < k → unR w (seg b q k.toNat) wt = none → rowsF w b size each (n + 1) q L = none) ∧
    (¬ (b.length : Int) - q < k → ∀ l, unR w (seg b q k.toNat) wt = some l → rowsF w b size each (n + 1) q L = rowsF w b size each n (q + k.toNat) (L ++ l)) := by
  rw [rowsF, ← hk, ← hwt]
  refine ⟨fun h => if_pos h, fun h e => ?_, fun h l e => ?_⟩
  · rw [if_neg h, e]
  · rw [if_neg h, e]
end Go.Proofs.Ytaaklikigccdfaa
namespace Go.Proofs.Ytaaklikigccdfaa
open Go Go.Sx Go.Proofs
/-! literals.rows. -/
set_option maxRecDepth 10000
set_option maxHeartbeats 40000000

theorem rows_con1 (w b : List Int) (cap cap2 : Nat) (size : Int) (hw8 : ∀ c ∈ w, isU8 c) (hwl : w.length ≤ 140737488355328) (hb : ∀ c ∈ b, isU8 c) (hbl : b.length ≤ 1048576) (hs : 0 ≤ size ∧ size ≤ 131072) :
    Con Try.prog 25 [.slice 0 .z 1 w.length cap, .slice 1 .z 1 b.length cap2, .int .i64 size, .int .i64 1] [.ro .u8 w, .ro .u8 b]
      (fun v H R => R = [] ∧ ((∃ e : Int, e ≠ 0 ∧ unR w b size = none ∧ H = [.ro .u8 w, .ro .u8 b] ∧ v = .tup [.val (.slice none 0 0), .int .i64 e]) ∨
        ∃ L c', unR w b size = some L ∧ H = [.ro .u8 w, .ro .u8 b, .buf 5 .u8 L c'] ∧ v = .tup [.slice 2 .z 1 L.length c', .int .i64 0])) := by
  have hun := unpackU w b cap cap2 size hw8 hwl (isU8_byte hb) hs (by omega)
  refine con_gen (con_picks (con_drop (con_walk hmix fn25 ?_)))
  intro vb vc vw vtoN vofN vaddN vsubN vmaxI vminI vcutN vgd vst vln vrep vsub vonto vsplice vstrEq vbyteV vnotB veqB hw qb qc qw qtoN qofN qaddN qsubN qmaxI qminI qcutN qgd qst qln qrep qsub qonto qsplice qstrEq qbyteV qnotB qeqB
  have hm := hmix; generalize Try.prog = P at *
  generalize unR w b size = U at *
  generalize hwl' : w.length = wl at *
  generalize hbl' : b.length = bl at *
  have e11 : vc .eql 1 1 = true := by rw [qc]; rfl
  cbv
  rw [e11]
  cbv
  refine call_con (ρ := [(0, .z), (1, .z)]) hun ⟨by rfl, by rfl, by rfl, by cbv; exact ⟨view_refl _, view_refl _, trivial⟩⟩ ?_
  rintro v H R js ⟨rfl, ⟨e, he, hU, rfl, rfl⟩ | ⟨L, c', hU, rfl, rfl⟩⟩
  · cbv
    exact ⟨[0, 1], .tup [.val (.slice none 0 0), .int .i64 e], [.ro .u8 w, .ro .u8 b], rfl, rfl, rfl, rfl, ⟨rfl, rfl, trivial⟩, rfl, .inl ⟨e, he, hU, rfl, rfl⟩⟩
  · obtain ⟨Ln, hLn⟩ : ∃ Ln, Ln = L.length := ⟨_, rfl⟩
    rw [← hLn]
    cbv
    subst hLn
    exact ⟨[0, 1, 2], .tup [.slice 2 .z 1 L.length c', .int .i64 0], [.ro .u8 w, .ro .u8 b, .buf 5 .u8 L c'], rfl, rfl, rfl, rfl, ⟨rfl, rfl, rfl, trivial⟩, rfl, .inr ⟨L, c', hU, rfl, rfl⟩⟩
theorem rows_con (w b : List Int) (cap cap2 : Nat) (size n : Int) (hw8 : ∀ c ∈ w, isU8 c) (hwl : w.length ≤ 140737488355328) (hb : ∀ c ∈ b, isU8 c) (hbl : b.length ≤ 1048576) (hcap : b.length ≤ cap2) (hcm : cap2 ≤ 9223372036854775807) (hs : 0 ≤ size ∧ size ≤ 131072) :
    Con Try.prog 25 [.slice 0 .z 1 w.length cap, .slice 1 .z 1 b.length cap2, .int .i64 size, .int .i64 n] [.ro .u8 w, .ro .u8 b]
      (fun v H R => R = [] ∧ ((∃ e : Int, e ≠ 0 ∧ rowsR w b size n = none ∧ H = [.ro .u8 w, .ro .u8 b] ∧ v = .tup [.val (.slice none 0 0), .int .i64 e]) ∨
        ∃ L c', rowsR w b size n = some L ∧ H = [.ro .u8 w, .ro .u8 b, .buf 5 .u8 L c'] ∧ v = .tup [.slice 2 .z 1 L.length c', .int .i64 0])) := by
  by_cases hn1 : n = 1
  · subst hn1
    rw [show rowsR w b size 1 = unR w b size by unfold rowsR; rw [if_pos rfl]]
    exact rows_con1 w b cap cap2 size hw8 hwl hb hbl hs
  obtain ⟨each, heach⟩ : ∃ each, each = (size + 3) / 4 := ⟨_, rfl⟩
  have hRR : rowsR w b size n = if b.length < 6 ∨ size < 3 * each then none else rowsF w b size each 4 6 [] := by unfold rowsR; rw [if_neg hn1, heach]
  have hun := fun (q kN : Nat) (N : Int) (c : Nat) (h1 : q + kN ≤ b.length) (h2 : 0 ≤ N ∧ N ≤ 131072) => by
    have := unpackU w (seg b q kN) cap c N hw8 hwl (seg_mem (isU8_byte hb)) h2 (by rw [seg_len h1]; omega)
    rw [seg_len h1] at this
    exact this
  have hnum := fun (i c : Nat) (h : 2 * i + 2 ≤ b.length) => number_seg c hb h
  have hr0 : ∀ (q : Nat) (L : List Int), rowsF w b size each 0 q L = some L := fun _ _ => rfl
  have hround := fun k wt n q L => @rowsF_round w b size each k wt n q L
  have hw2 := w2_range hb
  have hseg := fun o n h => @seg_len b o n h
  have hvs := fun o n x h hx => @view_seg b o n x h hx
  have hlU := fun (p : List Int) (N : Int) (X : List Int) (h : unR w p N = some X) => unR_len h
  rw [hRR]
  refine con_gen (con_picks (con_drop (con_walk hmix fn25 ?_)))
  intro vb vc vw vtoN vofN vaddN vsubN vmaxI vminI vcutN vgd vst vln vrep vsub vonto vsplice vstrEq vbyteV vnotB veqB hw qb qc qw qtoN qofN qaddN qsubN qmaxI qminI qcutN qgd qst qln qrep qsub qonto qsplice qstrEq qbyteV qnotB qeqB
  have hm := hmix; generalize Try.prog = P at *
  clear hRR
  generalize rowsF w b size each = RF at *
  generalize unR w = UN at *
  generalize w2 b = W2 at *
  generalize seg b = SG at *
  generalize hwl' : w.length = wl at *
  generalize hbl' : b.length = bl at *
  have hgd : ∀ i, vgd b i = b.getD i 0 := fun i => by rw [qgd]
  have hlnq : ∀ l, vln l = l.length := fun l => by rw [qln]
  have hlnb : vln b = bl := by simp only [qln, hbl']
  have haddq : ∀ a b, vaddN a b = a + b := fun a b => by rw [qaddN]
  obtain ⟨bI, hbI⟩ : ∃ bI : Int, bI = bl := ⟨_, rfl⟩
  have ebl : vofN bl = bI := by rw [qofN, hbI]
  have en1 : vc .eql n 1 = false := by rw [qc, eql_false]; exact hn1
  obtain ⟨s3, hs3⟩ : ∃ s3, s3 = size + 3 := ⟨_, rfl⟩
  have es3 : vb .add .i64 size 3 = s3 := by rw [qb, add_i64 (by omega) (by omega), hs3]
  have eq4 : vb .quo .i64 s3 4 = each := by rw [qb, quo_i64 (by omega) (by omega) (by omega), heach, hs3]
  obtain ⟨t3, ht3⟩ : ∃ t3, t3 = 3 * each := ⟨_, rfl⟩
  have et3 : vb .mul .i64 3 each = t3 := by rw [qb, mul_i64 (by omega) (by omega), ht3]
  rw [← ht3]
  cbv
  rw [en1]
  cbv
  rw [es3, eq4, ebl]
  generalize hz1 : vc .lss bI 6 = z1
  cases z1
  rotate_left
  · rw [qc, lss_true] at hz1
    cbv
    exact ⟨[0, 1], .tup [.val (.slice none 0 0), .lit .i64 11], [.ro .u8 w, .ro .u8 b], rfl, rfl, rfl, rfl, ⟨rfl, rfl, trivial⟩, rfl, .inl ⟨11, by decide, if_pos (.inl (by ((try simp only [nc] at *); omega))), rfl, rfl⟩⟩
  rw [qc, lss_false] at hz1
  cbv
  rw [et3]
  generalize hz2 : vc .gtr t3 size = z2
  cases z2
  rotate_left
  · rw [qc, gtr_true] at hz2
    cbv
    exact ⟨[0, 1], .tup [.val (.slice none 0 0), .lit .i64 11], [.ro .u8 w, .ro .u8 b], rfl, rfl, rfl, rfl, ⟨rfl, rfl, trivial⟩, rfl, .inl ⟨11, by decide, if_pos (.inr hz2), rfl, rfl⟩⟩
  rw [qc, gtr_false] at hz2
  have hnb : ¬ (bl < 6 ∨ size < t3) := by rintro (h | h) <;> ((try simp only [nc] at *); omega)
  rw [if_neg hnb]
  obtain ⟨ws, hws⟩ : ∃ ws, ws = size - t3 := ⟨_, rfl⟩
  have ews : vb .sub .i64 size t3 = ws := by rw [qb, sub_i64 (by ((try simp only [nc] at *); omega)) (by ((try simp only [nc] at *); omega)), hws]
  have ht6 : vtoN 6 = 6 := by rw [qtoN]; rfl
  obtain ⟨o6, ho6⟩ : ∃ o6, o6 = vcutN 0 6 cap2 := ⟨_, rfl⟩
  obtain ⟨m6, hm6⟩ : ∃ m6, m6 = vsubN bl 6 := ⟨_, rfl⟩
  obtain ⟨c6, hc6'⟩ : ∃ c6, c6 = vsubN cap2 6 := ⟨_, rfl⟩
  have hm6' : m6 = bl - 6 := by rw [hm6, qsubN]
  have hc6'' : c6 = cap2 - 6 := by rw [hc6', qsubN]
  have hc6 : o6 = 6 ∨ m6 = 0 ∧ o6 ≤ bl := by
    have e : o6 = if cap2 = 6 then 0 else 0 + 6 := by rw [ho6, qcutN]
    by_cases h : cap2 = 6
    · rw [if_pos h] at e; right; constructor <;> ((try simp only [nc] at *); omega)
    · rw [if_neg h] at e; left; ((try simp only [nc] at *); omega)
  have hof : ∀ q : Nat, vofN q = (q : Int) := fun q => by simp only [qofN]
  cbv
  rw [← ho6, ← hm6, ← hc6']
  refine ⟨⟨by ((try simp only [nc] at *); omega), by ((try simp only [nc] at *); omega)⟩, ?_⟩
  refine WX.cv (Cv.nilT 11 5 .u8 (by rfl) (by cbv; try exact ⟨fun _ => rfl, trivial⟩) (Cv.here ?_))
  cbv
  refine loop_fam (α := Int × Nat × Nat × Nat × Nat × Nat × List Int) ([13, 14, 15, 16, 17] ++ [41, 42, 43, 44, 45, 46, 47, 48, 49, 50, 51, 52, 53, 54, 55, 56, 57, 58, 59, 60, 61, 62, 63, 64, 65, 66, 67, 68, 69, 70, 71, 72, 73, 74, 75, 76, 77, 78, 79, 80, 81, 82, 83, 84]) [2] (fun (k, o, m, cp, nL, c, L) => [(40, .int .i64 k), (12, .slice 1 (.n o) 1 m cp), (11, .slice 2 .z 1 nL c)]) (fun (k, o, m, cp, nL, c, L) => [(2, .buf 5 .u8 L c)])
    (fun (k, o, m, cp, nL, c, L) => ∃ j q : Nat, k + j = 4 ∧ q + m = bl ∧ m ≤ cp ∧ (o = q ∨ m = 0 ∧ o ≤ bl) ∧ nL = L.length ∧ nL ≤ c ∧ nL + 131072 * j ≤ 524288 ∧ RF 4 6 [] = RF j q L) (fun (k, _, _, _, _, _, _) => (4 - k).toNat) hw hm ?_ ?_
  · refine Cv.genAt [40] [] (Cv.fold ([13, 14, 15, 16, 17] ++ [41, 42, 43, 44, 45, 46, 47, 48, 49, 50, 51, 52, 53, 54, 55, 56, 57, 58, 59, 60, 61, 62, 63, 64, 65, 66, 67, 68, 69, 70, 71, 72, 73, 74, 75, 76, 77, 78, 79, 80, 81, 82, 83, 84]) 3 [2] (by exact Nat.le_refl _) (by exact Nat.le_of_ble_eq_true rfl) (by rfl) (by cbv) ?_)
    intro js
    refine ⟨(_, _, _, _, _, _, _), ?_, js, rfl⟩
    exact ⟨4, 6, by rfl, by ((try simp only [nc] at *); omega), by ((try simp only [nc] at *); omega), hc6, rfl, Nat.le_refl _, by decide, rfl⟩
  · rintro ⟨k, o, m, cp, nL, c, L⟩ js ⟨j, q, hkj, hqm, hmc, ho, hnL, hnc, hnb, hRES⟩
    obtain ⟨mI, hmI⟩ : ∃ mI : Int, mI = m := ⟨_, rfl⟩
    have emI : vofN m = mI := by rw [hof, hmI]
    cbv
    generalize hz3 : vc .lss k 4 = z3
    cases z3
    · rw [qc, lss_false] at hz3
      have hj0 : j = 0 := by ((try simp only [nc] at *); omega)
      subst hj0
      rw [hr0] at hRES
      cbv
      subst hnL
      exact ⟨[0, 1, 2], .tup [.slice 2 .z 1 L.length c, .lit .i64 0], [.ro .u8 w, .ro .u8 b, .buf 5 .u8 L c], rfl, rfl, rfl, rfl, ⟨rfl, rfl, rfl, trivial⟩, rfl, .inr ⟨L, c, hRES, rfl, rfl⟩⟩
    · rw [qc, lss_true] at hz3
      obtain ⟨n1, rfl⟩ : ∃ n1, j = n1 + 1 := ⟨j - 1, by ((try simp only [nc] at *); omega)⟩
      cbv
      rw [emI, et3, ews]
      generalize hz4 : vc .lss k 3 = z4
      cases z4
      · rw [qc, lss_false] at hz4
        obtain rfl : n1 = 0 := by ((try simp only [nc] at *); omega)
        obtain ⟨r1, r2, r3⟩ := hround mI ws 0 q L (by rw [if_neg (by decide)]; ((try simp only [nc] at *); omega)) (by rw [if_neg (by decide), ← ht3, hws])
        have hWT : 0 ≤ ws ∧ ws ≤ 131072 := by ((try simp only [nc] at *); omega)
        cbv
        rw [emI]
        generalize hz5 : vc .gtr mI mI = z5
        cases z5
        rotate_left
        · rw [qc, gtr_true] at hz5
          cbv
          exact ⟨[0, 1], .tup [.val (.slice none 0 0), .lit .i64 11], [.ro .u8 w, .ro .u8 b], rfl, rfl, rfl, rfl, ⟨rfl, rfl, trivial⟩, rfl, .inl ⟨11, by decide, by rw [hRES]; exact r1 (by ((try simp only [nc] at *); omega)), rfl, rfl⟩⟩
        rw [qc, gtr_false] at hz5
        obtain ⟨kN, hkN⟩ : ∃ kN : Nat, mI = kN := ⟨(mI).toNat, by ((try simp only [nc] at *); omega)⟩
        have htk : vtoN mI = kN := by rw [qtoN, hkN]; exact Int.toNat_natCast kN
        have htk' : (mI).toNat = kN := by rw [hkN]; exact Int.toNat_natCast kN
        have hnk : ¬ (bl : Int) - q < mI := by ((try simp only [nc] at *); omega)
        have r2 := r2 hnk
        have r3 := r3 hnk
        rw [htk'] at r2 r3
        have hu := hun q kN ws kN (by ((try simp only [nc] at *); omega)) hWT
        have hvu := hvs q kN o (by ((try simp only [nc] at *); omega)) (by rcases ho with h | ⟨h, h'⟩; exact .inl h; exact .inr ⟨by ((try simp only [nc] at *); omega), h'⟩)
        have hlu := fun X => hlU (SG q kN) ws X
        generalize SG q kN = sgk at *
        generalize hUU : UN sgk ws = U at *
        cbv
        rw [htk]
        refine ⟨⟨by ((try simp only [nc] at *); omega), by ((try simp only [nc] at *); omega)⟩, ⟨by ((try simp only [nc] at *); omega), by ((try simp only [nc] at *); omega)⟩, ?_⟩
        refine call_con (ρ := [(0, .z), (1, .n o)]) hu ⟨by rfl, by rfl, by rfl, by cbv; exact ⟨view_refl _, hvu, trivial⟩⟩ ?_
        rintro v H R js3 ⟨rfl, ⟨e, he, hU, rfl, rfl⟩ | ⟨l, c', hU, rfl, rfl⟩⟩
        · have ez : vc .neq e 0 = true := by rw [qc, neq_true]; exact he
          cbv
          rw [ez]
          cbv
          exact ⟨[0, 1], .tup [.val (.slice none 0 0), .int .i64 e], [.ro .u8 w, .ro .u8 b], rfl, rfl, rfl, rfl, ⟨rfl, rfl, trivial⟩, rfl, .inl ⟨e, he, by rw [hRES]; exact r2 hU, rfl, rfl⟩⟩
        · have r4 := r3 l hU
          have hll := hlu l hU
          obtain ⟨ln, hln⟩ : ∃ ln, ln = l.length := ⟨_, rfl⟩
          rw [← hln] at hll ⊢
          have ez : vc .neq 0 0 = false := by rw [qc]; rfl
          have hont : vonto L nL (vsub l 0 ln) = L ++ l := by
            rw [qonto, qsub]; simp only [List.drop_zero]; rw [hnL, hln, List.take_length, List.take_length]
          obtain ⟨L2, hL2⟩ : ∃ L2, L2 = L ++ l := ⟨_, rfl⟩
          have hL2l : L2.length = nL + ln := by rw [hL2, List.length_append, hnL, hln]
          rw [← hL2] at r4 hont
          have ha2 := haddq nL ln
          have ha0 : ∀ x, vaddN 0 x = x := fun x => by rw [haddq, Nat.zero_add]
          obtain ⟨n2, hn2⟩ : ∃ n2, n2 = nL + ln := ⟨_, rfl⟩
          rw [← hn2] at ha2 hL2l
          obtain ⟨o2, ho2⟩ : ∃ o2, o2 = vcutN o kN cp := ⟨_, rfl⟩
          obtain ⟨m2, hm2⟩ : ∃ m2, m2 = vsubN m kN := ⟨_, rfl⟩
          obtain ⟨p2, hp2⟩ : ∃ p2, p2 = vsubN cp kN := ⟨_, rfl⟩
          have hm2' : m2 = m - kN := by rw [hm2, qsubN]
          have hp2' : p2 = cp - kN := by rw [hp2, qsubN]
          have ho2' : o2 = q + kN ∨ m2 = 0 ∧ o2 ≤ bl := by
            have e : o2 = if cp = kN then o else o + kN := by rw [ho2, qcutN]
            rw [e]
            split <;> rcases ho with h | ⟨h, h'⟩ <;> ((try simp only [nc] at *); omega)
          obtain ⟨k1, hk1⟩ : ∃ k1 : Int, k1 = k + 1 := ⟨_, rfl⟩
          have ek1 : vb .add .i64 k 1 = k1 := by rw [qb, add_i64 (by ((try simp only [nc] at *); omega)) (by ((try simp only [nc] at *); omega)), hk1]
          have hmu : ∀ _ : Unit, (4 - k1).toNat < (4 - k).toNat := fun _ => by ((try simp only [nc] at *); omega)
          have hn2b : n2 * 1 ≤ 140737488355328 := by ((try simp only [nc] at *); omega)
          have hlb1 : l.length = ln := hln.symm
          cbv
          rw [ez]
          cbv
          rw [htk, ← ho2, ← hm2, ← hp2]
          refine ⟨⟨by ((try simp only [nc] at *); omega), by ((try simp only [nc] at *); omega)⟩, ⟨by rw [ha0, hlnq]; ((try simp only [nc] at *); omega)⟩, ⟨by rw [hlnq]; ((try simp only [nc] at *); omega)⟩, ⟨by ((try simp only [nc] at *); omega)⟩, ⟨by rw [ha2]; exact hn2b⟩, ?_⟩
          intro c2 js4 hle
          have hle' : n2 ≤ c2 := by have := hle.out; simp only at this; rw [ha2] at this; exact this
          cbv
          rw [hont, ha2, ek1]
          refine Cv.fold ([13, 14, 15, 16, 17] ++ [41, 42, 43, 44, 45, 46, 47, 48, 49, 50, 51, 52, 53, 54, 55, 56, 57, 58, 59, 60, 61, 62, 63, 64, 65, 66, 67, 68, 69, 70, 71, 72, 73, 74, 75, 76, 77, 78, 79, 80, 81, 82, 83, 84]) 3 [2] (by exact Nat.le_refl _) (by exact Nat.le_of_ble_eq_true rfl) (by rfl) (by cbv) ?_
          intro js
          refine ⟨(_, _, _, _, _, _, _), ?_, js, rfl⟩
          exact ⟨⟨0, q + kN, by ((try simp only [nc] at *); omega), by ((try simp only [nc] at *); omega), by ((try simp only [nc] at *); omega), ho2', hL2l.symm, hle', by ((try simp only [nc] at *); omega), by rw [hRES, r4]⟩, hmu ()⟩
      · rw [qc, lss_true] at hz4
        obtain ⟨i, hi⟩ : ∃ i, i = 3 - n1 := ⟨_, rfl⟩
        have hki : k = i := by ((try simp only [nc] at *); omega)
        obtain ⟨kI, hkI⟩ : ∃ kI, kI = W2 i := ⟨_, rfl⟩
        obtain ⟨r1, r2, r3⟩ := hround kI each n1 q L (by rw [if_pos (by ((try simp only [nc] at *); omega)), hkI, hi]) (by rw [if_pos (by ((try simp only [nc] at *); omega))])
        have hWT : 0 ≤ each ∧ each ≤ 131072 := by ((try simp only [nc] at *); omega)
        have hwi := hw2 i
        have hni := hnum i (vsubN cap2 (2 * i)) (by ((try simp only [nc] at *); omega))
        have hvi := hvs (2 * i) 2 (2 * i) (by ((try simp only [nc] at *); omega)) (.inl rfl)
        rw [← hkI] at hwi hni
        obtain ⟨i2, hi2⟩ : ∃ i2 : Int, i2 = 2 * k := ⟨_, rfl⟩
        obtain ⟨i22, hi22⟩ : ∃ i22 : Int, i22 = i2 + 2 := ⟨_, rfl⟩
        have ei2 : vb .mul .i64 2 k = i2 := by rw [qb, mul_i64 (by ((try simp only [nc] at *); omega)) (by ((try simp only [nc] at *); omega)), hi2]
        have ei22 : vb .add .i64 i2 2 = i22 := by rw [qb, add_i64 (by ((try simp only [nc] at *); omega)) (by ((try simp only [nc] at *); omega)), hi22]
        obtain ⟨iN, hiN⟩ : ∃ iN, iN = 2 * i := ⟨_, rfl⟩
        obtain ⟨iM, hiM⟩ : ∃ iM, iM = iN + 2 := ⟨_, rfl⟩
        rw [← hiN] at hni hvi
        have hti2 : vtoN i2 = iN := by rw [qtoN]; ((try simp only [nc] at *); omega)
        have hti22 : vtoN i22 = iM := by rw [qtoN]; ((try simp only [nc] at *); omega)
        have hcuti : vcutN 0 iN cap2 = iN := by rw [qcutN]; simp only; rw [if_neg (by ((try simp only [nc] at *); omega))]; ((try simp only [nc] at *); omega)
        have hsbi : vsubN iM iN = 2 := by rw [qsubN]; simp only; omega
        have ewk : vw .i64 kI = kI := by rw [qw]; exact wrap_i64 (by ((try simp only [nc] at *); omega)) (by ((try simp only [nc] at *); omega))
        obtain ⟨ci, hci⟩ : ∃ ci, ci = vsubN cap2 iN := ⟨_, rfl⟩
        rw [← hci] at hni
        generalize SG iN 2 = sg2 at *
        cbv
        rw [ei2, ei22, hti2, hti22, hcuti, hsbi, ← hci]
        refine ⟨⟨by ((try simp only [nc] at *); omega), by ((try simp only [nc] at *); omega)⟩, ⟨by ((try simp only [nc] at *); omega), by ((try simp only [nc] at *); omega)⟩, ?_⟩
        refine call_con (ρ := [(1, .n iN)]) hni ⟨by rfl, by rfl, by rfl, by cbv; exact ⟨hvi, trivial⟩⟩ ?_
        rintro v H R js2 ⟨rfl, rfl, rfl⟩
        cbv
        rw [ewk]
        cbv
        rw [emI]
        generalize hz5 : vc .gtr kI mI = z5
        cases z5
        rotate_left
        · rw [qc, gtr_true] at hz5
          cbv
          exact ⟨[0, 1], .tup [.val (.slice none 0 0), .lit .i64 11], [.ro .u8 w, .ro .u8 b], rfl, rfl, rfl, rfl, ⟨rfl, rfl, trivial⟩, rfl, .inl ⟨11, by decide, by rw [hRES]; exact r1 (by ((try simp only [nc] at *); omega)), rfl, rfl⟩⟩
        rw [qc, gtr_false] at hz5
        obtain ⟨kN, hkN⟩ : ∃ kN : Nat, kI = kN := ⟨(kI).toNat, by ((try simp only [nc] at *); omega)⟩
        have htk : vtoN kI = kN := by rw [qtoN, hkN]; exact Int.toNat_natCast kN
        have htk' : (kI).toNat = kN := by rw [hkN]; exact Int.toNat_natCast kN
        have hnk : ¬ (bl : Int) - q < kI := by ((try simp only [nc] at *); omega)
        have r2 := r2 hnk
        have r3 := r3 hnk
        rw [htk'] at r2 r3
        have hu := hun q kN each kN (by ((try simp only [nc] at *); omega)) hWT
        have hvu := hvs q kN o (by ((try simp only [nc] at *); omega)) (by rcases ho with h | ⟨h, h'⟩; exact .inl h; exact .inr ⟨by ((try simp only [nc] at *); omega), h'⟩)
        have hlu := fun X => hlU (SG q kN) each X
        generalize SG q kN = sgk at *
        generalize hUU : UN sgk each = U at *
        cbv
        rw [htk]
        refine ⟨⟨by ((try simp only [nc] at *); omega), by ((try simp only [nc] at *); omega)⟩, ⟨by ((try simp only [nc] at *); omega), by ((try simp only [nc] at *); omega)⟩, ?_⟩
        refine call_con (ρ := [(0, .z), (1, .n o)]) hu ⟨by rfl, by rfl, by rfl, by cbv; exact ⟨view_refl _, hvu, trivial⟩⟩ ?_
        rintro v H R js3 ⟨rfl, ⟨e, he, hU, rfl, rfl⟩ | ⟨l, c', hU, rfl, rfl⟩⟩
        · have ez : vc .neq e 0 = true := by rw [qc, neq_true]; exact he
          cbv
          rw [ez]
          cbv
          exact ⟨[0, 1], .tup [.val (.slice none 0 0), .int .i64 e], [.ro .u8 w, .ro .u8 b], rfl, rfl, rfl, rfl, ⟨rfl, rfl, trivial⟩, rfl, .inl ⟨e, he, by rw [hRES]; exact r2 hU, rfl, rfl⟩⟩
        · have r4 := r3 l hU
          have hll := hlu l hU
          obtain ⟨ln, hln⟩ : ∃ ln, ln = l.length := ⟨_, rfl⟩
          rw [← hln] at hll ⊢
          have ez : vc .neq 0 0 = false := by rw [qc]; rfl
          have hont : vonto L nL (vsub l 0 ln) = L ++ l := by
            rw [qonto, qsub]; simp only [List.drop_zero]; rw [hnL, hln, List.take_length, List.take_length]
          obtain ⟨L2, hL2⟩ : ∃ L2, L2 = L ++ l := ⟨_, rfl⟩
          have hL2l : L2.length = nL + ln := by rw [hL2, List.length_append, hnL, hln]
          rw [← hL2] at r4 hont
          have ha2 := haddq nL ln
          have ha0 : ∀ x, vaddN 0 x = x := fun x => by rw [haddq, Nat.zero_add]
          obtain ⟨n2, hn2⟩ : ∃ n2, n2 = nL + ln := ⟨_, rfl⟩
          rw [← hn2] at ha2 hL2l
          obtain ⟨o2, ho2⟩ : ∃ o2, o2 = vcutN o kN cp := ⟨_, rfl⟩
          obtain ⟨m2, hm2⟩ : ∃ m2, m2 = vsubN m kN := ⟨_, rfl⟩
          obtain ⟨p2, hp2⟩ : ∃ p2, p2 = vsubN cp kN := ⟨_, rfl⟩
          have hm2' : m2 = m - kN := by rw [hm2, qsubN]
          have hp2' : p2 = cp - kN := by rw [hp2, qsubN]
          have ho2' : o2 = q + kN ∨ m2 = 0 ∧ o2 ≤ bl := by
            have e : o2 = if cp = kN then o else o + kN := by rw [ho2, qcutN]
            rw [e]
            split <;> rcases ho with h | ⟨h, h'⟩ <;> ((try simp only [nc] at *); omega)
          obtain ⟨k1, hk1⟩ : ∃ k1 : Int, k1 = k + 1 := ⟨_, rfl⟩
          have ek1 : vb .add .i64 k 1 = k1 := by rw [qb, add_i64 (by ((try simp only [nc] at *); omega)) (by ((try simp only [nc] at *); omega)), hk1]
          have hmu : ∀ _ : Unit, (4 - k1).toNat < (4 - k).toNat := fun _ => by ((try simp only [nc] at *); omega)
          have hn2b : n2 * 1 ≤ 140737488355328 := by ((try simp only [nc] at *); omega)
          have hlb1 : l.length = ln := hln.symm
          cbv
          rw [ez]
          cbv
          rw [htk, ← ho2, ← hm2, ← hp2]
          refine ⟨⟨by ((try simp only [nc] at *); omega), by ((try simp only [nc] at *); omega)⟩, ⟨by rw [ha0, hlnq]; ((try simp only [nc] at *); omega)⟩, ⟨by rw [hlnq]; ((try simp only [nc] at *); omega)⟩, ⟨by ((try simp only [nc] at *); omega)⟩, ⟨by rw [ha2]; exact hn2b⟩, ?_⟩
          intro c2 js4 hle
          have hle' : n2 ≤ c2 := by have := hle.out; simp only at this; rw [ha2] at this; exact this
          cbv
          rw [hont, ha2, ek1]
          refine Cv.fold ([13, 14, 15, 16, 17] ++ [41, 42, 43, 44, 45, 46, 47, 48, 49, 50, 51, 52, 53, 54, 55, 56, 57, 58, 59, 60, 61, 62, 63, 64, 65, 66, 67, 68, 69, 70, 71, 72, 73, 74, 75, 76, 77, 78, 79, 80, 81, 82, 83, 84]) 3 [2] (by exact Nat.le_refl _) (by exact Nat.le_of_ble_eq_true rfl) (by rfl) (by cbv) ?_
          intro js
          refine ⟨(_, _, _, _, _, _, _), ?_, js, rfl⟩
          exact ⟨⟨n1, q + kN, by ((try simp only [nc] at *); omega), by ((try simp only [nc] at *); omega), by ((try simp only [nc] at *); omega), ho2', hL2l.symm, hle', by ((try simp only [nc] at *); omega), by rw [hRES, r4]⟩, hmu ()⟩
end Go.Proofs.Ytaaklikigccdfaa
namespace Go.Proofs.Ytaaklikigccdfaa
open Go Go.Sx Go.Proofs
/-! balerref11.rows. -/
set_option maxRecDepth 10000
set_option maxHeartbeats 40000000

theorem refrows_con1 (w b : List Int) (cap cap2 M : Nat) (size : Int) (hw8 : ∀ c ∈ w, isU8 c) (hW : Wt w M) (hb : ∀ c ∈ b, isU8 c) (hbl : b.length ≤ 1048576) (hs : 0 ≤ size ∧ size ≤ 131072) :
    Con Try.prog 28 [.slice 0 .z 1 w.length cap, .slice 1 .z 1 b.length cap2, .int .i64 size, .int .i64 1] [.ro .u8 w, .ro .u8 b]
      (fun v H R => R = [] ∧ ((unR w b size = none ∧ H = [.ro .u8 w, .ro .u8 b] ∧ v = .tup [.val (.slice none 0 0), .bool false]) ∨
        ∃ L c', unR w b size = some L ∧ H = [.ro .u8 w, .ro .u8 b, .buf 5 .u8 L c'] ∧ v = .tup [.slice 2 .z 1 L.length c', .bool true])) := by
  have hun := refunpackU w b cap cap2 M size hw8 hW (isU8_byte hb) hs (by omega)
  refine con_gen (con_picks (con_drop (con_walk hmix fn28 ?_)))
  intro vb vc vw vtoN vofN vaddN vsubN vmaxI vminI vcutN vgd vst vln vrep vsub vonto vsplice vstrEq vbyteV vnotB veqB hw qb qc qw qtoN qofN qaddN qsubN qmaxI qminI qcutN qgd qst qln qrep qsub qonto qsplice qstrEq qbyteV qnotB qeqB
  have hm := hmix; generalize Try.prog = P at *
  clear hW
  generalize unR w b size = U at *
  generalize hwl' : w.length = wl at *
  generalize hbl' : b.length = bl at *
  have e11 : vc .eql 1 1 = true := by rw [qc]; rfl
  cbv
  rw [e11]
  cbv
  refine call_con (ρ := [(0, .z), (1, .z)]) hun ⟨by rfl, by rfl, by rfl, by cbv; exact ⟨view_refl _, view_refl _, trivial⟩⟩ ?_
  rintro v H R js ⟨rfl, ⟨e, he, hU, rfl, rfl⟩ | ⟨L, c', hU, rfl, rfl⟩⟩
  · have ez : vc .eql e 0 = false := by rw [qc, eql_false]; exact he
    cbv
    rw [ez]
    cbv
    exact ⟨[0, 1], .tup [.val (.slice none 0 0), .bool false], [.ro .u8 w, .ro .u8 b], rfl, rfl, rfl, rfl, ⟨rfl, rfl, trivial⟩, rfl, .inl ⟨hU, rfl, rfl⟩⟩
  · obtain ⟨Ln, hLn⟩ : ∃ Ln, Ln = L.length := ⟨_, rfl⟩
    have ez : vc .eql 0 0 = true := by rw [qc]; rfl
    rw [← hLn]
    cbv
    rw [ez]
    cbv
    subst hLn
    exact ⟨[0, 1, 2], .tup [.slice 2 .z 1 L.length c', .bool true], [.ro .u8 w, .ro .u8 b, .buf 5 .u8 L c'], rfl, rfl, rfl, rfl, ⟨rfl, rfl, rfl, trivial⟩, rfl, .inr ⟨L, c', hU, rfl, rfl⟩⟩
theorem refrows_con (w b : List Int) (cap cap2 M : Nat) (size n : Int) (hw8 : ∀ c ∈ w, isU8 c) (hW : Wt w M) (hb : ∀ c ∈ b, isU8 c) (hbl : b.length ≤ 1048576) (hcap : b.length ≤ cap2) (hcm : cap2 ≤ 9223372036854775807) (hs : 0 ≤ size ∧ size ≤ 131072) :
    Con Try.prog 28 [.slice 0 .z 1 w.length cap, .slice 1 .z 1 b.length cap2, .int .i64 size, .int .i64 n] [.ro .u8 w, .ro .u8 b]
      (fun v H R => R = [] ∧ ((rowsR w b size n = none ∧ H = [.ro .u8 w, .ro .u8 b] ∧ v = .tup [.val (.slice none 0 0), .bool false]) ∨
        ∃ L c', rowsR w b size n = some L ∧ H = [.ro .u8 w, .ro .u8 b, .buf 5 .u8 L c'] ∧ v = .tup [.slice 2 .z 1 L.length c', .bool true])) := by
  by_cases hn1 : n = 1
  · subst hn1
    rw [show rowsR w b size 1 = unR w b size by unfold rowsR; rw [if_pos rfl]]
    exact refrows_con1 w b cap cap2 M size hw8 hW hb hbl hs
  obtain ⟨each, heach⟩ : ∃ each, each = (size + 3) / 4 := ⟨_, rfl⟩
  have hRR : rowsR w b size n = if b.length < 6 ∨ size < 3 * each then none else rowsF w b size each 4 6 [] := by unfold rowsR; rw [if_neg hn1, heach]
  have hun := fun (q kN : Nat) (N : Int) (c : Nat) (h1 : q + kN ≤ b.length) (h2 : 0 ≤ N ∧ N ≤ 131072) => by
    have := refunpackU w (seg b q kN) cap c M N hw8 hW (seg_mem (isU8_byte hb)) h2 (by rw [seg_len h1]; omega)
    rw [seg_len h1] at this
    exact this
  have hnum := fun (i c : Nat) (h : 2 * i + 2 ≤ b.length) => refnumber_seg c hb h
  have hr0 : ∀ (q : Nat) (L : List Int), rowsF w b size each 0 q L = some L := fun _ _ => rfl
  have hround := fun k wt n q L => @rowsF_round w b size each k wt n q L
  have hw2 := w2_range hb
  have hseg := fun o n h => @seg_len b o n h
  have hvs := fun o n x h hx => @view_seg b o n x h hx
  have hlU := fun (p : List Int) (N : Int) (X : List Int) (h : unR w p N = some X) => unR_len h
  rw [hRR]
  refine con_gen (con_picks (con_drop (con_walk hmix fn28 ?_)))
  intro vb vc vw vtoN vofN vaddN vsubN vmaxI vminI vcutN vgd vst vln vrep vsub vonto vsplice vstrEq vbyteV vnotB veqB hw qb qc qw qtoN qofN qaddN qsubN qmaxI qminI qcutN qgd qst qln qrep qsub qonto qsplice qstrEq qbyteV qnotB qeqB
  have hm := hmix; generalize Try.prog = P at *
  clear hRR hW
  generalize rowsF w b size each = RF at *
  generalize unR w = UN at *
  generalize w2 b = W2 at *
  generalize seg b = SG at *
  generalize hwl' : w.length = wl at *
  generalize hbl' : b.length = bl at *
  have hgd : ∀ i, vgd b i = b.getD i 0 := fun i => by rw [qgd]
  have hlnq : ∀ l, vln l = l.length := fun l => by rw [qln]
  have hlnb : vln b = bl := by simp only [qln, hbl']
  have haddq : ∀ a b, vaddN a b = a + b := fun a b => by rw [qaddN]
  have hnf : vnotB false = true := by rw [qnotB]; rfl
  have hnt : vnotB true = false := by rw [qnotB]; rfl
  obtain ⟨bI, hbI⟩ : ∃ bI : Int, bI = bl := ⟨_, rfl⟩
  have ebl : vofN bl = bI := by rw [qofN, hbI]
  have en1 : vc .eql n 1 = false := by rw [qc, eql_false]; exact hn1
  obtain ⟨s3, hs3⟩ : ∃ s3, s3 = size + 3 := ⟨_, rfl⟩
  have es3 : vb .add .i64 size 3 = s3 := by rw [qb, add_i64 (by omega) (by omega), hs3]
  have eq4 : vb .quo .i64 s3 4 = each := by rw [qb, quo_i64 (by omega) (by omega) (by omega), heach, hs3]
  obtain ⟨t3, ht3⟩ : ∃ t3, t3 = 3 * each := ⟨_, rfl⟩
  have et3 : vb .mul .i64 3 each = t3 := by rw [qb, mul_i64 (by omega) (by omega), ht3]
  rw [← ht3]
  cbv
  rw [en1]
  cbv
  rw [ebl]
  generalize hz1 : vc .lss bI 6 = z1
  cases z1
  rotate_left
  · rw [qc, lss_true] at hz1
    cbv
    exact ⟨[0, 1], .tup [.val (.slice none 0 0), .bool false], [.ro .u8 w, .ro .u8 b], rfl, rfl, rfl, rfl, ⟨rfl, rfl, trivial⟩, rfl, .inl ⟨if_pos (.inl (by ((try simp only [nc] at *); omega))), rfl, rfl⟩⟩
  rw [qc, lss_false] at hz1
  cbv
  rw [es3, eq4, et3]
  generalize hz2 : vc .gtr t3 size = z2
  cases z2
  rotate_left
  · rw [qc, gtr_true] at hz2
    cbv
    exact ⟨[0, 1], .tup [.val (.slice none 0 0), .bool false], [.ro .u8 w, .ro .u8 b], rfl, rfl, rfl, rfl, ⟨rfl, rfl, trivial⟩, rfl, .inl ⟨if_pos (.inr hz2), rfl, rfl⟩⟩
  rw [qc, gtr_false] at hz2
  have hnb : ¬ (bl < 6 ∨ size < t3) := by rintro (h | h) <;> ((try simp only [nc] at *); omega)
  rw [if_neg hnb]
  obtain ⟨ws, hws⟩ : ∃ ws, ws = size - t3 := ⟨_, rfl⟩
  have ews : vb .sub .i64 size t3 = ws := by rw [qb, sub_i64 (by ((try simp only [nc] at *); omega)) (by ((try simp only [nc] at *); omega)), hws]
  have hof : ∀ q : Nat, vofN q = (q : Int) := fun q => by simp only [qofN]
  cbv
  refine WX.cv (Cv.nilT 13 5 .u8 (by rfl) (by cbv; try exact ⟨fun _ => rfl, trivial⟩) (Cv.here ?_))
  cbv
  refine loop_fam (α := Int × Int × Nat × Nat × List Int) ([16, 17, 18, 19] ++ [42, 43, 44, 45, 46, 47, 48, 49, 50, 51, 52, 53, 54, 55, 56, 57, 58, 59, 60, 61, 62, 63, 64, 65, 66, 67, 68, 69, 70, 71, 72, 73, 74, 75, 76, 77, 78, 79, 80, 81, 82, 83, 84, 85, 86, 87, 88, 89, 90, 91]) [2] (fun (k, a, nL, c, L) => [(15, .int .i64 k), (14, .int .i64 a), (13, .slice 2 .z 1 nL c)]) (fun (k, a, nL, c, L) => [(2, .buf 5 .u8 L c)])
    (fun (k, a, nL, c, L) => ∃ j q : Nat, k + j = 4 ∧ a = q ∧ q ≤ bl ∧ nL = L.length ∧ nL ≤ c ∧ nL + 131072 * j ≤ 524288 ∧ RF 4 6 [] = RF j q L) (fun (k, _, _, _, _) => (4 - k).toNat) hw hm ?_ ?_
  · refine Cv.genAt [15, 14] [] (Cv.fold ([16, 17, 18, 19] ++ [42, 43, 44, 45, 46, 47, 48, 49, 50, 51, 52, 53, 54, 55, 56, 57, 58, 59, 60, 61, 62, 63, 64, 65, 66, 67, 68, 69, 70, 71, 72, 73, 74, 75, 76, 77, 78, 79, 80, 81, 82, 83, 84, 85, 86, 87, 88, 89, 90, 91]) 3 [2] (by exact Nat.le_refl _) (by exact Nat.le_of_ble_eq_true rfl) (by rfl) (by cbv) ?_)
    intro js
    refine ⟨(_, _, _, _, _), ?_, js, rfl⟩
    exact ⟨4, 6, by rfl, by rfl, by ((try simp only [nc] at *); omega), rfl, Nat.le_refl _, by decide, rfl⟩
  · rintro ⟨k, a, nL, c, L⟩ js ⟨j, q, hkj, ha, hq, hnL, hnc, hnb, hRES⟩
    obtain ⟨mI, hmI⟩ : ∃ mI : Int, mI = bI - a := ⟨_, rfl⟩
    have emI : vb .sub .i64 bI a = mI := by rw [qb, sub_i64 (by ((try simp only [nc] at *); omega)) (by ((try simp only [nc] at *); omega)), hmI]
    cbv
    generalize hz3 : vc .lss k 4 = z3
    cases z3
    · rw [qc, lss_false] at hz3
      have hj0 : j = 0 := by ((try simp only [nc] at *); omega)
      subst hj0
      rw [hr0] at hRES
      cbv
      subst hnL
      exact ⟨[0, 1, 2], .tup [.slice 2 .z 1 L.length c, .bool true], [.ro .u8 w, .ro .u8 b, .buf 5 .u8 L c], rfl, rfl, rfl, rfl, ⟨rfl, rfl, rfl, trivial⟩, rfl, .inr ⟨L, c, hRES, rfl, rfl⟩⟩
    · rw [qc, lss_true] at hz3
      obtain ⟨n1, rfl⟩ : ∃ n1, j = n1 + 1 := ⟨j - 1, by ((try simp only [nc] at *); omega)⟩
      cbv
      rw [ebl, emI, et3, ews]
      generalize hz4 : vc .lss k 3 = z4
      cases z4
      · rw [qc, lss_false] at hz4
        obtain rfl : n1 = 0 := by ((try simp only [nc] at *); omega)
        obtain ⟨r1, r2, r3⟩ := hround mI ws 0 q L (by rw [if_neg (by decide)]; ((try simp only [nc] at *); omega)) (by rw [if_neg (by decide), ← ht3, hws])
        have hWT : 0 ≤ ws ∧ ws ≤ 131072 := by ((try simp only [nc] at *); omega)
        cbv
        rw [ebl, emI]
        generalize hz5 : vc .gtr mI mI = z5
        cases z5
        rotate_left
        · rw [qc, gtr_true] at hz5
          cbv
          exact ⟨[0, 1], .tup [.val (.slice none 0 0), .bool false], [.ro .u8 w, .ro .u8 b], rfl, rfl, rfl, rfl, ⟨rfl, rfl, trivial⟩, rfl, .inl ⟨by rw [hRES]; exact r1 (by ((try simp only [nc] at *); omega)), rfl, rfl⟩⟩
        rw [qc, gtr_false] at hz5
        obtain ⟨kN, hkN⟩ : ∃ kN : Nat, mI = kN := ⟨(mI).toNat, by ((try simp only [nc] at *); omega)⟩
        have htk' : (mI).toNat = kN := by rw [hkN]; exact Int.toNat_natCast kN
        have hnk : ¬ (bl : Int) - q < mI := by ((try simp only [nc] at *); omega)
        have r2 := r2 hnk
        have r3 := r3 hnk
        rw [htk'] at r2 r3
        obtain ⟨a1, ha1⟩ : ∃ a1, a1 = a + mI := ⟨_, rfl⟩
        have ea1 : vb .add .i64 a mI = a1 := by rw [qb, add_i64 (by ((try simp only [nc] at *); omega)) (by ((try simp only [nc] at *); omega)), ha1]
        have hta : vtoN a = q := by rw [qtoN, ha]; exact Int.toNat_natCast q
        obtain ⟨q1, hq1⟩ : ∃ q1, q1 = q + kN := ⟨_, rfl⟩
        have hta1 : vtoN a1 = q1 := by rw [qtoN]; ((try simp only [nc] at *); omega)
        have hsb1 : vsubN q1 q = kN := by rw [qsubN]; simp only; omega
        obtain ⟨o1, ho1⟩ : ∃ o1, o1 = vcutN 0 q cap2 := ⟨_, rfl⟩
        have ho : o1 = q ∨ kN = 0 ∧ o1 ≤ bl := by
          have e : o1 = if cap2 = q then 0 else 0 + q := by rw [ho1, qcutN]
          by_cases h : cap2 = q
          · rw [if_pos h] at e; right; constructor <;> ((try simp only [nc] at *); omega)
          · rw [if_neg h] at e; left; ((try simp only [nc] at *); omega)
        obtain ⟨cq, hcq⟩ : ∃ cq, cq = vsubN cap2 q := ⟨_, rfl⟩
        have hu := hun q kN ws cq (by ((try simp only [nc] at *); omega)) hWT
        have hvu := hvs q kN o1 (by ((try simp only [nc] at *); omega)) ho
        have hlu := fun X => hlU (SG q kN) ws X
        generalize SG q kN = sgk at *
        generalize hUU : UN sgk ws = U at *
        cbv
        rw [ea1, hta, hta1, hsb1, ← ho1, ← hcq]
        refine ⟨⟨by ((try simp only [nc] at *); omega), by ((try simp only [nc] at *); omega)⟩, ⟨by ((try simp only [nc] at *); omega), by ((try simp only [nc] at *); omega)⟩, ?_⟩
        refine call_con (ρ := [(0, .z), (1, .n o1)]) hu ⟨by rfl, by rfl, by rfl, by cbv; exact ⟨view_refl _, hvu, trivial⟩⟩ ?_
        rintro v H R js3 ⟨rfl, ⟨e, he, hU, rfl, rfl⟩ | ⟨l, c', hU, rfl, rfl⟩⟩
        · have ez : vc .neq e 0 = true := by rw [qc, neq_true]; exact he
          cbv
          rw [ez]
          cbv
          exact ⟨[0, 1], .tup [.val (.slice none 0 0), .bool false], [.ro .u8 w, .ro .u8 b], rfl, rfl, rfl, rfl, ⟨rfl, rfl, trivial⟩, rfl, .inl ⟨by rw [hRES]; exact r2 hU, rfl, rfl⟩⟩
        · have r4 := r3 l hU
          have hll := hlu l hU
          obtain ⟨ln, hln⟩ : ∃ ln, ln = l.length := ⟨_, rfl⟩
          rw [← hln] at hll ⊢
          have ez : vc .neq 0 0 = false := by rw [qc]; rfl
          have hont : vonto L nL (vsub l 0 ln) = L ++ l := by
            rw [qonto, qsub]; simp only [List.drop_zero]; rw [hnL, hln, List.take_length, List.take_length]
          obtain ⟨L2, hL2⟩ : ∃ L2, L2 = L ++ l := ⟨_, rfl⟩
          have hL2l : L2.length = nL + ln := by rw [hL2, List.length_append, hnL, hln]
          rw [← hL2] at r4 hont
          have ha2 := haddq nL ln
          have ha0 : ∀ x, vaddN 0 x = x := fun x => by rw [haddq, Nat.zero_add]
          obtain ⟨n2, hn2⟩ : ∃ n2, n2 = nL + ln := ⟨_, rfl⟩
          rw [← hn2] at ha2 hL2l
          obtain ⟨k1, hk1⟩ : ∃ k1 : Int, k1 = k + 1 := ⟨_, rfl⟩
          have ek1 : vb .add .i64 k 1 = k1 := by rw [qb, add_i64 (by ((try simp only [nc] at *); omega)) (by ((try simp only [nc] at *); omega)), hk1]
          have hmu : ∀ _ : Unit, (4 - k1).toNat < (4 - k).toNat := fun _ => by ((try simp only [nc] at *); omega)
          have hn2b : n2 * 1 ≤ 140737488355328 := by ((try simp only [nc] at *); omega)
          have hlb1 : l.length = ln := hln.symm
          cbv
          rw [ez]
          cbv
          refine ⟨⟨by rw [ha0, hlnq]; ((try simp only [nc] at *); omega)⟩, ⟨by rw [hlnq]; ((try simp only [nc] at *); omega)⟩, ⟨by ((try simp only [nc] at *); omega)⟩, ⟨by rw [ha2]; exact hn2b⟩, ?_⟩
          intro c2 js4 hle
          have hle' : n2 ≤ c2 := by have := hle.out; simp only at this; rw [ha2] at this; exact this
          cbv
          rw [hont, ha2, ea1, ek1]
          refine Cv.fold ([16, 17, 18, 19] ++ [42, 43, 44, 45, 46, 47, 48, 49, 50, 51, 52, 53, 54, 55, 56, 57, 58, 59, 60, 61, 62, 63, 64, 65, 66, 67, 68, 69, 70, 71, 72, 73, 74, 75, 76, 77, 78, 79, 80, 81, 82, 83, 84, 85, 86, 87, 88, 89, 90, 91]) 3 [2] (by exact Nat.le_refl _) (by exact Nat.le_of_ble_eq_true rfl) (by rfl) (by cbv) ?_
          intro js
          refine ⟨(_, _, _, _, _), ?_, js, rfl⟩
          exact ⟨⟨0, q1, by ((try simp only [nc] at *); omega), by ((try simp only [nc] at *); omega), by ((try simp only [nc] at *); omega), hL2l.symm, hle', by ((try simp only [nc] at *); omega), by rw [hRES, r4, hq1]⟩, hmu ()⟩
      · rw [qc, lss_true] at hz4
        obtain ⟨i, hi⟩ : ∃ i, i = 3 - n1 := ⟨_, rfl⟩
        have hki : k = i := by ((try simp only [nc] at *); omega)
        obtain ⟨kI, hkI⟩ : ∃ kI, kI = W2 i := ⟨_, rfl⟩
        obtain ⟨r1, r2, r3⟩ := hround kI each n1 q L (by rw [if_pos (by ((try simp only [nc] at *); omega)), hkI, hi]) (by rw [if_pos (by ((try simp only [nc] at *); omega))])
        have hWT : 0 ≤ each ∧ each ≤ 131072 := by ((try simp only [nc] at *); omega)
        have hwi := hw2 i
        have hni := hnum i (vsubN cap2 (2 * i)) (by ((try simp only [nc] at *); omega))
        have hvi := hvs (2 * i) 2 (2 * i) (by ((try simp only [nc] at *); omega)) (.inl rfl)
        rw [← hkI] at hwi hni
        obtain ⟨i2, hi2⟩ : ∃ i2 : Int, i2 = 2 * k := ⟨_, rfl⟩
        obtain ⟨i22, hi22⟩ : ∃ i22 : Int, i22 = i2 + 2 := ⟨_, rfl⟩
        have ei2 : vb .mul .i64 2 k = i2 := by rw [qb, mul_i64 (by ((try simp only [nc] at *); omega)) (by ((try simp only [nc] at *); omega)), hi2]
        have ei22 : vb .add .i64 i2 2 = i22 := by rw [qb, add_i64 (by ((try simp only [nc] at *); omega)) (by ((try simp only [nc] at *); omega)), hi22]
        obtain ⟨iN, hiN⟩ : ∃ iN, iN = 2 * i := ⟨_, rfl⟩
        obtain ⟨iM, hiM⟩ : ∃ iM, iM = iN + 2 := ⟨_, rfl⟩
        rw [← hiN] at hni hvi
        have hti2 : vtoN i2 = iN := by rw [qtoN]; ((try simp only [nc] at *); omega)
        have hti22 : vtoN i22 = iM := by rw [qtoN]; ((try simp only [nc] at *); omega)
        have hcuti : vcutN 0 iN cap2 = iN := by rw [qcutN]; simp only; rw [if_neg (by ((try simp only [nc] at *); omega))]; ((try simp only [nc] at *); omega)
        have hsbi : vsubN iM iN = 2 := by rw [qsubN]; simp only; omega
        have ewk : vw .i64 kI = kI := by rw [qw]; exact wrap_i64 (by ((try simp only [nc] at *); omega)) (by ((try simp only [nc] at *); omega))
        obtain ⟨ci, hci⟩ : ∃ ci, ci = vsubN cap2 iN := ⟨_, rfl⟩
        rw [← hci] at hni
        generalize SG iN 2 = sg2 at *
        cbv
        rw [ei2, ei22, hti2, hti22, hcuti, hsbi, ← hci]
        refine ⟨⟨by ((try simp only [nc] at *); omega), by ((try simp only [nc] at *); omega)⟩, ⟨by ((try simp only [nc] at *); omega), by ((try simp only [nc] at *); omega)⟩, ?_⟩
        refine call_con (ρ := [(1, .n iN)]) hni ⟨by rfl, by rfl, by rfl, by cbv; exact ⟨hvi, trivial⟩⟩ ?_
        rintro v H R js2 ⟨rfl, rfl, rfl⟩
        cbv
        rw [ewk]
        cbv
        rw [ebl, emI]
        generalize hz5 : vc .gtr kI mI = z5
        cases z5
        rotate_left
        · rw [qc, gtr_true] at hz5
          cbv
          exact ⟨[0, 1], .tup [.val (.slice none 0 0), .bool false], [.ro .u8 w, .ro .u8 b], rfl, rfl, rfl, rfl, ⟨rfl, rfl, trivial⟩, rfl, .inl ⟨by rw [hRES]; exact r1 (by ((try simp only [nc] at *); omega)), rfl, rfl⟩⟩
        rw [qc, gtr_false] at hz5
        obtain ⟨kN, hkN⟩ : ∃ kN : Nat, kI = kN := ⟨(kI).toNat, by ((try simp only [nc] at *); omega)⟩
        have htk' : (kI).toNat = kN := by rw [hkN]; exact Int.toNat_natCast kN
        have hnk : ¬ (bl : Int) - q < kI := by ((try simp only [nc] at *); omega)
        have r2 := r2 hnk
        have r3 := r3 hnk
        rw [htk'] at r2 r3
        obtain ⟨a1, ha1⟩ : ∃ a1, a1 = a + kI := ⟨_, rfl⟩
        have ea1 : vb .add .i64 a kI = a1 := by rw [qb, add_i64 (by ((try simp only [nc] at *); omega)) (by ((try simp only [nc] at *); omega)), ha1]
        have hta : vtoN a = q := by rw [qtoN, ha]; exact Int.toNat_natCast q
        obtain ⟨q1, hq1⟩ : ∃ q1, q1 = q + kN := ⟨_, rfl⟩
        have hta1 : vtoN a1 = q1 := by rw [qtoN]; ((try simp only [nc] at *); omega)
        have hsb1 : vsubN q1 q = kN := by rw [qsubN]; simp only; omega
        obtain ⟨o1, ho1⟩ : ∃ o1, o1 = vcutN 0 q cap2 := ⟨_, rfl⟩
        have ho : o1 = q ∨ kN = 0 ∧ o1 ≤ bl := by
          have e : o1 = if cap2 = q then 0 else 0 + q := by rw [ho1, qcutN]
          by_cases h : cap2 = q
          · rw [if_pos h] at e; right; constructor <;> ((try simp only [nc] at *); omega)
          · rw [if_neg h] at e; left; ((try simp only [nc] at *); omega)
        obtain ⟨cq, hcq⟩ : ∃ cq, cq = vsubN cap2 q := ⟨_, rfl⟩
        have hu := hun q kN each cq (by ((try simp only [nc] at *); omega)) hWT
        have hvu := hvs q kN o1 (by ((try simp only [nc] at *); omega)) ho
        have hlu := fun X => hlU (SG q kN) each X
        generalize SG q kN = sgk at *
        generalize hUU : UN sgk each = U at *
        cbv
        rw [ea1, hta, hta1, hsb1, ← ho1, ← hcq]
        refine ⟨⟨by ((try simp only [nc] at *); omega), by ((try simp only [nc] at *); omega)⟩, ⟨by ((try simp only [nc] at *); omega), by ((try simp only [nc] at *); omega)⟩, ?_⟩
        refine call_con (ρ := [(0, .z), (1, .n o1)]) hu ⟨by rfl, by rfl, by rfl, by cbv; exact ⟨view_refl _, hvu, trivial⟩⟩ ?_
        rintro v H R js3 ⟨rfl, ⟨e, he, hU, rfl, rfl⟩ | ⟨l, c', hU, rfl, rfl⟩⟩
        · have ez : vc .neq e 0 = true := by rw [qc, neq_true]; exact he
          cbv
          rw [ez]
          cbv
          exact ⟨[0, 1], .tup [.val (.slice none 0 0), .bool false], [.ro .u8 w, .ro .u8 b], rfl, rfl, rfl, rfl, ⟨rfl, rfl, trivial⟩, rfl, .inl ⟨by rw [hRES]; exact r2 hU, rfl, rfl⟩⟩
        · have r4 := r3 l hU
          have hll := hlu l hU
          obtain ⟨ln, hln⟩ : ∃ ln, ln = l.length := ⟨_, rfl⟩
          rw [← hln] at hll ⊢
          have ez : vc .neq 0 0 = false := by rw [qc]; rfl
          have hont : vonto L nL (vsub l 0 ln) = L ++ l := by
            rw [qonto, qsub]; simp only [List.drop_zero]; rw [hnL, hln, List.take_length, List.take_length]
          obtain ⟨L2, hL2⟩ : ∃ L2, L2 = L ++ l := ⟨_, rfl⟩
          have hL2l : L2.length = nL + ln := by rw [hL2, List.length_append, hnL, hln]
          rw [← hL2] at r4 hont
          have ha2 := haddq nL ln
          have ha0 : ∀ x, vaddN 0 x = x := fun x => by rw [haddq, Nat.zero_add]
          obtain ⟨n2, hn2⟩ : ∃ n2, n2 = nL + ln := ⟨_, rfl⟩
          rw [← hn2] at ha2 hL2l
          obtain ⟨k1, hk1⟩ : ∃ k1 : Int, k1 = k + 1 := ⟨_, rfl⟩
          have ek1 : vb .add .i64 k 1 = k1 := by rw [qb, add_i64 (by ((try simp only [nc] at *); omega)) (by ((try simp only [nc] at *); omega)), hk1]
          have hmu : ∀ _ : Unit, (4 - k1).toNat < (4 - k).toNat := fun _ => by ((try simp only [nc] at *); omega)
          have hn2b : n2 * 1 ≤ 140737488355328 := by ((try simp only [nc] at *); omega)
          have hlb1 : l.length = ln := hln.symm
          cbv
          rw [ez]
          cbv
          refine ⟨⟨by rw [ha0, hlnq]; ((try simp only [nc] at *); omega)⟩, ⟨by rw [hlnq]; ((try simp only [nc] at *); omega)⟩, ⟨by ((try simp only [nc] at *); omega)⟩, ⟨by rw [ha2]; exact hn2b⟩, ?_⟩
          intro c2 js4 hle
          have hle' : n2 ≤ c2 := by have := hle.out; simp only at this; rw [ha2] at this; exact this
          cbv
          rw [hont, ha2, ea1, ek1]
          refine Cv.fold ([16, 17, 18, 19] ++ [42, 43, 44, 45, 46, 47, 48, 49, 50, 51, 52, 53, 54, 55, 56, 57, 58, 59, 60, 61, 62, 63, 64, 65, 66, 67, 68, 69, 70, 71, 72, 73, 74, 75, 76, 77, 78, 79, 80, 81, 82, 83, 84, 85, 86, 87, 88, 89, 90, 91]) 3 [2] (by exact Nat.le_refl _) (by exact Nat.le_of_ble_eq_true rfl) (by rfl) (by cbv) ?_
          intro js
          refine ⟨(_, _, _, _, _), ?_, js, rfl⟩
          exact ⟨⟨n1, q1, by ((try simp only [nc] at *); omega), by ((try simp only [nc] at *); omega), by ((try simp only [nc] at *); omega), hL2l.symm, hle', by ((try simp only [nc] at *); omega), by rw [hRES, r4, hq1]⟩, hmu ()⟩
end Go.Proofs.Ytaaklikigccdfaa
namespace Go.Proofs.Ytaaklikigccdfaa
open Go Go.Sx Go.Proofs
/-! How many bits a greater number has. -/
theorem blen_64k {x : Int} (h : 65536 ≤ x) : blen x = 16 + blen (x / 65536) := by
  have e : x / 65536 = x / 256 / 256 := by omega
  rw [e, blen_256 (x := x) (by omega), blen_256 (x := x / 256) (by omega)]
  omega
set_option maxRecDepth 100000 in
theorem len64_big (x : Int) (hx : 65536 ≤ x ∧ x < 16777216) : Con Try.prog 74 [.int .u64 x] [] (fun v H R => v = .int .i64 (blen x) ∧ H = [] ∧ R = []) := by
  refine con_gen (con_walk hmix fn74 ?_)
  intro vb vc vw vtoN vofN vaddN vsubN vmaxI vminI vcutN vgd vst vln vrep vsub vonto vsplice vstrEq vbyteV vnotB veqB hw qb qc qw qtoN qofN qaddN qsubN qmaxI qminI qcutN qgd qst qln qrep qsub qonto qsplice qstrEq qbyteV qnotB qeqB
  have hm := hmix; generalize Try.prog = P at *
  have hl : lenTab.length = 256 := by rfl
  have key : ∀ y : Int, 0 ≤ y → y < 256 → vw .i64 (vbyteV (vgd lenTab (vtoN y))) = blen y := by
    intro y h0 h1
    obtain ⟨n, rfl⟩ : ∃ n : Nat, y = n := ⟨y.toNat, by omega⟩
    rw [qw, qbyteV, qgd, qtoN]
    exact lenTab_blen ⟨n, by omega⟩
  have hb := @blen_64k x hx.1
  have hbr := @blen_8 (x / 65536) (by omega) (by omega)
  have e1 : x74 = (.seq (.ops [⟨(some 2), .mv (.k (.lit .i64 0)), none, []⟩])
    (.seq (.seq (.ops [⟨(some 3), .mv (.t 0), none, []⟩,
      ⟨(some 4), .cmp .geq (.t 3) (.k (.lit .u64 4294967296)), none, []⟩])
    (.cond (.t 4) (.seq (.ops [⟨(some 5), .mv (.t 0), none, []⟩,
      ⟨(some 6), .bin .shr .u64 (.t 5) (.k (.lit .u64 32)), none, []⟩,
      ⟨(some 0), .mv (.t 6), none, []⟩])
    (.ops [⟨(some 2), .mv (.k (.lit .i64 32)), none, []⟩])) (.skip)))
    (.seq (.seq (.ops [⟨(some 7), .mv (.t 0), none, []⟩,
      ⟨(some 8), .cmp .geq (.t 7) (.k (.lit .u64 65536)), none, []⟩])
    (.cond (.t 8) (.seq (.ops [⟨(some 9), .mv (.t 0), none, []⟩,
      ⟨(some 10), .bin .shr .u64 (.t 9) (.k (.lit .u64 16)), none, []⟩,
      ⟨(some 0), .mv (.t 10), none, []⟩])
    (.ops [⟨(some 11), .mv (.t 2), none, []⟩,
      ⟨(some 12), .bin .add .i64 (.t 11) (.k (.lit .i64 16)), none, []⟩,
      ⟨(some 2), .mv (.t 12), none, []⟩])) (.skip)))
    (.seq (.seq (.ops [⟨(some 13), .mv (.t 0), none, []⟩,
      ⟨(some 14), .cmp .geq (.t 13) (.k (.lit .u64 256)), none, []⟩])
    (.cond (.t 14) (.seq (.ops [⟨(some 15), .mv (.t 0), none, []⟩,
      ⟨(some 16), .bin .shr .u64 (.t 15) (.k (.lit .u64 8)), none, []⟩,
      ⟨(some 0), .mv (.t 16), none, []⟩])
    (.ops [⟨(some 17), .mv (.t 2), none, []⟩,
      ⟨(some 18), .bin .add .i64 (.t 17) (.k (.lit .i64 8)), none, []⟩,
      ⟨(some 2), .mv (.t 18), none, []⟩])) (.skip)))
    (.seq (.ops [⟨(some 19), .mv (.t 2), none, []⟩,
      ⟨(some 20), .mv (.t 0), none, []⟩,
      ⟨(some 21), .conv .u8 (.t 20), none, []⟩,
      ⟨(some 22), .idxS (.k (.str lenTab)) (.t 21), none, []⟩,
      ⟨(some 23), .conv .i64 (.t 22), none, []⟩,
      ⟨(some 24), .bin .add .i64 (.t 19) (.t 23), none, []⟩,
      ⟨(some 2), .mv (.t 24), none, []⟩])
    (.ret)))))) := rfl
  rw [e1]
  have hll : vln lenTab = 256 := by rw [qln]; exact hl
  generalize lenTab = T at *
  have d1 : vc .geq x 4294967296 = false := by rw [qc, geq_false]; omega
  have d2 : vc .geq x 65536 = true := by rw [qc, geq_true]; omega
  have d3 : vc .geq (x / 65536) 256 = false := by rw [qc, geq_false]; omega
  have s1 : vb .shr .u64 x 16 = x / 65536 := by rw [qb]; show x.fdiv (2 ^ 16) = _; rw [Int.fdiv_eq_ediv_of_nonneg _ (by omega)]; rfl
  have w1 : vw .u8 (x / 65536) = x / 65536 := by rw [qw]; exact wrap_u8 (by omega) (by omega)
  have hk := key (x / 65536) (by omega) (by omega)
  generalize hbl : blen x = bl at *
  generalize hbl2 : blen (x / 65536) = bl2 at *
  generalize hx6 : x / 65536 = x6 at *
  cbv
  rw [d1]
  cbv
  rw [d2]
  cbv
  rw [s1, d3]
  cbv
  rw [w1, hk]
  refine ⟨⟨?_⟩, ?_, trivial⟩
  · rw [hll]; omega
  · congr 1
    rw [qb, add_i64 (by omega) (by omega)]; omega
theorem len_con2 (x : Int) (hx : 0 ≤ x ∧ x < 16777216) : Con Try.prog 45 [.int .u64 x] [] (fun v H R => v = .int .i64 (blen x) ∧ H = [] ∧ R = []) := by
  by_cases h : x < 65536
  · exact len_con x ⟨hx.1, h⟩
  have hc := len64_big x ⟨by omega, hx.2⟩
  refine con_gen (con_walk hmix fn45 ?_)
  intro vb vc vw vtoN vofN vaddN vsubN vmaxI vminI vcutN vgd vst vln vrep vsub vonto vsplice vstrEq vbyteV vnotB veqB hw qb qc qw qtoN qofN qaddN qsubN qmaxI qminI qcutN qgd qst qln qrep qsub qonto qsplice qstrEq qbyteV qnotB qeqB
  have hm := hmix; generalize Try.prog = P at *
  generalize blen x = bl at *
  cbv
  refine call_con (ρ := []) hc ⟨by rfl, by rfl, by rfl, by cbv⟩ ?_
  rintro v H R js ⟨rfl, rfl, rfl⟩
  cbv
/-! The last weight. -/
def smA (t : List Int) : Int := sm t t.length
/-- The weights l are those told, and the last one; they make a code. -/
def OkE (t l : List Int) : Prop := t.length ≤ 255 ∧ (∀ i, i < t.length → t.getD i 0 ≤ 11) ∧ 0 < smA t ∧ (∃ k : Nat, 2 ^ (blen (smA t)).toNat - smA t = 2 ^ k ∧ l = t ++ [(k : Int) + 1]) ∧ ∃ M, Wt l M
theorem OkE.uniq {t l l' : List Int} (h : OkE t l) (h' : OkE t l') : l = l' := by
  obtain ⟨_, _, _, ⟨k, h1, h2⟩, _⟩ := h
  obtain ⟨_, _, _, ⟨k', h3, h4⟩, _⟩ := h'
  have : k = k' := pow_inj (h1.symm.trans h3)
  rw [h2, h4, this]
theorem blen_over {x : Int} (h : 0 < x) : x < 2 ^ (blen x).toNat ∧ 2 ^ (blen x).toNat ≤ 2 * x := by
  obtain ⟨k, h1, h2, h3⟩ := blen_spec h
  have e : (blen x).toNat = k + 1 := by omega
  rw [e]
  refine ⟨h3, ?_⟩
  rw [Int.pow_succ]; omega
end Go.Proofs.Ytaaklikigccdfaa
namespace Go.Proofs.Ytaaklikigccdfaa
open Go Go.Sx Go.Proofs
/-! weights.ends. -/
set_option maxRecDepth 10000
set_option maxHeartbeats 40000000
theorem sm_ext {l l' : List Int} {n : Nat} (h : ∀ i, i < n → l.getD i 0 = l'.getD i 0) : sm l n = sm l' n := by
  induction n with
  | zero => rfl
  | succ n ih => simp only [sm]; rw [ih (fun i hi => h i (by omega)), h n (by omega)]
theorem getD_take {l : List Int} {n i : Nat} (h : i < n) : (l.take n).getD i 0 = l.getD i 0 := by
  rw [List.getD_eq_getElem?_getD, List.getD_eq_getElem?_getD, List.getElem?_take, if_pos h]
theorem ends_con (l0 : List Int) (n cap cc : Nat) (hl : ∀ c ∈ l0, isU8 c) (hn : n ≤ l0.length) (hcc : cap ≤ cc) (hlen : n ≤ 1000) :
    Con Try.prog 17 [.slice 0 .z 1 n cap] [.buf 5 .u8 l0 cc] (fun v H R => R = [0] ∧ ((∃ l c', OkE (l0.take n) l ∧ H = [.buf 5 .u8 l c'] ∧ v = .tup [.slice 0 .z 1 l.length c', .bool true]) ∨
      ((∀ l, ¬ OkE (l0.take n) l) ∧ ∃ l' c', H = [.buf 5 .u8 l' c'] ∧ (v = .tup [.val (.slice none 0 0), .bool false] ∨ ∃ n', v = .tup [.slice 0 .z 1 n' c', .bool false])))) := by
  have hlen1 := len_con2
  have htl : (l0.take n).length = n := by rw [List.length_take]; omega
  have hsz : ∀ (w : Int) (c' : Nat) (m : Int), isU8 w → Msz (l0.take n ++ [w]) m → Con Try.prog 46 [.slice 0 .z 1 (n + 1) c'] [.ro .u8 (l0.take n ++ [w])] (fun v H R => v = .int .i64 m ∧ H = [.ro .u8 (l0.take n ++ [w])] ∧ R = []) := by
    intro w c' m hw hm
    have := size_con (l0.take n ++ [w]) c' m (fun c hc => (List.mem_append.1 hc).elim (fun h => hl c (List.mem_of_mem_take h)) (fun h => by rw [List.mem_singleton.1 h]; exact hw)) (by rw [List.length_append, htl]; simp; omega) hm
    rw [List.length_append, htl] at this
    exact this
  have hex := fun w => Msz.ex (l0.take n ++ [w])
  have hpos : ∀ w m, Msz (l0.take n ++ [w]) m → (0 < m ↔ ∃ M, Wt (l0.take n ++ [w]) M) := by
    intro w m hm
    rcases hm with ⟨M, hW, rfl⟩ | ⟨h, rfl⟩
    · exact ⟨fun _ => ⟨M, hW⟩, fun _ => by have := hW.pos; omega⟩
    · exact ⟨fun h' => by omega, fun ⟨M, h'⟩ => (h M h').elim⟩
  have hsmA : smA (l0.take n) = sm l0 n := by unfold smA; rw [htl]; exact sm_ext (fun i hi => getD_take hi)
  have hok : ∀ l, OkE (l0.take n) l → n ≤ 255 ∧ (∀ i, i < n → l0.getD i 0 ≤ 11) ∧ 0 < sm l0 n ∧ (∃ k : Nat, 2 ^ (blen (sm l0 n)).toNat - sm l0 n = 2 ^ k ∧ l = l0.take n ++ [(k : Int) + 1]) ∧ ∃ M, Wt l M := by
    intro l h
    unfold OkE at h
    rw [htl, hsmA] at h
    exact ⟨h.1, fun i hi => by have := h.2.1 i hi; rw [getD_take hi] at this; exact this, h.2.2⟩
  have hko : ∀ (k M : Nat), n ≤ 255 → (∀ i, i < n → l0.getD i 0 ≤ 11) → 0 < sm l0 n → 2 ^ (blen (sm l0 n)).toNat - sm l0 n = 2 ^ k → Wt (l0.take n ++ [(k : Int) + 1]) M → OkE (l0.take n) (l0.take n ++ [(k : Int) + 1]) := by
    intro k M h1 h2 h3 h4 h5
    unfold OkE
    rw [htl, hsmA]
    exact ⟨h1, fun i hi => by rw [getD_take hi]; exact h2 i hi, h3, ⟨k, h4, rfl⟩, M, h5⟩
  have hover := @blen_over
  have htl1 : ∀ w : Int, (l0.take n ++ [w]).length = n + 1 := fun w => by rw [List.length_append, htl]; rfl
  refine con_gen (con_cut 1 (by simp) (con_red [0] (con_walk hmix fn17 ?_)))
  intro vb vc vw vtoN vofN vaddN vsubN vmaxI vminI vcutN vgd vst vln vrep vsub vonto vsplice vstrEq vbyteV vnotB veqB hw qb qc qw qtoN qofN qaddN qsubN qmaxI qminI qcutN qgd qst qln qrep qsub qonto qsplice qstrEq qbyteV qnotB qeqB
  have hm := hmix; generalize Try.prog = P at *
  have hge := getD_u8 hl
  have hsr := fun i => @sm_range l0 i
  have hs0 : sm l0 0 = 0 := rfl
  have hss : ∀ i, sm l0 (i + 1) = sm l0 i + pw (l0.getD i 0) := fun _ => rfl
  have hpr := @pw_range
  have hpwd : ∀ w : Int, 0 ≤ w → w ≤ 11 → vb .shr .u64 (vb .shl .u64 1 w) 1 = pw w := fun w h0 h1 => by rw [qb]; exact pw_word h0 h1
  have hand : ∀ s : Int, 1 ≤ s → s < 2 ^ 64 → (vb .and .u64 s (s - 1) = 0 ↔ ∃ k : Nat, s = 2 ^ k) := fun s h0 h1 => by rw [qb]; exact and_pow h0 h1
  have hbp := blen_pow
  have hbr : ∀ x : Int, 0 ≤ x → x < 2 ^ 20 → 0 ≤ blen x ∧ blen x ≤ 20 := fun x h0 h1 => blen_range (n := 20) h0 h1
  generalize sm l0 = SM at *
  generalize pw = PW at *
  generalize blen = BL at *
  generalize hTK : l0.take n = TK at *
  generalize OkE TK = OK at *
  generalize hl0 : l0.length = nl at *
  have hto : ∀ i : Nat, vtoN (i : Int) = i := fun i => by simp only [qtoN, Int.toNat_natCast]
  have hadd0 : ∀ i, vaddN 0 i = i := fun i => by simp only [qaddN, Nat.zero_add]
  have hvln : vln l0 = nl := by simp only [qln, hl0]
  have hvgd : ∀ i, vgd l0 i = l0.getD i 0 := fun i => by simp only [qgd]
  obtain ⟨nI, hnI⟩ : ∃ nI : Int, nI = n := ⟨_, rfl⟩
  have en : vofN n = nI := by rw [hnI, qofN]
  cbv
  simp only [nc] at *
  rw [en]
  refine loop_fam (α := Int × Int) ([6] ++ [12, 13, 14, 15, 16, 17, 18, 19, 20, 21, 22]) [0] (fun (k, s) => [(11, .int .i64 k), (4, .int .u64 s)]) (fun _ => [])
    (fun (k, s) => ∃ i : Nat, k = i ∧ i ≤ n ∧ s = SM i ∧ ∀ j, j < i → l0.getD j 0 ≤ 11) (fun (k, _) => n - k.toNat) hw hm ?_ ?_
  · refine Cv.genAt [11, 4] [] (Cv.fold ([6] ++ [12, 13, 14, 15, 16, 17, 18, 19, 20, 21, 22]) 1 [0] (by exact Nat.le_refl _) (by exact Nat.le_of_ble_eq_true rfl) (by rfl) (by cbv) ?_)
    intro js
    refine ⟨(_, _), ?_, js, rfl⟩
    exact ⟨0, rfl, by ((try simp only [nc] at *); omega), hs0.symm, fun j hj => by ((try simp only [nc] at *); omega)⟩
  · rintro ⟨k, s⟩ js ⟨i, hk, hi, hs, hj⟩
    have hsi := hsr i hj
    cbv
    generalize hz4 : vc .lss k nI = z4
    cases z4
    rotate_left
    · rw [qc, lss_true] at hz4
      have hlt : i < n := by ((try simp only [nc] at *); omega)
      have hti : vtoN k = i := by rw [hk]; exact hto i
      have hinR : 0 ≤ k ∧ k < (n : Int) := by ((try simp only [nc] at *); omega)
      obtain ⟨k1, hk1⟩ : ∃ k1 : Int, k1 = ((i + 1 : Nat) : Int) := ⟨_, rfl⟩
      have ek : vb .add .i64 k 1 = k1 := by rw [qb, add_i64 (by ((try simp only [nc] at *); omega)) (by ((try simp only [nc] at *); omega))]; ((try simp only [nc] at *); omega)
      have hmu : ∀ _ : Unit, n - k1.toNat < n - k.toNat := fun _ => by ((try simp only [nc] at *); omega)
      have hx := hge i
      have hss1 := hss i
      have hlt2 : i < nl := by ((try simp only [nc] at *); omega)
      cbv
      rw [hti, hadd0, hvgd, hvln]
      refine ⟨⟨hinR⟩, ⟨hlt2⟩, ⟨hlt2⟩, ?_⟩
      generalize hxi : l0.getD i 0 = x at *
      generalize hz5 : vc .gtr x 11 = z5
      cases z5
      rotate_left
      · rw [qc, gtr_true] at hz5
        cbv
        exact .inr ⟨fun l h => by have := (hok l h).2.1 i hlt; rw [hxi] at this; ((try simp only [nc] at *); omega), l0, cc, rfl, .inl rfl⟩
      rw [qc, gtr_false] at hz5
      have hpx := hpr (w := x) (by ((try simp only [nc] at *); omega))
      have hpw := hpwd x (by ((try simp only [nc] at *); omega)) (by ((try simp only [nc] at *); omega))
      obtain ⟨s1, hs1⟩ : ∃ s1, s1 = SM (i + 1) := ⟨_, rfl⟩
      have es : vb .add .u64 s (PW x) = s1 := by
        rw [qb, hs1, hss1, ← hs]
        exact wrap_u64 (by ((try simp only [nc] at *); omega)) (by ((try simp only [nc] at *); omega))
      have hjj : ∀ j, j < i + 1 → l0.getD j 0 ≤ 11 := fun j hj2 => by
        by_cases e : j = i
        · subst e; ((try simp only [nc] at *); omega)
        · exact hj j (by ((try simp only [nc] at *); omega))
      cbv
      rw [hpw, es, ek]
      refine ⟨⟨by ((try simp only [nc] at *); omega)⟩, ?_⟩
      refine Cv.fold ([6] ++ [12, 13, 14, 15, 16, 17, 18, 19, 20, 21, 22]) 1 [0] (by exact Nat.le_refl _) (by exact Nat.le_of_ble_eq_true rfl) (by rfl) (by cbv) ?_
      intro js
      refine ⟨(_, _), ?_, js, rfl⟩
      exact ⟨⟨i + 1, hk1, hlt, hs1, hjj⟩, hmu ()⟩
    · rw [qc, lss_false] at hz4
      obtain rfl : i = n := by ((try simp only [nc] at *); omega)
      cbv
      generalize hz5 : vc .eql s 0 = z5
      cases z5
      rotate_left
      · rw [qc, eql_true] at hz5
        cbv
        exact .inr ⟨fun l h => by have := (hok l h).2.2.1; ((try simp only [nc] at *); omega), l0, cc, rfl, .inl rfl⟩
      rw [qc, eql_false] at hz5
      cbv
      rw [en]
      generalize hz6 : vc .gtr nI 255 = z6
      cases z6
      rotate_left
      · rw [qc, gtr_true] at hz6
        cbv
        exact .inr ⟨fun l h => by have := (hok l h).1; ((try simp only [nc] at *); omega), l0, cc, rfl, .inl rfl⟩
      rw [qc, gtr_false] at hz6
      have hs18 : 0 < s ∧ s ≤ 262144 := by ((try simp only [nc] at *); omega)
      obtain ⟨ho1, ho2⟩ := hover hs18.1
      have hc1 := hlen1 s ⟨by ((try simp only [nc] at *); omega), by ((try simp only [nc] at *); omega)⟩
      obtain ⟨K, hK⟩ : ∃ K : Nat, K = (BL s).toNat := ⟨_, rfl⟩
      rw [← hK] at ho1 ho2
      obtain ⟨bI, hbI⟩ : ∃ bI : Int, bI = BL s := ⟨_, rfl⟩
      rw [← hbI] at hc1 hK
      have hbI2 := hbr s (by ((try simp only [nc] at *); omega)) (by ((try simp only [nc] at *); omega))
      rw [← hbI] at hbI2
      have hKb : (K : Int) = bI := by ((try simp only [nc] at *); omega)
      have hpK20 : (2 : Int) ^ K ≤ 2 ^ 20 := pow_up (by ((try simp only [nc] at *); omega))
      obtain ⟨pK, hpK⟩ : ∃ pK : Int, pK = 2 ^ K := ⟨_, rfl⟩
      rw [← hpK] at ho1 ho2 hpK20
      have ewb : vw .u64 bI = bI := by rw [qw]; exact wrap_u64 (by ((try simp only [nc] at *); omega)) (by ((try simp only [nc] at *); omega))
      have hbits : (2 : Int) ^ (IntKind.u64).bits = 18446744073709551616 := by decide
      have esl : vb .shl .u64 1 bI = pK := by
        have e : 1 * 2 ^ bI.toNat = pK := by rw [← hK, hpK, Int.one_mul]
        rw [qb, shl_u rfl (by decide) (by show bI ≤ 64; ((try simp only [nc] at *); omega)) (by rw [e, hbits]; ((try simp only [nc] at *); omega)), e]
      obtain ⟨re, hre⟩ : ∃ re : Int, re = pK - s := ⟨_, rfl⟩
      have esb : vb .sub .u64 pK s = re := by rw [qb, hre]; exact wrap_u64 (by ((try simp only [nc] at *); omega)) (by ((try simp only [nc] at *); omega))
      obtain ⟨re1, hre1⟩ : ∃ re1 : Int, re1 = re - 1 := ⟨_, rfl⟩
      have esb1 : vb .sub .u64 re 1 = re1 := by rw [qb, hre1]; exact wrap_u64 (by ((try simp only [nc] at *); omega)) (by ((try simp only [nc] at *); omega))
      have hands := hand re (by ((try simp only [nc] at *); omega)) (by ((try simp only [nc] at *); omega))
      rw [← hre1] at hands
      obtain ⟨an, han⟩ : ∃ an, an = vb .and .u64 re re1 := ⟨_, rfl⟩
      rw [← han] at hands
      cbv
      refine call_con (ρ := []) hc1 ⟨by rfl, by rfl, by rfl, by cbv⟩ ?_
      rintro v H R js2 ⟨rfl, rfl, rfl⟩
      cbv
      rw [ewb, esl, esb]
      refine ⟨⟨by ((try simp only [nc] at *); omega)⟩, ?_⟩
      rw [esb1, ← han]
      generalize hz7 : vc .neq an 0 = z7
      cases z7
      rotate_left
      · rw [qc, neq_true] at hz7
        cbv
        exact .inr ⟨fun l h => by
          obtain ⟨_, _, _, ⟨k, h4, _⟩, _⟩ := hok l h
          refine hz7 (hands.2 ⟨k, ?_⟩)
          rw [hre, hpK, hK, hbI, hs]
          exact h4, l0, cc, rfl, .inl rfl⟩
      rw [qc, neq_false] at hz7
      obtain ⟨kk, hkk⟩ := hands.1 (Classical.not_not.1 hz7)
      have hkb : BL re = kk + 1 := by rw [hkk]; exact hbp kk
      have hkr := hbr re (by ((try simp only [nc] at *); omega)) (by ((try simp only [nc] at *); omega))
      have hc2 := hlen1 re ⟨by ((try simp only [nc] at *); omega), by ((try simp only [nc] at *); omega)⟩
      obtain ⟨w, hw1⟩ : ∃ w : Int, w = (kk : Int) + 1 := ⟨_, rfl⟩
      rw [hkb, ← hw1] at hc2
      have hw8 : isU8 w := by unfold isU8; ((try simp only [nc] at *); omega)
      have eww : vw .u8 w = w := by rw [qw]; exact wrap_u8 (by have := hw8.1; ((try simp only [nc] at *); omega)) (by have := hw8.2; ((try simp only [nc] at *); omega))
      obtain ⟨m, hm0⟩ := hex w
      have hszw := fun c' => hsz w c' m hw8 hm0
      have hposw := hpos w m hm0
      have hkow := fun M h => hko kk M (by ((try simp only [nc] at *); omega)) hj (by ((try simp only [nc] at *); omega)) (by rw [← hs, ← hbI, ← hK, ← hpK, ← hre]; exact hkk) h
      rw [← hw1] at hkow
      have hoku : ∀ l, OK l → l = TK ++ [w] ∧ 0 < m := fun l h => by
        obtain ⟨_, _, _, ⟨k', h4, h5⟩, M, h6⟩ := hok l h
        have : k' = kk := by
          have h7 : (2 : Int) ^ k' = 2 ^ kk := by rw [← h4, ← hkk, hre, hpK, hK, hbI, hs]
          exact pow_inj h7
        subst this
        rw [← hw1] at h5
        subst h5
        exact ⟨rfl, hposw.2 ⟨M, h6⟩⟩
      obtain ⟨L2, hL2⟩ : ∃ L2, L2 = TK ++ [w] := ⟨_, rfl⟩
      have hont : vonto l0 i (vsub [w] 0 1) = L2 := by rw [hL2, ← hTK, qsub, qonto]; rfl
      have hL2n : L2.length = i + 1 := by rw [hL2]; exact htl1 w
      rw [← hL2] at hszw hposw hkow hoku
      have hadd1 : vaddN i 1 = i + 1 := by rw [qaddN]
      obtain ⟨i1, hi1⟩ : ∃ i1, i1 = i + 1 := ⟨_, rfl⟩
      rw [← hi1] at hszw hadd1 hL2n
      have hln1 : vln [w] = 1 := by rw [qln]; rfl
      have hi1b : i1 * 1 ≤ 140737488355328 := by omega
      cbv
      refine call_con (ρ := []) hc2 ⟨by rfl, by rfl, by rfl, by cbv⟩ ?_
      rintro v H R js3 ⟨rfl, rfl, rfl⟩
      cbv
      rw [eww]
      refine ⟨⟨by rw [hadd0, hln1]; exact Nat.le_refl _⟩, ⟨by rw [hvln]; exact hn⟩, ⟨hcc⟩, ⟨by rw [hadd1]; exact hi1b⟩, ?_⟩
      intro c1 js4 hle
      cbv
      rw [hont, hadd1]
      refine call_con (ρ := [(0, .z)]) (hszw c1) ⟨by rfl, by rfl, by rfl, by cbv; exact ⟨view_refl _, trivial⟩⟩ ?_
      rintro v H R js5 ⟨rfl, rfl, rfl⟩
      cbv
      generalize hz8 : vc .gtr m 0 = z8
      cases z8
      · rw [qc, gtr_false] at hz8
        exact .inr ⟨fun l h => hz8 (hoku l h).2, L2, c1, rfl, .inr ⟨i1, rfl⟩⟩
      · rw [qc, gtr_true] at hz8
        obtain ⟨M, hM⟩ := hposw.1 hz8
        subst hL2n
        exact .inl ⟨L2, c1, hkow M hM, rfl, rfl⟩
end Go.Proofs.Ytaaklikigccdfaa
namespace Go.Proofs.Ytaaklikigccdfaa
open Go Go.Sx Go.Proofs
/-! balerref09.whole. -/
set_option maxRecDepth 10000
set_option maxHeartbeats 40000000
theorem OkE.bound {t l : List Int} (h : OkE t l) : smA t ≤ 2048 ∧ ∃ k : Nat, k ≤ 10 ∧ 2 ^ (blen (smA t)).toNat - smA t = 2 ^ k ∧ l = t ++ [(k : Int) + 1] := by
  obtain ⟨h1, h2, h3, ⟨k, h4, rfl⟩, M, hW⟩ := h
  have hl : (t ++ [(k : Int) + 1]).length = t.length + 1 := by simp
  have hg : (t ++ [(k : Int) + 1]).getD t.length 0 = (k : Int) + 1 := by simp [List.getD_eq_getElem?_getD]
  have h5 := hW.2.2.2.1 t.length (by omega)
  rw [hg] at h5
  have h6 := hW.2.2.2.2.2.1
  rw [hl] at h6
  simp only [sm] at h6
  have h7 : sm (t ++ [(k : Int) + 1]) t.length = smA t := sm_ext (fun i hi => by rw [List.getD_eq_getElem?_getD, List.getElem?_append_left hi, ← List.getD_eq_getElem?_getD])
  have h8 := pw_range (w := (t ++ [(k : Int) + 1]).getD t.length 0) (by rw [hg]; omega)
  have h9 : (2 : Int) ^ M ≤ 2 ^ 11 := pow_up hW.2.2.2.2.2.2
  exact ⟨by omega, k, by omega, h4, rfl⟩
theorem refwhole_con (t : List Int) (cap : Nat) (hl : ∀ c ∈ t, isU8 c) :
    Con Try.prog 19 [.slice 0 .z 1 t.length cap] [.ro .u8 t] (fun v H R => R = [] ∧ ((∃ l c', OkE t l ∧ H = [.ro .u8 t, .buf 5 .u8 l c'] ∧ v = .tup [.slice 1 .z 1 l.length c', .bool true]) ∨
      ((∀ l, ¬ OkE t l) ∧ ((H = [.ro .u8 t] ∧ v = .tup [.val (.slice none 0 0), .bool false]) ∨ ∃ l' c' n', H = [.ro .u8 t, .buf 5 .u8 l' c'] ∧ v = .tup [.slice 1 .z 1 n' c', .bool false])))) := by
  have hsz : ∀ (w : Int) (c' : Nat) (m : Int), t.length ≤ 255 → isU8 w → Msz (t ++ [w]) m → Con Try.prog 27 [.slice 0 .z 1 (t.length + 1) c'] [.ro .u8 (t ++ [w])] (fun v H R => v = .int .i64 m ∧ H = [.ro .u8 (t ++ [w])] ∧ R = []) := by
    intro w c' m hn hw hm
    have := refbits9_con (t ++ [w]) c' m (fun c hc => (List.mem_append.1 hc).elim (fun h => hl c h) (fun h => by rw [List.mem_singleton.1 h]; exact hw)) (by rw [List.length_append]; simp; omega) hm
    rw [List.length_append] at this
    exact this
  have hex := fun w => Msz.ex (t ++ [w])
  have hpos : ∀ w m, Msz (t ++ [w]) m → (0 < m ↔ ∃ M, Wt (t ++ [w]) M) := by
    intro w m hm
    rcases hm with ⟨M, hW, rfl⟩ | ⟨h, rfl⟩
    · exact ⟨fun _ => ⟨M, hW⟩, fun _ => by have := hW.pos; omega⟩
    · exact ⟨fun h' => by omega, fun ⟨M, h'⟩ => (h M h').elim⟩
  have hok : ∀ l, OkE t l → t.length ≤ 255 ∧ (∀ i, i < t.length → t.getD i 0 ≤ 11) ∧ 0 < sm t t.length ∧ sm t t.length ≤ 2048 ∧ (∃ k : Nat, k ≤ 10 ∧ 2 ^ (blen (sm t t.length)).toNat - sm t t.length = 2 ^ k ∧ l = t ++ [(k : Int) + 1]) ∧ ∃ M, Wt l M := by
    intro l h
    exact ⟨h.1, h.2.1, h.2.2.1, h.bound.1, h.bound.2, h.2.2.2.2⟩
  have hko : ∀ (k M : Nat), t.length ≤ 255 → (∀ i, i < t.length → t.getD i 0 ≤ 11) → 0 < sm t t.length → 2 ^ (blen (sm t t.length)).toNat - sm t t.length = 2 ^ k → Wt (t ++ [(k : Int) + 1]) M → OkE t (t ++ [(k : Int) + 1]) := by
    intro k M h1 h2 h3 h4 h5
    exact ⟨h1, h2, h3, ⟨k, h4, rfl⟩, M, h5⟩
  have hbo := fun (x : Int) (k : Nat) h0 h1 => @blen_of x k h0 h1
  refine con_gen (con_picks (con_drop (con_walk hmix fn19 ?_)))
  intro vb vc vw vtoN vofN vaddN vsubN vmaxI vminI vcutN vgd vst vln vrep vsub vonto vsplice vstrEq vbyteV vnotB veqB hw qb qc qw qtoN qofN qaddN qsubN qmaxI qminI qcutN qgd qst qln qrep qsub qonto qsplice qstrEq qbyteV qnotB qeqB
  have hm := hmix; generalize Try.prog = P at *
  have hge := getD_u8 hl
  have hsr := fun i => @sm_range t i
  have hs0 : sm t 0 = 0 := rfl
  have hss : ∀ i, sm t (i + 1) = sm t i + pw (t.getD i 0) := fun _ => rfl
  have hpr := @pw_range
  have hpz : ∀ w : Int, w ≤ 0 → pw w = 0 := fun w h => by unfold pw; rw [if_pos h]
  have hpwd : ∀ w : Int, 0 < w → w ≤ 11 → vb .shl .i64 1 (w - 1) = pw w := fun w h0 h1 => by rw [qb, one_shl62 (by omega) (by omega)]; unfold pw; rw [if_neg (by omega)]
  generalize sm t = SM at *
  generalize pw = PW at *
  generalize blen = BL at *
  generalize OkE t = OK at *
  generalize hl0 : t.length = n at *
  have htl1 : ∀ w : Int, (t ++ [w]).length = n + 1 := fun w => by rw [List.length_append, hl0]; rfl
  have hto : ∀ i : Nat, vtoN (i : Int) = i := fun i => by simp only [qtoN, Int.toNat_natCast]
  have hadd0 : ∀ i, vaddN 0 i = i := fun i => by simp only [qaddN, Nat.zero_add]
  have hvln : vln t = n := by simp only [qln, hl0]
  have hvgd : ∀ i, vgd t i = t.getD i 0 := fun i => by simp only [qgd]
  obtain ⟨nI, hnI⟩ : ∃ nI : Int, nI = n := ⟨_, rfl⟩
  have en : vofN n = nI := by rw [hnI, qofN]
  cbv
  simp only [nc] at *
  rw [en]
  generalize hz1 : vc .gtr nI 255 = z1
  cases z1
  rotate_left
  · rw [qc, gtr_true] at hz1
    cbv
    exact ⟨[0], .tup [.val (.slice none 0 0), .bool false], [.ro .u8 t], rfl, rfl, rfl, rfl, ⟨rfl, trivial⟩, rfl, .inr ⟨fun l h => by have := (hok l h).1; ((try simp only [nc] at *); omega), .inl ⟨rfl, rfl⟩⟩⟩
  rw [qc, gtr_false] at hz1
  cbv
  refine loop_fam (α := Int × Int) [12, 13, 14, 15, 16, 17, 18, 19, 20, 21, 22, 23, 24, 25, 26, 27, 28, 29, 30, 31, 32, 33, 34, 35, 36] [] (fun (k, s) => [(5, .int .i64 k), (4, .int .i64 s)]) (fun _ => [])
    (fun (k, s) => ∃ i : Nat, k = i ∧ i ≤ n ∧ s = SM i ∧ ∀ j, j < i → t.getD j 0 ≤ 11) (fun (k, _) => n - k.toNat) hw hm ?_ ?_
  · refine Cv.genAt [5, 4] [] (Cv.fold [12, 13, 14, 15, 16, 17, 18, 19, 20, 21, 22, 23, 24, 25, 26, 27, 28, 29, 30, 31, 32, 33, 34, 35, 36] 1 [] (by exact Nat.le_refl _) (by exact Nat.le_of_ble_eq_true rfl) (by rfl) (by cbv) ?_)
    intro js
    refine ⟨(_, _), ?_, js, rfl⟩
    exact ⟨0, rfl, by ((try simp only [nc] at *); omega), hs0.symm, fun j hj => by ((try simp only [nc] at *); omega)⟩
  · rintro ⟨k, s⟩ js ⟨i, hk, hi, hs, hj⟩
    have hsi := hsr i hj
    cbv
    rw [en]
    generalize hz4 : vc .lss k nI = z4
    cases z4
    rotate_left
    · rw [qc, lss_true] at hz4
      have hlt : i < n := by ((try simp only [nc] at *); omega)
      have hti : vtoN k = i := by rw [hk]; exact hto i
      have hinR : 0 ≤ k ∧ k < (n : Int) := by ((try simp only [nc] at *); omega)
      obtain ⟨k1, hk1⟩ : ∃ k1 : Int, k1 = ((i + 1 : Nat) : Int) := ⟨_, rfl⟩
      have ek : vb .add .i64 k 1 = k1 := by rw [qb, add_i64 (by ((try simp only [nc] at *); omega)) (by ((try simp only [nc] at *); omega))]; ((try simp only [nc] at *); omega)
      have hmu : ∀ _ : Unit, n - k1.toNat < n - k.toNat := fun _ => by ((try simp only [nc] at *); omega)
      have hx := hge i
      have hss1 := hss i
      cbv
      rw [hti, hadd0, hvgd, hvln]
      refine ⟨⟨hinR⟩, ⟨hlt⟩, ⟨hlt⟩, ?_⟩
      generalize hxi : t.getD i 0 = x at *
      generalize hz5 : vc .gtr x 11 = z5
      cases z5
      rotate_left
      · rw [qc, gtr_true] at hz5
        cbv
        exact ⟨[0], .tup [.val (.slice none 0 0), .bool false], [.ro .u8 t], rfl, rfl, rfl, rfl, ⟨rfl, trivial⟩, rfl, .inr ⟨fun l h => by have := (hok l h).2.1 i hlt; rw [hxi] at this; ((try simp only [nc] at *); omega), .inl ⟨rfl, rfl⟩⟩⟩
      rw [qc, gtr_false] at hz5
      have hpx := hpr (w := x) (by ((try simp only [nc] at *); omega))
      have hpz1 := hpz x
      have hpw := hpwd x
      obtain ⟨s1, hs1⟩ : ∃ s1, s1 = SM (i + 1) := ⟨_, rfl⟩
      have es : vb .add .i64 s (PW x) = s1 := by
        rw [qb, hs1, hss1, ← hs]
        exact wrap_i64 (by ((try simp only [nc] at *); omega)) (by ((try simp only [nc] at *); omega))
      have hjj : ∀ j, j < i + 1 → t.getD j 0 ≤ 11 := fun j hj2 => by
        by_cases e : j = i
        · subst e; ((try simp only [nc] at *); omega)
        · exact hj j (by ((try simp only [nc] at *); omega))
      cbv
      rw [hti, hadd0, hvgd, hvln, hxi]
      refine ⟨⟨hinR⟩, ⟨hlt⟩, ⟨hlt⟩, ?_⟩
      generalize hz7 : vc .gtr x 0 = z7
      cases z7
      · rw [qc, gtr_false] at hz7
        have hs1s : s = s1 := by rw [hs1, hss1, hpz1 (by ((try simp only [nc] at *); omega)), hs]; ((try simp only [nc] at *); omega)
        cbv
        rw [ek]
        refine Cv.fold [12, 13, 14, 15, 16, 17, 18, 19, 20, 21, 22, 23, 24, 25, 26, 27, 28, 29, 30, 31, 32, 33, 34, 35, 36] 1 [] (by exact Nat.le_refl _) (by exact Nat.le_of_ble_eq_true rfl) (by rfl) (by cbv) ?_
        intro js
        refine ⟨(_, _), ?_, js, rfl⟩
        exact ⟨⟨i + 1, hk1, hlt, hs1s.trans hs1, hjj⟩, hmu ()⟩
      rw [qc, gtr_true] at hz7
      have esb : vb .sub .u8 x 1 = x - 1 := by rw [qb]; exact wrap_u8 (by ((try simp only [nc] at *); omega)) (by ((try simp only [nc] at *); omega))
      have ewx : vw .u64 (x - 1) = x - 1 := by rw [qw]; exact wrap_u64 (by ((try simp only [nc] at *); omega)) (by ((try simp only [nc] at *); omega))
      have hpw := hpw hz7 (by ((try simp only [nc] at *); omega))
      obtain ⟨xm, hxm⟩ : ∃ xm, xm = x - 1 := ⟨_, rfl⟩
      rw [← hxm] at esb ewx hpw
      cbv
      rw [hti, hadd0, hvgd, hvln, hxi, esb, ewx, hpw, es, ek]
      refine ⟨⟨hinR⟩, ⟨hlt⟩, ⟨hlt⟩, ⟨by ((try simp only [nc] at *); omega)⟩, ?_⟩
      refine Cv.fold [12, 13, 14, 15, 16, 17, 18, 19, 20, 21, 22, 23, 24, 25, 26, 27, 28, 29, 30, 31, 32, 33, 34, 35, 36] 1 [] (by exact Nat.le_refl _) (by exact Nat.le_of_ble_eq_true rfl) (by rfl) (by cbv) ?_
      intro js
      refine ⟨(_, _), ?_, js, rfl⟩
      exact ⟨⟨i + 1, hk1, hlt, hs1, hjj⟩, hmu ()⟩
    · rw [qc, lss_false] at hz4
      obtain rfl : i = n := by ((try simp only [nc] at *); omega)
      cbv
      generalize hz5 : vc .eql s 0 = z5
      cases z5
      rotate_left
      · rw [qc, eql_true] at hz5
        cbv
        exact ⟨[0], .tup [.val (.slice none 0 0), .bool false], [.ro .u8 t], rfl, rfl, rfl, rfl, ⟨rfl, trivial⟩, rfl, .inr ⟨fun l h => by have := (hok l h).2.2.1; ((try simp only [nc] at *); omega), .inl ⟨rfl, rfl⟩⟩⟩
      rw [qc, eql_false] at hz5
      cbv
      generalize hz6 : vc .gtr s 4096 = z6
      cases z6
      rotate_left
      · rw [qc, gtr_true] at hz6
        cbv
        exact ⟨[0], .tup [.val (.slice none 0 0), .bool false], [.ro .u8 t], rfl, rfl, rfl, rfl, ⟨rfl, trivial⟩, rfl, .inr ⟨fun l h => by have := (hok l h).2.2.2.1; ((try simp only [nc] at *); omega), .inl ⟨rfl, rfl⟩⟩⟩
      rw [qc, gtr_false] at hz6
      have hs12 : 0 < s ∧ s ≤ 4096 := by ((try simp only [nc] at *); omega)
      clear hsr hss hpr hpz hpwd hge
      cbv
      refine loop_fam (α := Int) [43, 44, 45, 46, 47] [] (fun a => [(6, .int .i64 a)]) (fun _ => [])
        (fun a => ∃ j : Nat, a = 2 ^ j ∧ j ≤ 13 ∧ (j = 0 ∨ (2 : Int) ^ (j - 1) ≤ s)) (fun a => 8192 - a.toNat) hw hm ?_ ?_
      · refine Cv.genAt [6] [] (Cv.fold [43, 44, 45, 46, 47] 1 [] (by exact Nat.le_refl _) (by exact Nat.le_of_ble_eq_true rfl) (by rfl) (by cbv) ?_)
        intro js
        refine ⟨_, ?_, js, rfl⟩
        exact ⟨0, rfl, by omega, .inl rfl⟩
      · rintro a js2 ⟨j, ha, hj13, hja⟩
        have ha0 : 0 < a := by rw [ha]; exact p2 j
        cbv
        generalize hz7 : vc .leq a s = z7
        cases z7
        rotate_left
        · rw [qc, leq_true] at hz7
          obtain ⟨a2, ha2⟩ : ∃ a2, a2 = a * 2 := ⟨_, rfl⟩
          have ea : vb .mul .i64 a 2 = a2 := by rw [qb, mul_i64 (by omega) (by omega)]; exact ha2.symm
          have hj12 : j + 1 ≤ 13 := by
            apply Classical.byContradiction
            intro h
            have : (2 : Int) ^ 13 ≤ 2 ^ j := pow_up (by omega)
            rw [← ha] at this
            omega
          have hmu : ∀ _ : Unit, 8192 - a2.toNat < 8192 - a.toNat := fun _ => by omega
          cbv
          rw [ea]
          refine Cv.fold [43, 44, 45, 46, 47] 1 [] (by exact Nat.le_refl _) (by exact Nat.le_of_ble_eq_true rfl) (by rfl) (by cbv) ?_
          intro js
          refine ⟨_, ?_, js, rfl⟩
          exact ⟨⟨j + 1, by rw [ha2, ha, p2s], hj12, .inr (by rw [Nat.add_sub_cancel, ← ha]; exact hz7)⟩, hmu ()⟩
        · rw [qc, leq_false] at hz7
          have hj1 : 1 ≤ j := by
            rcases Nat.eq_zero_or_pos j with h | h
            · subst h; rw [ha] at hz7; omega
            · exact h
          have hbl : BL s = j := by
            rcases hja with h | h
            · omega
            · have := hbo s (j - 1) h (by rw [show j - 1 + 1 = j by omega, ← ha]; omega)
              rw [this]; ((try simp only [nc] at *); omega)
          have hKj : (BL s).toNat = j := by rw [hbl]; exact Int.toNat_natCast j
          rw [← hs, hKj, ← ha] at hok hko
          obtain ⟨re, hre⟩ : ∃ re : Int, re = a - s := ⟨_, rfl⟩
          have ha13 : a ≤ 8192 := by
            have : (2 : Int) ^ j ≤ 2 ^ 13 := pow_up hj13
            omega
          have esb : vb .sub .i64 a s = re := by rw [qb, sub_i64 (by omega) (by omega)]; exact hre.symm
          rw [← hre] at hok hko
          cbv
          refine loop_fam (α := Int) [48, 49, 50, 51, 52, 53, 54, 55, 56, 57, 58, 59, 60, 61, 62, 63, 64, 65, 66] [] (fun w => [(7, .int .i64 w)]) (fun _ => [])
            (fun w => ∃ k : Nat, w = (k : Int) + 1 ∧ k ≤ 12 ∧ ∀ k' : Nat, k' < k → re ≠ 2 ^ k') (fun w => 13 - w.toNat) hw hm ?_ ?_
          · refine Cv.genAt [7] [] (Cv.fold [48, 49, 50, 51, 52, 53, 54, 55, 56, 57, 58, 59, 60, 61, 62, 63, 64, 65, 66] 1 [] (by exact Nat.le_refl _) (by exact Nat.le_of_ble_eq_true rfl) (by rfl) (by cbv) ?_)
            intro js
            refine ⟨_, ?_, js, rfl⟩
            exact ⟨0, rfl, by omega, fun k' h => by omega⟩
          · rintro w js3 ⟨k2, hw2, hk12, hkn⟩
            cbv
            generalize hz8 : vc .leq w 12 = z8
            cases z8
            · rw [qc, leq_false] at hz8
              cbv
              exact ⟨[0], .tup [.val (.slice none 0 0), .bool false], [.ro .u8 t], rfl, rfl, rfl, rfl, ⟨rfl, trivial⟩, rfl, .inr ⟨fun l h => by
                obtain ⟨_, _, _, _, ⟨k', h3, h4, _⟩, _⟩ := hok l h
                exact hkn k' (by ((try simp only [nc] at *); omega)) h4, .inl ⟨rfl, rfl⟩⟩⟩
            rw [qc, leq_true] at hz8
            have hk11 : k2 ≤ 11 := by ((try simp only [nc] at *); omega)
            obtain ⟨w1, hw1⟩ : ∃ w1 : Int, w1 = ((k2 : Nat) : Int) := ⟨_, rfl⟩
            have ew1 : vb .sub .i64 w 1 = w1 := by rw [qb, sub_i64 (by ((try simp only [nc] at *); omega)) (by ((try simp only [nc] at *); omega))]; ((try simp only [nc] at *); omega)
            have eww : vw .u64 w1 = w1 := by rw [qw]; exact wrap_u64 (by ((try simp only [nc] at *); omega)) (by ((try simp only [nc] at *); omega))
            obtain ⟨pk, hpk⟩ : ∃ pk : Int, pk = 2 ^ k2 := ⟨_, rfl⟩
            have ehl : vb .shl .i64 1 w1 = pk := by rw [qb, hw1, one_shl62 (by omega) (by omega), hpk]; rfl
            obtain ⟨wn, hwn⟩ : ∃ wn : Int, wn = ((k2 + 1 : Nat) : Int) + 1 := ⟨_, rfl⟩
            have ewn : vb .add .i64 w 1 = wn := by rw [qb, add_i64 (by ((try simp only [nc] at *); omega)) (by ((try simp only [nc] at *); omega))]; ((try simp only [nc] at *); omega)
            have hmu : ∀ _ : Unit, 13 - wn.toNat < 13 - w.toNat := fun _ => by ((try simp only [nc] at *); omega)
            cbv
            rw [esb, ew1, eww, ehl]
            refine ⟨⟨by ((try simp only [nc] at *); omega)⟩, ?_⟩
            generalize hz9 : vc .eql re pk = z9
            cases z9
            · rw [qc, eql_false] at hz9
              cbv
              rw [ewn]
              refine Cv.fold [48, 49, 50, 51, 52, 53, 54, 55, 56, 57, 58, 59, 60, 61, 62, 63, 64, 65, 66] 1 [] (by exact Nat.le_refl _) (by exact Nat.le_of_ble_eq_true rfl) (by rfl) (by cbv) ?_
              intro js
              refine ⟨_, ?_, js, rfl⟩
              exact ⟨⟨k2 + 1, hwn, by omega, fun k' h => by
                by_cases e : k' = k2
                · subst e; rw [← hpk]; exact hz9
                · exact hkn k' (by omega)⟩, hmu ()⟩
            rw [qc, eql_true] at hz9
            have hw8 : isU8 w := by unfold isU8; ((try simp only [nc] at *); omega)
            have ewu : vw .u8 w = w := by rw [qw]; exact wrap_u8 (by ((try simp only [nc] at *); omega)) (by ((try simp only [nc] at *); omega))
            obtain ⟨m, hm0⟩ := hex w
            have hszw := fun c' => hsz w c' m (by ((try simp only [nc] at *); omega)) hw8 hm0
            have hposw := hpos w m hm0
            have hkow := fun M h => hko k2 M (by ((try simp only [nc] at *); omega)) hj (by ((try simp only [nc] at *); omega)) (by rw [hz9, hpk]) h
            rw [← hw2] at hkow
            have hoku : ∀ l, OK l → l = t ++ [w] ∧ 0 < m := fun l h => by
              obtain ⟨_, _, _, _, ⟨k', _, h4, h5⟩, M, h6⟩ := hok l h
              have : k' = k2 := by
                have h7 : (2 : Int) ^ k' = 2 ^ k2 := by rw [← h4, hz9, hpk]
                exact pow_inj h7
              subst this
              rw [← hw2] at h5
              subst h5
              exact ⟨rfl, hposw.2 ⟨M, h6⟩⟩
            obtain ⟨L2, hL2⟩ : ∃ L2, L2 = t ++ [w] := ⟨_, rfl⟩
            have hont1 : vonto [] 0 (vsub t 0 i) = t := by rw [qsub, qonto]; subst hl0; simp
            have hont : vonto t i (vsub [w] 0 1) = L2 := by rw [hL2, qsub, qonto]; subst hl0; simp
            have hL2n : L2.length = i + 1 := by rw [hL2]; exact htl1 w
            rw [← hL2] at hszw hposw hkow hoku
            have hadd1 : vaddN i 1 = i + 1 := by rw [qaddN]
            obtain ⟨i1, hi1⟩ : ∃ i1, i1 = i + 1 := ⟨_, rfl⟩
            rw [← hi1] at hszw hadd1 hL2n
            have hln1 : vln [w] = 1 := by rw [qln]; rfl
            have hln0 : vln [] = 0 := by rw [qln]; rfl
            have hi1b : i1 * 1 ≤ 140737488355328 := by ((try simp only [nc] at *); omega)
            have hib : i * 1 ≤ 140737488355328 := by ((try simp only [nc] at *); omega)
            cbv
            rw [hadd0, hln0]
            refine ⟨⟨by rw [hvln]; exact Nat.le_refl _⟩, ⟨Nat.le_refl _⟩, ⟨Nat.le_refl _⟩, ⟨hib⟩, ?_⟩
            intro c1 js4 hle
            cbv
            rw [ewu, hont1, hadd0, hadd0, hln1, hvln]
            refine ⟨⟨Nat.le_refl _⟩, ⟨Nat.le_refl _⟩, ⟨Nat.le_refl _⟩, ⟨by rw [hadd1]; exact hi1b⟩, ?_⟩
            intro c2 js5 hle2
            cbv
            rw [hont, hadd1]
            refine call_con (ρ := [(1, .z)]) (hszw c2) ⟨by rfl, by rfl, by rfl, by cbv; exact ⟨view_refl _, trivial⟩⟩ ?_
            rintro v H R js6 ⟨rfl, rfl, rfl⟩
            cbv
            generalize hz10 : vc .gtr m 0 = z10
            cases z10
            · rw [qc, gtr_false] at hz10
              exact ⟨[0, 1], .tup [.slice 1 .z 1 i1 c2, .bool false], [.ro .u8 t, .buf 5 .u8 L2 c2], rfl, rfl, rfl, rfl, ⟨rfl, rfl, trivial⟩, rfl, .inr ⟨fun l h => hz10 (hoku l h).2, .inr ⟨L2, c2, i1, rfl, rfl⟩⟩⟩
            · rw [qc, gtr_true] at hz10
              obtain ⟨M, hM⟩ := hposw.1 hz10
              subst hL2n
              exact ⟨[0, 1], .tup [.slice 1 .z 1 L2.length c2, .bool true], [.ro .u8 t, .buf 5 .u8 L2 c2], rfl, rfl, rfl, rfl, ⟨rfl, rfl, trivial⟩, rfl, .inl ⟨L2, c2, hkow M hM, rfl, rfl⟩⟩
end Go.Proofs.Ytaaklikigccdfaa
namespace Go.Proofs.Ytaaklikigccdfaa
open Go Go.Sx Go.Proofs
/-! balerref07.value. -/
set_option maxRecDepth 10000
set_option maxHeartbeats 40000000
theorem refrd (b : List Int) (pos cap bl : Nat) (n : Int) (hbl : bl = b.length) (hby : ∀ x ∈ b, isByte x) (hl : b.length ≤ 2 ^ 50) (hp : pos ≤ 8 * b.length) (hn : 0 ≤ n ∧ n ≤ 56) :
    Con Try.prog 75 [.ptr 0 .z 2 0, .int .i64 n] [.one 156 [.slice 1 .z 1 bl cap, .int .i64 pos], .ro .u8 b]
      (fun v H R => R = [] ∧ ∃ x e pos2, v = .tup [.int .u64 x, .int .i64 e] ∧ pos2 ≤ 8 * b.length ∧
        ((e = 0 ∧ rdN b pos n.toNat = some x ∧ pos2 = pos + n.toNat ∧ 0 ≤ x ∧ x < 2 ^ n.toNat) ∨ (e = 10 ∧ rdN b pos n.toNat = none)) ∧
        H = [.one 156 [.slice 1 .z 1 bl cap, .int .i64 (pos2 : Nat)], .ro .u8 b]) := by
  subst hbl
  refine (refbitsB_con b cap pos n hby hl hp).mono ?_
  rintro v H R ⟨rfl, rfl, rfl⟩
  refine ⟨rfl, _, _, _, rfl, ?_, ?_, rfl⟩
  · unfold rbP
    split
    · omega
    · exact hp
  · unfold rbX rbE rbP rdN
    by_cases hpn : pos + n.toNat ≤ 8 * b.length
    · have hp' : (pos : Int) + n ≤ 8 * b.length := by omega
      have hb := bval_bound (bitL b) (bitL_bit b) pos n.toNat
      have hc : 0 ≤ n ∧ n ≤ 56 ∧ (pos : Int) + n ≤ 8 * b.length := ⟨hn.1, hn.2, hp'⟩
      simp only [if_pos hc, if_pos hn, if_pos hp', if_pos hpn]
      exact .inl ⟨trivial, trivial, trivial, hb⟩
    · have hp' : ¬ (pos : Int) + n ≤ 8 * b.length := by omega
      have hc : ¬ (0 ≤ n ∧ n ≤ 56 ∧ (pos : Int) + n ≤ 8 * b.length) := fun h => hp' h.2.2
      simp only [if_neg hc, if_pos hn, if_neg hp', if_neg hpn]
      exact .inr ⟨trivial, trivial⟩
theorem refvalue_con (b : List Int) (pos cap bl : Nat) (mo : Int) (hbl : bl = b.length) (hby : ∀ x ∈ b, isByte x) (hl : b.length ≤ 2 ^ 50) (hp : pos ≤ 8 * b.length) (hmo : 2 ≤ mo ∧ mo ≤ 4097) :
    Con Try.prog 76 [.ptr 0 .z 2 0, .int .i64 mo] [.one 156 [.slice 1 .z 1 bl cap, .int .i64 pos], .ro .u8 b]
      (fun v H R => R = [] ∧ ∃ x e pos2, v = .tup [.int .i64 x, .int .i64 e] ∧ pos2 ≤ 8 * b.length ∧
        ((e = 0 ∧ (∃ v1, rdN b pos (blen mo - 1).toNat = some v1 ∧ valR b pos mo v1 = some (x, pos2)) ∧ 0 ≤ x ∧ x ≤ mo) ∨
         (e = 10 ∧ (rdN b pos (blen mo - 1).toNat = none ∨ ∃ v1, rdN b pos (blen mo - 1).toNat = some v1 ∧ valR b pos mo v1 = none))) ∧
        H = [.one 156 [.slice 1 .z 1 bl cap, .int .i64 (pos2 : Nat)], .ro .u8 b]) := by
  have hwid := width_con mo (by omega)
  have hmax := blen_max (x := mo) (by omega) (by omega)
  obtain ⟨mk, hmk, hmk1, hmk2⟩ := blen_spec (x := mo) (by omega)
  have hvA := fun v => @valR_low b pos mo v
  have hvB := fun v => @valR_none b pos mo v
  have hvC := fun v top => @valR_some b pos mo v top
  have hrd := fun n h => refrd b pos cap bl n hbl hby hl hp h
  have hrd1 := fun pos h => refrd b pos cap bl 1 hbl hby hl h (by omega)
  refine con_gen (con_cut 2 (by simp) (con_drop (con_walk hmix fn76 ?_)))
  intro vb vc vw vtoN vofN vaddN vsubN vmaxI vminI vcutN vgd vst vln vrep vsub vonto vsplice vstrEq vbyteV vnotB veqB hw qb qc qw qtoN qofN qaddN qsubN qmaxI qminI qcutN qgd qst qln qrep qsub qonto qsplice qstrEq qbyteV qnotB qeqB
  have hm := hmix; generalize Try.prog = P at *
  have h00 : vc .neq 0 0 = false := by rw [qc]; rfl
  have h100 : vc .neq 10 0 = true := by rw [qc]; rfl
  generalize valR b pos mo = VR at *
  generalize blen mo = mb at *
  have ec : vw .u64 mb = mb := by rw [qw]; exact wrap_u64 (by omega) (by omega)
  have ed : vb .shl .i64 1 mb = 2 ^ mb.toNat := by rw [qb, one_shl62 (by omega) (by omega)]
  have ee : vb .sub .i64 mb 1 = mb - 1 := by rw [qb, sub_i64 (by omega) (by omega)]
  have ee2 : vw .u64 (mb - 1) = mb - 1 := by rw [qw]; exact wrap_u64 (by omega) (by omega)
  have ef : vb .shl .i64 1 (mb - 1) = 2 ^ (mb - 1).toNat := by rw [qb, one_shl62 (by omega) (by omega)]
  have hpm : (2 : Int) ^ mb.toNat = 2 ^ (mk + 1) := by rw [hmk]; rfl
  have hmbt : (mb - 1).toNat = mk := by omega
  have hmbt2 : mb.toNat = mk + 1 := by omega
  have hpw2 : (2 : Int) ^ (mk + 1) = 2 * 2 ^ mk := by rw [Int.pow_succ]; omega
  rw [hpm, hpw2] at ed
  rw [hmbt] at ef
  simp only [hmbt, hmbt2, hpw2] at hvA hvB hvC ⊢
  rw [hpw2] at hmk2
  have hqq : (2 : Int) ^ mk ≤ 2 ^ 12 := by exact_mod_cast Nat.pow_le_pow_right (by omega : 0 < 2) (by omega : mk ≤ 12)
  have hrdm := hrd (mb - 1) (by omega)
  rw [hmbt] at hrdm
  have esh : ∀ y : Int, 0 ≤ y → y < 2 → vb .shl .i64 y (mb - 1) = y * 2 ^ mk := by
    intro y h0 h1
    have hcase : y = 0 ∨ y = 1 := by omega
    rcases hcase with rfl | rfl
    · rw [qb]; show IntKind.i64.wrap (0 * 2 ^ _) = _; rw [Int.zero_mul, Int.zero_mul]; exact wrap_i64 (by omega) (by omega)
    · rw [ef, Int.one_mul]
  generalize hq : (2 : Int) ^ mk = q at *
  have eg : vb .sub .i64 (2 * q) 1 = 2 * q - 1 := by rw [qb, sub_i64 (by omega) (by omega)]
  have eh : vb .sub .i64 (2 * q - 1) mo = 2 * q - 1 - mo := by rw [qb, sub_i64 (by omega) (by omega)]
  obtain ⟨tt, htt⟩ : ∃ tt : Int, tt = 2 * q - 1 - mo := ⟨_, rfl⟩
  rw [← htt] at eh
  simp only [← htt] at hvA hvB hvC
  generalize hq21 : 2 * q - 1 = q21 at *
  generalize hq2 : 2 * q = q2 at *
  generalize hmb1 : mb - 1 = mb1 at *
  obtain ⟨p0, hp0⟩ : ∃ p0 : Int, p0 = (pos : Int) := ⟨_, rfl⟩
  rw [← hp0] at hrdm ⊢
  cbv
  refine call_con (ρ := []) hwid ⟨by rfl, by rfl, by rfl, by cbv⟩ ?_
  rintro v H R js3 ⟨rfl, rfl, rfl⟩
  cbv
  rw [ec, ed, eg, eh, ee]
  refine ⟨⟨by omega⟩, ?_⟩
  refine call_con (ρ := [(0, .z), (1, .z)]) hrdm ⟨by rfl, by rfl, by rfl, by cbv; exact ⟨view_refl _, trivial⟩⟩ ?_
  rintro v H R js4 ⟨rfl, v1, e1, pos3, rfl, hp3, hcase, rfl⟩
  cbv
  rcases hcase with ⟨rfl, hrd1', hpos3, hv0, hv1⟩ | ⟨rfl, hrd1'⟩
  rotate_left
  · rw [h100]
    cbv
    exact ⟨_, _, pos3, rfl, hp3, .inr ⟨rfl, .inl hrd1'⟩, rfl⟩
  have ev1 : vw .i64 v1 = v1 := by rw [qw]; exact wrap_i64 (by omega) (by omega)
  rw [h00]
  cbv
  rw [ev1]
  generalize hz7 : vc .lss v1 tt = z7
  cases z7
  rotate_left
  · rw [qc, lss_true] at hz7
    cbv
    rw [ev1]
    exact ⟨_, _, pos3, rfl, hp3, .inl ⟨rfl, ⟨v1, hrd1', by rw [hvA _ (by omega), hpos3]⟩, by omega, by omega⟩, rfl⟩
  rw [qc, lss_false] at hz7
  have hrd2 := hrd1 pos3 hp3
  cbv
  refine call_con (ρ := [(0, .z), (1, .z)]) hrd2 ⟨by rfl, by rfl, by rfl, by cbv; exact ⟨view_refl _, trivial⟩⟩ ?_
  rintro v H R js5 ⟨rfl, top, e2, pos4, rfl, hp4, hcase2, rfl⟩
  cbv
  rcases hcase2 with ⟨rfl, hrd3, hpos4, ht0, ht1⟩ | ⟨rfl, hrd3⟩
  rotate_left
  · rw [h100]
    cbv
    exact ⟨_, _, pos4, rfl, hp4, .inr ⟨rfl, .inr ⟨v1, hrd1', hvB _ (by omega) (by rw [← hpos3]; exact hrd3)⟩⟩, rfl⟩
  have ht2 : top < 2 := ht1
  have et1 : vw .i64 top = top := by rw [qw]; exact wrap_i64 (by omega) (by omega)
  have esht := esh top ht0 ht2
  have hvr := hvC v1 top (by omega) (by rw [← hpos3]; exact hrd3)
  rw [h00]
  cbv
  rw [ev1, et1, ee, ee2, esht]
  have htop : top = 0 ∨ top = 1 := by omega
  rcases htop with rfl | rfl
  · have ea : vb .add .i64 v1 (0 * q) = v1 := by rw [qb, Int.zero_mul, add_i64 (by omega) (by omega), Int.add_zero]
    rw [if_neg (by decide)] at hvr
    rw [ea, ef]
    have hz8 : vc .geq v1 q = false := by rw [qc, geq_false]; omega
    refine ⟨⟨by omega⟩, ⟨by omega⟩, ?_⟩
    rw [hz8]
    cbv
    exact ⟨v1, 0, pos4, rfl, hp4, .inl ⟨rfl, ⟨v1, hrd1', hvr.trans (by rw [show pos + (mk + 1) = pos4 by have : Int.toNat 1 = 1 := rfl; omega])⟩, by omega, by omega⟩, rfl⟩
  · have ea : vb .add .i64 v1 (1 * q) = v1 + q := by rw [qb, Int.one_mul, add_i64 (by omega) (by omega)]
    rw [if_pos rfl] at hvr
    obtain ⟨x, hx⟩ : ∃ x, x = v1 + q := ⟨_, rfl⟩
    rw [← hx] at ea
    have eb : vb .sub .i64 x tt = x - tt := by rw [qb, sub_i64 (by omega) (by omega)]
    obtain ⟨y, hy⟩ : ∃ y, y = x - tt := ⟨_, rfl⟩
    rw [← hy] at eb
    rw [ea, ef]
    have hz8 : vc .geq x q = true := by rw [qc, geq_true]; omega
    refine ⟨⟨by omega⟩, ⟨by omega⟩, ?_⟩
    rw [hz8]
    cbv
    rw [eb]
    exact ⟨y, 0, pos4, rfl, hp4, .inl ⟨rfl, ⟨v1, hrd1', hvr.trans (by rw [show v1 + (q - tt) = y by omega, show pos + (mk + 1) = pos4 by have : Int.toNat 1 = 1 := rfl; omega])⟩, by omega, by omega⟩, rfl⟩
end Go.Proofs.Ytaaklikigccdfaa
namespace Go.Proofs.Ytaaklikigccdfaa
open Go Go.Sx Go.Proofs
/-! balerref07.Read. -/
set_option maxRecDepth 10000
set_option maxHeartbeats 40000000
theorem refread7_con (b : List Int) (cap : Nat) (ml ms : Int) (hby : ∀ x ∈ b, isByte x) (hl : b.length ≤ 140737488355328) (hml : -9223372036854775808 ≤ ml ∧ ml ≤ 9223372036854775807) (hms : -9223372036854775808 ≤ ms ∧ ms ≤ 9223372036854775807)
    (cs0 : List Int) (log0 used0 e0 : Int) (hR : readR b ml ms = (cs0, log0, used0, e0)) :
    Con Try.prog 47 [.slice 0 .z 1 b.length cap, .int .i64 ml, .int .i64 ms] [.ro .u8 b] (fun v H R => R = [] ∧
      ((e0 ≠ 0 ∧ H = [.ro .u8 b] ∧ v = .tup [.val (.slice none 0 0), .int .i64 0, .int .i64 0, .int .i64 e0]) ∨
        (e0 = 0 ∧ ∃ c, H = [.ro .u8 b, .buf 125 .i16 cs0 c] ∧ v = .tup [.slice 1 .z 1 cs0.length c, .int .i64 log0, .int .i64 used0, .int .i64 0]))) := by
  have hrd := @refrd b
  have hrv := @refvalue_con b
  have hparts := refparts_con
  refine con_gen (con_picks (con_drop (con_walk hmix fn47 ?_)))
  intro vb vc vw vtoN vofN vaddN vsubN vmaxI vminI vcutN vgd vst vln vrep vsub vonto vsplice vstrEq vbyteV vnotB veqB hw qb qc qw qtoN qofN qaddN qsubN qmaxI qminI qcutN qgd qst qln qrep qsub qonto qsplice qstrEq qbyteV qnotB qeqB
  have hm := hmix; generalize Try.prog = P at *
  have hR : (if ml < 5 ∨ ml > 12 ∨ ms < 0 ∨ ms > 255 then ([], 0, 0, 2)
      else match rdN b 0 4 with
        | none => ([], 0, 0, 10)
        | some x => if x + 5 > ml then ([], 0, 0, 11) else
          if (readS b ms 600 false (2 ^ (x + 5).toNat) [] 4).1 ≠ 0 then ([], 0, 0, (readS b ms 600 false (2 ^ (x + 5).toNat) [] 4).1)
          else ((readS b ms 600 false (2 ^ (x + 5).toNat) [] 4).2.1, x + 5, ((readS b ms 600 false (2 ^ (x + 5).toNat) [] 4).2.2 + 7 : Int) / 8, 0)) = (cs0, log0, used0, e0) := hR
  generalize hbl : b.length = bl at *
  cbv
  generalize h1 : vc .lss ml 5 = z1
  cases z1
  rotate_left
  · rw [qc, lss_true] at h1
    have he0 : e0 = 2 := by
      rw [if_pos (by omega)] at hR; simp only [Prod.mk.injEq] at hR; exact hR.2.2.2.symm
    subst he0
    cbv
    exact ⟨[0], .tup [.val (.slice none 0 0), .lit .i64 0, .lit .i64 0, .lit .i64 2], [.ro .u8 b], rfl, rfl, rfl, rfl, ⟨rfl, trivial⟩, rfl, .inl ⟨by decide, rfl, rfl⟩⟩
  rw [qc, lss_false] at h1
  cbv
  generalize h2 : vc .gtr ml 12 = z2
  cases z2
  rotate_left
  · rw [qc, gtr_true] at h2
    have he0 : e0 = 2 := by
      rw [if_pos (by omega)] at hR; simp only [Prod.mk.injEq] at hR; exact hR.2.2.2.symm
    subst he0
    cbv
    exact ⟨[0], .tup [.val (.slice none 0 0), .lit .i64 0, .lit .i64 0, .lit .i64 2], [.ro .u8 b], rfl, rfl, rfl, rfl, ⟨rfl, trivial⟩, rfl, .inl ⟨by decide, rfl, rfl⟩⟩
  rw [qc, gtr_false] at h2
  cbv
  generalize h3 : vc .lss ms 0 = z3
  cases z3
  rotate_left
  · rw [qc, lss_true] at h3
    have he0 : e0 = 2 := by
      rw [if_pos (by omega)] at hR; simp only [Prod.mk.injEq] at hR; exact hR.2.2.2.symm
    subst he0
    cbv
    exact ⟨[0], .tup [.val (.slice none 0 0), .lit .i64 0, .lit .i64 0, .lit .i64 2], [.ro .u8 b], rfl, rfl, rfl, rfl, ⟨rfl, trivial⟩, rfl, .inl ⟨by decide, rfl, rfl⟩⟩
  rw [qc, lss_false] at h3
  cbv
  generalize h4 : vc .gtr ms 255 = z4
  cases z4
  rotate_left
  · rw [qc, gtr_true] at h4
    have he0 : e0 = 2 := by
      rw [if_pos (by omega)] at hR; simp only [Prod.mk.injEq] at hR; exact hR.2.2.2.symm
    subst he0
    cbv
    exact ⟨[0], .tup [.val (.slice none 0 0), .lit .i64 0, .lit .i64 0, .lit .i64 2], [.ro .u8 b], rfl, rfl, rfl, rfl, ⟨rfl, trivial⟩, rfl, .inl ⟨by decide, rfl, rfl⟩⟩
  rw [qc, gtr_false] at h4
  rw [if_neg (by omega)] at hR
  have hrd4 := hrd 0 cap bl 4 rfl hby (by omega) (by omega) (by omega)
  simp only [nc] at hrd4
  rw [show ((0 : Nat) : Int) = 0 from rfl] at hrd4
  have h00 : vc .neq 0 0 = false := by rw [qc]; rfl
  have h100 : vc .neq 10 0 = true := by rw [qc]; rfl
  cbv
  refine call_con (ρ := [(1, .z), (0, .z)]) hrd4 ⟨by rfl, by rfl, by rfl, by cbv; exact ⟨view_refl _, trivial⟩⟩ ?_
  rintro v H R js2 ⟨rfl, x, e, pos2, rfl, hp2, hcase, rfl⟩
  cbv
  rcases hcase with ⟨rfl, hrd1, hpos2, hx0, hx1⟩ | ⟨rfl, hrd1⟩
  rotate_left
  · rw [h100]
    have he0 : e0 = 10 := by
      have hrd1 : rdN b 0 4 = none := hrd1
      rw [hrd1] at hR; simp only [Prod.mk.injEq] at hR; exact hR.2.2.2.symm
    subst he0
    cbv
    exact ⟨[0], .tup [.val (.slice none 0 0), .lit .i64 0, .lit .i64 0, .int .i64 10], [.ro .u8 b], rfl, rfl, rfl, rfl, ⟨rfl, trivial⟩, rfl, .inl ⟨by decide, rfl, rfl⟩⟩
  have hrd1 : rdN b 0 4 = some x := hrd1
  have hx1 : x < 16 := hx1
  rw [hrd1] at hR
  simp only at hR
  rw [h00]
  have ew1 : vw .i64 x = x := by rw [qw]; exact wrap_i64 (by omega) (by omega)
  have ea1 : vb .add .i64 x 5 = x + 5 := by rw [qb, add_i64 (by omega) (by omega)]
  obtain ⟨lg, hlg⟩ : ∃ lg : Int, lg = x + 5 := ⟨_, rfl⟩
  rw [← hlg] at ea1 hR
  cbv
  rw [ew1, ea1]
  generalize h5 : vc .gtr lg ml = z5
  cases z5
  rotate_left
  · rw [qc, gtr_true] at h5
    have he0 : e0 = 11 := by
      rw [if_pos (by omega)] at hR; simp only [Prod.mk.injEq] at hR; exact hR.2.2.2.symm
    subst he0
    cbv
    exact ⟨[0], .tup [.val (.slice none 0 0), .lit .i64 0, .lit .i64 0, .lit .i64 11], [.ro .u8 b], rfl, rfl, rfl, rfl, ⟨rfl, trivial⟩, rfl, .inl ⟨by decide, rfl, rfl⟩⟩
  rw [qc, gtr_false] at h5
  rw [if_neg (by omega)] at hR
  have e2 : vw .u64 lg = lg := by rw [qw]; exact wrap_u64 (by omega) (by omega)
  have e3 : vb .shl .i64 1 lg = 2 ^ lg.toNat := by rw [qb, one_shl (by omega) (by omega)]
  have hpl := pow_log (log := lg) (by omega)
  generalize hpw : (2 : Int) ^ lg.toNat = pw at *
  have hfuel : ∃ RES, readS b ms 600 false pw [] 4 = RES := ⟨_, rfl⟩
  obtain ⟨RES, hRES⟩ := hfuel
  rw [hRES] at hR
  have hbad : ∀ E : Int, E ≠ 0 → RES = (E, [], 0) → e0 = E := by
    intro E hE h
    rw [h] at hR
    simp only at hR
    rw [if_pos hE] at hR
    simp only [Prod.mk.injEq] at hR
    exact hR.2.2.2.symm
  have hgood : ∀ cs pos, RES = (0, cs, pos) → cs0 = cs ∧ log0 = lg ∧ used0 = ((pos : Int) + 7) / 8 ∧ e0 = 0 := by
    intro cs pos h
    rw [h] at hR
    simp only at hR
    rw [if_neg (by decide)] at hR
    simp only [Prod.mk.injEq] at hR
    exact ⟨hR.1.symm, hR.2.1.symm, hR.2.2.1.symm, hR.2.2.2.symm⟩
  have hpos4 : pos2 = 4 := hpos2
  clear hR hrd4 hrd1 hpos2
  cbv
  rw [e2, e3]
  refine ⟨⟨by omega⟩, ?_⟩
  refine WX.cv (Cv.nilT 6 125 .i16 (by rfl) (by cbv; try exact ⟨fun _ => rfl, trivial⟩) (Cv.here ?_))
  cbv
  refine loop_fam (α := Nat × Int × List Int × Nat × Nat × Nat × Int) ([13, 14, 15, 16, 17, 18] ++ [53, 54, 55, 56, 57, 58, 59, 60, 61, 62, 63, 64, 65, 66, 67, 68, 69, 70, 71, 72, 73, 74, 75, 76, 77, 78, 79, 80, 81, 82, 83, 84, 85, 86, 87, 88, 89, 90, 91, 92, 93, 94, 95, 96, 97, 98, 99, 100, 101, 102, 103, 104, 105, 106, 107, 108, 109, 110]) [2]
    (fun (f, left, cs, rl, c, pos, pI) => [(12, .int .i64 left), (6, .slice 2 .z 1 rl c)])
    (fun (f, left, cs, rl, c, pos, pI) => [(1, .one 156 [.slice 0 .z 1 bl cap, .int .i64 pI]), (2, .buf 125 .i16 cs c)])
    (fun (f, left, cs, rl, c, pos, pI) => readS b ms f false left cs pos = RES ∧ 600 ≤ f + 2 * cs.length ∧ cs.length ≤ 256 ∧ rl = cs.length ∧ pI = (pos : Nat) ∧ pos ≤ 8 * bl ∧ left ≤ 4096 ∧ 0 ≤ left)
    (fun (f, left, cs, rl, c, pos, pI) => f) hw hm ?_ ?_
  · refine Cv.genAt [] [] (Cv.fold ([13, 14, 15, 16, 17, 18] ++ [53, 54, 55, 56, 57, 58, 59, 60, 61, 62, 63, 64, 65, 66, 67, 68, 69, 70, 71, 72, 73, 74, 75, 76, 77, 78, 79, 80, 81, 82, 83, 84, 85, 86, 87, 88, 89, 90, 91, 92, 93, 94, 95, 96, 97, 98, 99, 100, 101, 102, 103, 104, 105, 106, 107, 108, 109, 110]) 3 [2] (by exact Nat.le_refl _) (by exact Nat.le_of_ble_eq_true rfl) (by rfl) (by cbv) ?_)
    intro js
    refine ⟨(600, _, _, _, _, 4, _), ?_, js, rfl⟩
    exact ⟨hRES, by omega, by simp, rfl, by rw [hpos4]; rfl, by omega, by omega, by omega⟩
  · rintro ⟨f, left, cs, rl, c, pos, pI⟩ js ⟨hS, hf, hcl, hrl, hpI, hpb, hle, hl0⟩
    obtain ⟨g, rfl⟩ : ∃ g, f = g + 1 := ⟨f - 1, by omega⟩
    have hofn : vofN rl = (rl : Int) := by simp only [qofN]
    rw [readS] at hS
    cbv
    split
    rotate_left
    · rename_i hz
      rw [qc, gtr_false] at hz
      rw [if_pos (by omega)] at hS
      obtain ⟨rfl, rfl, hu, he0⟩ := hgood _ _ hS.symm
      subst he0
      have ea7 : vb .add .i64 pI 7 = pI + 7 := by rw [qb, add_i64 (by ((try simp only [nc] at *); omega)) (by ((try simp only [nc] at *); omega))]
      have eq8 : vb .quo .i64 (pI + 7) 8 = used0 := by rw [qb, quo_i64 (by ((try simp only [nc] at *); omega)) (by ((try simp only [nc] at *); omega)) (by omega), hu, hpI]
      cbv
      rw [ea7, eq8, hrl]
      exact ⟨[0, 2], .tup [.slice 1 .z 1 cs0.length c, .int .i64 log0, .int .i64 used0, .lit .i64 0], [.ro .u8 b, .buf 125 .i16 cs0 c], rfl, rfl, rfl, rfl, ⟨rfl, rfl, trivial⟩, rfl, .inr ⟨rfl, c, rfl, rfl⟩⟩
    · rename_i hz
      rw [qc, gtr_true] at hz
      rw [if_neg (by omega)] at hS
      cbv
      generalize hz2 : vc .gtr (vofN rl) ms = z2
      cases z2
      rotate_left
      · rw [qc, gtr_true, hofn] at hz2
        rw [if_pos (by simp only [nc] at *; omega)] at hS
        have he0 := hbad 11 (by decide) hS.symm
        subst he0
        cbv
        exact ⟨[0], .tup [.val (.slice none 0 0), .lit .i64 0, .lit .i64 0, .lit .i64 11], [.ro .u8 b], rfl, rfl, rfl, rfl, ⟨rfl, trivial⟩, rfl, .inl ⟨by decide, rfl, rfl⟩⟩
      rw [qc, gtr_false, hofn] at hz2
      rw [if_neg (by simp only [nc] at *; omega)] at hS
      have ea : vb .add .i64 left 1 = left + 1 := by rw [qb, add_i64 (by omega) (by omega)]
      have hrv1 := hrv pos cap bl (left + 1) rfl hby (by omega) (by omega) (by omega)
      have hS' : ∀ v1 (r : Option (Int × Nat)), rdN b pos (blen (left + 1) - 1).toNat = some v1 → valR b pos (left + 1) v1 = r → (match r with
        | none => (10, [], 0)
        | some (v, pos) => if v - 1 ≠ 0 then readS b ms g false (left - partsN (v - 1)) (cs ++ [v - 1]) pos
          else if ((cs ++ [v - 1]).length : Int) > ms then (11, [], 0) else readS b ms g true (left - partsN (v - 1)) (cs ++ [v - 1]) pos) = RES := by
        intro v1 r h1 h2
        rw [h1] at hS
        simp only [h2] at hS
        exact hS
      have hSn : rdN b pos (blen (left + 1) - 1).toNat = none → (10, [], 0) = RES := by
        intro h1
        rw [h1] at hS
        exact hS
      obtain ⟨mo, hmo⟩ : ∃ mo : Int, mo = left + 1 := ⟨_, rfl⟩
      rw [← hmo] at ea hrv1 hS' hSn
      rw [← hpI] at hrv1
      clear hS
      generalize blen mo = bm at *
      generalize valR b pos mo = VR at *
      cbv
      rw [ea]
      refine call_con (ρ := [(1, .z), (0, .z)]) hrv1 ⟨by rfl, by rfl, by rfl, by cbv; exact ⟨view_refl _, trivial⟩⟩ ?_
      rintro v H R js4 ⟨rfl, vv, e1, pos3, rfl, hp3, hcase, rfl⟩
      cbv
      rcases hcase with ⟨rfl, ⟨v1, hv1, hv2⟩, hvv0, hvv1⟩ | ⟨rfl, hno⟩
      rotate_left
      · have he0 := hbad 10 (by decide) (by
          rcases hno with h | ⟨v1, h1, h2⟩
          · exact (hSn h).symm
          · exact (hS' v1 none h1 h2).symm)
        subst he0
        rw [h100]
        cbv
        exact ⟨[0], .tup [.val (.slice none 0 0), .lit .i64 0, .lit .i64 0, .int .i64 10], [.ro .u8 b], rfl, rfl, rfl, rfl, ⟨rfl, trivial⟩, rfl, .inl ⟨by decide, rfl, rfl⟩⟩
      have hS2 := hS' v1 _ hv1 hv2
      simp only at hS2
      clear hS' hSn
      have el : vb .sub .i64 vv 1 = vv - 1 := by rw [qb, sub_i64 (by omega) (by omega)]
      obtain ⟨cc, hcc⟩ : ∃ cc : Int, cc = vv - 1 := ⟨_, rfl⟩
      rw [← hcc] at el hS2
      have ek : vw .i16 cc = cc := by rw [qw]; exact wrap_i16 (by omega) (by omega)
      have hpc := hparts cc (by unfold isI16; omega) (by omega)
      have hpn : 0 ≤ partsN cc ∧ partsN cc ≤ left := by unfold partsN; split <;> omega
      generalize partsN cc = pc at *
      have em : vb .sub .i64 left pc = left - pc := by rw [qb, sub_i64 (by omega) (by omega)]
      obtain ⟨left2, hl2⟩ : ∃ left2 : Int, left2 = left - pc := ⟨_, rfl⟩
      rw [← hl2] at em hS2
      have hl20 : vc .lss left2 0 = false := by rw [qc, lss_false]; omega
      have hvln : vln cs = rl := by simp only [qln, hrl]
      have hsub : vsub [cc] 0 1 = [cc] := by simp only [qsub]; rfl
      have honto : vonto cs rl [cc] = cs ++ [cc] := by rw [qonto, hrl]; simp
      have hln1 : vln [cc] = 1 := by simp only [qln]; rfl
      have ha1 : vaddN rl 1 = rl + 1 := by simp only [qaddN]
      have ha01 : vaddN 0 1 = 1 := by simp only [qaddN]
      have hrl40 : rl ≤ 256 := by omega
      obtain ⟨cs2, hcs2⟩ : ∃ cs2 : List Int, cs2 = cs ++ [cc] := ⟨_, rfl⟩
      have hcl2 : cs2.length = rl + 1 := by rw [hcs2, List.length_append, hrl]; rfl
      rw [← hcs2] at honto hS2
      obtain ⟨rl2, hrl2⟩ : ∃ rl2 : Nat, rl2 = rl + 1 := ⟨_, rfl⟩
      rw [← hrl2] at ha1 hcl2
      have hofn2 : vofN rl2 = (rl2 : Int) := by simp only [qofN]
      obtain ⟨p3, hp3'⟩ : ∃ p3 : Int, p3 = (pos3 : Nat) := ⟨_, rfl⟩
      rw [h00]
      cbv
      rw [el, ek]
      refine ⟨⟨by rw [ha01, hln1]; exact Nat.le_refl _⟩, ⟨by rw [hvln]; exact Nat.le_refl _⟩, ⟨Nat.le_refl _⟩, ⟨by rw [ha1]; omega⟩, ?_⟩
      intro c4 js6 hle4
      cbv
      refine call_con (ρ := []) hpc ⟨by rfl, by rfl, by rfl, by cbv⟩ ?_
      rintro v H R js7 ⟨rfl, rfl, rfl⟩
      cbv
      rw [em, hsub, honto, ha1, hl20]
      cbv
      generalize hz9 : vc .neq cc 0 = z9
      cases z9
      rotate_left
      · rw [qc, neq_true] at hz9
        rw [if_pos hz9] at hS2
        cbv
        refine Cv.fold ([13, 14, 15, 16, 17, 18] ++ [53, 54, 55, 56, 57, 58, 59, 60, 61, 62, 63, 64, 65, 66, 67, 68, 69, 70, 71, 72, 73, 74, 75, 76, 77, 78, 79, 80, 81, 82, 83, 84, 85, 86, 87, 88, 89, 90, 91, 92, 93, 94, 95, 96, 97, 98, 99, 100, 101, 102, 103, 104, 105, 106, 107, 108, 109, 110]) 3 [2] (by exact Nat.le_refl _) (by exact Nat.le_of_ble_eq_true rfl) (by rfl) (by cbv) ?_
        intro js
        refine ⟨(g, _, _, _, _, pos3, _), ?_, js, rfl⟩
        refine ⟨⟨hS2, by omega, by simp only [nc] at *; omega, hcl2.symm, rfl, by omega, by omega, by omega⟩, ?_⟩
        show g < g + 1
        omega
      rw [qc, neq_false] at hz9
      rw [if_neg hz9] at hS2
      cbv
      generalize hz10 : vc .gtr (vofN rl2) ms = z10
      cases z10
      rotate_left
      · rw [qc, gtr_true, hofn2] at hz10
        rw [if_pos (by simp only [nc] at *; omega)] at hS2
        have he0 := hbad 11 (by decide) hS2.symm
        subst he0
        cbv
        exact ⟨[0], .tup [.val (.slice none 0 0), .lit .i64 0, .lit .i64 0, .lit .i64 11], [.ro .u8 b], rfl, rfl, rfl, rfl, ⟨rfl, trivial⟩, rfl, .inl ⟨by decide, rfl, rfl⟩⟩
      rw [qc, gtr_false, hofn2] at hz10
      rw [if_neg (by simp only [nc] at *; omega)] at hS2
      cbv
      refine loop_fam (α := Nat × List Int × Nat × Nat × Nat × Int) ([16, 17, 18, 55, 72, 75, 84] ++ [88, 89, 90, 91, 92, 93, 94, 95, 96, 97, 98, 99, 100, 101, 102, 103, 104, 105, 106, 107, 108, 109, 110]) [2]
        (fun (f, cs, rl, c, pos, pI) => [(6, .slice 2 .z 1 rl c)])
        (fun (f, cs, rl, c, pos, pI) => [(1, .one 156 [.slice 0 .z 1 bl cap, .int .i64 pI]), (2, .buf 125 .i16 cs c)])
        (fun (f, cs, rl, c, pos, pI) => readS b ms f true left2 cs pos = RES ∧ 601 ≤ f + 2 * cs.length ∧ cs.length ≤ 256 ∧ rl = cs.length ∧ pI = (pos : Nat) ∧ pos ≤ 8 * bl ∧ f ≤ g)
        (fun (f, cs, rl, c, pos, pI) => f) hw hm ?_ ?_
      · refine Cv.fold ([16, 17, 18, 55, 72, 75, 84] ++ [88, 89, 90, 91, 92, 93, 94, 95, 96, 97, 98, 99, 100, 101, 102, 103, 104, 105, 106, 107, 108, 109, 110]) 4 [2] (by exact Nat.le_refl _) (by exact Nat.le_of_ble_eq_true rfl) (by rfl) (by cbv) ?_
        intro js
        refine ⟨(g, _, _, _, pos3, _), ?_, js, rfl⟩
        exact ⟨hS2, by omega, by simp only [nc] at *; omega, hcl2.symm, rfl, by omega, Nat.le_refl _⟩
      · rintro ⟨f5, cs5, rl5, c5, pos5, pI5⟩ js ⟨hS5, hf5a, hcl5, hrl5, hpI5, hpb5, hf5⟩
        clear hS2
        obtain ⟨g5, rfl⟩ : ∃ g5, f5 = g5 + 1 := ⟨f5 - 1, by omega⟩
        rw [readS] at hS5
        have hrd5 := hrd pos5 cap bl 2 rfl hby (by omega) (by omega) (by omega)
        simp only [nc] at hrd5 hpI5
        rw [← hpI5] at hrd5
        cbv
        refine call_con (ρ := [(1, .z), (0, .z)]) hrd5 ⟨by rfl, by rfl, by rfl, by cbv; exact ⟨view_refl _, trivial⟩⟩ ?_
        rintro v H R js8 ⟨rfl, n2, e2, pos6, rfl, hp6, hcase6, rfl⟩
        cbv
        rcases hcase6 with ⟨rfl, hrd6, hpos6, hn0, hn1⟩ | ⟨rfl, hrd6⟩
        rotate_left
        · have hrd6 : rdN b pos5 2 = none := hrd6
          rw [hrd6] at hS5
          have he0 := hbad 10 (by decide) hS5.symm
          subst he0
          rw [h100]
          cbv
          exact ⟨[0], .tup [.val (.slice none 0 0), .lit .i64 0, .lit .i64 0, .int .i64 10], [.ro .u8 b], rfl, rfl, rfl, rfl, ⟨rfl, trivial⟩, rfl, .inl ⟨by decide, rfl, rfl⟩⟩
        have hrd6 : rdN b pos5 2 = some n2 := hrd6
        have hpos6 : pos6 = pos5 + 2 := hpos6
        have hn1 : n2 < 4 := hn1
        rw [hrd6] at hS5
        simp only at hS5
        rw [← hpos6] at hS5
        have ewn : vw .i64 n2 = n2 := by rw [qw]; exact wrap_i64 (by omega) (by omega)
        have hrl5b : rl5 ≤ 256 := by omega
        obtain ⟨nN, hnN⟩ : ∃ nN : Nat, nN = n2.toNat := ⟨_, rfl⟩
        rw [← hnN] at hS5
        have hvln5 : ∀ l, vln l = l.length := fun l => by simp only [qln]
        have haddq : ∀ a b, vaddN a b = a + b := fun a b => by simp only [qaddN]
        have hont5 : ∀ (i r : Nat) (l : List Int), l = cs5 ++ List.replicate i 0 → r = rl5 + i → vonto l r (vsub [0] 0 1) = cs5 ++ List.replicate (i + 1) 0 := by
          intro i r l h1 h2
          rw [qonto, qsub, h1, h2, List.replicate_succ', ← List.append_assoc]
          simp [hrl5]
          rw [List.take_of_length_le (by simp), List.append_assoc]
        rw [h00]
        cbv
        refine loop_fam (α := Int × List Int × Nat × Nat) ([55, 72, 75, 84] ++ [96, 97, 98, 99, 100, 101, 102, 103, 104]) [2]
          (fun (k, cs, rl, c) => [(18, .int .i64 k), (6, .slice 2 .z 1 rl c)]) (fun (k, cs, rl, c) => [(2, .buf 125 .i16 cs c)])
          (fun (k, cs, rl, c) => ∃ i : Nat, k = i ∧ i ≤ nN ∧ cs = cs5 ++ List.replicate i 0 ∧ rl = rl5 + i) (fun (k, cs, rl, c) => nN - k.toNat) hw hm ?_ ?_
        · refine Cv.genAt [18] [] (Cv.fold ([55, 72, 75, 84] ++ [96, 97, 98, 99, 100, 101, 102, 103, 104]) 4 [2] (by exact Nat.le_refl _) (by exact Nat.le_of_ble_eq_true rfl) (by rfl) (by cbv) ?_)
          intro js
          refine ⟨(_, _, _, _), ?_, js, rfl⟩
          exact ⟨0, rfl, by omega, by simp, rfl⟩
        · rintro ⟨k, cs6, rl6, c6⟩ js9 ⟨i, hk, hi, hcs6, hrl6⟩
          cbv
          rw [ewn]
          generalize hz11 : vc .lss k n2 = z11
          cases z11
          rotate_left
          · rw [qc, lss_true] at hz11
            have hlt : i < nN := by ((try simp only [nc] at *); omega)
            obtain ⟨k1, hk1⟩ : ∃ k1 : Int, k1 = ((i + 1 : Nat) : Int) := ⟨_, rfl⟩
            have ek1 : vb .add .i64 k 1 = k1 := by (try simp only [nc] at *); rw [qb, add_i64 (by omega) (by omega)]; omega
            have hmu : ∀ _ : Unit, nN - k1.toNat < nN - k.toNat := fun _ => by ((try simp only [nc] at *); omega)
            have ho := hont5 i rl6 cs6 hcs6 hrl6
            obtain ⟨cs7, hcs7⟩ : ∃ cs7, cs7 = cs5 ++ List.replicate (i + 1) 0 := ⟨_, rfl⟩
            rw [← hcs7] at ho
            have hl6 : cs6.length = rl6 := by rw [hcs6, List.length_append, List.length_replicate, hrl6, hrl5]
            have ha6 := haddq rl6 1
            obtain ⟨rl7, hrl7⟩ : ∃ rl7, rl7 = rl6 + 1 := ⟨_, rfl⟩
            rw [← hrl7] at ha6
            have hln0 : vln [0] = 1 := by rw [hvln5]; rfl
            cbv
            refine ⟨⟨by rw [haddq, hln0]; exact Nat.le_refl _⟩, ⟨by rw [hvln5, hl6]; exact Nat.le_refl _⟩, ⟨Nat.le_refl _⟩, ⟨by rw [ha6]; omega⟩, ?_⟩
            intro c7 js10 hle7
            cbv
            rw [ho, ha6, ek1]
            refine Cv.fold ([55, 72, 75, 84] ++ [96, 97, 98, 99, 100, 101, 102, 103, 104]) 4 [2] (by exact Nat.le_refl _) (by exact Nat.le_of_ble_eq_true rfl) (by rfl) (by cbv) ?_
            intro js
            refine ⟨(_, _, _, _), ?_, js, rfl⟩
            exact ⟨⟨i + 1, hk1, hlt, hcs7, by omega⟩, hmu ()⟩
          · rw [qc, lss_false] at hz11
            have hin : i = nN := by ((try simp only [nc] at *); omega)
            subst hin
            rw [← hcs6] at hS5
            have hl6 : cs6.length = rl6 := by rw [hcs6, List.length_append, List.length_replicate, hrl6, hrl5]
            have hofn6 : vofN rl6 = (rl6 : Int) := by simp only [qofN]
            cbv
            generalize hz12 : vc .gtr (vofN rl6) ms = z12
            cases z12
            rotate_left
            · rw [qc, gtr_true, hofn6] at hz12
              rw [if_pos (by simp only [nc] at *; omega)] at hS5
              have he0 := hbad 11 (by decide) hS5.symm
              subst he0
              cbv
              exact ⟨[0], .tup [.val (.slice none 0 0), .lit .i64 0, .lit .i64 0, .lit .i64 11], [.ro .u8 b], rfl, rfl, rfl, rfl, ⟨rfl, trivial⟩, rfl, .inl ⟨by decide, rfl, rfl⟩⟩
            rw [qc, gtr_false, hofn6] at hz12
            rw [if_neg (by simp only [nc] at *; omega)] at hS5
            cbv
            generalize hz13 : vc .lss n2 3 = z13
            cases z13
            · rw [qc, lss_false] at hz13
              rw [if_pos (by omega)] at hS5
              cbv
              refine Cv.fold ([16, 17, 18, 55, 72, 75, 84] ++ [88, 89, 90, 91, 92, 93, 94, 95, 96, 97, 98, 99, 100, 101, 102, 103, 104, 105, 106, 107, 108, 109, 110]) 4 [2] (by exact Nat.le_refl _) (by exact Nat.le_of_ble_eq_true rfl) (by rfl) (by cbv) ?_
              intro js
              refine ⟨(g5, _, _, _, pos6, _), ?_, js, rfl⟩
              refine ⟨⟨hS5, by omega, by ((try simp only [nc] at *); omega), hl6.symm, rfl, by omega, by omega⟩, ?_⟩
              show g5 < g5 + 1
              omega
            · rw [qc, lss_true] at hz13
              rw [if_neg (by omega)] at hS5
              cbv
              refine Cv.fold ([13, 14, 15, 16, 17, 18] ++ [53, 54, 55, 56, 57, 58, 59, 60, 61, 62, 63, 64, 65, 66, 67, 68, 69, 70, 71, 72, 73, 74, 75, 76, 77, 78, 79, 80, 81, 82, 83, 84, 85, 86, 87, 88, 89, 90, 91, 92, 93, 94, 95, 96, 97, 98, 99, 100, 101, 102, 103, 104, 105, 106, 107, 108, 109, 110]) 3 [2] (by exact Nat.le_refl _) (by exact Nat.le_of_ble_eq_true rfl) (by rfl) (by cbv) ?_
              intro js
              refine ⟨(g5, _, _, _, _, pos6, _), ?_, js, rfl⟩
              refine ⟨⟨hS5, by omega, by ((try simp only [nc] at *); omega), hl6.symm, rfl, by omega, by omega, by omega⟩, ?_⟩
              show g5 < g + 1
              omega
end Go.Proofs.Ytaaklikigccdfaa
namespace Go.Proofs.Ytaaklikigccdfaa
open Go Go.Sx Go.Proofs
/-! states.Read, told shortly; what is read makes numbers of 16 bits. -/
set_option maxRecDepth 10000
set_option maxHeartbeats 40000000
theorem read_ok (b : List Int) (cap : Nat) (ml ms : Int) (hby : ∀ x ∈ b, isByte x) (hl : b.length ≤ 140737488355328) (hml : -9223372036854775808 ≤ ml ∧ ml ≤ 9223372036854775807) (hms : -9223372036854775808 ≤ ms ∧ ms ≤ 9223372036854775807)
    (cs0 : List Int) (log0 used0 : Int) (hR : readR b ml ms = (cs0, log0, used0, 0)) :
    Con Try.prog 43 [.slice 0 .z 1 b.length cap, .int .i64 ml, .int .i64 ms] [.ro .u8 b] (fun v H R => R = [] ∧ ∃ c, v = .tup [.slice 1 .z 1 cs0.length c, .int .i64 log0, .int .i64 used0, .int .i64 0] ∧ H = [.ro .u8 b, .buf 125 .i16 cs0 c]) := by
  have h : Con Try.prog 43 [.slice 0 .z 1 b.length cap, .int .i64 ml, .int .i64 ms] [.ro .u8 b] (fun v H R => R = [] ∧ ∃ c c0 acc hv ai, v = .tup [.slice 5 .z 1 cs0.length c, .int .i64 log0, .int .i64 used0, .int .i64 0] ∧
      H = [.ro .u8 b, .buf 5 .u8 b c0, .one 22 [.slice 1 .z 1 b.length c0], .one 3 [.int .i64 ai], .one 178 [.fn 91 [.ptr 3 .z 1 0, .ptr 2 .z 1 0], .int .u64 acc, .int .i64 hv, .fn 92 [.ptr 2 .z 1 0, .ptr 3 .z 1 0]], .buf 125 .i16 cs0 c]) := by
    refine con_gen (con_cut 6 (by simp) (con_drop ((read_raw b cap ml ms hby hl hml hms cs0 log0 used0 0 hR).mono ?_)))
    rintro v H R ⟨h1, h2, h3, ⟨h4, _⟩ | ⟨_, h5, c, c0, acc, hv, ai, h6, h7⟩⟩
    · exact absurd rfl h4
    · exact ⟨h5, h1, c, c0, acc, hv, ai, h6, h7⟩
  refine con_pick [0, 5] rfl rfl (h.mono ?_)
  rintro v H R ⟨rfl, c, c0, acc, hv, ai, rfl, rfl⟩
  exact ⟨.tup [.slice 1 .z 1 cs0.length c, .int .i64 log0, .int .i64 used0, .int .i64 0], [.ro .u8 b, .buf 125 .i16 cs0 c], rfl, rfl, ⟨rfl, rfl, trivial⟩, rfl, c, rfl, rfl⟩
theorem read_err (b : List Int) (cap : Nat) (ml ms : Int) (hby : ∀ x ∈ b, isByte x) (hl : b.length ≤ 140737488355328) (hml : -9223372036854775808 ≤ ml ∧ ml ≤ 9223372036854775807) (hms : -9223372036854775808 ≤ ms ∧ ms ≤ 9223372036854775807)
    (cs0 : List Int) (log0 used0 e0 : Int) (hR : readR b ml ms = (cs0, log0, used0, e0)) (he : e0 ≠ 0) :
    Con Try.prog 43 [.slice 0 .z 1 b.length cap, .int .i64 ml, .int .i64 ms] [.ro .u8 b] (fun v H R => R = [] ∧ v = .tup [.val (.slice none 0 0), .int .i64 0, .int .i64 0, .int .i64 e0] ∧ H = [.ro .u8 b]) := by
  refine con_gen (con_cut 1 (by simp) (con_drop ((read_raw b cap ml ms hby hl hml hms cs0 log0 used0 e0 hR).mono ?_)))
  rintro v H R ⟨h1, h2, h3, ⟨_, h4⟩ | ⟨h4, _⟩⟩
  · exact ⟨h2, h1, h4, h3⟩
  · exact absurd h4 he
theorem rdN_some {b : List Int} {pos n : Nat} {x : Int} (h : rdN b pos n = some x) : pos + n ≤ 8 * b.length ∧ 0 ≤ x ∧ x < 2 ^ n := by
  unfold rdN at h
  split at h
  · rename_i hp
    have := bval_bound (bitL b) (bitL_bit b) pos n
    rw [Option.some.injEq] at h
    exact ⟨hp, by omega, by omega⟩
  · cases h
theorem valR_range {b : List Int} {pos pos' : Nat} {most v x : Int} (hm : 2 ≤ most ∧ most ≤ 4097) (hr : rdN b pos (blen most - 1).toNat = some v) (h : valR b pos most v = some (x, pos')) : 0 ≤ x ∧ x ≤ 8192 ∧ pos' ≤ 8 * b.length := by
  obtain ⟨h1, h2, h3⟩ := rdN_some hr
  obtain ⟨k, hk, hk1, hk2⟩ := blen_spec (x := most) (by omega)
  have e1 : (blen most - 1).toNat = k := by omega
  have e2 : (blen most).toNat = k + 1 := by omega
  have hp : (2 : Int) ^ (k + 1) = 2 ^ k * 2 := Int.pow_succ _ _
  rw [e1] at h1 h3
  unfold valR at h
  rw [e1, e2, hp] at h
  split at h
  · split at h
    · cases h
    · rename_i top ht
      have h4 := (rdN_some ht).1
      simp only [Option.some.injEq, Prod.mk.injEq] at h
      obtain ⟨h5, h6⟩ := h
      split at h5
      · omega
      · omega
  · simp only [Option.some.injEq, Prod.mk.injEq] at h
    omega
theorem readS_ok (b : List Int) (ms : Int) : ∀ (f : Nat) (fl : Bool) (left : Int) (cs : List Int) (pos : Nat) (cs' : List Int) (pos' : Nat), left ≤ 4096 → (∀ c ∈ cs, isI16 c) → pos ≤ 8 * b.length →
    readS b ms f fl left cs pos = (0, cs', pos') → (∀ c ∈ cs', isI16 c) ∧ pos' ≤ 8 * b.length
  | 0, fl, left, cs, pos, cs', pos', h1, h2, h3, h => by
    simp only [readS, Prod.mk.injEq] at h
    obtain ⟨_, rfl, rfl⟩ := h
    exact ⟨h2, h3⟩
  | f + 1, false, left, cs, pos, cs', pos', h1, h2, h3, h => by
    rw [readS] at h
    split at h
    · simp only [Prod.mk.injEq] at h
      obtain ⟨_, rfl, rfl⟩ := h
      exact ⟨h2, h3⟩
    rename_i hl0
    split at h
    · simp at h
    split at h
    · simp at h
    rename_i v hv
    split at h
    · simp at h
    rename_i x p2 hx
    obtain ⟨h4, h5, h6⟩ := valR_range (by omega) hv hx
    have hcs : ∀ c ∈ cs ++ [x - 1], isI16 c := fun c hc => (List.mem_append.1 hc).elim (h2 c) (fun e => by rw [List.mem_singleton.1 e]; unfold isI16; omega)
    have hpn : 0 ≤ partsN (x - 1) := by unfold partsN; split <;> omega
    split at h
    · exact readS_ok b ms f false _ _ _ cs' pos' (by omega) hcs h6 h
    · split at h
      · simp at h
      · exact readS_ok b ms f true _ _ _ cs' pos' (by omega) hcs h6 h
  | f + 1, true, left, cs, pos, cs', pos', h1, h2, h3, h => by
    rw [readS] at h
    split at h
    · simp at h
    rename_i n hn
    have h4 := (rdN_some hn).1
    have hcs : ∀ c ∈ cs ++ List.replicate n.toNat 0, isI16 c := fun c hc => (List.mem_append.1 hc).elim (h2 c) (fun e => by rw [(List.mem_replicate.1 e).2]; unfold isI16; omega)
    split at h
    · simp at h
    split at h
    · exact readS_ok b ms f true _ _ _ cs' pos' h1 hcs h4 h
    · exact readS_ok b ms f false _ _ _ cs' pos' h1 hcs h4 h
theorem readR_ok {b cs : List Int} {ml ms log used : Int} (h : readR b ml ms = (cs, log, used, 0)) : (∀ c ∈ cs, isI16 c) ∧ 0 ≤ used ∧ used ≤ b.length ∧ 5 ≤ log ∧ log ≤ 12 := by
  unfold readR at h
  split at h
  · simp at h
  rename_i hml
  split at h
  · simp at h
  rename_i x hx
  obtain ⟨h1, h2, h3⟩ := rdN_some hx
  split at h
  · simp at h
  rename_i hxm
  split at h
  · simp only [Prod.mk.injEq] at h
    rename_i he
    exact absurd h.2.2.2 he
  rename_i he
  simp only [Prod.mk.injEq] at h
  obtain ⟨rfl, rfl, rfl, _⟩ := h
  have hpl := pow_log (log := x + 5) (by omega)
  have := readS_ok b ms 600 false _ [] 4 _ _ hpl.2 (by simp) (by omega) (show readS b ms 600 false (2 ^ (x + 5).toNat) [] 4 = (0, (readS b ms 600 false (2 ^ (x + 5).toNat) [] 4).2.1, (readS b ms 600 false (2 ^ (x + 5).toNat) [] 4).2.2) by
    rw [show (0 : Int) = (readS b ms 600 false (2 ^ (x + 5).toNat) [] 4).1 by rw [Decidable.not_not.1 he]])
  refine ⟨this.1, ?_, ?_, by omega, by omega⟩
  · have := this.2; omega
  · have := this.2; omega
end Go.Proofs.Ytaaklikigccdfaa
namespace Go.Proofs.Ytaaklikigccdfaa
open Go Go.Sx Go.Proofs
/-! weights.byStates. -/
set_option maxRecDepth 10000
set_option maxHeartbeats 40000000
/-- Weights told by two states: the one whose turn it is, the other one, the place. -/
def byS (A B C : Nat → Int) (b : List Int) : Nat → Int → Int → Int → List Int → Option (List Int)
  | 0, _, _, _, _ => none
  | f + 1, a, o, p, l => if p - B a.toNat < 0 then some (l ++ [A a.toNat] ++ [A o.toNat]) else byS A B C b f o (C a.toNat + rd b p (B a.toNat).toNat) (p - B a.toNat) (l ++ [A a.toNat])
/-- What bytes tell by two states, in F steps at most. -/
def bst (F : Nat) (b : List Int) : Option (List Int) :=
  match readR b 6 11 with
  | (cs, log, used, e) => if e ≠ 0 then none else if ¬ Right cs log then none else if (b.drop used.toNat).getLastD 0 = 0 then none
    else if markAt (b.drop used.toNat) - log - log < 0 then none
    else byS (symT cs (2 ^ log.toNat)) (tabB cs log (2 ^ log.toNat) (2 ^ log.toNat : Int).toNat) (tabC cs log (2 ^ log.toNat) (2 ^ log.toNat : Int).toNat) (b.drop used.toNat) F
      (rd (b.drop used.toNat) (markAt (b.drop used.toNat)) log.toNat) (rd (b.drop used.toNat) (markAt (b.drop used.toNat) - log) log.toNat) (markAt (b.drop used.toNat) - log - log) []
theorem byS_u8 {A B C : Nat → Int} {b : List Int} (hA : ∀ k, isU8 (A k)) : ∀ (F : Nat) (a o p : Int) (l L : List Int), (∀ c ∈ l, isU8 c) → byS A B C b F a o p l = some L → (∀ c ∈ L, isU8 c) ∧ L.length ≤ l.length + F + 1
  | 0, a, o, p, l, L, hl, h => by simp [byS] at h
  | f + 1, a, o, p, l, L, hl, h => by
    have hl1 : ∀ c ∈ l ++ [A a.toNat], isU8 c := fun c hc => (List.mem_append.1 hc).elim (hl c) (fun e => by rw [List.mem_singleton.1 e]; exact hA _)
    simp only [byS] at h
    split at h
    · rw [Option.some.injEq] at h
      subst h
      refine ⟨fun c hc => (List.mem_append.1 hc).elim (hl1 c) (fun e => by rw [List.mem_singleton.1 e]; exact hA _), ?_⟩
      simp
    · have := byS_u8 hA f _ _ _ _ L hl1 h
      refine ⟨this.1, ?_⟩
      have h2 := this.2
      rw [List.length_append] at h2
      simp at h2
      omega
theorem symT_u8 {cs : List Int} {log : Int} (hR : Right cs log) (size : Int) (k : Nat) : isU8 (symT cs size k) := by
  have h := symT_range (l := cs) size (by have := hR.2.2.1; omega) k
  have := hR.2.2.2.1
  unfold isU8
  omega
theorem bst_u8 {F : Nat} {b L : List Int} (h : bst F b = some L) : (∀ c ∈ L, isU8 c) ∧ L.length ≤ F + 1 := by
  unfold bst at h
  generalize hRR : readR b 6 11 = r at h
  obtain ⟨cs, log, used, e⟩ := r
  simp only at h
  split at h
  · cases h
  split at h
  · cases h
  rename_i hR
  split at h
  · cases h
  split at h
  · cases h
  have := byS_u8 (symT_u8 (Decidable.not_not.1 hR) _) F _ _ _ _ L (by simp) h
  simpa using this
theorem isByte_drop {b : List Int} (hby : ∀ x ∈ b, isByte x) (u : Nat) : ∀ x ∈ b.drop u, isByte x := fun x hx => hby x (List.mem_of_mem_drop hx)
theorem view_drop (b : List Int) (u cap : Nat) (hu : u ≤ b.length) (hc : b.length ≤ cap) : View (if cap = u then 0 else 0 + u) (b.drop u) b := by
  refine ⟨?_, fun i hi => ?_⟩
  · rw [List.length_drop]; split <;> omega
  · rw [List.length_drop] at hi
    rw [if_neg (by omega)]
    rw [List.getD_eq_getElem?_getD, List.getD_eq_getElem?_getD, List.getElem?_drop, Nat.zero_add]
theorem bystates_con (b : List Int) (cap : Nat) (hby : ∀ x ∈ b, isByte x) (hl : b.length ≤ 1000000) (hcap : b.length ≤ cap) :
    Con Try.prog 16 [.slice 0 .z 1 b.length cap] [.ro .u8 b] (fun v H R => R = [] ∧ ((bst 256 b = none ∧ H = [.ro .u8 b] ∧ v = .tup [.val (.slice none 0 0), .bool false]) ∨
      ∃ L c', bst 256 b = some L ∧ H = [.ro .u8 b, .buf 5 .u8 L c'] ∧ v = .tup [.slice 1 .z 1 L.length c', .bool true])) := by
  obtain ⟨⟨cs, log, used, e⟩, hRR⟩ : ∃ r, readR b 6 11 = r := ⟨_, rfl⟩
  have hres : bst 256 b = (if e ≠ 0 then none else if ¬ Right cs log then none else if (b.drop used.toNat).getLastD 0 = 0 then none
    else if markAt (b.drop used.toNat) - log - log < 0 then none
    else byS (symT cs (2 ^ log.toNat)) (tabB cs log (2 ^ log.toNat) (2 ^ log.toNat : Int).toNat) (tabC cs log (2 ^ log.toNat) (2 ^ log.toNat : Int).toNat) (b.drop used.toNat) 256
      (rd (b.drop used.toNat) (markAt (b.drop used.toNat)) log.toNat) (rd (b.drop used.toNat) (markAt (b.drop used.toNat) - log) log.toNat) (markAt (b.drop used.toNat) - log - log) []) := by
    unfold bst; rw [hRR]
  by_cases he : e ≠ 0
  · have h1 := read_err b cap 6 11 hby (by omega) (by omega) (by omega) cs log used e hRR he
    rw [if_pos he] at hres
    refine con_gen (con_picks (con_drop (con_walk hmix fn16 ?_)))
    intro vb vc vw vtoN vofN vaddN vsubN vmaxI vminI vcutN vgd vst vln vrep vsub vonto vsplice vstrEq vbyteV vnotB veqB hw qb qc qw qtoN qofN qaddN qsubN qmaxI qminI qcutN qgd qst qln qrep qsub qonto qsplice qstrEq qbyteV qnotB qeqB
    have hm := hmix; generalize Try.prog = P at *
    generalize b.length = bl at *
    generalize bst 256 b = RES at *
    have hz : vc .neq e 0 = true := by rw [qc, neq_true]; exact he
    cbv
    refine call_con (ρ := [(0, .z)]) h1 ⟨by rfl, by rfl, by rfl, by cbv; exact ⟨view_refl _, trivial⟩⟩ ?_
    rintro v H R js ⟨rfl, rfl, rfl⟩
    cbv
    rw [hz]
    cbv
    exact ⟨[0], .tup [.val (.slice none 0 0), .bool false], [.ro .u8 b], rfl, rfl, rfl, rfl, ⟨rfl, trivial⟩, rfl, .inl ⟨hres, rfl, rfl⟩⟩
  have he0 : e = 0 := Decidable.not_not.1 he
  subst he0
  rw [if_neg he] at hres
  clear he
  have h1 := read_ok b cap 6 11 hby (by omega) (by omega) (by omega) cs log used hRR
  obtain ⟨hcs, hu0, hu1, hlg0, hlg1⟩ := readR_ok hRR
  by_cases hR : Right cs log
  rotate_left
  · have h2 := fun c => table_bad cs log c hcs (by omega) hR
    rw [if_pos hR] at hres
    refine con_gen (con_picks (con_drop (con_walk hmix fn16 ?_)))
    intro vb vc vw vtoN vofN vaddN vsubN vmaxI vminI vcutN vgd vst vln vrep vsub vonto vsplice vstrEq vbyteV vnotB veqB hw qb qc qw qtoN qofN qaddN qsubN qmaxI qminI qcutN qgd qst qln qrep qsub qonto qsplice qstrEq qbyteV qnotB qeqB
    have hm := hmix; generalize Try.prog = P at *
    generalize b.length = bl at *
    generalize cs.length = cl at *
    generalize bst 256 b = RES at *
    have h00 : vc .neq 0 0 = false := by rw [qc]; rfl
    have h70 : vc .neq 70 0 = true := by rw [qc]; rfl
    cbv
    refine call_con (ρ := [(0, .z)]) h1 ⟨by rfl, by rfl, by rfl, by cbv; exact ⟨view_refl _, trivial⟩⟩ ?_
    rintro v H R js ⟨rfl, c1, rfl, rfl⟩
    cbv
    rw [h00]
    cbv
    refine call_con (ρ := [(1, .z)]) (h2 c1) ⟨by rfl, by rfl, by rfl, by cbv; exact ⟨view_refl _, trivial⟩⟩ ?_
    rintro v H R js ⟨rfl, rfl, rfl⟩
    cbv
    rw [h70]
    cbv
    exact ⟨[0], .tup [.val (.slice none 0 0), .bool false], [.ro .u8 b], rfl, rfl, rfl, rfl, ⟨rfl, trivial⟩, rfl, .inl ⟨hres, rfl, rfl⟩⟩
  rw [if_neg (fun h => h hR)] at hres
  have h2 := fun c => table_ok cs log c hcs (by omega) hR
  obtain ⟨u, hu⟩ : ∃ u : Nat, used = u := ⟨used.toNat, by omega⟩
  subst hu
  rw [Int.toNat_natCast] at hres
  have hvd := view_drop b u cap (by omega) hcap
  have hbd := isByte_drop hby u
  have hbl' : (b.drop u).length = b.length - u := List.length_drop
  by_cases hla : (b.drop u).getLastD 0 = 0
  · have h3 := fun c => new_bad (b.drop u) c hla (by omega)
    rw [if_pos hla] at hres
    refine con_gen (con_picks (con_drop (con_walk hmix fn16 ?_)))
    intro vb vc vw vtoN vofN vaddN vsubN vmaxI vminI vcutN vgd vst vln vrep vsub vonto vsplice vstrEq vbyteV vnotB veqB hw qb qc qw qtoN qofN qaddN qsubN qmaxI qminI qcutN qgd qst qln qrep qsub qonto qsplice qstrEq qbyteV qnotB qeqB
    have hm := hmix; generalize Try.prog = P at *
    generalize b.drop u = b' at *
    rw [hbl'] at h3
    generalize hbl : b.length = bl at *
    generalize cs.length = cl at *
    generalize bst 256 b = RES at *
    generalize (2 ^ log.toNat : Int).toNat = N at *
    generalize symT cs (2 ^ log.toNat) = A at *
    generalize tabB cs log (2 ^ log.toNat) N = B at *
    generalize tabC cs log (2 ^ log.toNat) N = C at *
    have h00 : vc .neq 0 0 = false := by rw [qc]; rfl
    have htu : vtoN (u : Int) = u := by rw [qtoN]; exact Int.toNat_natCast u
    have hcu : vcutN 0 u cap = if cap = u then 0 else 0 + u := by rw [qcutN]
    have hsu : vsubN bl u = bl - u := by rw [qsubN]
    obtain ⟨uI, huI⟩ : ∃ uI : Int, uI = (u : Int) := ⟨_, rfl⟩
    rw [← huI] at h1 htu hu0 hu1
    rw [← hcu] at hvd
    rw [← hsu] at h3
    obtain ⟨o1, ho1⟩ : ∃ o1, o1 = vcutN 0 u cap := ⟨_, rfl⟩
    obtain ⟨n1, hn1⟩ : ∃ n1, n1 = vsubN bl u := ⟨_, rfl⟩
    rw [← ho1] at hvd
    rw [← hn1] at h3
    cbv
    refine call_con (ρ := [(0, .z)]) h1 ⟨by rfl, by rfl, by rfl, by cbv; exact ⟨view_refl _, trivial⟩⟩ ?_
    rintro v H R js ⟨rfl, c1, rfl, rfl⟩
    cbv
    rw [h00]
    cbv
    refine call_con (ρ := [(1, .z)]) (h2 c1) ⟨by rfl, by rfl, by rfl, by cbv; exact ⟨view_refl _, trivial⟩⟩ ?_
    rintro v H R js ⟨rfl, rfl, rfl⟩
    cbv
    rw [h00]
    cbv
    rw [htu, ← ho1, ← hn1]
    refine ⟨fun _ => rfl, ⟨hu0, hu1⟩, ?_⟩
    refine call_con (ρ := [(0, .n o1)]) (h3 (vsubN cap u)) ⟨by rfl, by rfl, by rfl, by cbv; exact ⟨fun _ => rfl, hvd, trivial⟩⟩ ?_
    rintro v H R js ⟨rfl, rfl, rfl⟩
    cbv
    refine ⟨fun _ => rfl, ?_⟩
    exact ⟨[0], .tup [.val (.slice none 0 0), .bool false], [.ro .u8 b], rfl, rfl, rfl, rfl, ⟨rfl, trivial⟩, rfl, .inl ⟨hres, rfl, rfl⟩⟩
  rw [if_neg hla] at hres
  have h3 := fun c => new_good (b.drop u) c hla hbd (by omega)
  obtain ⟨P0, hP0, hP0l, _, _⟩ := markAt_spec (b.drop u) hla hbd
  have hmk : 8 * (((b.drop u).length : Int) - 1) + (len8 ((b.drop u).getLastD 0) - 1) = P0 := hP0
  rw [hmk] at h3
  rw [hP0] at hres
  have hpl := pow_log (log := log) ⟨hlg0, hlg1⟩
  obtain ⟨N, hN⟩ : ∃ N : Nat, (2 ^ log.toNat : Int) = N := ⟨(2 ^ log.toNat : Int).toNat, by omega⟩
  have hNt : (2 ^ log.toNat : Int).toNat = N := by omega
  have hcell : ∀ k : Nat, k < N → 0 ≤ tabB cs log (2 ^ log.toNat) N k ∧ tabB cs log (2 ^ log.toNat) N k ≤ 12 ∧ 0 ≤ tabC cs log (2 ^ log.toNat) N k ∧ tabC cs log (2 ^ log.toNat) N k + 2 ^ (tabB cs log (2 ^ log.toNat) N k).toNat ≤ N := by
    intro k hk
    obtain ⟨bb, q1, q2, q3, q4, _⟩ := cell_in hR rfl hN hk
    rw [q2, Int.toNat_natCast, ← hN]
    exact ⟨by omega, by omega, q3, q4⟩
  have hbits : ∀ (c : Nat) (p n : Int), -100 ≤ p → p ≤ 8 * (b.drop u).length → 0 ≤ n → n ≤ 12 → Con Try.prog 41 [.ptr 0 .z 2 0, .int .i64 n] [.one 140 [.slice 1 .z 1 (b.drop u).length c, .int .i64 p], .ro .u8 (b.drop u)]
      (fun v H R => v = .int .u64 (rd (b.drop u) p n.toNat) ∧ R = [] ∧ H = [.one 140 [.slice 1 .z 1 (b.drop u).length c, .int .i64 (p - n)], .ro .u8 (b.drop u)]) := by
    intro c p n h1 h2 h3 h4
    have := bits_con (b.drop u) c p n hbd ⟨by omega, h2⟩ (by omega)
    have e1 : clampN n = n.toNat := by unfold clampN; rw [if_neg (by omega), if_neg (by omega)]
    have e2 : floorP (p - (n.toNat : Nat)) = p - n := by unfold floorP; rw [if_neg (by omega)]; omega
    rw [e1, e2] at this
    exact this
  have hleft := fun c p => left_con (b.drop u) (b.drop u).length c p
  have hrb := fun p n => rd_bound (b.drop u) p n
  have hAu := symT_u8 hR (2 ^ log.toNat)
  rw [hNt] at hres h2
  have ha0 := hrb P0 log.toNat
  have ho0 := hrb (P0 - log) log.toNat
  rw [hN] at ha0 ho0
  refine con_gen (con_picks (con_drop (con_walk hmix fn16 ?_)))
  intro vb vc vw vtoN vofN vaddN vsubN vmaxI vminI vcutN vgd vst vln vrep vsub vonto vsplice vstrEq vbyteV vnotB veqB hw qb qc qw qtoN qofN qaddN qsubN qmaxI qminI qcutN qgd qst qln qrep qsub qonto qsplice qstrEq qbyteV qnotB qeqB
  have f40 := fn40
  have hm := hmix; generalize Try.prog = P at *
  generalize b.drop u = b' at *
  rw [hbl'] at h3
  simp only [hbl'] at hbits hleft
  generalize hbl : b.length = bl at *
  generalize cs.length = cl at *
  generalize bst 256 b = RES at *
  generalize symT cs (2 ^ log.toNat) = A at *
  generalize tabB cs log (2 ^ log.toNat) N = B at *
  generalize tabC cs log (2 ^ log.toNat) N = C at *
  have hby0 : ∀ a o p l, byS A B C b' 0 a o p l = none := fun _ _ _ _ => rfl
  have hbyS : ∀ f a o p l, byS A B C b' (f + 1) a o p l = if p - B a.toNat < 0 then some (l ++ [A a.toNat] ++ [A o.toNat]) else byS A B C b' f o (C a.toNat + rd b' p (B a.toNat).toNat) (p - B a.toNat) (l ++ [A a.toNat]) := fun _ _ _ _ _ => rfl
  generalize byS A B C b' = BY at *
  generalize rd b' = RD at *
  have h00 : vc .neq 0 0 = false := by rw [qc]; rfl
  have htu : vtoN (u : Int) = u := by rw [qtoN]; exact Int.toNat_natCast u
  have hcu : vcutN 0 u cap = if cap = u then 0 else 0 + u := by rw [qcutN]
  have hsu : vsubN bl u = bl - u := by rw [qsubN]
  obtain ⟨uI, huI⟩ : ∃ uI : Int, uI = (u : Int) := ⟨_, rfl⟩
  rw [← huI] at h1 htu hu0 hu1
  rw [← hcu] at hvd
  rw [← hsu] at h3
  simp only [← hsu] at hbits hleft
  obtain ⟨o1, ho1⟩ : ∃ o1, o1 = vcutN 0 u cap := ⟨_, rfl⟩
  obtain ⟨n1, hn1⟩ : ∃ n1, n1 = vsubN bl u := ⟨_, rfl⟩
  rw [← ho1] at hvd
  rw [← hn1] at h3
  simp only [← hn1] at hbits hleft
  obtain ⟨pI, hpI⟩ : ∃ pI : Int, pI = (P0 : Int) := ⟨_, rfl⟩
  rw [← hpI] at h3 hres ha0 ho0
  obtain ⟨a0, ha0'⟩ : ∃ a0, a0 = RD pI log.toNat := ⟨_, rfl⟩
  obtain ⟨o0, ho0'⟩ : ∃ o0, o0 = RD (pI - log) log.toNat := ⟨_, rfl⟩
  rw [← ha0', ← ho0'] at hres
  rw [← ha0'] at ha0
  rw [← ho0'] at ho0
  obtain ⟨p1, hp1⟩ : ∃ p1, p1 = pI - log := ⟨_, rfl⟩
  obtain ⟨p2, hp2⟩ : ∃ p2, p2 = p1 - log := ⟨_, rfl⟩
  rw [← hp1] at ho0' hres
  rw [← hp2] at hres
  have hpb : pI < 8 * (n1 : Int) := by omega
  have ewa : vw .i64 a0 = a0 := by rw [qw]; exact wrap_i64 (by omega) (by omega)
  have ewo : vw .i64 o0 = o0 := by rw [qw]; exact wrap_i64 (by omega) (by omega)
  cbv
  refine call_con (ρ := [(0, .z)]) h1 ⟨by rfl, by rfl, by rfl, by cbv; exact ⟨view_refl _, trivial⟩⟩ ?_
  rintro v H R js ⟨rfl, c1, rfl, rfl⟩
  cbv
  rw [h00]
  cbv
  refine call_con (ρ := [(1, .z)]) (h2 c1) ⟨by rfl, by rfl, by rfl, by cbv; exact ⟨view_refl _, trivial⟩⟩ ?_
  rintro v H R js ⟨rfl, rfl, rfl⟩
  cbv
  rw [h00]
  cbv
  rw [htu, ← ho1, ← hn1]
  refine ⟨fun _ => rfl, ⟨hu0, hu1⟩, ?_⟩
  refine CallX.cv f40.go (Cv.arrEq 2 (fun m => [.int .u8 (A m), .int .u8 (B m), .int .u16 (C m)]) (by rfl) (by intro i; rfl) (Cv.here ?_)) (by rfl)
  refine call_con (ρ := [(0, .n o1)]) (h3 (vsubN cap u)) ⟨by rfl, by rfl, by rfl, by cbv; exact ⟨fun _ => rfl, hvd, trivial⟩⟩ ?_
  rintro v H R js ⟨rfl, rfl, c2, rfl⟩
  cbv
  have hb1 := hbits c2 pI log (by ((try simp only [nc] at *); omega)) (by ((try simp only [nc] at *); omega)) (by ((try simp only [nc] at *); omega)) (by ((try simp only [nc] at *); omega))
  have hb2 := hbits c2 p1 log (by ((try simp only [nc] at *); omega)) (by ((try simp only [nc] at *); omega)) (by ((try simp only [nc] at *); omega)) (by ((try simp only [nc] at *); omega))
  rw [← ha0', ← hp1] at hb1
  rw [← ho0', ← hp2] at hb2
  have hlf := hleft c2 p2
  refine ⟨fun _ => rfl, ?_⟩
  refine call_con (ρ := [(4, .z), (3, .z)]) hb1 ⟨by rfl, by rfl, by rfl, by cbv; exact ⟨fun _ => rfl, view_refl _, trivial⟩⟩ ?_
  rintro v H R js ⟨rfl, rfl, rfl⟩
  cbv
  rw [ewa]
  refine ⟨fun _ => rfl, ?_⟩
  refine call_con (ρ := [(4, .z), (3, .z)]) hb2 ⟨by rfl, by rfl, by rfl, by cbv; exact ⟨fun _ => rfl, view_refl _, trivial⟩⟩ ?_
  rintro v H R js ⟨rfl, rfl, rfl⟩
  cbv
  rw [ewo]
  refine ⟨fun _ => rfl, ?_⟩
  refine call_con (ρ := [(4, .z), (3, .z)]) hlf ⟨by rfl, by rfl, by rfl, by cbv; exact ⟨fun _ => rfl, view_refl _, trivial⟩⟩ ?_
  rintro v H R js ⟨rfl, rfl, rfl⟩
  cbv
  refine ⟨fun _ => rfl, ?_⟩
  generalize hz1 : vc .lss p2 0 = z1
  cases z1
  rotate_left
  · rw [qc, lss_true] at hz1
    rw [if_pos hz1] at hres
    cbv
    exact ⟨[0], .tup [.val (.slice none 0 0), .bool false], [.ro .u8 b], rfl, rfl, rfl, rfl, ⟨rfl, trivial⟩, rfl, .inl ⟨hres, rfl, rfl⟩⟩
  rw [qc, lss_false] at hz1
  rw [if_neg hz1] at hres
  clear hb1 hb2 hlf
  cbv
  refine WX.cv (Cv.nilT 12 5 .u8 (by rfl) (by cbv; exact ⟨fun _ => rfl, trivial⟩) (Cv.here ?_))
  cbv
  refine loop_fam (α := Int × Int × Int × Nat × Nat × List Int) ([13] ++ [51, 52, 53, 54, 55, 56, 57, 58, 59, 60, 61, 62, 63, 64, 65, 66, 67, 68, 69, 70, 71, 72, 73, 74, 75, 76, 77, 78, 79, 80, 81, 82, 83, 84]) [5]
    (fun (a, o, p, n, c, L) => [(10, .int .i64 a), (11, .int .i64 o), (12, .slice 5 .z 1 n c)]) (fun (a, o, p, n, c, L) => [(4, .one 140 [.slice 3 .z 1 n1 c2, .int .i64 p]), (5, .buf 5 .u8 L c)])
    (fun (a, o, p, n, c, L) => ∃ f : Nat, f + n = 256 ∧ RES = BY f a o p L ∧ n = L.length ∧ 0 ≤ a ∧ a < N ∧ 0 ≤ o ∧ o < N ∧ 0 ≤ p ∧ p ≤ pI ∧ n ≤ c) (fun (a, o, p, n, c, L) => 257 - n) hw hm ?_ ?_
  · refine Cv.genAt [] [] (Cv.fold ([13] ++ [51, 52, 53, 54, 55, 56, 57, 58, 59, 60, 61, 62, 63, 64, 65, 66, 67, 68, 69, 70, 71, 72, 73, 74, 75, 76, 77, 78, 79, 80, 81, 82, 83, 84]) 6 [5] (by exact Nat.le_refl _) (by exact Nat.le_of_ble_eq_true rfl) (by rfl) (by cbv) ?_)
    intro js
    refine ⟨(_, _, _, _, _, _), ?_, js, rfl⟩
    exact ⟨256, rfl, hres, rfl, ha0.1, by omega, ho0.1, by omega, by omega, by omega, Nat.le_refl _⟩
  · rintro ⟨a, o, p, n, c, L⟩ js ⟨f, hfn, hRS, hnL, ha1, ha2, ho1', ho2', hp0, hpp, hnc⟩
    obtain ⟨nI, hnI⟩ : ∃ nI : Int, nI = (n : Int) := ⟨_, rfl⟩
    have en : vofN n = nI := by rw [qofN, hnI]
    cbv
    rw [en]
    generalize hz2 : vc .leq nI 255 = z2
    cases z2
    · rw [qc, leq_false] at hz2
      have hf0 : f = 0 := by ((try simp only [nc] at *); omega)
      subst hf0
      rw [hby0] at hRS
      cbv
      exact ⟨[0], .tup [.val (.slice none 0 0), .bool false], [.ro .u8 b], rfl, rfl, rfl, rfl, ⟨rfl, trivial⟩, rfl, .inl ⟨hRS, rfl, rfl⟩⟩
    rw [qc, leq_true] at hz2
    obtain ⟨g, rfl⟩ : ∃ g, f = g + 1 := ⟨f - 1, by ((try simp only [nc] at *); omega)⟩
    rw [hbyS] at hRS
    obtain ⟨aN, haN⟩ : ∃ aN : Nat, aN = a.toNat := ⟨_, rfl⟩
    obtain ⟨oN, hoN⟩ : ∃ oN : Nat, oN = o.toNat := ⟨_, rfl⟩
    have hta : vtoN a = aN := by rw [qtoN, haN]
    have hto : vtoN o = oN := by rw [qtoN, hoN]
    rw [← haN, ← hoN] at hRS
    have haNN : aN < N := by omega
    have hoNN : oN < N := by omega
    have hc1 := hcell aN haNN
    have hA1 := hAu aN
    have hA2 := hAu oN
    have hbt := hbits c2 p (B aN) (by omega) (by omega) (by omega) (by omega)
    have hrr := hrb p (B aN).toNat
    generalize hBa : B aN = Ba at *
    generalize hCa : C aN = Ca at *
    generalize hAa : A aN = Aa at *
    generalize hAo : A oN = Ao at *
    obtain ⟨x, hx⟩ : ∃ x, x = RD p Ba.toNat := ⟨_, rfl⟩
    rw [← hx] at hbt hRS hrr
    obtain ⟨q, hq⟩ : ∃ q, q = p - Ba := ⟨_, rfl⟩
    rw [← hq] at hbt hRS
    have hlf := hleft c2 q
    have ewB : vw .i64 Ba = Ba := by rw [qw]; exact wrap_i64 (by omega) (by omega)
    have ewC : vw .i64 Ca = Ca := by rw [qw]; exact wrap_i64 (by omega) (by omega)
    have ewx : vw .i64 x = x := by rw [qw]; exact wrap_i64 (by omega) (by omega)
    obtain ⟨y, hy⟩ : ∃ y, y = Ca + x := ⟨_, rfl⟩
    have eay : vb .add .i64 Ca x = y := by rw [qb, add_i64 (by omega) (by omega)]; exact hy.symm
    rw [← hy] at hRS
    have hinA : 0 ≤ a ∧ a < (N : Int) := ⟨ha1, ha2⟩
    have hinO : 0 ≤ o ∧ o < (N : Int) := ⟨ho1', ho2'⟩
    have hln1 : ∀ z : Int, vln [z] = 1 := fun z => by rw [qln]; rfl
    have hlnL : ∀ l, vln l = l.length := fun l => by rw [qln]
    have haddq : ∀ a b, vaddN a b = a + b := fun a b => by rw [qaddN]
    have hont : vonto L n (vsub [Aa] 0 1) = L ++ [Aa] := by rw [qonto, qsub, hnL]; simp
    obtain ⟨L2, hL2⟩ : ∃ L2, L2 = L ++ [Aa] := ⟨_, rfl⟩
    rw [← hL2] at hont hRS
    have hL2n : L2.length = n + 1 := by rw [hL2, List.length_append, hnL]; rfl
    have ha1' := haddq n 1
    obtain ⟨n2, hn2⟩ : ∃ n2, n2 = n + 1 := ⟨_, rfl⟩
    rw [← hn2] at ha1' hL2n
    have hn2b : n2 * 1 ≤ 140737488355328 := by ((try simp only [nc] at *); omega)
    cbv
    rw [hta, hBa, hCa, hAa]
    refine ⟨⟨hinA⟩, ⟨haNN⟩, ⟨haNN⟩, ⟨haNN⟩, fun _ => rfl, fun _ => rfl, ⟨by rw [haddq, hln1]; exact Nat.le_refl _⟩, ⟨by rw [hlnL, ← hnL]; exact Nat.le_refl _⟩, ⟨Nat.le_refl _⟩, ⟨by rw [ha1']; exact hn2b⟩, fun _ => rfl, ?_⟩
    intro c4 js4 hle
    have hle' : n2 ≤ c4 := by have := hle.out; simp only at this; rw [ha1'] at this; exact this
    cbv
    rw [hont, ha1', ewB, ewC]
    refine call_con (ρ := [(4, .z), (3, .z)]) hbt ⟨by rfl, by rfl, by rfl, by cbv; exact ⟨fun _ => rfl, view_refl _, trivial⟩⟩ ?_
    rintro v H R js5 ⟨rfl, rfl, rfl⟩
    cbv
    refine ⟨fun _ => rfl, ?_⟩
    rw [ewx, eay]
    refine call_con (ρ := [(4, .z), (3, .z)]) hlf ⟨by rfl, by rfl, by rfl, by cbv; exact ⟨fun _ => rfl, view_refl _, trivial⟩⟩ ?_
    rintro v H R js6 ⟨rfl, rfl, rfl⟩
    cbv
    refine ⟨fun _ => rfl, ?_⟩
    generalize hz3 : vc .lss q 0 = z3
    cases z3
    · rw [qc, lss_false] at hz3
      rw [if_neg hz3] at hRS
      have hmu : ∀ _ : Unit, 257 - n2 < 257 - n := fun _ => by ((try simp only [nc] at *); omega)
      cbv
      refine Cv.fold ([13] ++ [51, 52, 53, 54, 55, 56, 57, 58, 59, 60, 61, 62, 63, 64, 65, 66, 67, 68, 69, 70, 71, 72, 73, 74, 75, 76, 77, 78, 79, 80, 81, 82, 83, 84]) 6 [5] (by exact Nat.le_refl _) (by exact Nat.le_of_ble_eq_true rfl) (by rfl) (by cbv) ?_
      intro js
      refine ⟨(_, _, _, _, _, _), ?_, js, rfl⟩
      exact ⟨⟨g, by omega, hRS, hL2n.symm, ho1', ho2', by omega, by omega, by omega, by omega, hle'⟩, hmu ()⟩
    · rw [qc, lss_true] at hz3
      rw [if_pos hz3] at hRS
      have hont2 : vonto L2 n2 (vsub [Ao] 0 1) = L2 ++ [Ao] := by rw [qonto, qsub, ← hL2n]; simp
      obtain ⟨L3, hL3⟩ : ∃ L3, L3 = L2 ++ [Ao] := ⟨_, rfl⟩
      rw [← hL3] at hont2 hRS
      have hL3n : L3.length = n2 + 1 := by rw [hL3, List.length_append, hL2n]; rfl
      have ha2' := haddq n2 1
      obtain ⟨n3, hn3⟩ : ∃ n3, n3 = n2 + 1 := ⟨_, rfl⟩
      rw [← hn3] at ha2' hL3n
      have hn3b : n3 * 1 ≤ 140737488355328 := by ((try simp only [nc] at *); omega)
      cbv
      rw [hto, hAo]
      refine ⟨⟨hinO⟩, ⟨hoNN⟩, fun _ => rfl, ⟨by rw [haddq, hln1]; exact Nat.le_refl _⟩, ⟨by rw [hlnL, hL2n]; exact Nat.le_refl _⟩, ⟨Nat.le_refl _⟩, ⟨by rw [ha2']; exact hn3b⟩, fun _ => rfl, ?_⟩
      intro c5 js7 hle5
      cbv
      rw [hont2, ha2']
      subst hL3n
      exact ⟨[0, 5], .tup [.slice 1 .z 1 L3.length c5, .bool true], [.ro .u8 b, .buf 5 .u8 L3 c5], rfl, rfl, rfl, rfl, ⟨rfl, rfl, trivial⟩, rfl, .inr ⟨L3, c5, hRS, rfl, rfl⟩⟩
end Go.Proofs.Ytaaklikigccdfaa
namespace Go.Proofs.Ytaaklikigccdfaa
open Go Go.Sx Go.Proofs
/-! balerref09.states. -/
set_option maxRecDepth 10000
set_option maxHeartbeats 40000000
theorem tabA_eq (l : List Int) (size : Int) (N m : Nat) (h : m < N) : tabA l size N m = symT l size m := by unfold tabA; rw [if_pos h]
theorem reftable_okP (l : List Int) (log : Int) (cap : Nat) (hl : ∀ c ∈ l, isI16 c) (hlog : -9223372036854775808 ≤ log ∧ log ≤ 9223372036854775807) (hR : Right l log) :
    Con Try.prog 48 [.slice 0 .z 1 l.length cap, .int .i64 log] [.ro .i16 l] (fun v H R => R = [] ∧ v = .tup [.slice 1 .z 3 (2 ^ log.toNat : Int).toNat (2 ^ log.toNat : Int).toNat, .int .i64 0] ∧
      H = [.ro .i16 l, .arr 86 3 (2 ^ log.toNat : Int).toNat (fun m => [.int .u8 (tabA l (2 ^ log.toNat) (2 ^ log.toNat : Int).toNat m), .int .u8 (tabB l log (2 ^ log.toNat) (2 ^ log.toNat : Int).toNat m), .int .u16 (tabC l log (2 ^ log.toNat) (2 ^ log.toNat : Int).toNat m)])]) := by
  refine con_pick [0, 2] rfl rfl ((reftable_ok l log cap hl hlog hR).mono ?_)
  rintro v H R ⟨rfl, syl, rfl, rfl⟩
  exact ⟨.tup [.slice 1 .z 3 (2 ^ log.toNat : Int).toNat (2 ^ log.toNat : Int).toNat, .int .i64 0], [.ro .i16 l, .arr 86 3 (2 ^ log.toNat : Int).toNat (fun m => [.int .u8 (tabA l (2 ^ log.toNat) (2 ^ log.toNat : Int).toNat m), .int .u8 (tabB l log (2 ^ log.toNat) (2 ^ log.toNat : Int).toNat m), .int .u16 (tabC l log (2 ^ log.toNat) (2 ^ log.toNat : Int).toNat m)])], rfl, rfl, ⟨rfl, rfl, fun _ => rfl, trivial⟩, rfl, rfl, rfl⟩
theorem refstates_con (b : List Int) (cap : Nat) (hby : ∀ x ∈ b, isByte x) (hl : b.length ≤ 1000000) (hcap : b.length ≤ cap) :
    Con Try.prog 18 [.slice 0 .z 1 b.length cap] [.ro .u8 b] (fun v H R => R = [] ∧ ((bst 257 b = none ∧ H = [.ro .u8 b] ∧ v = .tup [.val (.slice none 0 0), .bool false]) ∨
      ∃ L c', bst 257 b = some L ∧ H = [.ro .u8 b, .buf 5 .u8 L c'] ∧ v = .tup [.slice 1 .z 1 L.length c', .bool true])) := by
  obtain ⟨⟨cs, log, used, e⟩, hRR⟩ : ∃ r, readR b 6 11 = r := ⟨_, rfl⟩
  have hres : bst 257 b = (if e ≠ 0 then none else if ¬ Right cs log then none else if (b.drop used.toNat).getLastD 0 = 0 then none
    else if markAt (b.drop used.toNat) - log - log < 0 then none
    else byS (symT cs (2 ^ log.toNat)) (tabB cs log (2 ^ log.toNat) (2 ^ log.toNat : Int).toNat) (tabC cs log (2 ^ log.toNat) (2 ^ log.toNat : Int).toNat) (b.drop used.toNat) 257
      (rd (b.drop used.toNat) (markAt (b.drop used.toNat)) log.toNat) (rd (b.drop used.toNat) (markAt (b.drop used.toNat) - log) log.toNat) (markAt (b.drop used.toNat) - log - log) []) := by
    unfold bst; rw [hRR]
  have h1 := refread7_con b cap 6 11 hby (by omega) (by omega) (by omega) cs log used e hRR
  by_cases he : e ≠ 0
  · rw [if_pos he] at hres
    refine con_gen (con_picks (con_drop (con_walk hmix fn18 ?_)))
    intro vb vc vw vtoN vofN vaddN vsubN vmaxI vminI vcutN vgd vst vln vrep vsub vonto vsplice vstrEq vbyteV vnotB veqB hw qb qc qw qtoN qofN qaddN qsubN qmaxI qminI qcutN qgd qst qln qrep qsub qonto qsplice qstrEq qbyteV qnotB qeqB
    have hm := hmix; generalize Try.prog = P at *
    generalize b.length = bl at *
    generalize bst 257 b = RES at *
    generalize cs.length = cl at *
    have hz : vc .neq e 0 = true := by rw [qc, neq_true]; exact he
    cbv
    refine call_con (ρ := [(0, .z)]) h1 ⟨by rfl, by rfl, by rfl, by cbv; exact ⟨view_refl _, trivial⟩⟩ ?_
    rintro v H R js ⟨rfl, ⟨_, rfl, rfl⟩ | ⟨h, _⟩⟩
    rotate_left
    · exfalso; exact he h
    cbv
    rw [hz]
    cbv
    exact ⟨[0], .tup [.val (.slice none 0 0), .bool false], [.ro .u8 b], rfl, rfl, rfl, rfl, ⟨rfl, trivial⟩, rfl, .inl ⟨hres, rfl, rfl⟩⟩
  have he0 : e = 0 := Decidable.not_not.1 he
  subst he0
  rw [if_neg he] at hres
  obtain ⟨hcs, hu0, hu1, hlg0, hlg1⟩ := readR_ok hRR
  obtain ⟨u, hu⟩ : ∃ u : Nat, used = u := ⟨used.toNat, by omega⟩
  subst hu
  rw [Int.toNat_natCast] at hres
  have hvd := view_drop b u cap (by omega) hcap
  have hbd := isByte_drop hby u
  have hbl' : (b.drop u).length = b.length - u := List.length_drop
  have h1 : Con Try.prog 47 [.slice 0 .z 1 b.length cap, .int .i64 6, .int .i64 11] [.ro .u8 b] (fun v H R => R = [] ∧ ∃ c, H = [.ro .u8 b, .buf 125 .i16 cs c] ∧ v = .tup [.slice 1 .z 1 cs.length c, .int .i64 log, .int .i64 (u : Nat), .int .i64 0]) := by
    refine h1.mono ?_
    rintro v H R ⟨h3, ⟨h, _⟩ | ⟨_, h⟩⟩
    · exact (h rfl).elim
    · exact ⟨h3, h⟩
  clear he
  by_cases hR : Right cs log
  rotate_left
  · have h2 := fun c => reftable_bad cs log c hcs (by omega) hR
    rw [if_pos hR] at hres
    by_cases hla : (b.drop u).getLastD 0 = 0
    · have h3 := fun c => refnew_bad (b.drop u) c hla (by omega)
      refine con_gen (con_picks (con_drop (con_walk hmix fn18 ?_)))
      intro vb vc vw vtoN vofN vaddN vsubN vmaxI vminI vcutN vgd vst vln vrep vsub vonto vsplice vstrEq vbyteV vnotB veqB hw qb qc qw qtoN qofN qaddN qsubN qmaxI qminI qcutN qgd qst qln qrep qsub qonto qsplice qstrEq qbyteV qnotB qeqB
      have hm := hmix; generalize Try.prog = P at *
      generalize b.drop u = b' at *
      rw [hbl'] at h3
      generalize hbl : b.length = bl at *
      generalize cs.length = cl at *
      generalize bst 257 b = RES at *
      have h00 : vc .neq 0 0 = false := by rw [qc]; rfl
      have h70 : vc .neq 70 0 = true := by rw [qc]; rfl
      have h11 : vc .neq 11 0 = true := by rw [qc]; rfl
      have htu : vtoN (u : Int) = u := by rw [qtoN]; exact Int.toNat_natCast u
      have hcu : vcutN 0 u cap = if cap = u then 0 else 0 + u := by rw [qcutN]
      have hsu : vsubN bl u = bl - u := by rw [qsubN]
      obtain ⟨uI, huI⟩ : ∃ uI : Int, uI = (u : Int) := ⟨_, rfl⟩
      rw [← huI] at h1 htu hu0 hu1
      rw [← hcu] at hvd
      rw [← hsu] at h3
      obtain ⟨o1, ho1⟩ : ∃ o1, o1 = vcutN 0 u cap := ⟨_, rfl⟩
      obtain ⟨n1, hn1⟩ : ∃ n1, n1 = vsubN bl u := ⟨_, rfl⟩
      rw [← ho1] at hvd
      rw [← hn1] at h3
      cbv
      refine call_con (ρ := [(0, .z)]) h1 ⟨by rfl, by rfl, by rfl, by cbv; exact ⟨view_refl _, trivial⟩⟩ ?_
      rintro v H R js ⟨rfl, c1, rfl, rfl⟩
      cbv
      rw [h00]
      cbv
      refine call_con (ρ := [(1, .z)]) (h2 c1) ⟨by rfl, by rfl, by rfl, by cbv; exact ⟨view_refl _, trivial⟩⟩ ?_
      rintro v H R js ⟨rfl, rfl, rfl⟩
      cbv
      rw [htu, ← ho1, ← hn1]
      refine ⟨⟨hu0, hu1⟩, ?_⟩
      refine call_con (ρ := [(0, .n o1)]) (h3 (vsubN cap u)) ⟨by rfl, by rfl, by rfl, by cbv; exact ⟨hvd, trivial⟩⟩ ?_
      rintro v H R js ⟨rfl, rfl, rfl⟩
      cbv
      rw [h70]
      cbv
      exact ⟨[0], .tup [.val (.slice none 0 0), .bool false], [.ro .u8 b], rfl, rfl, rfl, rfl, ⟨rfl, trivial⟩, rfl, .inl ⟨hres, rfl, rfl⟩⟩
    · have h3 := fun c => refnew_good (b.drop u) c hla hbd (by omega)
      refine con_gen (con_picks (con_drop (con_walk hmix fn18 ?_)))
      intro vb vc vw vtoN vofN vaddN vsubN vmaxI vminI vcutN vgd vst vln vrep vsub vonto vsplice vstrEq vbyteV vnotB veqB hw qb qc qw qtoN qofN qaddN qsubN qmaxI qminI qcutN qgd qst qln qrep qsub qonto qsplice qstrEq qbyteV qnotB qeqB
      have hm := hmix; generalize Try.prog = P at *
      generalize b.drop u = b' at *
      have hB8 : ∃ B8, B8 = bitsOf b' (8 * b'.length) := ⟨_, rfl⟩
      obtain ⟨B8, hB8⟩ := hB8
      simp only [← hB8] at h3
      rw [hbl'] at h3
      generalize hbl : b.length = bl at *
      generalize cs.length = cl at *
      generalize bst 257 b = RES at *
      have h00 : vc .neq 0 0 = false := by rw [qc]; rfl
      have h70 : vc .neq 70 0 = true := by rw [qc]; rfl
      have h11 : vc .neq 11 0 = true := by rw [qc]; rfl
      have htu : vtoN (u : Int) = u := by rw [qtoN]; exact Int.toNat_natCast u
      have hcu : vcutN 0 u cap = if cap = u then 0 else 0 + u := by rw [qcutN]
      have hsu : vsubN bl u = bl - u := by rw [qsubN]
      obtain ⟨uI, huI⟩ : ∃ uI : Int, uI = (u : Int) := ⟨_, rfl⟩
      rw [← huI] at h1 htu hu0 hu1
      rw [← hcu] at hvd
      rw [← hsu] at h3
      obtain ⟨o1, ho1⟩ : ∃ o1, o1 = vcutN 0 u cap := ⟨_, rfl⟩
      obtain ⟨n1, hn1⟩ : ∃ n1, n1 = vsubN bl u := ⟨_, rfl⟩
      rw [← ho1] at hvd
      rw [← hn1] at h3
      cbv
      refine call_con (ρ := [(0, .z)]) h1 ⟨by rfl, by rfl, by rfl, by cbv; exact ⟨view_refl _, trivial⟩⟩ ?_
      rintro v H R js ⟨rfl, c1, rfl, rfl⟩
      cbv
      rw [h00]
      cbv
      refine call_con (ρ := [(1, .z)]) (h2 c1) ⟨by rfl, by rfl, by rfl, by cbv; exact ⟨view_refl _, trivial⟩⟩ ?_
      rintro v H R js ⟨rfl, rfl, rfl⟩
      cbv
      rw [htu, ← ho1, ← hn1]
      refine ⟨⟨hu0, hu1⟩, ?_⟩
      refine call_con (ρ := [(0, .n o1)]) (h3 (vsubN cap u)) ⟨by rfl, by rfl, by rfl, by cbv; exact ⟨hvd, trivial⟩⟩ ?_
      rintro v H R js ⟨rfl, rfl, P5, c5, _, _, rfl⟩
      cbv
      rw [h70]
      cbv
      exact ⟨[0], .tup [.val (.slice none 0 0), .bool false], [.ro .u8 b], rfl, rfl, rfl, rfl, ⟨rfl, trivial⟩, rfl, .inl ⟨hres, rfl, rfl⟩⟩
  rw [if_neg (fun h => h hR)] at hres
  have h2 := fun c => reftable_okP cs log c hcs (by omega) hR
  by_cases hla : (b.drop u).getLastD 0 = 0
  · have h3 := fun c => refnew_bad (b.drop u) c hla (by omega)
    rw [if_pos hla] at hres
    refine con_gen (con_picks (con_drop (con_walk hmix fn18 ?_)))
    intro vb vc vw vtoN vofN vaddN vsubN vmaxI vminI vcutN vgd vst vln vrep vsub vonto vsplice vstrEq vbyteV vnotB veqB hw qb qc qw qtoN qofN qaddN qsubN qmaxI qminI qcutN qgd qst qln qrep qsub qonto qsplice qstrEq qbyteV qnotB qeqB
    have hm := hmix; generalize Try.prog = P at *
    generalize b.drop u = b' at *
    rw [hbl'] at h3
    generalize hbl : b.length = bl at *
    generalize cs.length = cl at *
    generalize bst 257 b = RES at *
    have h00 : vc .neq 0 0 = false := by rw [qc]; rfl
    have h70 : vc .neq 70 0 = true := by rw [qc]; rfl
    have h11 : vc .neq 11 0 = true := by rw [qc]; rfl
    have htu : vtoN (u : Int) = u := by rw [qtoN]; exact Int.toNat_natCast u
    have hcu : vcutN 0 u cap = if cap = u then 0 else 0 + u := by rw [qcutN]
    have hsu : vsubN bl u = bl - u := by rw [qsubN]
    obtain ⟨uI, huI⟩ : ∃ uI : Int, uI = (u : Int) := ⟨_, rfl⟩
    rw [← huI] at h1 htu hu0 hu1
    rw [← hcu] at hvd
    rw [← hsu] at h3
    obtain ⟨o1, ho1⟩ : ∃ o1, o1 = vcutN 0 u cap := ⟨_, rfl⟩
    obtain ⟨n1, hn1⟩ : ∃ n1, n1 = vsubN bl u := ⟨_, rfl⟩
    rw [← ho1] at hvd
    rw [← hn1] at h3
    generalize (2 ^ log.toNat : Int).toNat = N at *
    generalize tabA cs (2 ^ log.toNat) N = A at *
    generalize tabB cs log (2 ^ log.toNat) N = B at *
    generalize tabC cs log (2 ^ log.toNat) N = C at *
    cbv
    refine call_con (ρ := [(0, .z)]) h1 ⟨by rfl, by rfl, by rfl, by cbv; exact ⟨view_refl _, trivial⟩⟩ ?_
    rintro v H R js ⟨rfl, c1, rfl, rfl⟩
    cbv
    rw [h00]
    cbv
    refine call_con (ρ := [(1, .z)]) (h2 c1) ⟨by rfl, by rfl, by rfl, by cbv; exact ⟨view_refl _, trivial⟩⟩ ?_
    rintro v H R js ⟨rfl, rfl, rfl⟩
    cbv
    rw [htu, ← ho1, ← hn1]
    refine ⟨fun _ => rfl, ⟨hu0, hu1⟩, ?_⟩
    refine call_con (ρ := [(0, .n o1)]) (h3 (vsubN cap u)) ⟨by rfl, by rfl, by rfl, by cbv; exact ⟨fun _ => rfl, hvd, trivial⟩⟩ ?_
    rintro v H R js ⟨rfl, rfl, rfl⟩
    cbv
    refine ⟨fun _ => rfl, ?_⟩
    rw [h00]
    cbv
    exact ⟨[0], .tup [.val (.slice none 0 0), .bool false], [.ro .u8 b], rfl, rfl, rfl, rfl, ⟨rfl, trivial⟩, rfl, .inl ⟨hres, rfl, rfl⟩⟩
  rw [if_neg hla] at hres
  have h3 := fun c => refnew_good (b.drop u) c hla hbd (by omega)
  obtain ⟨P0, hP0, hP0l, _, _⟩ := markAt_spec (b.drop u) hla hbd
  have h3 : ∀ c, Con Try.prog 49 [.slice 0 .z 1 (b.drop u).length c] [.ro .u8 (b.drop u)] (fun v H R => v = .tup [.ptr 1 .z 2 0, .lit .i64 0] ∧ R = [2] ∧ ∃ c : Nat, H = [.ro .u8 (b.drop u), .one 114 [.slice 2 .z 1 P0 c, .int .i64 P0], .buf 5 .u8 (bitsOf (b.drop u) (8 * (b.drop u).length)) c]) := by
    intro c
    refine (h3 c).mono ?_
    rintro v H R ⟨e1, e2, P, c, e3, e4, e5⟩
    obtain rfl : P = P0 := by omega
    exact ⟨e1, e2, c, e5⟩
  rw [hP0] at hres
  have hpl := pow_log (log := log) ⟨hlg0, hlg1⟩
  obtain ⟨N, hN⟩ : ∃ N : Nat, (2 ^ log.toNat : Int) = N := ⟨(2 ^ log.toNat : Int).toNat, by omega⟩
  have hNt : (2 ^ log.toNat : Int).toNat = N := by omega
  have hcell : ∀ k : Nat, k < N → 0 ≤ tabB cs log (2 ^ log.toNat) N k ∧ tabB cs log (2 ^ log.toNat) N k ≤ 12 ∧ 0 ≤ tabC cs log (2 ^ log.toNat) N k ∧ tabC cs log (2 ^ log.toNat) N k + 2 ^ (tabB cs log (2 ^ log.toNat) N k).toNat ≤ N := by
    intro k hk
    obtain ⟨bb, q1, q2, q3, q4, _⟩ := cell_in hR rfl hN hk
    rw [q2, Int.toNat_natCast, ← hN]
    exact ⟨by omega, by omega, q3, q4⟩
  have hAA := fun m h => tabA_eq cs (2 ^ log.toNat) N m h
  have hbits : ∀ (c : Nat) (p n : Int), -100 ≤ p → p ≤ P0 → 0 ≤ n → n ≤ 12 → Con Try.prog 50 [.ptr 0 .z 2 0, .int .i64 n] [.one 114 [.slice 1 .z 1 P0 c, .int .i64 p], .ro .u8 (bitsOf (b.drop u) (8 * (b.drop u).length))]
      (fun v H R => v = .int .u64 (rd (b.drop u) p n.toNat) ∧ R = [] ∧ H = [.one 114 [.slice 1 .z 1 P0 c, .int .i64 (p - n)], .ro .u8 (bitsOf (b.drop u) (8 * (b.drop u).length))]) := by
    intro c p n h1 h2 h3 h4
    have := refbits_con (b.drop u) P0 c p n (by omega) (by omega) ⟨by omega, h2⟩
    have e1 : clampN n = n.toNat := by unfold clampN; rw [if_neg (by omega), if_neg (by omega)]
    have e2 : floorP (p - (n.toNat : Nat)) = p - n := by unfold floorP; rw [if_neg (by omega)]; omega
    rw [e1, e2] at this
    exact this
  have hrb := fun p n => rd_bound (b.drop u) p n
  have hAu := symT_u8 hR (2 ^ log.toNat)
  rw [hNt] at hres h2
  have ha0 := hrb P0 log.toNat
  have ho0 := hrb (P0 - log) log.toNat
  rw [hN] at ha0 ho0
  refine con_gen (con_picks (con_drop (con_walk hmix fn18 ?_)))
  intro vb vc vw vtoN vofN vaddN vsubN vmaxI vminI vcutN vgd vst vln vrep vsub vonto vsplice vstrEq vbyteV vnotB veqB hw qb qc qw qtoN qofN qaddN qsubN qmaxI qminI qcutN qgd qst qln qrep qsub qonto qsplice qstrEq qbyteV qnotB qeqB
  have f49 := fn49
  have hm := hmix; generalize Try.prog = P at *
  generalize b.drop u = b' at *
  obtain ⟨BO, hBO⟩ : ∃ BO, BO = bitsOf b' (8 * b'.length) := ⟨_, rfl⟩
  simp only [← hBO] at h3 hbits
  rw [hbl'] at h3
  generalize hbl : b.length = bl at *
  generalize cs.length = cl at *
  generalize bst 257 b = RES at *
  generalize symT cs (2 ^ log.toNat) = A at *
  generalize tabA cs (2 ^ log.toNat) N = A' at *
  generalize tabB cs log (2 ^ log.toNat) N = B at *
  generalize tabC cs log (2 ^ log.toNat) N = C at *
  have hby0 : ∀ a o p l, byS A B C b' 0 a o p l = none := fun _ _ _ _ => rfl
  have hbyS : ∀ f a o p l, byS A B C b' (f + 1) a o p l = if p - B a.toNat < 0 then some (l ++ [A a.toNat] ++ [A o.toNat]) else byS A B C b' f o (C a.toNat + rd b' p (B a.toNat).toNat) (p - B a.toNat) (l ++ [A a.toNat]) := fun _ _ _ _ _ => rfl
  generalize byS A B C b' = BY at *
  generalize rd b' = RD at *
  have h00 : vc .neq 0 0 = false := by rw [qc]; rfl
  have htu : vtoN (u : Int) = u := by rw [qtoN]; exact Int.toNat_natCast u
  have hcu : vcutN 0 u cap = if cap = u then 0 else 0 + u := by rw [qcutN]
  have hsu : vsubN bl u = bl - u := by rw [qsubN]
  obtain ⟨uI, huI⟩ : ∃ uI : Int, uI = (u : Int) := ⟨_, rfl⟩
  rw [← huI] at h1 htu hu0 hu1
  rw [← hcu] at hvd
  rw [← hsu] at h3
  obtain ⟨o1, ho1⟩ : ∃ o1, o1 = vcutN 0 u cap := ⟨_, rfl⟩
  obtain ⟨n1, hn1⟩ : ∃ n1, n1 = vsubN bl u := ⟨_, rfl⟩
  rw [← ho1] at hvd
  rw [← hn1] at h3
  obtain ⟨pI, hpI⟩ : ∃ pI : Int, pI = (P0 : Int) := ⟨_, rfl⟩
  rw [← hpI] at h3 hres ha0 ho0
  obtain ⟨a0, ha0'⟩ : ∃ a0, a0 = RD pI log.toNat := ⟨_, rfl⟩
  obtain ⟨o0, ho0'⟩ : ∃ o0, o0 = RD (pI - log) log.toNat := ⟨_, rfl⟩
  rw [← ha0', ← ho0'] at hres
  rw [← ha0'] at ha0
  rw [← ho0'] at ho0
  obtain ⟨p1, hp1⟩ : ∃ p1, p1 = pI - log := ⟨_, rfl⟩
  obtain ⟨p2, hp2⟩ : ∃ p2, p2 = p1 - log := ⟨_, rfl⟩
  rw [← hp1] at ho0' hres
  rw [← hp2] at hres
  have ewa : vw .i64 a0 = a0 := by rw [qw]; exact wrap_i64 (by omega) (by omega)
  have ewo : vw .i64 o0 = o0 := by rw [qw]; exact wrap_i64 (by omega) (by omega)
  have hrep : vrep 2 0 = [0, 0] := by rw [qrep]; rfl
  have hst0 : vst [0, 0] 0 a0 = [a0, 0] := by rw [qst]; rfl
  have hst1 : vst [a0, 0] 1 o0 = [a0, o0] := by rw [qst]; rfl
  have hln2 : ∀ x y : Int, vln [x, y] = 2 := fun x y => by rw [qln]; rfl
  cbv
  refine call_con (ρ := [(0, .z)]) h1 ⟨by rfl, by rfl, by rfl, by cbv; exact ⟨view_refl _, trivial⟩⟩ ?_
  rintro v H R js ⟨rfl, c1, rfl, rfl⟩
  cbv
  rw [h00]
  cbv
  refine call_con (ρ := [(1, .z)]) (h2 c1) ⟨by rfl, by rfl, by rfl, by cbv; exact ⟨view_refl _, trivial⟩⟩ ?_
  rintro v H R js ⟨rfl, rfl, rfl⟩
  cbv
  rw [htu, ← ho1, ← hn1]
  refine ⟨fun _ => rfl, ⟨hu0, hu1⟩, ?_⟩
  refine CallX.cv f49.go (Cv.arrEq 2 (fun m => [.int .u8 (A' m), .int .u8 (B m), .int .u16 (C m)]) (by rfl) (by intro i; rfl) (Cv.here ?_)) (by rfl)
  refine call_con (ρ := [(0, .n o1)]) (h3 (vsubN cap u)) ⟨by rfl, by rfl, by rfl, by cbv; exact ⟨fun _ => rfl, hvd, trivial⟩⟩ ?_
  rintro v H R js ⟨rfl, rfl, c2, rfl⟩
  cbv
  refine ⟨fun _ => rfl, ?_⟩
  rw [h00]
  have hb1 := hbits c2 pI log (by ((try simp only [nc] at *); omega)) (by ((try simp only [nc] at *); omega)) (by ((try simp only [nc] at *); omega)) (by ((try simp only [nc] at *); omega))
  have hb2 := hbits c2 p1 log (by ((try simp only [nc] at *); omega)) (by ((try simp only [nc] at *); omega)) (by ((try simp only [nc] at *); omega)) (by ((try simp only [nc] at *); omega))
  rw [← ha0', ← hp1] at hb1
  rw [← ho0', ← hp2] at hb2
  cbv
  rw [hrep]
  refine ⟨fun _ => rfl, ?_⟩
  refine call_con (ρ := [(3, .z), (4, .z)]) hb1 ⟨by rfl, by rfl, by rfl, by cbv; exact ⟨fun _ => rfl, view_refl _, trivial⟩⟩ ?_
  rintro v H R js ⟨rfl, rfl, rfl⟩
  cbv
  rw [ewa, hln2, hst0]
  refine ⟨fun _ => rfl, ⟨by decide, by decide⟩, ⟨by decide⟩, ?_⟩
  refine call_con (ρ := [(3, .z), (4, .z)]) hb2 ⟨by rfl, by rfl, by rfl, by cbv; exact ⟨fun _ => rfl, view_refl _, trivial⟩⟩ ?_
  rintro v H R js ⟨rfl, rfl, rfl⟩
  cbv
  rw [ewo, hln2, hst1]
  refine ⟨fun _ => rfl, ⟨by decide, by decide⟩, ⟨by decide⟩, ?_⟩
  generalize hz1 : vc .lss p2 0 = z1
  cases z1
  rotate_left
  · rw [qc, lss_true] at hz1
    rw [if_pos hz1] at hres
    cbv
    exact ⟨[0], .tup [.val (.slice none 0 0), .bool false], [.ro .u8 b], rfl, rfl, rfl, rfl, ⟨rfl, trivial⟩, rfl, .inl ⟨hres, rfl, rfl⟩⟩
  rw [qc, lss_false] at hz1
  rw [if_neg hz1] at hres
  clear hb1 hb2
  cbv
  refine WX.cv (Cv.nilT 12 5 .u8 (by rfl) (by cbv; exact ⟨fun _ => rfl, trivial⟩) (Cv.here ?_))
  cbv
  obtain ⟨sl0, hsl0⟩ : ∃ sl0, sl0 = [a0, o0] := ⟨_, rfl⟩
  rw [← hsl0]
  refine loop_fam (α := Int × List Int × Int × Nat × Nat × List Int) ([14] ++ [58, 59, 60, 61, 62, 63, 64, 65, 66, 67, 68, 69, 70, 71, 72, 73, 74, 75, 76, 77, 78, 79, 80, 81, 82, 83, 84, 85, 86, 87, 88, 89, 90, 91, 92, 93, 94, 95, 96, 97, 98, 99, 100, 101]) [6]
    (fun (i, sl, p, n, c, L) => [(13, .int .i64 i), (12, .slice 6 .z 1 n c)]) (fun (i, sl, p, n, c, L) => [(3, .one 114 [.slice 4 .z 1 P0 c2, .int .i64 p]), (5, .ints 112 .i64 sl), (6, .buf 5 .u8 L c)])
    (fun (i, sl, p, n, c, L) => ∃ f iN : Nat, i = iN ∧ iN ≤ 1 ∧ f + n = 257 ∧ sl.length = 2 ∧ RES = BY f (sl.getD iN 0) (sl.getD (1 - iN) 0) p L ∧ n = L.length ∧ 0 ≤ sl.getD iN 0 ∧ sl.getD iN 0 < N ∧ 0 ≤ sl.getD (1 - iN) 0 ∧ sl.getD (1 - iN) 0 < N ∧ 0 ≤ p ∧ p ≤ pI ∧ n ≤ c) (fun (i, sl, p, n, c, L) => 258 - n) hw hm ?_ ?_
  · refine Cv.genAt [13] [] (Cv.fold ([14] ++ [58, 59, 60, 61, 62, 63, 64, 65, 66, 67, 68, 69, 70, 71, 72, 73, 74, 75, 76, 77, 78, 79, 80, 81, 82, 83, 84, 85, 86, 87, 88, 89, 90, 91, 92, 93, 94, 95, 96, 97, 98, 99, 100, 101]) 7 [6] (by exact Nat.le_refl _) (by exact Nat.le_of_ble_eq_true rfl) (by rfl) (by cbv) ?_)
    intro js
    refine ⟨(_, _, _, _, _, _), ?_, js, rfl⟩
    subst hsl0
    exact ⟨257, 0, rfl, by omega, rfl, rfl, hres, rfl, ha0.1, ha0.2, ho0.1, ho0.2, by omega, by omega, Nat.le_refl _⟩
  · rintro ⟨i, sl, p, n, c, L⟩ js ⟨f, iN, hi, hi1, hfn, hsl, hRS, hnL, ha1, ha2, ho1', ho2', hp0, hpp, hnc⟩
    obtain ⟨a, haa⟩ : ∃ a, a = sl.getD iN 0 := ⟨_, rfl⟩
    obtain ⟨o, hoo⟩ : ∃ o, o = sl.getD (1 - iN) 0 := ⟨_, rfl⟩
    rw [← haa] at hRS ha1 ha2
    rw [← hoo] at hRS ho1' ho2'
    obtain ⟨nI, hnI⟩ : ∃ nI : Int, nI = (n : Int) := ⟨_, rfl⟩
    have en : vofN n = nI := by rw [qofN, hnI]
    cbv
    rw [en]
    generalize hz2 : vc .leq nI 256 = z2
    cases z2
    · rw [qc, leq_false] at hz2
      have hf0 : f = 0 := by ((try simp only [nc] at *); omega)
      subst hf0
      rw [hby0] at hRS
      cbv
      exact ⟨[0], .tup [.val (.slice none 0 0), .bool false], [.ro .u8 b], rfl, rfl, rfl, rfl, ⟨rfl, trivial⟩, rfl, .inl ⟨hRS, rfl, rfl⟩⟩
    rw [qc, leq_true] at hz2
    obtain ⟨g, rfl⟩ : ∃ g, f = g + 1 := ⟨f - 1, by ((try simp only [nc] at *); omega)⟩
    rw [hbyS] at hRS
    obtain ⟨aN, haN⟩ : ∃ aN : Nat, aN = a.toNat := ⟨_, rfl⟩
    obtain ⟨oN, hoN⟩ : ∃ oN : Nat, oN = o.toNat := ⟨_, rfl⟩
    have hta : vtoN a = aN := by rw [qtoN, haN]
    have hto : vtoN o = oN := by rw [qtoN, hoN]
    rw [← haN, ← hoN] at hRS
    have haNN : aN < N := by omega
    have hoNN : oN < N := by omega
    have hc1 := hcell aN haNN
    have hA3 := hAA aN haNN
    have hA4 := hAA oN hoNN
    have hbt := hbits c2 p (B aN) (by omega) (by ((try simp only [nc] at *); omega)) (by omega) (by omega)
    have hrr := hrb p (B aN).toNat
    generalize hBa : B aN = Ba at *
    generalize hCa : C aN = Ca at *
    generalize hAa : A aN = Aa at *
    generalize hAo : A oN = Ao at *
    obtain ⟨x, hx⟩ : ∃ x, x = RD p Ba.toNat := ⟨_, rfl⟩
    rw [← hx] at hbt hRS hrr
    obtain ⟨q, hq⟩ : ∃ q, q = p - Ba := ⟨_, rfl⟩
    rw [← hq] at hbt hRS
    have ewB : vw .i64 Ba = Ba := by rw [qw]; exact wrap_i64 (by omega) (by omega)
    have ewC : vw .i64 Ca = Ca := by rw [qw]; exact wrap_i64 (by omega) (by omega)
    have ewx : vw .i64 x = x := by rw [qw]; exact wrap_i64 (by omega) (by omega)
    obtain ⟨y, hy⟩ : ∃ y, y = Ca + x := ⟨_, rfl⟩
    have eay : vb .add .i64 Ca x = y := by rw [qb, add_i64 (by omega) (by omega)]; exact hy.symm
    rw [← hy] at hRS
    have hinA : 0 ≤ a ∧ a < (N : Int) := ⟨ha1, ha2⟩
    have hinO : 0 ≤ o ∧ o < (N : Int) := ⟨ho1', ho2'⟩
    have hinI : 0 ≤ i ∧ i < ((2 : Nat) : Int) := by ((try simp only [nc] at *); omega)
    have hti : vtoN i = iN := by rw [qtoN, hi]; exact Int.toNat_natCast iN
    have hln1 : ∀ z : Int, vln [z] = 1 := fun z => by rw [qln]; rfl
    have hlnL : ∀ l, vln l = l.length := fun l => by rw [qln]
    have hgdq : ∀ l k, vgd l k = l.getD k 0 := fun l k => by rw [qgd]
    have hi2 : iN < vln sl := by rw [hlnL, hsl]; omega
    have hgda : vgd sl iN = a := by rw [hgdq, haa]
    obtain ⟨sl2, hsl2⟩ : ∃ sl2, sl2 = sl.set iN y := ⟨_, rfl⟩
    have hst : vst sl iN y = sl2 := by rw [qst, hsl2]
    have hsl2l : sl2.length = 2 := by rw [hsl2, List.length_set, hsl]
    have hg2a : sl2.getD iN 0 = y := by rw [hsl2, List.getD_eq_getElem?_getD, List.getElem?_set_self (by omega)]; rfl
    have hg2o : sl2.getD (1 - iN) 0 = o := by rw [hsl2, List.getD_eq_getElem?_getD, List.getElem?_set_ne (by omega), ← List.getD_eq_getElem?_getD, hoo]
    obtain ⟨j, hj⟩ : ∃ j : Int, j = ((1 - iN : Nat) : Int) := ⟨_, rfl⟩
    have esub : vb .sub .i64 1 i = j := by rw [qb, sub_i64 (by ((try simp only [nc] at *); omega)) (by ((try simp only [nc] at *); omega))]; ((try simp only [nc] at *); omega)
    have haddq : ∀ a b, vaddN a b = a + b := fun a b => by rw [qaddN]
    have hont : vonto L n (vsub [Aa] 0 1) = L ++ [Aa] := by rw [qonto, qsub, hnL]; simp
    obtain ⟨L2, hL2⟩ : ∃ L2, L2 = L ++ [Aa] := ⟨_, rfl⟩
    rw [← hL2] at hont hRS
    have hL2n : L2.length = n + 1 := by rw [hL2, List.length_append, hnL]; rfl
    have ha1' := haddq n 1
    obtain ⟨n2, hn2⟩ : ∃ n2, n2 = n + 1 := ⟨_, rfl⟩
    rw [← hn2] at ha1' hL2n
    have hn2b : n2 * 1 ≤ 140737488355328 := by ((try simp only [nc] at *); omega)
    cbv
    rw [hti, hgda, hta, hBa, hCa, hA3]
    refine ⟨⟨hinI⟩, ⟨hi2⟩, ⟨hinA⟩, ⟨haNN⟩, ⟨haNN⟩, ⟨haNN⟩, fun _ => rfl, fun _ => rfl, ⟨by rw [haddq, hln1]; exact Nat.le_refl _⟩, ⟨by rw [hlnL, ← hnL]; exact Nat.le_refl _⟩, ⟨Nat.le_refl _⟩, ⟨by rw [ha1']; exact hn2b⟩, fun _ => rfl, ?_⟩
    intro c4 js4 hle
    have hle' : n2 ≤ c4 := by have := hle.out; simp only at this; rw [ha1'] at this; exact this
    cbv
    rw [hont, ha1', ewB, ewC]
    refine call_con (ρ := [(3, .z), (4, .z)]) hbt ⟨by rfl, by rfl, by rfl, by cbv; exact ⟨fun _ => rfl, view_refl _, trivial⟩⟩ ?_
    rintro v H R js5 ⟨rfl, rfl, rfl⟩
    cbv
    rw [ewx, eay, hti, hst]
    refine ⟨fun _ => rfl, ⟨hinI⟩, ⟨hi2⟩, ?_⟩
    generalize hz3 : vc .lss q 0 = z3
    cases z3
    · rw [qc, lss_false] at hz3
      rw [if_neg hz3] at hRS
      have hmu : ∀ _ : Unit, 258 - n2 < 258 - n := fun _ => by ((try simp only [nc] at *); omega)
      cbv
      rw [esub]
      refine Cv.fold ([14] ++ [58, 59, 60, 61, 62, 63, 64, 65, 66, 67, 68, 69, 70, 71, 72, 73, 74, 75, 76, 77, 78, 79, 80, 81, 82, 83, 84, 85, 86, 87, 88, 89, 90, 91, 92, 93, 94, 95, 96, 97, 98, 99, 100, 101]) 7 [6] (by exact Nat.le_refl _) (by exact Nat.le_of_ble_eq_true rfl) (by rfl) (by cbv) ?_
      intro js
      refine ⟨(_, _, _, _, _, _), ?_, js, rfl⟩
      have e2 : 1 - (1 - iN) = iN := by omega
      exact ⟨⟨g, 1 - iN, hj, by omega, by omega, hsl2l, by rw [e2, hg2a, hg2o]; exact hRS, hL2n.symm, by rw [hg2o]; exact ho1', by rw [hg2o]; exact ho2', by rw [e2, hg2a]; omega, by rw [e2, hg2a]; omega, by omega, by ((try simp only [nc] at *); omega), hle'⟩, hmu ()⟩
    · rw [qc, lss_true] at hz3
      rw [if_pos hz3] at hRS
      have hont2 : vonto L2 n2 (vsub [Ao] 0 1) = L2 ++ [Ao] := by rw [qonto, qsub, ← hL2n]; simp
      obtain ⟨L3, hL3⟩ : ∃ L3, L3 = L2 ++ [Ao] := ⟨_, rfl⟩
      rw [← hL3] at hont2 hRS
      have hL3n : L3.length = n2 + 1 := by rw [hL3, List.length_append, hL2n]; rfl
      have ha2' := haddq n2 1
      obtain ⟨n3, hn3⟩ : ∃ n3, n3 = n2 + 1 := ⟨_, rfl⟩
      rw [← hn3] at ha2' hL3n
      have hn3b : n3 * 1 ≤ 140737488355328 := by ((try simp only [nc] at *); omega)
      have htj : vtoN j = 1 - iN := by rw [qtoN, hj]; exact Int.toNat_natCast _
      have hinJ : 0 ≤ j ∧ j < ((2 : Nat) : Int) := by ((try simp only [nc] at *); omega)
      have hj2 : 1 - iN < vln sl2 := by rw [hlnL, hsl2l]; omega
      have hgdo : vgd sl2 (1 - iN) = o := by rw [hgdq, hg2o]
      cbv
      rw [esub, htj, hgdo, hto, hA4]
      refine ⟨⟨hinJ⟩, ⟨hj2⟩, ⟨hinO⟩, ⟨hoNN⟩, fun _ => rfl, ⟨by rw [haddq, hln1]; exact Nat.le_refl _⟩, ⟨by rw [hlnL, hL2n]; exact Nat.le_refl _⟩, ⟨Nat.le_refl _⟩, ⟨by rw [ha2']; exact hn3b⟩, fun _ => rfl, ?_⟩
      intro c5 js7 hle5
      cbv
      rw [hont2, ha2']
      subst hL3n
      exact ⟨[0, 6], .tup [.slice 1 .z 1 L3.length c5, .bool true], [.ro .u8 b, .buf 5 .u8 L3 c5], rfl, rfl, rfl, rfl, ⟨rfl, rfl, trivial⟩, rfl, .inr ⟨L3, c5, hRS, rfl, rfl⟩⟩
end Go.Proofs.Ytaaklikigccdfaa
namespace Go.Proofs.Ytaaklikigccdfaa
open Go Go.Sx Go.Proofs
/-! weights.Read. -/
set_option maxRecDepth 10000
set_option maxHeartbeats 40000000
/-- How many bytes tell weights, behind the first one. -/
def hnW (b : List Int) : Int := if 128 ≤ b.getD 0 0 then (b.getD 0 0 - 126) / 2 else b.getD 0 0
def nibW (b : List Int) (k : Nat) : Int := if k % 2 = 0 then b.getD (1 + k / 2) 0 / 16 else b.getD (1 + k / 2) 0 % 16
def nibs (b : List Int) (n : Nat) : List Int := (List.range n).map (nibW b)
theorem nibs_len (b : List Int) (n : Nat) : (nibs b n).length = n := by simp [nibs]
theorem nibs_succ (b : List Int) (n : Nat) : nibs b (n + 1) = nibs b n ++ [nibW b n] := by simp [nibs, List.range_succ]
theorem nibs_take (b : List Int) {n m : Nat} (h : n ≤ m) : (nibs b m).take n = nibs b n := by
  unfold nibs
  rw [← List.map_take, List.take_range]
  congr 2
  omega
/-- The weights that are told. -/
def toldP (F : Nat) (b : List Int) : Option (List Int) := if 128 ≤ b.getD 0 0 then some (nibs b (b.getD 0 0 - 127).toNat) else bst F ((b.drop 1).take (b.getD 0 0).toNat)
def shortW (b : List Int) : Prop := b.length = 0 ∨ (b.length : Int) - 1 < hnW b
def RdW (F : Nat) (b l : List Int) : Prop := ∃ t, toldP F b = some t ∧ OkE t l
theorem nib_u8 {b : List Int} (hby : ∀ x ∈ b, isByte x) (k : Nat) : 0 ≤ nibW b k ∧ nibW b k ≤ 15 := by
  have h := byte_bit hby (1 + k / 2)
  unfold isByte at h
  unfold nibW
  split <;> omega
theorem nibs_u8 {b : List Int} (hby : ∀ x ∈ b, isByte x) (n : Nat) : ∀ c ∈ nibs b n, isU8 c := by
  intro c hc
  simp only [nibs, List.mem_map, List.mem_range] at hc
  obtain ⟨k, _, rfl⟩ := hc
  have := nib_u8 hby k
  unfold isU8
  omega
theorem view_mid (b : List Int) (n cap : Nat) (hn : 1 + n ≤ b.length) (hc : b.length ≤ cap) : View (if cap = 1 then 0 else 0 + 1) ((b.drop 1).take n) b := by
  have hlen : ((b.drop 1).take n).length = n := by rw [List.length_take, List.length_drop]; omega
  refine ⟨?_, fun i hi => ?_⟩
  · rw [hlen]; split <;> omega
  · rw [hlen] at hi
    rw [if_neg (by omega)]
    rw [List.getD_eq_getElem?_getD, List.getD_eq_getElem?_getD, List.getElem?_take, if_pos hi, List.getElem?_drop, Nat.zero_add]
theorem read9_con (b : List Int) (cap : Nat) (hby : ∀ x ∈ b, isByte x) (hl : b.length ≤ 140737488355328) (hcap : b.length ≤ cap) (hcm : cap ≤ 9223372036854775807) :
    Con Try.prog 6 [.slice 0 .z 1 b.length cap] [.ro .u8 b] (fun v H R => R = [] ∧ ((shortW b ∧ H = [.ro .u8 b] ∧ v = .tup [.val (.slice none 0 0), .int .i64 0, .int .i64 10]) ∨
      (¬ shortW b ∧ (∀ l, ¬ RdW 256 b l) ∧ H = [.ro .u8 b] ∧ v = .tup [.val (.slice none 0 0), .int .i64 0, .int .i64 11]) ∨
      (¬ shortW b ∧ ∃ l c', RdW 256 b l ∧ H = [.ro .u8 b, .buf 5 .u8 l c'] ∧ v = .tup [.slice 1 .z 1 l.length c', .int .i64 (1 + hnW b), .int .i64 0]))) := by
  have hh := byte_bit hby 0
  unfold isByte at hh
  obtain ⟨h, hh0⟩ : ∃ h, h = b.getD 0 0 := ⟨_, rfl⟩
  rw [← hh0] at hh
  have hhn : hnW b = if 128 ≤ h then (h - 126) / 2 else h := by unfold hnW; rw [← hh0]
  have htp : ∀ F, toldP F b = if 128 ≤ h then some (nibs b (h - 127).toNat) else bst F ((b.drop 1).take h.toNat) := fun F => by unfold toldP; rw [← hh0]
  obtain ⟨n, hn⟩ : ∃ n, n = hnW b := ⟨_, rfl⟩
  rw [← hn] at hhn
  have hsh : shortW b ↔ b.length = 0 ∨ (b.length : Int) - 1 < n := by unfold shortW; rw [← hn]
  rw [← hn]
  by_cases h0 : b.length = 0
  · have hs := hsh.2 (.inl h0)
    refine con_gen (con_picks (con_drop (con_walk hmix fn6 ?_)))
    intro vb vc vw vtoN vofN vaddN vsubN vmaxI vminI vcutN vgd vst vln vrep vsub vonto vsplice vstrEq vbyteV vnotB veqB hw qb qc qw qtoN qofN qaddN qsubN qmaxI qminI qcutN qgd qst qln qrep qsub qonto qsplice qstrEq qbyteV qnotB qeqB
    have hm := hmix; generalize Try.prog = P at *
    generalize shortW b = SH at *
    generalize RdW 256 b = RW at *
    generalize b.length = bl at *
    subst h0
    have e : vc .eql (vofN 0) 0 = true := by rw [qc, qofN]; rfl
    cbv
    rw [e]
    cbv
    exact ⟨[0], .tup [.val (.slice none 0 0), .lit .i64 0, .lit .i64 10], [.ro .u8 b], rfl, rfl, rfl, rfl, ⟨rfl, trivial⟩, rfl, .inl ⟨hs, rfl, rfl⟩⟩
  by_cases h128 : 128 ≤ h
  · have hRW : ∀ l, RdW 256 b l ↔ OkE (nibs b (h - 127).toNat) l := by
      intro l
      unfold RdW
      rw [htp, if_pos h128]
      exact ⟨fun ⟨t, h1, h2⟩ => by rw [Option.some.injEq] at h1; subst h1; exact h2, fun h => ⟨_, rfl, h⟩⟩
    rw [if_pos h128] at hhn
    obtain ⟨nN, hnN⟩ : ∃ nN : Nat, n = nN := ⟨n.toNat, by omega⟩
    obtain ⟨kN, hkN⟩ : ∃ kN : Nat, h - 127 = kN := ⟨(h - 127).toNat, by omega⟩
    rw [hkN, Int.toNat_natCast] at hRW
    have hk2 : kN ≤ 2 * nN ∧ 2 * nN ≤ kN + 1 ∧ kN ≤ 128 ∧ nN ≤ 64 := by omega
    have hends := fun (c cc : Nat) (h : c ≤ cc) => ends_con (nibs b (2 * nN)) kN c cc (nibs_u8 hby _) (by rw [nibs_len]; omega) h (by omega)
    rw [nibs_take b hk2.1] at hends
    have hnl : ∀ k, (nibs b k).length = k := nibs_len b
    have hns : ∀ k, nibs b (k + 1) = nibs b k ++ [nibW b k] := nibs_succ b
    have hnb : ∀ i, nibW b (2 * i) = b.getD (1 + i) 0 / 16 ∧ nibW b (2 * i + 1) = b.getD (1 + i) 0 % 16 := by
      intro i
      unfold nibW
      rw [if_pos (by omega), if_neg (by omega), show 2 * i / 2 = i by omega, show (2 * i + 1) / 2 = i by omega]
      exact ⟨rfl, rfl⟩
    have hbb := byte_bit hby
    unfold isByte at hbb
    refine con_gen (con_picks (con_drop (con_walk hmix fn6 ?_)))
    intro vb vc vw vtoN vofN vaddN vsubN vmaxI vminI vcutN vgd vst vln vrep vsub vonto vsplice vstrEq vbyteV vnotB veqB hw qb qc qw qtoN qofN qaddN qsubN qmaxI qminI qcutN qgd qst qln qrep qsub qonto qsplice qstrEq qbyteV qnotB qeqB
    have f17 := fn17
    have hm := hmix; generalize Try.prog = P at *
    generalize shortW b = SH at *
    generalize RdW 256 b = RW at *
    generalize nibW b = NB at *
    have hnib0 : nibs b 0 = [] := rfl
    generalize nibs b = NBS at *
    generalize OkE (NBS kN) = OK at *
    generalize hbl : b.length = bl at *
    have hgd : ∀ i, vgd b i = b.getD i 0 := fun i => by rw [qgd]
    have hlnb : vln b = bl := by simp only [qln, hbl]
    have hlnq : ∀ l, vln l = l.length := fun l => by rw [qln]
    have haddq : ∀ a b, vaddN a b = a + b := fun a b => by rw [qaddN]
    obtain ⟨bI, hbI⟩ : ∃ bI : Int, bI = bl := ⟨_, rfl⟩
    have ebl : vofN bl = bI := by rw [qofN, hbI]
    have e0 : vc .eql bI 0 = false := by rw [qc, eql_false]; omega
    have ewh : vw .i64 h = h := by rw [qw]; exact wrap_i64 (by omega) (by omega)
    have e128 : vc .geq h 128 = true := by rw [qc, geq_true]; exact h128
    have e128' : vc .lss h 128 = false := by rw [qc, lss_false]; omega
    have es1 : vb .sub .i64 h 126 = h - 126 := by rw [qb, sub_i64 (by omega) (by omega)]
    have eq1 : vb .quo .i64 (h - 126) 2 = n := by rw [qb, quo_i64 (by omega) (by omega) (by omega), hhn]
    have es2 : vb .sub .i64 bI 1 = bI - 1 := by rw [qb, sub_i64 (by omega) (by omega)]
    have es3 : vb .sub .i64 h 127 = h - 127 := by rw [qb, sub_i64 (by omega) (by omega)]
    have ea1 : vb .add .i64 1 n = 1 + n := by rw [qb, add_i64 (by omega) (by omega)]
    obtain ⟨h126, hh126⟩ : ∃ x, x = h - 126 := ⟨_, rfl⟩
    rw [← hh126] at es1 eq1
    obtain ⟨h127, hh127⟩ : ∃ x, x = h - 127 := ⟨_, rfl⟩
    rw [← hh127] at es3
    obtain ⟨bI1, hbI1⟩ : ∃ x, x = bI - 1 := ⟨_, rfl⟩
    rw [← hbI1] at es2
    obtain ⟨n1, hn1⟩ : ∃ x, x = 1 + n := ⟨_, rfl⟩
    rw [← hn1] at ea1 ⊢
    cbv
    rw [ebl, e0]
    cbv
    rw [haddq, hlnb, hgd, ← hh0, ewh, e128]
    refine ⟨⟨by omega, by omega⟩, ⟨by omega⟩, ⟨by omega⟩, ?_⟩
    cbv
    rw [es1, eq1, ebl, es2]
    generalize hz1 : vc .lss bI1 n = z1
    cases z1
    rotate_left
    · rw [qc, lss_true] at hz1
      cbv
      exact ⟨[0], .tup [.val (.slice none 0 0), .lit .i64 0, .lit .i64 10], [.ro .u8 b], rfl, rfl, rfl, rfl, ⟨rfl, trivial⟩, rfl, .inl ⟨hsh.2 (.inr (by ((try simp only [nc] at *); omega))), rfl, rfl⟩⟩
    rw [qc, lss_false] at hz1
    have hnsh : ¬ SH := fun h => by rcases hsh.1 h with h | h <;> ((try simp only [nc] at *); omega)
    have htn1 : vtoN n1 = 1 + nN := by simp only [qtoN, hn1, hnN]; ((try simp only [nc] at *); omega)
    have hcut : vcutN 0 1 cap = 1 := by rw [qcutN]; simp only; rw [if_neg (by ((try simp only [nc] at *); omega))]
    have hsb1 : vsubN (1 + nN) 1 = nN := by rw [qsubN]; simp only; omega
    cbv
    rw [e128']
    cbv
    rw [ea1, htn1, hcut, hsb1]
    refine ⟨⟨by ((try simp only [nc] at *); omega), by ((try simp only [nc] at *); omega)⟩, ⟨by omega, by omega⟩, ?_⟩
    refine WX.cv (Cv.nilT 7 5 .u8 (by rfl) (by cbv; try exact ⟨fun _ => rfl, trivial⟩) (Cv.here ?_))
    obtain ⟨nI, hnI⟩ : ∃ nI : Int, nI = (nN : Int) := ⟨_, rfl⟩
    have enN : vofN nN = nI := by rw [qofN, hnI]
    obtain ⟨c1, hc1⟩ : ∃ c1, c1 = vsubN cap 1 := ⟨_, rfl⟩
    cbv
    rw [← hc1, enN]
    refine loop_fam (α := Int × Nat × Nat × List Int) ([10] ++ [45, 46, 47, 48, 49, 50, 51, 52, 53, 54, 55]) [1] (fun (k, m, c, L) => [(44, .int .i64 k), (7, .slice 1 .z 1 m c)]) (fun (k, m, c, L) => [(1, .buf 5 .u8 L c)])
      (fun (k, m, c, L) => ∃ i : Nat, k = i ∧ i ≤ nN ∧ L = NBS (2 * i) ∧ m = 2 * i ∧ m ≤ c) (fun (k, _) => nN - k.toNat) hw hm ?_ ?_
    · refine Cv.genAt [44] [] (Cv.fold ([10] ++ [45, 46, 47, 48, 49, 50, 51, 52, 53, 54, 55]) 2 [1] (by exact Nat.le_refl _) (by exact Nat.le_of_ble_eq_true rfl) (by rfl) (by cbv) ?_)
      intro js
      refine ⟨(_, _, _, _), ?_, js, rfl⟩
      exact ⟨0, rfl, by omega, hnib0.symm, rfl, Nat.le_refl _⟩
    · rintro ⟨k, m, c, L⟩ js ⟨i, hk, hi, hL, hm2, hmc⟩
      cbv
      generalize hz2 : vc .lss k nI = z2
      cases z2
      rotate_left
      · rw [qc, lss_true] at hz2
        have hlt : i < nN := by ((try simp only [nc] at *); omega)
        have hti : vtoN k = i := by rw [qtoN, hk]; exact Int.toNat_natCast i
        have hinR : 0 ≤ k ∧ k < (nN : Int) := by ((try simp only [nc] at *); omega)
        obtain ⟨k1, hk1⟩ : ∃ k1 : Int, k1 = ((i + 1 : Nat) : Int) := ⟨_, rfl⟩
        have ek1 : vb .add .i64 k 1 = k1 := by (try simp only [nc] at *); rw [qb, add_i64 (by omega) (by omega)]; omega
        have hmu : ∀ _ : Unit, nN - k1.toNat < nN - k.toNat := fun _ => by ((try simp only [nc] at *); omega)
        have hb1 := hbb (1 + i)
        obtain ⟨hn1', hn2'⟩ := hnb i
        have hs1 := hns (2 * i)
        have hs2 := hns (2 * i + 1)
        rw [hs1, List.append_assoc, hn1', hn2', ← hL] at hs2
        generalize hxx : b.getD (1 + i) 0 = x at *
        obtain ⟨x1, hx1⟩ : ∃ x1, x1 = x / 16 := ⟨_, rfl⟩
        obtain ⟨x2, hx2⟩ : ∃ x2, x2 = x % 16 := ⟨_, rfl⟩
        have e1 : vb .shr .u8 x 4 = x1 := by rw [qb, shr_eq (by decide), hx1]; rfl
        have e2 : vb .and .u8 x 15 = x2 := by rw [qb, hx2, show (15 : Int) = 2 ^ 4 - 1 by decide, and_mask rfl 4 (by decide) hb1.1 (by show x < 256; omega)]; rfl
        rw [← hx1, ← hx2] at hs2
        obtain ⟨L2, hL2⟩ : ∃ L2, L2 = NBS (2 * i + 1 + 1) := ⟨_, rfl⟩
        rw [← hL2] at hs2
        have hont : vonto L m (vsub [x1, x2] 0 2) = L2 := by
          have hl2 : L.length = m := by rw [hL, hm2]; exact hnl _
          rw [hs2, qonto, qsub, ← hl2]; simp
        have hln2 : vln [x1, x2] = 2 := by rw [qln]; rfl
        have hlL : L.length = m := by rw [hL, hm2]; exact hnl _
        have ha2 := haddq m 2
        obtain ⟨m2, hm2'⟩ : ∃ m2, m2 = m + 2 := ⟨_, rfl⟩
        rw [← hm2'] at ha2
        have hm2b : m2 * 1 ≤ 140737488355328 := by omega
        have hlt2 : 1 + i < bl := by ((try simp only [nc] at *); omega)
        cbv
        rw [hti, haddq, hgd, hlnb, hxx, e1, e2]
        refine ⟨⟨hinR⟩, ⟨hlt2⟩, ⟨hlt2⟩, ⟨by rw [haddq, hln2]; exact Nat.le_refl _⟩, ⟨by rw [hlnq, hlL]; exact Nat.le_refl _⟩, ⟨Nat.le_refl _⟩, ⟨by rw [ha2]; exact hm2b⟩, ?_⟩
        intro c2 js2 hle
        have hle' : m2 ≤ c2 := by have := hle.out; simp only at this; rw [ha2] at this; exact this
        cbv
        rw [hont, ha2, ek1]
        refine Cv.fold ([10] ++ [45, 46, 47, 48, 49, 50, 51, 52, 53, 54, 55]) 2 [1] (by exact Nat.le_refl _) (by exact Nat.le_of_ble_eq_true rfl) (by rfl) (by cbv) ?_
        intro js
        refine ⟨(_, _, _, _), ?_, js, rfl⟩
        exact ⟨⟨i + 1, hk1, hlt, hL2, by omega, hle'⟩, hmu ()⟩
      · rw [qc, lss_false] at hz2
        have hin : i = nN := by ((try simp only [nc] at *); omega)
        subst hin
        have hth : vtoN h127 = kN := by rw [qtoN, hh127, hkN]; exact Int.toNat_natCast kN
        have hec := hends c c (Nat.le_refl _)
        rw [← hL] at hec
        have hnt : vnotB true = false := by rw [qnotB]; rfl
        have hnf : vnotB false = true := by rw [qnotB]; rfl
        cbv
        rw [es3, hth]
        refine ⟨⟨by ((try simp only [nc] at *); omega), by ((try simp only [nc] at *); omega)⟩, ?_⟩
        refine call_con (ρ := [(1, .z)]) hec ⟨by rfl, by rfl, by rfl, by cbv⟩ ?_
        rintro v H R js3 ⟨rfl, ⟨l, c3, hok, rfl, rfl⟩ | ⟨hno, l3, c3, rfl, rfl | ⟨n3, rfl⟩⟩⟩
        · obtain ⟨ll, hll⟩ : ∃ ll, ll = l.length := ⟨_, rfl⟩
          rw [← hll]
          cbv
          rw [hnt]
          cbv
          rw [ea1]
          subst hll
          exact ⟨[0, 1], .tup [.slice 1 .z 1 l.length c3, .int .i64 n1, .lit .i64 0], [.ro .u8 b, .buf 5 .u8 l c3], rfl, rfl, rfl, rfl, ⟨rfl, rfl, trivial⟩, rfl, .inr (.inr ⟨hnsh, l, c3, (hRW l).2 hok, rfl, rfl⟩)⟩
        · cbv
          rw [hnf]
          cbv
          exact ⟨[0], .tup [.val (.slice none 0 0), .lit .i64 0, .lit .i64 11], [.ro .u8 b], rfl, rfl, rfl, rfl, ⟨rfl, trivial⟩, rfl, .inr (.inl ⟨hnsh, fun l h => hno l ((hRW l).1 h), rfl, rfl⟩)⟩
        · cbv
          rw [hnf]
          cbv
          exact ⟨[0], .tup [.val (.slice none 0 0), .lit .i64 0, .lit .i64 11], [.ro .u8 b], rfl, rfl, rfl, rfl, ⟨rfl, trivial⟩, rfl, .inr (.inl ⟨hnsh, fun l h => hno l ((hRW l).1 h), rfl, rfl⟩)⟩
  · have hRW : ∀ l, RdW 256 b l ↔ ∃ t, bst 256 ((b.drop 1).take h.toNat) = some t ∧ OkE t l := by
      intro l
      unfold RdW
      rw [htp, if_neg h128]
    rw [if_neg h128] at hhn
    obtain ⟨nN, hnN⟩ : ∃ nN : Nat, n = nN := ⟨n.toNat, by omega⟩
    have hht : h.toNat = nN := by omega
    rw [hht] at hRW
    by_cases hs1 : (b.length : Int) - 1 < n
    · have hs := hsh.2 (.inr hs1)
      refine con_gen (con_picks (con_drop (con_walk hmix fn6 ?_)))
      intro vb vc vw vtoN vofN vaddN vsubN vmaxI vminI vcutN vgd vst vln vrep vsub vonto vsplice vstrEq vbyteV vnotB veqB hw qb qc qw qtoN qofN qaddN qsubN qmaxI qminI qcutN qgd qst qln qrep qsub qonto qsplice qstrEq qbyteV qnotB qeqB
      have hm := hmix; generalize Try.prog = P at *
      generalize shortW b = SH at *
      generalize RdW 256 b = RW at *
      generalize hbl : b.length = bl at *
      have hgd : ∀ i, vgd b i = b.getD i 0 := fun i => by rw [qgd]
      have hlnb : vln b = bl := by simp only [qln, hbl]
      have haddq : ∀ a b, vaddN a b = a + b := fun a b => by rw [qaddN]
      obtain ⟨bI, hbI⟩ : ∃ bI : Int, bI = bl := ⟨_, rfl⟩
      have ebl : vofN bl = bI := by rw [qofN, hbI]
      have e0 : vc .eql bI 0 = false := by rw [qc, eql_false]; omega
      have ewh : vw .i64 h = h := by rw [qw]; exact wrap_i64 (by omega) (by omega)
      have e128 : vc .geq h 128 = false := by rw [qc, geq_false]; exact h128
      have es2 : vb .sub .i64 bI 1 = bI - 1 := by rw [qb, sub_i64 (by omega) (by omega)]
      obtain ⟨bI1, hbI1⟩ : ∃ x, x = bI - 1 := ⟨_, rfl⟩
      rw [← hbI1] at es2
      have hz1 : vc .lss bI1 h = true := by rw [qc, lss_true]; omega
      cbv
      rw [ebl, e0]
      cbv
      rw [haddq, hlnb, hgd, ← hh0, ewh, e128]
      refine ⟨⟨by omega, by omega⟩, ⟨by omega⟩, ⟨by omega⟩, ?_⟩
      cbv
      rw [ebl, es2, hz1]
      cbv
      exact ⟨[0], .tup [.val (.slice none 0 0), .lit .i64 0, .lit .i64 10], [.ro .u8 b], rfl, rfl, rfl, rfl, ⟨rfl, trivial⟩, rfl, .inl ⟨hs, rfl, rfl⟩⟩
    have hnsh0 : ¬ shortW b := fun h => by rcases hsh.1 h with h | h <;> omega
    have hml : ((b.drop 1).take nN).length = nN := by rw [List.length_take, List.length_drop]; omega
    have hmb : ∀ x ∈ (b.drop 1).take nN, isByte x := fun x hx => hby x (List.mem_of_mem_drop (List.mem_of_mem_take hx))
    have hvm := view_mid b nN cap (by omega) hcap
    have hbs := fun c h => bystates_con ((b.drop 1).take nN) c hmb (by omega) h
    rw [hml] at hbs
    have hu8 := fun L => @bst_u8 256 ((b.drop 1).take nN) L
    have hends := fun (L : List Int) (c cc : Nat) (hL : bst 256 ((b.drop 1).take nN) = some L) (h : c ≤ cc) => ends_con L L.length c cc (bst_u8 hL).1 (Nat.le_refl _) h (by have := (bst_u8 hL).2; omega)
    simp only [List.take_length] at hends
    refine con_gen (con_picks (con_drop (con_walk hmix fn6 ?_)))
    intro vb vc vw vtoN vofN vaddN vsubN vmaxI vminI vcutN vgd vst vln vrep vsub vonto vsplice vstrEq vbyteV vnotB veqB hw qb qc qw qtoN qofN qaddN qsubN qmaxI qminI qcutN qgd qst qln qrep qsub qonto qsplice qstrEq qbyteV qnotB qeqB
    have hm := hmix; generalize Try.prog = P at *
    generalize shortW b = SH at *
    generalize RdW 256 b = RW at *
    generalize bst 256 ((b.drop 1).take nN) = RES at *
    generalize (b.drop 1).take nN = b1 at *
    generalize hOE : OkE = OE at *
    generalize hbl : b.length = bl at *
    have hgd : ∀ i, vgd b i = b.getD i 0 := fun i => by rw [qgd]
    have hlnb : vln b = bl := by simp only [qln, hbl]
    have haddq : ∀ a b, vaddN a b = a + b := fun a b => by rw [qaddN]
    obtain ⟨bI, hbI⟩ : ∃ bI : Int, bI = bl := ⟨_, rfl⟩
    have ebl : vofN bl = bI := by rw [qofN, hbI]
    have e0 : vc .eql bI 0 = false := by rw [qc, eql_false]; omega
    have ewh : vw .i64 h = h := by rw [qw]; exact wrap_i64 (by omega) (by omega)
    have e128 : vc .geq h 128 = false := by rw [qc, geq_false]; exact h128
    have e128' : vc .lss h 128 = true := by rw [qc, lss_true]; omega
    have es2 : vb .sub .i64 bI 1 = bI - 1 := by rw [qb, sub_i64 (by omega) (by omega)]
    obtain ⟨bI1, hbI1⟩ : ∃ x, x = bI - 1 := ⟨_, rfl⟩
    rw [← hbI1] at es2
    have hz1 : vc .lss bI1 h = false := by rw [qc, lss_false]; omega
    have ea1 : vb .add .i64 1 h = 1 + n := by rw [qb, add_i64 (by omega) (by omega), hhn]
    obtain ⟨n1, hn1⟩ : ∃ x, x = 1 + n := ⟨_, rfl⟩
    rw [← hn1] at ea1 ⊢
    have htn1 : vtoN n1 = 1 + nN := by simp only [qtoN, hn1, hnN]; ((try simp only [nc] at *); omega)
    have hcut : vcutN 0 1 cap = if cap = 1 then 0 else 0 + 1 := by rw [qcutN]
    have hsb1 : vsubN (1 + nN) 1 = nN := by rw [qsubN]; simp only; omega
    have hcp : nN ≤ vsubN cap 1 := by rw [qsubN]; simp only; omega
    rw [← hcut] at hvm
    obtain ⟨o1, ho1⟩ : ∃ o1, o1 = vcutN 0 1 cap := ⟨_, rfl⟩
    rw [← ho1] at hvm
    obtain ⟨c1, hc1⟩ : ∃ c1, c1 = vsubN cap 1 := ⟨_, rfl⟩
    rw [← hc1] at hcp
    have hbs1 := hbs c1 hcp
    have hnt : vnotB true = false := by rw [qnotB]; rfl
    have hnf : vnotB false = true := by rw [qnotB]; rfl
    cbv
    rw [ebl, e0]
    cbv
    rw [haddq, hlnb, hgd, ← hh0, ewh, e128]
    refine ⟨⟨by omega, by omega⟩, ⟨by omega⟩, ⟨by omega⟩, ?_⟩
    cbv
    rw [ebl, es2, hz1]
    cbv
    rw [e128']
    cbv
    rw [ea1, htn1, ← ho1, hsb1, ← hc1]
    refine ⟨⟨by ((try simp only [nc] at *); omega), by ((try simp only [nc] at *); omega)⟩, ⟨by omega, by ((try simp only [nc] at *); omega)⟩, ?_⟩
    refine call_con (ρ := [(0, .n o1)]) hbs1 ⟨by rfl, by rfl, by rfl, by cbv; exact ⟨hvm, trivial⟩⟩ ?_
    rintro v H R js ⟨rfl, ⟨hres, rfl, rfl⟩ | ⟨L, c2, hres, rfl, rfl⟩⟩
    · cbv
      rw [hnf]
      cbv
      have hno : ∀ l, ¬ RW l := fun l h => by
        obtain ⟨t, h1, _⟩ := (hRW l).1 h
        rw [hres] at h1
        cases h1
      exact ⟨[0], .tup [.val (.slice none 0 0), .lit .i64 0, .lit .i64 11], [.ro .u8 b], rfl, rfl, rfl, rfl, ⟨rfl, trivial⟩, rfl, .inr (.inl ⟨hnsh0, hno, rfl, rfl⟩)⟩
    · have hec := hends L c2 c2 hres (Nat.le_refl _)
      have hRW' : ∀ l, RW l ↔ OE L l := fun l => by
        rw [hRW, hres]
        exact ⟨fun ⟨t, h1, h2⟩ => by rw [Option.some.injEq] at h1; subst h1; exact h2, fun h => ⟨_, rfl, h⟩⟩
      obtain ⟨Ln, hLn⟩ : ∃ Ln, Ln = L.length := ⟨_, rfl⟩
      rw [← hLn] at hec ⊢
      generalize OE L = OK at *
      cbv
      refine call_con (ρ := [(1, .z)]) hec ⟨by rfl, by rfl, by rfl, by cbv⟩ ?_
      rintro v H R js3 ⟨rfl, ⟨l, c3, hok, rfl, rfl⟩ | ⟨hno, l3, c3, rfl, rfl | ⟨n3, rfl⟩⟩⟩
      · obtain ⟨ll, hll⟩ : ∃ ll, ll = l.length := ⟨_, rfl⟩
        rw [← hll]
        cbv
        rw [hnt]
        cbv
        rw [ea1]
        subst hll
        exact ⟨[0, 1], .tup [.slice 1 .z 1 l.length c3, .int .i64 n1, .lit .i64 0], [.ro .u8 b, .buf 5 .u8 l c3], rfl, rfl, rfl, rfl, ⟨rfl, rfl, trivial⟩, rfl, .inr (.inr ⟨hnsh0, l, c3, (hRW' l).2 hok, rfl, rfl⟩)⟩
      · cbv
        rw [hnf]
        cbv
        exact ⟨[0], .tup [.val (.slice none 0 0), .lit .i64 0, .lit .i64 11], [.ro .u8 b], rfl, rfl, rfl, rfl, ⟨rfl, trivial⟩, rfl, .inr (.inl ⟨hnsh0, fun l h => hno l ((hRW' l).1 h), rfl, rfl⟩)⟩
      · cbv
        rw [hnf]
        cbv
        exact ⟨[0], .tup [.val (.slice none 0 0), .lit .i64 0, .lit .i64 11], [.ro .u8 b], rfl, rfl, rfl, rfl, ⟨rfl, trivial⟩, rfl, .inr (.inl ⟨hnsh0, fun l h => hno l ((hRW' l).1 h), rfl, rfl⟩)⟩
end Go.Proofs.Ytaaklikigccdfaa
