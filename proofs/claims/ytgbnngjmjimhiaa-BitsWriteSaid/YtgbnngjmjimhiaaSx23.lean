/-
  The engine, part 23: families of states; a contract's changed names; bits.
-/
import Derived.Test.YtgbnngjmjimhiaaSx22
namespace Go.Sx
open Go
theorem genL_get : ∀ (l : List SV) (i : Nat), (genL l)[i]? = (l[i]?).map gen
  | [], i => by simp [genL]
  | v :: l, 0 => by simp [genL]
  | v :: l, i + 1 => by simp [genL, genL_get l i]
/-- Numbers of the program's text, at some temporaries and in some blocks, are numbers. -/
def genTs : List Nat → List SV → List SV
  | [], l => l
  | j :: js, l => genTs js (l.set j (gen (l.getD j .undef)))
def genHs : List Nat → List SB → List SB
  | [], l => l
  | j :: js, l => genHs js (match l[j]? with
    | some B => l.set j (genB B)
    | none => l)
theorem genTs_den (σ : Names) : ∀ (js : List Nat) (l : List SV), denL σ (genTs js l) = denL σ l
  | [], l => rfl
  | j :: js, l => by
    rw [genTs, genTs_den σ js]
    cases h : l[j]? with
    | none =>
      have : l.length ≤ j := List.getElem?_eq_none_iff.1 h
      rw [List.set_eq_of_length_le this]
    | some v =>
      refine denL_set h ?_
      rw [List.getD_eq_getElem?_getD, h]
      exact den_gen σ v
theorem genHs_get : ∀ (js : List Nat) (l : List SB) (i : Nat) (B : SB), (genHs js l)[i]? = some B → ∃ C, l[i]? = some C ∧ (B = C ∨ genB B = genB C)
  | [], l, i, B, h => ⟨B, h, .inl rfl⟩
  | j :: js, l, i, B, h => by
    rw [genHs] at h
    obtain ⟨C, h1, h2⟩ := genHs_get js _ i B h
    cases hj : l[j]? with
    | none => rw [hj] at h1; exact ⟨C, h1, h2⟩
    | some D =>
      rw [hj] at h1
      simp only at h1
      rw [List.getElem?_set] at h1
      split at h1
      · rename_i e
        subst e
        split at h1
        · cases h1
          refine ⟨D, hj, .inr ?_⟩
          rcases h2 with rfl | h2
          · exact genB_genB D
          · rw [h2]; exact genB_genB D
        · cases h1
      · exact ⟨C, h1, h2⟩
where
  genB_genB (D : SB) : genB (genB D) = genB D := by
    cases D <;> simp only [genB, genL_genL]
  gen_gen : ∀ (v : SV), gen (gen v) = gen v
    | .lit _ _ => rfl
    | .fn f cs => by simp only [gen, genL_genL cs]
    | .iface t v => by simp only [gen, gen_gen v]
    | .agg cs => by simp only [gen, genL_genL cs]
    | .tup cs => by simp only [gen, genL_genL cs]
    | .undef => rfl
    | .val _ => rfl
    | .bool _ => rfl
    | .int _ _ => rfl
    | .str _ => rfl
    | .ptr _ _ _ _ => rfl
    | .slice _ _ _ _ _ => rfl
    | .yield _ => rfl
  genL_genL : ∀ (l : List SV), genL (genL l) = genL l
    | [] => rfl
    | v :: l => by simp only [genL, gen_gen v, genL_genL l]
theorem genHs_len : ∀ (js : List Nat) (l : List SB), (genHs js l).length = l.length
  | [], l => rfl
  | j :: js, l => by rw [genHs, genHs_len js]; split <;> simp
theorem genHs_idem {js : List Nat} {l : List SB} {i : Nat} {B : SB} (h : (genHs js l)[i]? = some B) : ∃ C, l[i]? = some C ∧ own B = own C ∧ isLoop B = isLoop C ∧ ∀ P σ p w, holds P σ p w B ↔ holds P σ p w C := by
  obtain ⟨C, h1, h2⟩ := genHs_get js l i B h
  refine ⟨C, h1, ?_⟩
  rcases h2 with rfl | h2
  · exact ⟨rfl, rfl, fun _ _ _ _ => Iff.rfl⟩
  · refine ⟨by rw [← own_genB B, h2, own_genB], by rw [← isLoop_genB B, h2, isLoop_genB], fun P σ p w => ?_⟩
    rw [← holds_gen (B := B), h2, holds_gen]
theorem genHs_defd {js : List Nat} {l : List SB} {i : Nat} (h : l[i]? = some .defd) : (genHs js l)[i]? = some .defd := by
  induction js generalizing l with
  | nil => exact h
  | cons j js ih =>
    rw [genHs]
    refine ih ?_
    cases hj : l[j]? with
    | none => exact h
    | some D =>
      simp only
      rw [List.getElem?_set]
      split
      · rename_i e; subst e
        rw [h] at hj; cases hj
        rw [if_pos (List.getElem?_eq_some_iff.1 h).1]; rfl
      · exact h
theorem genHs_loop {js : List Nat} {l : List SB} {i : Nat} {B : SB} (h : l[i]? = some B) (hB : isLoop B = true) : ∃ C, (genHs js l)[i]? = some C ∧ isLoop C = true := by
  have hi : i < (genHs js l).length := by rw [genHs_len]; exact (List.getElem?_eq_some_iff.1 h).1
  obtain ⟨C, hC⟩ : ∃ C, (genHs js l)[i]? = some C := ⟨_, List.getElem?_eq_getElem hi⟩
  obtain ⟨D, h1, _, h2, _⟩ := genHs_idem hC
  rw [h] at h1; cases h1
  exact ⟨C, hC, by rw [h2]; exact hB⟩
theorem Cv.genAt {P : Program} {s : SS} {S : SS → Prop} {n0 : Nat} (ts hs : List Nat) (h : Cv P n0 { s with t := genTs ts s.t, h := genHs hs s.h } S) : Cv P n0 s S := by
  refine ⟨fun σ0 s0 w0 σ w hn hok hst => ?_⟩
  obtain ⟨σ2, s2, k1, k2, k3, k4, k5⟩ := h.out σ0 s0 w0 σ w hn
    ⟨fun i p hi hp => hok.lt i p (by simpa [genHs_len] using hi) hp, fun i j B C p q hij hB hC ho => by
      obtain ⟨B', hB', e1, _⟩ := genHs_idem hB
      obtain ⟨C', hC', e2, _⟩ := genHs_idem hC
      rw [e1, e2] at ho
      exact hok.ne i j B' C' p q hij hB' hC' ho, fun i B hB => by
      obtain ⟨B', hB', _, _, e3⟩ := genHs_idem hB
      exact (e3 P σ (σ i) w).2 (hok.blk i B' hB'), fun l hl => ⟨(hok.marks l hl).1, genHs_defd (hok.marks l hl).2⟩, fun l hl => by
      obtain ⟨h1, B, h2, h3⟩ := hok.rnd l hl
      obtain ⟨C, h4, h5⟩ := genHs_loop h2 h3
      exact ⟨h1, C, h4, h5⟩⟩
    ⟨hst.size, hst.os, hst.tape, hst.output, hst.far, by simpa [genHs_len] using hst.len, hst.names, hst.red, fun i B p hB hoB => by
      obtain ⟨B', hB', e1, _⟩ := genHs_idem hB
      rw [e1] at hoB
      exact hst.own i B' p hB' hoB, hst.rd⟩
  refine ⟨σ2, s2, k1, k2, k3, k4.trans ?_, fun hl => k5 (by simpa [genHs_len] using hl)⟩
  unfold act
  simp only [genTs_den]
/-- Dead temporaries forgotten, trailing blocks forgotten, more names taken for changed. -/
theorem Cv.fold {P : Program} {s : SS} {S : SS → Prop} {n0 : Nat} (D : List Nat) (m : Nat) (R : List Nat) (hm : n0 ≤ m) (hle : m ≤ s.h.length) (hR : subR s.r R = true) (hd : keepD R (s.h.take m) s.d (keepR R (s.h.take m) s.rd True))
    (h : ∀ js, S { t := havL D js 0 s.t, h := s.h.take m, r := R, d := s.d, rd := s.rd }) : Cv P n0 s S := by
  refine Cv.hav D fun js => ?_
  have hd' : ∀ R', (∀ i, i ∈ R' → i ∈ R) → keepD R' (s.h.take m) s.d (keepR R' (s.h.take m) s.rd True) := fun R' hR' => by
    obtain ⟨hr, h1⟩ := keepD_spec hd
    obtain ⟨_, h2⟩ := keepR_spec hr
    have hr' : keepR R' (s.h.take m) s.rd True := by
      unfold keepR
      cases hrd : s.rd with
      | none => trivial
      | some l =>
        obtain ⟨h3, B, h4, h5⟩ := h2 l hrd
        simp only
        rw [if_neg (fun hm => h3 (hR' l (memN_iff.1 hm))), h4]
        cases B <;> simp [isLoop] at h5 ⊢
    clear hr h2
    generalize s.d = ds at h1
    induction ds with
    | nil => exact hr'
    | cons l ds ih =>
      obtain ⟨h3, h4⟩ := h1 l (by simp)
      simp only [keepD]
      rw [if_neg (fun hm => h3 (hR' l (memN_iff.1 hm))), h4]
      exact ih (fun l hl => h1 l (List.mem_cons_of_mem _ hl))
  refine Cv.cut m hm (by simpa [Sx.hav] using hle) (hd' [] (fun i hi => by cases hi)) ?_
  refine Cv.red R hR hd ?_
  exact Cv.here (h js)
def setLs : List (Nat × SV) → List SV → List SV
  | [], l => l
  | (j, v) :: r, l => setLs r (l.set j v)
def setHs : List (Nat × SB) → List SB → List SB
  | [], l => l
  | (j, v) :: r, l => setHs r (l.set j v)
/-- A state of a family: what the base state s was, but for these. -/
def fam (D : List Nat) (R : List Nat) (s : SS) (js : Nat → Value) (T : List (Nat × SV)) (B : List (Nat × SB)) : SS :=
  { t := havL D js 0 (setLs T s.t), h := setHs B s.h, r := R, d := s.d, rd := s.rd }
/-- A loop, its states a family. -/
theorem loop_fam {O : Ops} {P : Program} {s : SS} {b : XC} {K : XE → SS → Prop} {α : Type} (D : List Nat) (R : List Nat) (T : α → List (Nat × SV)) (B : α → List (Nat × SB)) (I : α → Prop) (μ : α → Nat) (hw : Words O) (hm : P.follows .mixedOrders = true)
    (h0 : Cv P s.h.length s (fun s' => ∃ a, I a ∧ ∃ js, s' = fam D R s js (T a) (B a)))
    (round : ∀ a js, I a → ex O P b (fam D R s js (T a) (B a)) (fun e s'' => match e with
      | .normal => Cv P s.h.length s'' (fun s3 => ∃ a', (I a' ∧ μ a' < μ a) ∧ ∃ js, s3 = fam D R s js (T a') (B a'))
      | .exit id => K (.exit id) s''
      | .ret => K .ret s''
      | .panic v => K (.panic v) s'')) : WX P (.loop b) s K := by
  refine loop_walk hw hm (fun n s' => ∃ a, (I a ∧ μ a = n) ∧ ∃ js, s' = fam D R s js (T a) (B a)) (h0.mono fun s' ⟨a, h1, h2⟩ => ⟨_, a, ⟨h1, rfl⟩, h2⟩) ?_
  rintro n s' ⟨a, ⟨h1, rfl⟩, js, rfl⟩
  have := round a js h1
  have e : (fun (e : XE) (s'' : SS) => match e with
      | .normal => Cv P s.h.length s'' (fun s3 => ∃ a', (I a' ∧ μ a' < μ a) ∧ ∃ js, s3 = fam D R s js (T a') (B a'))
      | .exit id => K (.exit id) s''
      | .ret => K .ret s''
      | .panic v => K (.panic v) s'') = (fun (e : XE) (s'' : SS) => match e with
      | .normal => Cv P s.h.length s'' (fun s3 => ∃ m, m < μ a ∧ ∃ a', (I a' ∧ μ a' = m) ∧ ∃ js, s3 = fam D R s js (T a') (B a'))
      | .exit id => K (.exit id) s''
      | .ret => K .ret s''
      | .panic v => K (.panic v) s'') := by
    funext e s''
    cases e with
    | normal =>
      refine propext ⟨fun h => h.mono ?_, fun h => h.mono ?_⟩
      · rintro s3 ⟨a', ⟨h1, h2⟩, h3⟩; exact ⟨_, h2, a', ⟨h1, rfl⟩, h3⟩
      · rintro s3 ⟨m, hm, a', ⟨h1, rfl⟩, h3⟩; exact ⟨a', ⟨h1, hm⟩, h3⟩
    | _ => rfl
  rw [e] at this
  exact this
/-- More names taken for changed. -/
theorem con_red {P : Program} {f : Nat} {args : List SV} {H : List SB} {Post : SV → List SB → List Nat → Prop} (R0 : List Nat) (h : Con P f args H (fun v H' R => subR R R0 = true ∧ Post v H' R0)) : Con P f args H Post := by
  refine ⟨h.go, fun σ w hok => (h.out σ w hok).mono ?_⟩
  rintro e w' ⟨σ', v, H', R, ⟨hr, k1⟩, k2, k3, k4⟩
  exact ⟨σ', v, H', R0, k1, k2, ⟨k3.lt, k3.ne, k3.blk, (fun l hl => by cases hl), (fun l hl => by cases hl)⟩,
    ⟨k4.size, k4.os, k4.tape, k4.output, k4.far, k4.len, fun i hi hr' => k4.names i hi (fun h => hr' (subR_spec hr i h)), (fun i hi => by cases hi), k4.own, rfl⟩⟩

/-- A walk, the words by their meanings. -/
theorem walkW {P : Program} {x : XC} {s : SS} {K : XE → SS → Prop} (h : ∀ vb vc vw vtoN vofN vaddN vsubN vmaxI vminI vcutN vgd vst vln vrep vsub vonto vsplice vstrEq vbyteV vnotB veqB,
    Words ⟨vb, vc, vw, vtoN, vofN, vaddN, vsubN, vmaxI, vminI, vcutN, vgd, vst, vln, vrep, vsub, vonto, vsplice, vstrEq, vbyteV, vnotB, veqB⟩ →
    vb = bV → vc = cV → (vw = fun k x => k.wrap x) → (vtoN = fun n => n.toNat) → (vofN = fun (n : Nat) => (n : Int)) → (vaddN = fun a b => a + b) → (vsubN = fun a b => a - b) → (vmaxI = fun x y => if y > x then y else x) →
    (vminI = fun x y => if y < x then y else x) → (vcutN = fun i l m => if m = l then i else i + l) → (vgd = fun l n => l.getD n 0) → (vst = fun l n v => l.set n v) → (vln = fun l => l.length) → (vrep = fun n v => List.replicate n v) →
    (vsub = fun l i n => (l.drop i).take n) → (vonto = fun l n xs => l.take n ++ xs) → (vsplice = fun l i xs => l.take i ++ xs ++ l.drop (i + xs.length)) →
    (vstrEq = fun a b => a.map (fun n => UInt8.ofNat n.toNat) == b.map (fun n => UInt8.ofNat n.toNat)) → (vbyteV = fun n => ((UInt8.ofNat n.toNat).toNat : Int)) → (vnotB = fun b => !b) → (veqB = fun a b => a == b) →
    ex ⟨vb, vc, vw, vtoN, vofN, vaddN, vsubN, vmaxI, vminI, vcutN, vgd, vst, vln, vrep, vsub, vonto, vsplice, vstrEq, vbyteV, vnotB, veqB⟩ P x s K) : ex std P x s K :=
  h _ _ _ _ _ _ _ _ _ _ _ _ _ _ _ _ _ _ _ _ _ words rfl rfl rfl rfl rfl rfl rfl rfl rfl rfl rfl rfl rfl rfl rfl rfl rfl rfl rfl rfl rfl

/-- A function's contract by a walk. -/
theorem con_walk {P : Program} {f : Nat} {x : XC} {n : Nat} {rs : List Nat} {args : List SV} {H : List SB} {Post : SV → List SB → List Nat → Prop} (hm : P.follows .mixedOrders = true) (hf : FnOk P f x n rs)
    (h : ∀ vb vc vw vtoN vofN vaddN vsubN vmaxI vminI vcutN vgd vst vln vrep vsub vonto vsplice vstrEq vbyteV vnotB veqB,
    Words ⟨vb, vc, vw, vtoN, vofN, vaddN, vsubN, vmaxI, vminI, vcutN, vgd, vst, vln, vrep, vsub, vonto, vsplice, vstrEq, vbyteV, vnotB, veqB⟩ →
    vb = bV → vc = cV → (vw = fun k x => k.wrap x) → (vtoN = fun n => n.toNat) → (vofN = fun (n : Nat) => (n : Int)) → (vaddN = fun a b => a + b) → (vsubN = fun a b => a - b) → (vmaxI = fun x y => if y > x then y else x) →
    (vminI = fun x y => if y < x then y else x) → (vcutN = fun i l m => if m = l then i else i + l) → (vgd = fun l n => l.getD n 0) → (vst = fun l n v => l.set n v) → (vln = fun l => l.length) → (vrep = fun n v => List.replicate n v) →
    (vsub = fun l i n => (l.drop i).take n) → (vonto = fun l n xs => l.take n ++ xs) → (vsplice = fun l i xs => l.take i ++ xs ++ l.drop (i + xs.length)) →
    (vstrEq = fun a b => a.map (fun n => UInt8.ofNat n.toNat) == b.map (fun n => UInt8.ofNat n.toNat)) → (vbyteV = fun n => ((UInt8.ofNat n.toNat).toNat : Int)) → (vnotB = fun b => !b) → (veqB = fun a b => a == b) →
    ex ⟨vb, vc, vw, vtoN, vofN, vaddN, vsubN, vmaxI, vminI, vcutN, vgd, vst, vln, vrep, vsub, vonto, vsplice, vstrEq, vbyteV, vnotB, veqB⟩ P x { t := args ++ List.replicate (n - args.length) .undef, h := H, r := [], d := [], rd := none } (fin rs Post)) : Con P f args H Post :=
  con_of_walk hm hf (walkW h)
theorem eql_true {x y : Int} : cV .eql x y = true ↔ x = y := by simp [cV]
theorem eql_false {x y : Int} : cV .eql x y = false ↔ ¬ (x = y) := by simp [cV]
theorem neq_true {x y : Int} : cV .neq x y = true ↔ x ≠ y := by simp [cV]
theorem neq_false {x y : Int} : cV .neq x y = false ↔ ¬ (x ≠ y) := by simp [cV]
theorem lss_true {x y : Int} : cV .lss x y = true ↔ x < y := by simp [cV]
theorem lss_false {x y : Int} : cV .lss x y = false ↔ ¬ (x < y) := by simp [cV]
theorem leq_true {x y : Int} : cV .leq x y = true ↔ x ≤ y := by simp [cV]
theorem leq_false {x y : Int} : cV .leq x y = false ↔ ¬ (x ≤ y) := by simp [cV]
theorem gtr_true {x y : Int} : cV .gtr x y = true ↔ y < x := by simp [cV]
theorem gtr_false {x y : Int} : cV .gtr x y = false ↔ ¬ (y < x) := by simp [cV]
theorem geq_true {x y : Int} : cV .geq x y = true ↔ y ≤ x := by simp [cV]
theorem geq_false {x y : Int} : cV .geq x y = false ↔ ¬ (y ≤ x) := by simp [cV]
theorem nc (n : Nat) : @NatCast.natCast Int instNatCastInt n = (n : Int) := rfl

/-! ### Bits -/
theorem max_unsigned {k : IntKind} (h : k.signed = false) {x : Int} (h0 : 0 ≤ x) (h1 : x < 2 ^ k.bits) : k.wrap x = x := by
  cases k <;> simp [IntKind.wrap, IntKind.bits, IntKind.signed] at * <;> omega
theorem toNat_lt_pow {x : Int} {n : Nat} (h0 : 0 ≤ x) (h1 : x < 2 ^ n) : x.toNat < 2 ^ n := by
  rw [Int.toNat_lt h0]; push_cast; exact h1
theorem and_u {k : IntKind} (h : k.signed = false) {x y : Int} (hx : 0 ≤ x) (hx1 : x < 2 ^ k.bits) (hy : 0 ≤ y) (hy1 : y < 2 ^ k.bits) : bV .and k x y = ((x.toNat &&& y.toNat : Nat) : Int) := by
  show k.wrap _ = _
  have e1 : (BitVec.ofInt k.bits x).toNat = x.toNat := by
    rw [BitVec.toNat_ofInt]; congr 1; rw [Int.emod_eq_of_lt hx (by exact_mod_cast hx1)]
  have e2 : (BitVec.ofInt k.bits y).toNat = y.toNat := by
    rw [BitVec.toNat_ofInt]; congr 1; rw [Int.emod_eq_of_lt hy (by exact_mod_cast hy1)]
  rw [BitVec.toNat_and, e1, e2]
  refine max_unsigned h (by omega) ?_
  have : x.toNat &&& y.toNat ≤ x.toNat := Nat.and_le_left
  have : ((x.toNat &&& y.toNat : Nat) : Int) ≤ x := by omega
  omega
theorem or_u {k : IntKind} (h : k.signed = false) {x y : Int} (hx : 0 ≤ x) (hx1 : x < 2 ^ k.bits) (hy : 0 ≤ y) (hy1 : y < 2 ^ k.bits) : bV .or k x y = ((x.toNat ||| y.toNat : Nat) : Int) := by
  show k.wrap _ = _
  have e1 : (BitVec.ofInt k.bits x).toNat = x.toNat := by
    rw [BitVec.toNat_ofInt]; congr 1; rw [Int.emod_eq_of_lt hx (by exact_mod_cast hx1)]
  have e2 : (BitVec.ofInt k.bits y).toNat = y.toNat := by
    rw [BitVec.toNat_ofInt]; congr 1; rw [Int.emod_eq_of_lt hy (by exact_mod_cast hy1)]
  rw [BitVec.toNat_or, e1, e2]
  refine max_unsigned h (by omega) ?_
  have h1 : x.toNat < 2 ^ k.bits := by first | exact toNat_lt_pow hx hx1 | exact toNat_lt_pow hy hy1
  have h2 : y.toNat < 2 ^ k.bits := by first | exact toNat_lt_pow hx hx1 | exact toNat_lt_pow hy hy1
  have := Nat.or_lt_two_pow h1 h2
  exact_mod_cast this
theorem xor_u {k : IntKind} (h : k.signed = false) {x y : Int} (hx : 0 ≤ x) (hx1 : x < 2 ^ k.bits) (hy : 0 ≤ y) (hy1 : y < 2 ^ k.bits) : bV .xor k x y = ((x.toNat ^^^ y.toNat : Nat) : Int) := by
  show k.wrap _ = _
  have e1 : (BitVec.ofInt k.bits x).toNat = x.toNat := by
    rw [BitVec.toNat_ofInt]; congr 1; rw [Int.emod_eq_of_lt hx (by exact_mod_cast hx1)]
  have e2 : (BitVec.ofInt k.bits y).toNat = y.toNat := by
    rw [BitVec.toNat_ofInt]; congr 1; rw [Int.emod_eq_of_lt hy (by exact_mod_cast hy1)]
  rw [BitVec.toNat_xor, e1, e2]
  refine max_unsigned h (by omega) ?_
  have h1 : x.toNat < 2 ^ k.bits := by first | exact toNat_lt_pow hx hx1 | exact toNat_lt_pow hy hy1
  have h2 : y.toNat < 2 ^ k.bits := by first | exact toNat_lt_pow hx hx1 | exact toNat_lt_pow hy hy1
  have := Nat.xor_lt_two_pow h1 h2
  exact_mod_cast this
theorem shr_eq {k : IntKind} {x y : Int} (hy1 : y ≤ k.bits) : bV .shr k x y = x / 2 ^ y.toNat := by
  show x.fdiv _ = _
  rw [Nat.min_eq_left (by omega), Int.fdiv_eq_ediv_of_nonneg]
  exact Int.le_of_lt (Int.pow_pos (by decide))
theorem shl_u {k : IntKind} (h : k.signed = false) {x y : Int} (hx : 0 ≤ x) (hy1 : y ≤ k.bits) (hx1 : x * 2 ^ y.toNat < 2 ^ k.bits) : bV .shl k x y = x * 2 ^ y.toNat := by
  show k.wrap _ = _
  rw [Nat.min_eq_left (by omega)]
  exact max_unsigned h (Int.mul_nonneg hx (Int.le_of_lt (Int.pow_pos (by decide)))) hx1
theorem and_mask {k : IntKind} (h : k.signed = false) {x : Int} (n : Nat) (hn : n ≤ k.bits) (hx : 0 ≤ x) (hx1 : x < 2 ^ k.bits) : bV .and k x (2 ^ n - 1) = x % 2 ^ n := by
  have hp : (0 : Int) < 2 ^ n := Int.pow_pos (by decide)
  have hq : (2 : Int) ^ n ≤ 2 ^ k.bits := by exact_mod_cast Nat.pow_le_pow_right (by decide) hn
  rw [and_u h hx hx1 (by omega) (by omega)]
  have e : ((2 : Int) ^ n - 1).toNat = 2 ^ n - 1 := by
    have : (2 : Int) ^ n = ((2 ^ n : Nat) : Int) := by push_cast; rfl
    omega
  rw [e, Nat.and_two_pow_sub_one_eq_mod]
  push_cast
  rw [Int.toNat_of_nonneg hx]
theorem and_one {k : IntKind} (h : k.signed = false) {x : Int} (hx : 0 ≤ x) (hx1 : x < 2 ^ k.bits) : bV .and k x 1 = x % 2 := by
  have := and_mask h (x := x) 1 (by cases k <;> simp [IntKind.bits]) hx hx1
  simpa using this
theorem or_add {k : IntKind} (h : k.signed = false) {x b : Int} (i : Nat) (hx : 0 ≤ x) (hx1 : x < 2 ^ i) (hb : 0 ≤ b) (hs : x + b * 2 ^ i < 2 ^ k.bits) : bV .or k x (b * 2 ^ i) = x + b * 2 ^ i := by
  have hp : (0 : Int) < 2 ^ i := Int.pow_pos (by decide)
  have hbp : 0 ≤ b * 2 ^ i := Int.mul_nonneg hb (Int.le_of_lt hp)
  rw [or_u h hx (by omega) hbp (by omega)]
  have e1 : (b * 2 ^ i).toNat = 2 ^ i * b.toNat := by
    have : b * 2 ^ i = ((2 ^ i * b.toNat : Nat) : Int) := by push_cast; rw [Int.toNat_of_nonneg hb, Int.mul_comm]
    rw [this]; rfl
  have hlt : x.toNat < 2 ^ i := by
    have : x < ((2 ^ i : Nat) : Int) := by push_cast; exact hx1
    omega
  rw [e1, Nat.or_comm, ← Nat.two_pow_add_eq_or_of_lt hlt]
  push_cast
  rw [Int.toNat_of_nonneg hx, Int.toNat_of_nonneg hb, Int.mul_comm b]
  omega
end Go.Sx
