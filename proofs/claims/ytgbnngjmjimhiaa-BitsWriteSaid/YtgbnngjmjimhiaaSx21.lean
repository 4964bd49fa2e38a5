/-
  The engine, part 21: small helps.
-/
import Derived.Test.YtgbnngjmjimhiaaSx20
namespace Go.Sx
open Go
theorem run_std {P : Program} {x : XC} {s : SS} {K : XE → SS → Prop} (h : ∀ O, O = std → ex O P x s K) : ex std P x s K := h std rfl
/-- The words, each by its name: O.b, O.c .. are variables then. -/
structure Words (O : Ops) : Prop where
  b : O.b = bV
  c : O.c = cV
  w : O.w = fun k x => k.wrap x
  toN : O.toN = fun n => n.toNat
  ofN : O.ofN = fun (n : Nat) => (n : Int)
  addN : O.addN = fun a b => a + b
  subN : O.subN = fun a b => a - b
  maxI : O.maxI = fun x y => if y > x then y else x
  minI : O.minI = fun x y => if y < x then y else x
  cutN : O.cutN = fun i l m => if m = l then i else i + l
  gd : O.gd = fun l n => l.getD n 0
  st : O.st = fun l n v => l.set n v
  ln : O.ln = fun l => l.length
  rep : O.rep = fun n v => List.replicate n v
  sub : O.sub = fun l i n => (l.drop i).take n
  onto : O.onto = fun l n xs => l.take n ++ xs
  splice : O.splice = fun l i xs => l.take i ++ xs ++ l.drop (i + xs.length)
  strEq : O.strEq = fun a b => a.map (fun n => UInt8.ofNat n.toNat) == b.map (fun n => UInt8.ofNat n.toNat)
  byteV : O.byteV = fun n => ((UInt8.ofNat n.toNat).toNat : Int)
  notB : O.notB = fun b => !b
  eqB : O.eqB = fun a b => a == b
theorem words : Words std := ⟨rfl, rfl, rfl, rfl, rfl, rfl, rfl, rfl, rfl, rfl, rfl, rfl, rfl, rfl, rfl, rfl, rfl, rfl, rfl, rfl, rfl⟩
/-- A walk: over whatever words, and then over these. -/
theorem walk {P : Program} {x : XC} {s : SS} {K : XE → SS → Prop} (h : ∀ vb vc vw vtoN vofN vaddN vsubN vmaxI vminI vcutN vgd vst vln vrep vsub vonto vsplice vstrEq vbyteV vnotB veqB,
    Words ⟨vb, vc, vw, vtoN, vofN, vaddN, vsubN, vmaxI, vminI, vcutN, vgd, vst, vln, vrep, vsub, vonto, vsplice, vstrEq, vbyteV, vnotB, veqB⟩ →
    ex ⟨vb, vc, vw, vtoN, vofN, vaddN, vsubN, vmaxI, vminI, vcutN, vgd, vst, vln, vrep, vsub, vonto, vsplice, vstrEq, vbyteV, vnotB, veqB⟩ P x s K) : ex std P x s K :=
  h _ _ _ _ _ _ _ _ _ _ _ _ _ _ _ _ _ _ _ _ _ words
theorem Words.eq {O : Ops} (h : Words O) : O = std := by
  cases O
  obtain ⟨h1, h2, h3, h4, h5, h6, h7, h8, h9, h10, h11, h12, h13, h14, h15, h16, h17, h18, h19, h20, h21⟩ := h
  simp only at *
  subst h1 h2 h3 h4 h5 h6 h7 h8 h9 h10 h11 h12 h13 h14 h15 h16 h17 h18 h19 h20 h21
  rfl
/-- A call walked in place. -/
theorem inl_walk {O : Ops} {P : Program} {f : Nat} {x : XC} {n : Nat} {rs : List Nat} {args : List SV} {s : SS} {K : SV → SS → Prop} {X : XE → SS → Prop} (hw : Words O) (hm : P.follows .mixedOrders = true) (hf : FnOk P f x n rs)
    (hsc : scL s.h.length s.t = true) (h : ex O P x { t := args ++ List.replicate (n - args.length) .undef, h := s.h, r := [], d := [], rd := none } (fin rs (InlPost s K))) : CallX P f args s K X := by
  rw [hw.eq] at h
  exact call_inl hsc (con_of_walk hm hf h)
theorem yield_walk {O : Ops} {P : Program} {s : SS} {l : Nat} {args : List SV} {K : SV → SS → Prop} {X : XE → SS → Prop} (hw : Words O) (hm : P.follows .mixedOrders = true) (hsc : scL s.h.length s.t = true)
    (h : ready s.h l (fun t ps asg body => args.length = ps.length ∧ ex O P asg (roundS l t ps args s) (fun e s1 => match e with
      | .normal => ready s1.h l (fun t1 ps1 a1 b1 => ex O P body { s1 with h := s1.h.set l (.loop .busy none t1 ps1 a1 b1) } (fun e2 s2 => endR l e2 s2 (fun v H => InlPost s K (.bool v) H s2.r)))
      | _ => False))) : YieldX P l args s K X := by
  rw [hw.eq] at h
  exact yield_rule hm hsc h
theorem loop_walk {O : Ops} {P : Program} {s : SS} {b : XC} {K : XE → SS → Prop} (hw : Words O) (hm : P.follows .mixedOrders = true) (J : Nat → SS → Prop) (h0 : Cv P s.h.length s (fun s' => ∃ n, J n s'))
    (round : ∀ n s', J n s' → ex O P b s' (fun e s'' => match e with
      | .normal => Cv P s.h.length s'' (fun s3 => ∃ m, m < n ∧ J m s3)
      | .exit id => K (.exit id) s''
      | .ret => K .ret s''
      | .panic v => K (.panic v) s'')) : WX P (.loop b) s K := by
  rw [hw.eq] at round
  exact loop_rule hm J h0 round
/-- The same, the family made out of the state at the loop's head. -/
theorem loop_of {O : Ops} {P : Program} {s : SS} {b : XC} {K : XE → SS → Prop} (J : SS → Nat → SS → Prop) (hw : Words O) (hm : P.follows .mixedOrders = true) (h0 : Cv P s.h.length s (fun s' => ∃ n, J s n s'))
    (round : ∀ n s', J s n s' → ex O P b s' (fun e s'' => match e with
      | .normal => Cv P s.h.length s'' (fun s3 => ∃ m, m < n ∧ J s m s3)
      | .exit id => K (.exit id) s''
      | .ret => K .ret s''
      | .panic v => K (.panic v) s'')) : WX P (.loop b) s K := loop_walk hw hm (J s) h0 round
theorem Con.mono {P : Program} {f : Nat} {args : List SV} {H : List SB} {Post Post' : SV → List SB → List Nat → Prop} (h : Con P f args H Post) (hP : ∀ v H R, Post v H R → Post' v H R) : Con P f args H Post' :=
  ⟨h.go, fun σ w hok => (h.out σ w hok).mono fun _ _ ⟨σ', v, H', R, k1, k2⟩ => ⟨σ', v, H', R, hP _ _ _ k1, k2⟩⟩
/-- The blocks behind the first m are forgotten. -/
theorem con_cut {P : Program} {f : Nat} {args : List SV} {H : List SB} {Post : SV → List SB → List Nat → Prop} (m : Nat) (hm : H.length ≤ m) (h : Con P f args H (fun v H' R => m ≤ H'.length ∧ Post v (H'.take m) R)) : Con P f args H Post := by
  refine ⟨h.go, fun σ w hok => (h.out σ w hok).mono ?_⟩
  rintro e w' ⟨σ', v, H', R, ⟨hl, k1⟩, k2, k3, k4⟩
  have hget : ∀ i B, (H'.take m)[i]? = some B → H'[i]? = some B := fun i B hB => by
    rw [List.getElem?_take] at hB
    split at hB
    · exact hB
    · cases hB
  refine ⟨σ', v, H'.take m, R, k1, k2, ⟨fun i p hi hp => k3.lt i p (by simp at hi; simp; omega) hp, fun i j B C p q hij hB hC => k3.ne i j B C p q hij (hget _ _ hB) (hget _ _ hC), fun i B hB => k3.blk i B (hget _ _ hB), (fun l hl => by cases hl), (fun l hl => by cases hl)⟩,
    ⟨k4.size, k4.os, k4.tape, k4.output, k4.far, by simp; omega, k4.names, k4.red, fun i B p hB => k4.own i B p (hget _ _ hB), rfl⟩⟩
def genH : List SB → List SB
  | [] => []
  | B :: l => genB B :: genH l
theorem genH_get : ∀ (l : List SB) (i : Nat), (genH l)[i]? = (l[i]?).map genB
  | [], i => by simp [genH]
  | B :: l, 0 => by simp [genH]
  | B :: l, i + 1 => by simp [genH, genH_get l i]
theorem genH_len : ∀ (l : List SB), (genH l).length = l.length
  | [] => rfl
  | B :: l => by simp [genH, genH_len l]
/-- Numbers of the program's text are numbers. -/
theorem con_gen {P : Program} {f : Nat} {args : List SV} {H : List SB} {Post : SV → List SB → List Nat → Prop} (h : Con P f args H (fun v H' R => Post (gen v) (genH H') R)) : Con P f args H Post := by
  refine ⟨h.go, fun σ w hok => (h.out σ w hok).mono ?_⟩
  rintro e w' ⟨σ', v, H', R, k1, k2, k3, k4⟩
  have hget : ∀ i B, (genH H')[i]? = some B → ∃ C, H'[i]? = some C ∧ B = genB C := fun i B hB => by
    rw [genH_get, Option.map_eq_some_iff] at hB
    obtain ⟨C, h1, h2⟩ := hB
    exact ⟨C, h1, h2.symm⟩
  refine ⟨σ', gen v, genH H', R, k1, by rw [den_gen]; exact k2, ⟨fun i p hi hp => k3.lt i p (by simpa [genH_len] using hi) hp, fun i j B C p q hij hB hC ho => ?_, fun i B hB => ?_, (fun l hl => by cases hl), (fun l hl => by cases hl)⟩,
    ⟨k4.size, k4.os, k4.tape, k4.output, k4.far, by simpa [genH_len] using k4.len, k4.names, k4.red, fun i B p hB hoB => ?_, rfl⟩⟩
  · obtain ⟨B', hB', rfl⟩ := hget i B hB
    obtain ⟨C', hC', rfl⟩ := hget j C hC
    rw [own_genB, own_genB] at ho
    exact k3.ne i j B' C' p q hij hB' hC' ho
  · obtain ⟨B', hB', rfl⟩ := hget i B hB
    exact holds_gen.2 (k3.blk i B' hB')
  · obtain ⟨B', hB', rfl⟩ := hget i B hB
    rw [own_genB] at hoB
    exact k4.own i B' p hB' hoB
theorem Cv.gen {P : Program} {s : SS} {S : SS → Prop} {n0 : Nat} (h : Cv P n0 { s with t := genL s.t, h := genH s.h } S) : Cv P n0 s S := by
  have hget : ∀ i B, (genH s.h)[i]? = some B → ∃ C, s.h[i]? = some C ∧ B = genB C := fun i B hB => by
    rw [genH_get, Option.map_eq_some_iff] at hB
    obtain ⟨C, h1, h2⟩ := hB
    exact ⟨C, h1, h2.symm⟩
  refine ⟨fun σ0 s0 w0 σ w hn hok hst => ?_⟩
  obtain ⟨σ2, s2, k1, k2, k3, k4, k5⟩ := h.out σ0 s0 w0 σ w hn
    ⟨fun i p hi hp => hok.lt i p (by simpa [genH_len] using hi) hp, fun i j B C p q hij hB hC ho => by
      obtain ⟨B', hB', rfl⟩ := hget i B hB
      obtain ⟨C', hC', rfl⟩ := hget j C hC
      rw [own_genB, own_genB] at ho
      exact hok.ne i j B' C' p q hij hB' hC' ho, fun i B hB => by
      obtain ⟨B', hB', rfl⟩ := hget i B hB
      exact holds_gen.2 (hok.blk i B' hB'), fun l hl => ⟨(hok.marks l hl).1, by rw [genH_get, (hok.marks l hl).2]; rfl⟩, fun l hl => by
      obtain ⟨h1, B, h2, h3⟩ := hok.rnd l hl
      exact ⟨h1, genB B, by rw [genH_get, h2]; rfl, by rw [isLoop_genB]; exact h3⟩⟩
    ⟨hst.size, hst.os, hst.tape, hst.output, hst.far, by simpa [genH_len] using hst.len, hst.names, hst.red, fun i B p hB hoB => by
      obtain ⟨B', hB', rfl⟩ := hget i B hB
      rw [own_genB] at hoB
      exact hst.own i B' p hB' hoB, hst.rd⟩
  refine ⟨σ2, s2, k1, k2, k3, k4.trans ?_, fun hl => k5 (by simpa [genH_len] using hl)⟩
  unfold act
  simp only [den_genL]
end Go.Sx
