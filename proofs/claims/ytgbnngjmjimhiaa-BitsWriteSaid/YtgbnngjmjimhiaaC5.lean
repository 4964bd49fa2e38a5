import Derived.Test.YtgbnngjmjimhiaaC4
namespace Go.Proofs.Ytgbnngjmjimhiaa
open Go Go.Sx Go.Proofs
theorem wakes_con : Con Try.prog 13 [] [] (fun v H R => v = .bool true ∧ H = [] ∧ R = [1, 3]) := by
  have h1 := put_con [] 0 2 2 (by decide) (by decide) (by simp) (by decide)
  have h2 := fun c => put_con [0, 1] c 5 3 (by decide) (by decide) (by simp [isBit]) (by decide)
  have h3 := fun c => close_con [0, 1, 1, 0, 1] c (by simp [isBit]) (by decide)
  have h4 := new_good [54] 1 (by decide) (by simp [isByte]) (by decide)
  have h5 := fun c => bits_con [54] c 5 3 (by simp [isByte]) (by decide) (by decide)
  have h6 := fun c => bits_con [54] c 2 2 (by simp [isByte]) (by decide) (by decide)
  have h7 := fun c => left_con [54] 1 c 0
  have h8 := fun c => bits_con [54] c 0 4 (by simp [isByte]) (by decide) (by decide)
  have h9 := new_bad [1, 0] 2 (by decide) (by decide)
  have h10 := fun c => left_con [54] 1 c (-4)
  simp only [show bitsN 2 2 = [0, 1] by decide, show bitsN 5 3 = [1, 0, 1] by decide, show pack ([] : List Int) = [] by decide, List.nil_append, List.cons_append, List.length_nil, List.length_cons, show pack [0, 1] = [2] by decide,
    show pack [0, 1, 1, 0, 1] = [22] by decide, show pack [0, 1, 1, 0, 1, 1] = [54] by decide] at h1 h2 h3
  simp only [show ((0 : Nat) : Int) = 0 from rfl, show ((1 : Nat) : Int) = 1 from rfl, show ((2 : Nat) : Int) = 2 from rfl, show ((3 : Nat) : Int) = 3 from rfl, show ((4 : Nat) : Int) = 4 from rfl, show ((5 : Nat) : Int) = 5 from rfl, Nat.zero_add, Nat.reduceAdd] at h1 h2 h3
  simp only [show len8 (List.getLastD [54] 0) = 6 by decide, List.length_cons, List.length_nil] at h4
  simp only [show ((0 : Nat) : Int) = 0 from rfl, show ((1 : Nat) : Int) = 1 from rfl, show ((2 : Nat) : Int) = 2 from rfl, show ((3 : Nat) : Int) = 3 from rfl, show ((4 : Nat) : Int) = 4 from rfl, show ((5 : Nat) : Int) = 5 from rfl, Nat.zero_add, Nat.reduceAdd, Int.reduceSub, Int.reduceMul, Int.reduceAdd] at h4
  simp only [show clampN 3 = 3 by decide, show clampN 2 = 2 by decide, show clampN 4 = 4 by decide, show rd [54] 5 3 = 5 by decide, show rd [54] 2 2 = 2 by decide, show rd [54] 0 4 = 0 by decide,
    show floorP (5 - ((3 : Nat) : Int)) = 2 by decide, show floorP (2 - ((2 : Nat) : Int)) = 0 by decide, show floorP (0 - ((4 : Nat) : Int)) = -4 by decide, List.length_cons, List.length_nil] at h5 h6 h8
  refine con_cut 0 (by simp) (con_red [1, 3] (con_walk hmix fn13 ?_))
  intro vb vc vw vtoN vofN vaddN vsubN vmaxI vminI vcutN vgd vst vln vrep vsub vonto vsplice vstrEq vbyteV vnotB veqB hw qb qc qw qtoN qofN qaddN qsubN qmaxI qminI qcutN qgd qst qln qrep qsub qonto qsplice qstrEq qbyteV qnotB qeqB
  have f17 := fn17
  generalize Try.prog = P at *
  cbv
  refine CallX.cv f17.go (Cv.nilB 0 0 5 .u8 (by rfl) (by cbv) (Cv.here ?_)) (by rfl)
  refine call_con (ρ := [(0, .z), (1, .z)]) h1 ⟨by rfl, by rfl, by rfl, by cbv⟩ ?_
  rintro v H R js ⟨rfl, rfl, c1, rfl⟩
  cbv
  refine call_con (ρ := [(0, .z), (1, .z)]) (h2 c1) ⟨by rfl, by rfl, by rfl, by cbv⟩ ?_
  rintro v H R js ⟨rfl, rfl, c2, rfl⟩
  cbv
  refine call_con (ρ := [(2, .z)]) h4 ⟨by rfl, by rfl, by rfl, by cbv; exact ⟨view_refl _, trivial⟩⟩ ?_
  rintro v H R js ⟨rfl, rfl, c3, rfl⟩
  cbv
  refine call_con (ρ := [(0, .z), (1, .z)]) (h3 c2) ⟨by rfl, by rfl, by rfl, by cbv⟩ ?_
  rintro v H R js ⟨rfl, c4, rfl, rfl⟩
  cbv
  refine ⟨⟨?_⟩, ?_⟩
  · subst_vars; decide
  have hs : vnotB (vstrEq (vsub [54] 0 1) [54]) = false := by subst_vars; decide
  rw [hs]
  cbv
  refine call_con (ρ := [(4, .z), (3, .z)]) (h5 c3) ⟨by rfl, by rfl, by rfl, by cbv; exact ⟨view_refl _, trivial⟩⟩ ?_
  rintro v H R js ⟨rfl, rfl, rfl⟩
  cbv
  refine call_con (ρ := [(4, .z), (3, .z)]) (h6 c3) ⟨by rfl, by rfl, by rfl, by cbv; exact ⟨view_refl _, trivial⟩⟩ ?_
  rintro v H R js ⟨rfl, rfl, rfl⟩
  cbv
  refine call_con (ρ := [(4, .z), (3, .z)]) (h7 c3) ⟨by rfl, by rfl, by rfl, by cbv; exact ⟨view_refl _, trivial⟩⟩ ?_
  rintro v H R js ⟨rfl, rfl, rfl⟩
  cbv
  refine call_con (ρ := [(4, .z), (3, .z)]) (h8 c3) ⟨by rfl, by rfl, by rfl, by cbv; exact ⟨view_refl _, trivial⟩⟩ ?_
  rintro v H R js ⟨rfl, rfl, rfl⟩
  cbv
  refine call_con (ρ := [(5, .z)]) h9 ⟨by rfl, by rfl, by rfl, by cbv; exact ⟨view_refl _, trivial⟩⟩ ?_
  rintro v H R js ⟨rfl, rfl, rfl⟩
  cbv
  rw [show vc .eql 5 5 = true by subst_vars; decide]
  cbv
  rw [show vc .eql 2 2 = true by subst_vars; decide]
  cbv
  rw [show vc .eql 0 0 = true by subst_vars; decide]
  cbv
  rw [show vc .eql 0 0 = true by subst_vars; decide]
  cbv
  refine call_con (ρ := [(4, .z), (3, .z)]) (h10 c3) ⟨by rfl, by rfl, by rfl, by cbv; exact ⟨view_refl _, trivial⟩⟩ ?_
  rintro v H R js ⟨rfl, rfl, rfl⟩
  cbv
  rw [show vc .eql (-4) (-4) = true by subst_vars; decide]
  cbv
end Go.Proofs.Ytgbnngjmjimhiaa
