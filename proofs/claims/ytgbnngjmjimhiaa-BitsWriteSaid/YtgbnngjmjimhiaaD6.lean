import Derived.Test.YtgbnngjmjimhiaaD5
namespace Go.Proofs.Ytgbnngjmjimhiaa
open Go Go.Sx Go.Proofs
/-- A reader at a bit. -/
def RS (b : List Int) (pos : Nat) (acc hv ai : Int) : Prop := ∃ at' : Nat, pos ≤ 8 * at' ∧ 8 * at' ≤ pos + 63 ∧ at' ≤ b.length ∧ acc = bval (bitL b) pos (8 * at' - pos) ∧ hv = ((8 * at' - pos : Nat) : Int) ∧ ai = at'
theorem RS.start (b : List Int) : RS b 0 0 0 0 := ⟨0, by omega, by omega, by omega, rfl, rfl, rfl⟩
theorem rbits_rs (b : List Int) (pos cap : Nat) (n acc hv ai : Int) (hby : ∀ x ∈ b, isByte x) (hl : b.length ≤ 2 ^ 50) (h : RS b pos acc hv ai) :
    Con Try.prog 31 [.ptr 0 .z 4 0, .int .i64 n] [(.one 83 [.fn 38 [.ptr 1 .z 1 0, .ptr 2 .z 1 0], .int .u64 (acc), .int .i64 (hv), .fn 39 [.ptr 2 .z 1 0, .ptr 1 .z 1 0]]), .one 3 [.int .i64 ai], .one 22 [.slice 3 .z 1 b.length cap], .ro .u8 b]
      (fun v H R => v = .tup [.int .u64 (rbX b pos n), .int .i64 (rbE b pos n)] ∧ R = [] ∧ ∃ acc2 hv2 ai2, RS b (rbP b pos n) acc2 hv2 ai2 ∧ H = [(.one 83 [.fn 38 [.ptr 1 .z 1 0, .ptr 2 .z 1 0], .int .u64 (acc2), .int .i64 (hv2), .fn 39 [.ptr 2 .z 1 0, .ptr 1 .z 1 0]]), .one 3 [.int .i64 ai2], .one 22 [.slice 3 .z 1 b.length cap], .ro .u8 b]) := by
  obtain ⟨at', h1, h2, h3, rfl, rfl, rfl⟩ := h
  refine (rbits_con b pos at' cap n hby hl h1 h2 h3).mono ?_
  rintro v H R ⟨e1, e2, a2, e3, e4, e5, e6⟩
  exact ⟨e1, e2, _, _, _, ⟨a2, e3, e4, e5, rfl, rfl, rfl⟩, e6⟩
theorem ralign_rs (b : List Int) (pos cap : Nat) (acc hv ai : Int) (hby : ∀ x ∈ b, isByte x) (hl : b.length ≤ 2 ^ 50) (h : RS b pos acc hv ai) :
    Con Try.prog 29 [.ptr 0 .z 4 0] [(.one 83 [.fn 38 [.ptr 1 .z 1 0, .ptr 2 .z 1 0], .int .u64 (acc), .int .i64 (hv), .fn 39 [.ptr 2 .z 1 0, .ptr 1 .z 1 0]]), .one 3 [.int .i64 ai], .one 22 [.slice 3 .z 1 b.length cap], .ro .u8 b]
      (fun v H R => v = .tup [.int .u64 (rbX b pos (alN pos)), .int .i64 (rbE b pos (alN pos))] ∧ R = [] ∧ ∃ acc2 hv2 ai2, RS b (rbP b pos (alN pos)) acc2 hv2 ai2 ∧ H = [(.one 83 [.fn 38 [.ptr 1 .z 1 0, .ptr 2 .z 1 0], .int .u64 (acc2), .int .i64 (hv2), .fn 39 [.ptr 2 .z 1 0, .ptr 1 .z 1 0]]), .one 3 [.int .i64 ai2], .one 22 [.slice 3 .z 1 b.length cap], .ro .u8 b]) := by
  obtain ⟨at', h1, h2, h3, rfl, rfl, rfl⟩ := h
  refine (ralign_con b pos at' cap hby hl h1 h2 h3).mono ?_
  rintro v H R ⟨e1, e2, a2, e3, e4, e5, e6⟩
  exact ⟨e1, e2, _, _, _, ⟨a2, e3, e4, e5, rfl, rfl, rfl⟩, e6⟩
theorem rleft_rs (b : List Int) (pos cap : Nat) (acc hv ai : Int) (hl : b.length ≤ 2 ^ 50) (h : RS b pos acc hv ai) :
    Con Try.prog 33 [.ptr 0 .z 4 0] [(.one 83 [.fn 38 [.ptr 1 .z 1 0, .ptr 2 .z 1 0], .int .u64 (acc), .int .i64 (hv), .fn 39 [.ptr 2 .z 1 0, .ptr 1 .z 1 0]]), .one 3 [.int .i64 ai], .one 22 [.slice 3 .z 1 b.length cap], .ro .u8 b]
      (fun v H R => v = .int .i64 (8 * b.length - pos) ∧ R = [] ∧ H = [(.one 83 [.fn 38 [.ptr 1 .z 1 0, .ptr 2 .z 1 0], .int .u64 (acc), .int .i64 (hv), .fn 39 [.ptr 2 .z 1 0, .ptr 1 .z 1 0]]), .one 3 [.int .i64 ai], .one 22 [.slice 3 .z 1 b.length cap], .ro .u8 b]) := by
  obtain ⟨at', h1, h2, h3, rfl, rfl, rfl⟩ := h
  exact rleft_con b pos at' cap hl h1 h3
set_option maxHeartbeats 1000000 in
theorem bwakes_con : Con Try.prog 27 [] [] (fun v H R => v = .bool true ∧ H = [] ∧ R = [1, 6]) := by
  have hnew := rnew_con [180, 1] 2 (by decide)
  have hr := fun pos cap n acc hv ai h => rbits_rs [180, 1] pos cap n acc hv ai (by simp [isByte]) (by decide) h
  have ha := fun pos cap acc hv ai h => ralign_rs [180, 1] pos cap acc hv ai (by simp [isByte]) (by decide) h
  have q1 := fun cap acc hv ai h => hr 0 cap 3 acc hv ai h
  have q2 := fun cap acc hv ai h => hr 3 cap 6 acc hv ai h
  have q3 := fun cap acc hv ai h => ha 9 cap acc hv ai h
  have q4 := fun cap acc hv ai h => hr 16 cap 1 acc hv ai h
  clear hr ha
  simp only [show rbX [180, 1] 0 3 = 4 by decide, show rbE [180, 1] 0 3 = 0 by decide, show rbP [180, 1] 0 3 = 3 by decide] at q1
  simp only [show rbX [180, 1] 3 6 = 54 by decide, show rbE [180, 1] 3 6 = 0 by decide, show rbP [180, 1] 3 6 = 9 by decide] at q2
  simp only [show rbX [180, 1] 9 (alN 9) = 0 by decide, show rbE [180, 1] 9 (alN 9) = 0 by decide, show rbP [180, 1] 9 (alN 9) = 16 by decide] at q3
  simp only [show rbX [180, 1] 16 1 = 0 by decide, show rbE [180, 1] 16 1 = 10 by decide, show rbP [180, 1] 16 1 = 16 by decide] at q4
  simp only [List.length_cons, List.length_nil, Nat.zero_add, Nat.reduceAdd] at hnew q1 q2 q3 q4
  have h1 := bput_con [] 0 5 3 (by decide) (by decide) (by simp) (by decide)
  have h2 := fun c => bput_con [1, 0, 1] c 1 6 (by decide) (by decide) (by simp [isBit]) (by decide)
  have h3 := fun c => bbytes_con [1, 0, 1, 1, 0, 0, 0, 0, 0] c (by decide)
  simp only [show bitsN 5 3 = [1, 0, 1] by decide, show bitsN 1 6 = [1, 0, 0, 0, 0, 0] by decide, show pack ([] : List Int) = [] by decide, List.nil_append, List.cons_append, List.length_nil, List.length_cons, show pack [1, 0, 1] = [5] by decide,
    show pack [1, 0, 1, 1, 0, 0, 0, 0, 0] = [13, 0] by decide] at h1 h2 h3
  simp only [show ((0 : Nat) : Int) = 0 from rfl, show ((3 : Nat) : Int) = 3 from rfl, show ((6 : Nat) : Int) = 6 from rfl, show ((9 : Nat) : Int) = 9 from rfl, Nat.zero_add, Nat.reduceAdd] at h1 h2 h3
  refine con_cut 0 (by simp) (con_red [1, 6] (con_walk hmix fn27 ?_))
  intro vb vc vw vtoN vofN vaddN vsubN vmaxI vminI vcutN vgd vst vln vrep vsub vonto vsplice vstrEq vbyteV vnotB veqB hw qb qc qw qtoN qofN qaddN qsubN qmaxI qminI qcutN qgd qst qln qrep qsub qonto qsplice qstrEq qbyteV qnotB qeqB
  have f23 := fn23
  have hst := RS.start [180, 1]
  generalize hRS : RS [180, 1] = Q at *
  clear hRS
  generalize Try.prog = P at *
  have e1 : ∀ a, vc .eql a a = true := fun a => by rw [qc, eql_true]
  cbv
  refine call_con (ρ := [(0, .z)]) hnew ⟨by rfl, by rfl, by rfl, by cbv; exact ⟨view_refl _, trivial⟩⟩ ?_
  rintro v H R js ⟨rfl, rfl, c1, rfl⟩
  cbv
  refine call_con (ρ := [(4, .z), (3, .z), (2, .z), (1, .z)]) (q1 c1 _ _ _ hst) ⟨by rfl, by rfl, by rfl, by cbv; exact ⟨view_refl _, trivial⟩⟩ ?_
  rintro v H R js ⟨rfl, rfl, acc1, hv1, ai1, hst1, rfl⟩
  cbv
  refine call_con (ρ := [(4, .z), (3, .z), (2, .z), (1, .z)]) (q2 c1 _ _ _ hst1) ⟨by rfl, by rfl, by rfl, by cbv; exact ⟨view_refl _, trivial⟩⟩ ?_
  rintro v H R js ⟨rfl, rfl, acc2, hv2, ai2, hst2, rfl⟩
  cbv
  refine call_con (ρ := [(4, .z), (3, .z), (2, .z), (1, .z)]) (q3 c1 _ _ _ hst2) ⟨by rfl, by rfl, by rfl, by cbv; exact ⟨view_refl _, trivial⟩⟩ ?_
  rintro v H R js ⟨rfl, rfl, acc3, hv3, ai3, hst3, rfl⟩
  cbv
  refine call_con (ρ := [(4, .z), (3, .z), (2, .z), (1, .z)]) (q4 c1 _ _ _ hst3) ⟨by rfl, by rfl, by rfl, by cbv; exact ⟨view_refl _, trivial⟩⟩ ?_
  rintro v H R js ⟨rfl, rfl, acc4, hv4, ai4, hst4, rfl⟩
  cbv
  refine CallX.cv f23.go (Cv.nilB 5 0 5 .u8 (by rfl) (by cbv) (Cv.here ?_)) (by rfl)
  refine call_con (ρ := [(5, .z), (6, .z)]) h1 ⟨by rfl, by rfl, by rfl, by cbv⟩ ?_
  rintro v H R js ⟨rfl, rfl, c2, rfl⟩
  cbv
  refine call_con (ρ := [(5, .z), (6, .z)]) (h2 c2) ⟨by rfl, by rfl, by rfl, by cbv⟩ ?_
  rintro v H R js ⟨rfl, rfl, c3, rfl⟩
  cbv
  rw [e1 4]
  cbv
  rw [e1 0]
  cbv
  rw [e1 54]
  cbv
  rw [e1 0]
  cbv
  rw [e1 0]
  cbv
  rw [e1 0]
  cbv
  rw [e1 10]
  cbv
  refine call_con (ρ := [(5, .z), (6, .z)]) (h3 c3) ⟨by rfl, by rfl, by rfl, by cbv⟩ ?_
  rintro v H R js ⟨rfl, c5, rfl, rfl⟩
  cbv
  refine ⟨⟨by simp only [qaddN, qln]; exact Nat.le_refl _⟩, ?_⟩
  rw [show vstrEq (vsub [13, 0] 0 2) [13, 0] = true by simp only [qstrEq, qsub]; decide]
  exact ⟨rfl, trivial⟩
end Go.Proofs.Ytgbnngjmjimhiaa
