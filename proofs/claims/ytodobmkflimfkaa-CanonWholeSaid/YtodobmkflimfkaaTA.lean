import Derived.Test.YtodobmkflimfkaaCodeC
import Derived.Test.YtodobmkflimfkaaBA
import Derived.Test.YtodobmkflimfkaaEC
namespace Go.Proofs.Ytodobmkflimfkaa
open Go Go.Sx Go.Proofs
/-! The order of coins: amount (63), the number comparison (112), and the comparison of two coins (111). -/
set_option maxRecDepth 100000 in
theorem amount_con (a : Int) (l c : Nat) : Con Try.prog 63 [.agg [.int .u64 a, .slice 0 .z 1 l c]] [.ro .i64 []] (fun v H R => v = .int .u64 a ∧ H = [.ro .i64 []] ∧ R = []) := by
  refine con_gen (con_cut 1 (by simp) (con_red [] (con_walk hmix fn63 ?_)))
  intro vb vc vw vtoN vofN vaddN vsubN vmaxI vminI vcutN vgd vst vln vrep vsub vonto vsplice vstrEq vbyteV vnotB veqB hw qb qc qw qtoN qofN qaddN qsubN qmaxI qminI qcutN qgd qst qln qrep qsub qonto qsplice qstrEq qbyteV qnotB qeqB
  have hm := hmix; generalize Try.prog = P at *
  cbv
theorem isNaN_con (a : Int) : Con Try.prog 138 [.int .u64 a] [] (fun v H R => v = .bool false ∧ H = [] ∧ R = []) := by
  refine con_gen (con_cut 0 (by simp) (con_red [] (con_walk hmix fn138 ?_)))
  intro vb vc vw vtoN vofN vaddN vsubN vmaxI vminI vcutN vgd vst vln vrep vsub vonto vsplice vstrEq vbyteV vnotB veqB hw qb qc qw qtoN qofN qaddN qsubN qmaxI qminI qcutN qgd qst qln qrep qsub qonto qsplice qstrEq qbyteV qnotB qeqB
  have hm := hmix; generalize Try.prog = P at *
  cbv
  refine ⟨?_, trivial⟩
  rw [qc]; simp [cV]
def sgn (a b : Int) : Int := if a < b then -1 else if a > b then 1 else 0
set_option maxRecDepth 100000 in
theorem compare_con (a b : Int) : Con Try.prog 112 [.int .u64 a, .int .u64 b] [] (fun v H R => v = .int .i64 (sgn a b) ∧ H = [] ∧ R = []) := by
  have h138 := isNaN_con
  refine con_gen (con_cut 0 (by simp) (con_red [] (con_walk hmix fn112 ?_)))
  intro vb vc vw vtoN vofN vaddN vsubN vmaxI vminI vcutN vgd vst vln vrep vsub vonto vsplice vstrEq vbyteV vnotB veqB hw qb qc qw qtoN qofN qaddN qsubN qmaxI qminI qcutN qgd qst qln qrep qsub qonto qsplice qstrEq qbyteV qnotB qeqB
  have hm := hmix; generalize Try.prog = P at *
  generalize hs : sgn a b = g at *
  cbv
  refine call_con (ρ := []) (h138 a) ⟨by rfl, by rfl, by rfl, by cbv⟩ ?_
  rintro v H R js ⟨rfl, rfl, rfl⟩
  cbv
  refine call_con (ρ := []) (h138 b) ⟨by rfl, by rfl, by rfl, by cbv⟩ ?_
  rintro v H R js ⟨rfl, rfl, rfl⟩
  cbv
  unfold sgn at hs
  by_cases h1 : a < b
  · have e : vc .lss a b = true := by rw [qc]; simp [cV, h1]
    rw [e]; cbv
    rw [if_pos h1] at hs
    subst hs; exact ⟨rfl, trivial⟩
  · have e : vc .lss a b = false := by rw [qc]; simp [cV]; omega
    rw [e]; cbv
    by_cases h2 : a > b
    · have e : vc .gtr a b = true := by rw [qc]; simp [cV]; omega
      rw [e]; cbv
      rw [if_neg h1, if_pos h2] at hs
      subst hs; exact ⟨rfl, trivial⟩
    · have e : vc .gtr a b = false := by rw [qc]; simp [cV]; omega
      rw [e]; cbv
      rw [if_neg h1, if_neg h2] at hs
      subst hs; exact ⟨rfl, trivial⟩
set_option maxRecDepth 100000 in
theorem cmp_con (a b : Int) (l c l' c' : Nat) : Con Try.prog 111 [.agg [.int .u64 a, .slice 1 .z 1 l c], .agg [.int .u64 b, .slice 2 .z 1 l' c'], .ptr 0 .z 1 0] [.one 110 [.fn 63 []], .ro .i64 [], .ro .i64 []]
    (fun v H R => v = .int .i64 (sgn a b) ∧ H = [.one 110 [.fn 63 []], .ro .i64 [], .ro .i64 []] ∧ R = []) := by
  have h63 := amount_con
  have h112 := compare_con
  refine con_gen (con_cut 3 (by simp) (con_red [] (con_walk hmix fn111 ?_)))
  intro vb vc vw vtoN vofN vaddN vsubN vmaxI vminI vcutN vgd vst vln vrep vsub vonto vsplice vstrEq vbyteV vnotB veqB hw qb qc qw qtoN qofN qaddN qsubN qmaxI qminI qcutN qgd qst qln qrep qsub qonto qsplice qstrEq qbyteV qnotB qeqB
  have hm := hmix; generalize Try.prog = P at *
  generalize hs : sgn a b = g at *
  cbv
  refine call_con (ρ := [(1, .z)]) (h63 a l c) ⟨by rfl, by rfl, by rfl, by cbv; exact ⟨⟨by decide, fun i hi => by simp at hi⟩, trivial⟩⟩ ?_
  rintro v H R js ⟨rfl, rfl, rfl⟩
  cbv
  refine call_con (ρ := [(2, .z)]) (h63 b l' c') ⟨by rfl, by rfl, by rfl, by cbv; exact ⟨⟨by decide, fun i hi => by simp at hi⟩, trivial⟩⟩ ?_
  rintro v H R js ⟨rfl, rfl, rfl⟩
  cbv
  refine call_con (ρ := []) (h112 a b) ⟨by rfl, by rfl, by rfl, by cbv⟩ ?_
  rintro v H R js ⟨rfl, rfl, rfl⟩
  rw [hs]
  cbv
/-- The comparison at a call in a run. -/
def cmpH : List SB := [.one 110 [.fn 63 []], .ro .i64 [], .ro .i64 []]
theorem cmp_call {P : Program} (h : ∀ (a b : Int) (l c l' c' : Nat), Con P 111 [.agg [.int .u64 a, .slice 1 .z 1 l c], .agg [.int .u64 b, .slice 2 .z 1 l' c'], .ptr 0 .z 1 0] cmpH
    (fun v H R => v = .int .i64 (sgn a b) ∧ H = cmpH ∧ R = [])) {a b : Int} {l c l' c' p ba bb : Nat} {s : SS} {K : SV → SS → Prop} {X : XE → SS → Prop}
    (h1 : Meets s [(p, .z), (ba, .z), (bb, .z)] [.agg [.int .u64 a, .slice 1 .z 1 l c], .agg [.int .u64 b, .slice 2 .z 1 l' c'], .ptr 0 .z 1 0] [.agg [.int .u64 a, .slice ba .z 1 l c], .agg [.int .u64 b, .slice bb .z 1 l' c'], .ptr p .z 1 0] cmpH)
    (h2 : ∀ js, Rn (Behind [(p, .z), (ba, .z), (bb, .z)] cmpH cmpH [] js (.int .i64 (sgn a b)) s K)) : CallX P 111 [.agg [.int .u64 a, .slice ba .z 1 l c], .agg [.int .u64 b, .slice bb .z 1 l' c'], .ptr p .z 1 0] s K X := by
  refine call_con (h a b l c l' c') h1 ?_
  rintro v H R js ⟨rfl, rfl, rfl⟩
  exact (h2 js).out
end Go.Proofs.Ytodobmkflimfkaa
namespace Go.Proofs.Ytodobmkflimfkaa
open Go Go.Sx Go.Proofs
/-! The sorts of a concrete run of canon.Limit. -/

def tbR : Tab := [(110, fun _ => x110, 9, []), (137, fun _ => x137, 63, [])]
theorem tbR_ok : TabOk Try.prog tbR := ⟨fn110, fn137, trivial⟩
set_option maxRecDepth 100000 in
theorem sort5 (c : Nat) : Con Try.prog 143 [.slice 0 .z 2 5 c, .int .i64 0, .int .i64 5, .fn 111 [.ptr 1 .z 1 0]]
    [.bufR 109 2 [.int .u64 8, .slice 2 .z 1 1 1, .int .u64 4, .slice 3 .z 1 1 1, .int .u64 2, .slice 4 .z 1 1 1, .int .u64 1, .slice 5 .z 1 1 1, .int .u64 1, .slice 6 .z 1 1 1] c, .one 110 [.fn 63 []], .ro .i64 [], .ro .i64 [], .ro .i64 [], .ro .i64 [], .ro .i64 []]
    (fun v H R => v = .tup [] ∧ H = [.bufR 109 2 [.int .u64 1, .slice 5 .z 1 1 1, .int .u64 1, .slice 6 .z 1 1 1, .int .u64 2, .slice 4 .z 1 1 1, .int .u64 4, .slice 3 .z 1 1 1, .int .u64 8, .slice 2 .z 1 1 1] c, .one 110 [.fn 63 []], .ro .i64 [], .ro .i64 [], .ro .i64 [], .ro .i64 [], .ro .i64 []] ∧ R = []) := by
  have hc := @cmp_con
  have hm := hmix
  refine con_gen (con_cut 7 (by simp) (con_run 1000 [] hmix trivial fn143 ?_))
  generalize Try.prog = P at *
  cbv
  repeat (first | refine And.intro ⟨by decide⟩ ?_ | (refine CallX.mono' (fun _ _ h => h) (cmp_call hc ⟨by rfl, by rfl, by rfl, by cbv; exact ⟨⟨by decide, fun i hi => by simp at hi⟩, ⟨by decide, fun i hi => by simp at hi⟩, trivial⟩⟩ (fun js => ⟨?_⟩)); cbv) | (intro _; cbv))
set_option maxRecDepth 100000 in
theorem rising5 (c : Nat) : Con Try.prog 64 [.slice 0 .z 2 5 c, .fn 63 []]
    [.bufR 109 2 [.int .u64 8, .slice 1 .z 1 1 1, .int .u64 4, .slice 2 .z 1 1 1, .int .u64 2, .slice 3 .z 1 1 1, .int .u64 1, .slice 4 .z 1 1 1, .int .u64 1, .slice 5 .z 1 1 1] c, .ro .i64 [], .ro .i64 [], .ro .i64 [], .ro .i64 [], .ro .i64 []]
    (fun v H R => v = .slice 0 .z 2 5 c ∧ H = [.bufR 109 2 [.int .u64 1, .slice 4 .z 1 1 1, .int .u64 1, .slice 5 .z 1 1 1, .int .u64 2, .slice 3 .z 1 1 1, .int .u64 4, .slice 2 .z 1 1 1, .int .u64 8, .slice 1 .z 1 1 1] c, .ro .i64 [], .ro .i64 [], .ro .i64 [], .ro .i64 [], .ro .i64 []] ∧ R = []) := by
  have hs := sort5 c
  have hT := tbR_ok
  refine con_gen (con_cut 6 (by simp) (con_drop (con_run 1000 tbR hmix hT fn64 ?_)))
  generalize Try.prog = P at *
  cbv
  refine CallX.mono' (fun _ _ h => h) (call_con (ρ := [(0, .z), (6, .z), (1, .z), (2, .z), (3, .z), (4, .z), (5, .z)]) hs ⟨by rfl, by rfl, by rfl, by cbv; exact ⟨⟨by decide, fun i hi => by simp at hi⟩, ⟨by decide, fun i hi => by simp at hi⟩, ⟨by decide, fun i hi => by simp at hi⟩, ⟨by decide, fun i hi => by simp at hi⟩, ⟨by decide, fun i hi => by simp at hi⟩, trivial⟩⟩ ?_)
  rintro v H R js ⟨rfl, rfl, rfl⟩
  cbv
set_option maxRecDepth 100000 in
theorem sort7 (c c1 c2 : Nat) : Con Try.prog 143 [.slice 0 .z 2 7 c, .int .i64 0, .int .i64 7, .fn 111 [.ptr 1 .z 1 0]]
    [.bufR 109 2 [.int .u64 1, .slice 2 .z 1 1 1, .int .u64 1, .slice 3 .z 1 1 1, .int .u64 2, .slice 4 .z 1 1 1, .int .u64 4, .slice 5 .z 1 1 1, .int .u64 8, .slice 6 .z 1 1 1, .int .u64 2, .slice 7 .z 1 2 c1, .int .u64 6, .slice 8 .z 1 2 c2] c, .one 110 [.fn 63 []], .ro .i64 [], .ro .i64 [], .ro .i64 [], .ro .i64 [], .ro .i64 [], .ro .i64 [], .ro .i64 []]
    (fun v H R => v = .tup [] ∧ H = [.bufR 109 2 [.int .u64 1, .slice 2 .z 1 1 1, .int .u64 1, .slice 3 .z 1 1 1, .int .u64 2, .slice 4 .z 1 1 1, .int .u64 2, .slice 7 .z 1 2 c1, .int .u64 4, .slice 5 .z 1 1 1, .int .u64 6, .slice 8 .z 1 2 c2, .int .u64 8, .slice 6 .z 1 1 1] c, .one 110 [.fn 63 []], .ro .i64 [], .ro .i64 [], .ro .i64 [], .ro .i64 [], .ro .i64 [], .ro .i64 [], .ro .i64 []] ∧ R = []) := by
  have hc := @cmp_con
  have hm := hmix
  refine con_gen (con_cut 9 (by simp) (con_run 1000 [] hmix trivial fn143 ?_))
  generalize Try.prog = P at *
  cbv
  repeat (first | refine And.intro ⟨by decide⟩ ?_ | (refine CallX.mono' (fun _ _ h => h) (cmp_call hc ⟨by rfl, by rfl, by rfl, by cbv; exact ⟨⟨by decide, fun i hi => by simp at hi⟩, ⟨by decide, fun i hi => by simp at hi⟩, trivial⟩⟩ (fun js => ⟨?_⟩)); cbv) | (intro _; cbv))
set_option maxRecDepth 100000 in
theorem rising7 (c c1 c2 : Nat) : Con Try.prog 64 [.slice 0 .z 2 7 c, .fn 63 []]
    [.bufR 109 2 [.int .u64 1, .slice 1 .z 1 1 1, .int .u64 1, .slice 2 .z 1 1 1, .int .u64 2, .slice 3 .z 1 1 1, .int .u64 4, .slice 4 .z 1 1 1, .int .u64 8, .slice 5 .z 1 1 1, .int .u64 2, .slice 6 .z 1 2 c1, .int .u64 6, .slice 7 .z 1 2 c2] c, .ro .i64 [], .ro .i64 [], .ro .i64 [], .ro .i64 [], .ro .i64 [], .ro .i64 [], .ro .i64 []]
    (fun v H R => v = .slice 0 .z 2 7 c ∧ H = [.bufR 109 2 [.int .u64 1, .slice 1 .z 1 1 1, .int .u64 1, .slice 2 .z 1 1 1, .int .u64 2, .slice 3 .z 1 1 1, .int .u64 2, .slice 6 .z 1 2 c1, .int .u64 4, .slice 4 .z 1 1 1, .int .u64 6, .slice 7 .z 1 2 c2, .int .u64 8, .slice 5 .z 1 1 1] c, .ro .i64 [], .ro .i64 [], .ro .i64 [], .ro .i64 [], .ro .i64 [], .ro .i64 [], .ro .i64 []] ∧ R = []) := by
  have hs := sort7 c c1 c2
  have hT := tbR_ok
  refine con_gen (con_cut 8 (by simp) (con_drop (con_run 1000 tbR hmix hT fn64 ?_)))
  generalize Try.prog = P at *
  cbv
  refine CallX.mono' (fun _ _ h => h) (call_con (ρ := [(0, .z), (8, .z), (1, .z), (2, .z), (3, .z), (4, .z), (5, .z), (6, .z), (7, .z)]) hs ⟨by rfl, by rfl, by rfl, by cbv; exact ⟨⟨by decide, fun i hi => by simp at hi⟩, ⟨by decide, fun i hi => by simp at hi⟩, ⟨by decide, fun i hi => by simp at hi⟩, ⟨by decide, fun i hi => by simp at hi⟩, ⟨by decide, fun i hi => by simp at hi⟩, ⟨by decide, fun i hi => by simp at hi⟩, ⟨by decide, fun i hi => by simp at hi⟩, trivial⟩⟩ ?_)
  rintro v H R js ⟨rfl, rfl, rfl⟩
  cbv
set_option maxRecDepth 100000 in
theorem sort8 (c c1 c2 c3 : Nat) : Con Try.prog 143 [.slice 0 .z 2 8 c, .int .i64 0, .int .i64 8, .fn 111 [.ptr 1 .z 1 0]]
    [.bufR 109 2 [.int .u64 1, .slice 2 .z 1 1 1, .int .u64 1, .slice 3 .z 1 1 1, .int .u64 2, .slice 4 .z 1 1 1, .int .u64 4, .slice 5 .z 1 1 1, .int .u64 8, .slice 6 .z 1 1 1, .int .u64 2, .slice 7 .z 1 2 c1, .int .u64 4, .slice 8 .z 1 3 c2, .int .u64 10, .slice 9 .z 1 3 c3] c, .one 110 [.fn 63 []], .ro .i64 [], .ro .i64 [], .ro .i64 [], .ro .i64 [], .ro .i64 [], .ro .i64 [], .ro .i64 [], .ro .i64 []]
    (fun v H R => v = .tup [] ∧ H = [.bufR 109 2 [.int .u64 1, .slice 2 .z 1 1 1, .int .u64 1, .slice 3 .z 1 1 1, .int .u64 2, .slice 4 .z 1 1 1, .int .u64 2, .slice 7 .z 1 2 c1, .int .u64 4, .slice 5 .z 1 1 1, .int .u64 4, .slice 8 .z 1 3 c2, .int .u64 8, .slice 6 .z 1 1 1, .int .u64 10, .slice 9 .z 1 3 c3] c, .one 110 [.fn 63 []], .ro .i64 [], .ro .i64 [], .ro .i64 [], .ro .i64 [], .ro .i64 [], .ro .i64 [], .ro .i64 [], .ro .i64 []] ∧ R = []) := by
  have hc := @cmp_con
  have hm := hmix
  refine con_gen (con_cut 10 (by simp) (con_run 1000 [] hmix trivial fn143 ?_))
  generalize Try.prog = P at *
  cbv
  repeat (first | refine And.intro ⟨by decide⟩ ?_ | (refine CallX.mono' (fun _ _ h => h) (cmp_call hc ⟨by rfl, by rfl, by rfl, by cbv; exact ⟨⟨by decide, fun i hi => by simp at hi⟩, ⟨by decide, fun i hi => by simp at hi⟩, trivial⟩⟩ (fun js => ⟨?_⟩)); cbv) | (intro _; cbv))
set_option maxRecDepth 100000 in
theorem rising8 (c c1 c2 c3 : Nat) : Con Try.prog 64 [.slice 0 .z 2 8 c, .fn 63 []]
    [.bufR 109 2 [.int .u64 1, .slice 1 .z 1 1 1, .int .u64 1, .slice 2 .z 1 1 1, .int .u64 2, .slice 3 .z 1 1 1, .int .u64 4, .slice 4 .z 1 1 1, .int .u64 8, .slice 5 .z 1 1 1, .int .u64 2, .slice 6 .z 1 2 c1, .int .u64 4, .slice 7 .z 1 3 c2, .int .u64 10, .slice 8 .z 1 3 c3] c, .ro .i64 [], .ro .i64 [], .ro .i64 [], .ro .i64 [], .ro .i64 [], .ro .i64 [], .ro .i64 [], .ro .i64 []]
    (fun v H R => v = .slice 0 .z 2 8 c ∧ H = [.bufR 109 2 [.int .u64 1, .slice 1 .z 1 1 1, .int .u64 1, .slice 2 .z 1 1 1, .int .u64 2, .slice 3 .z 1 1 1, .int .u64 2, .slice 6 .z 1 2 c1, .int .u64 4, .slice 4 .z 1 1 1, .int .u64 4, .slice 7 .z 1 3 c2, .int .u64 8, .slice 5 .z 1 1 1, .int .u64 10, .slice 8 .z 1 3 c3] c, .ro .i64 [], .ro .i64 [], .ro .i64 [], .ro .i64 [], .ro .i64 [], .ro .i64 [], .ro .i64 [], .ro .i64 []] ∧ R = []) := by
  have hs := sort8 c c1 c2 c3
  have hT := tbR_ok
  refine con_gen (con_cut 9 (by simp) (con_drop (con_run 1000 tbR hmix hT fn64 ?_)))
  generalize Try.prog = P at *
  cbv
  refine CallX.mono' (fun _ _ h => h) (call_con (ρ := [(0, .z), (9, .z), (1, .z), (2, .z), (3, .z), (4, .z), (5, .z), (6, .z), (7, .z), (8, .z)]) hs ⟨by rfl, by rfl, by rfl, by cbv; exact ⟨⟨by decide, fun i hi => by simp at hi⟩, ⟨by decide, fun i hi => by simp at hi⟩, ⟨by decide, fun i hi => by simp at hi⟩, ⟨by decide, fun i hi => by simp at hi⟩, ⟨by decide, fun i hi => by simp at hi⟩, ⟨by decide, fun i hi => by simp at hi⟩, ⟨by decide, fun i hi => by simp at hi⟩, ⟨by decide, fun i hi => by simp at hi⟩, trivial⟩⟩ ?_)
  rintro v H R js ⟨rfl, rfl, rfl⟩
  cbv
end Go.Proofs.Ytodobmkflimfkaa
namespace Go.Proofs.Ytodobmkflimfkaa
open Go Go.Sx Go.Proofs
/-! canon.Limit, run on [8, 4, 2, 1, 1] and 3. -/

def limH (p0 p1 p2 p3 p4 p5 p6 p7 : Nat) : List SB := [.ro .u32 [8, 4, 2, 1, 1], .ints 3 .i64 [0], .bufR 109 2 [.int .u64 8, .slice 1 .z 1 1 1] 1, .bufR 109 2 [.int .u64 1, .slice 8 .z 1 1 1, .int .u64 1, .slice 10 .z 1 1 1, .int .u64 2, .slice 6 .z 1 1 1, .int .u64 4, .slice 4 .z 1 1 1, .int .u64 8, .slice 1 .z 1 1 1] p0, .ints 3 .i64 [1], .bufR 109 2 [.int .u64 4, .slice 4 .z 1 1 1] 1, .ints 3 .i64 [2], .bufR 109 2 [.int .u64 2, .slice 6 .z 1 1 1] 1, .ints 3 .i64 [3], .bufR 109 2 [.int .u64 1, .slice 8 .z 1 1 1] 1, .ints 3 .i64 [4], .bufR 109 2 [.int .u64 1, .slice 10 .z 1 1 1] 1, .bufR 109 2 [.int .u64 1, .slice 8 .z 1 1 1, .int .u64 1, .slice 10 .z 1 1 1, .int .u64 2, .slice 6 .z 1 1 1, .int .u64 2, .slice 13 .z 1 2 p1, .int .u64 4, .slice 4 .z 1 1 1, .int .u64 6, .slice 15 .z 1 2 p2, .int .u64 8, .slice 1 .z 1 1 1] p3, .buf 3 .i64 [3, 4] p1, .bufR 109 2 [.int .u64 2, .slice 13 .z 1 2 p1] 1, .buf 3 .i64 [2, 1] p2, .bufR 109 2 [.int .u64 6, .slice 15 .z 1 2 p2] 1, .bufR 109 2 [.int .u64 1, .slice 8 .z 1 1 1, .int .u64 1, .slice 10 .z 1 1 1, .int .u64 2, .slice 6 .z 1 1 1, .int .u64 2, .slice 18 .z 1 2 p4, .int .u64 4, .slice 4 .z 1 1 1, .int .u64 4, .slice 20 .z 1 3 p5, .int .u64 8, .slice 1 .z 1 1 1, .int .u64 10, .slice 22 .z 1 3 p6] p7, .buf 3 .i64 [3, 4] p4, .bufR 109 2 [.int .u64 2, .slice 18 .z 1 2 p4] 1, .buf 3 .i64 [2, 3, 4] p5, .bufR 109 2 [.int .u64 4, .slice 20 .z 1 3 p5] 1, .buf 3 .i64 [1, 2, 1] p6, .bufR 109 2 [.int .u64 10, .slice 22 .z 1 3 p6] 1, .ints 5 .u8 [1, 3, 3, 3, 3]]
set_option maxRecDepth 100000 in
set_option maxHeartbeats 4000000 in
theorem limit_run (c : Nat) : Con Try.prog 15 [.slice 0 .z 1 5 c, .int .i64 3] [.ro .u32 [8, 4, 2, 1, 1]]
    (fun v H R => ∃ p0 p1 p2 p3 p4 p5 p6 p7, v = .tup [.slice 24 .z 1 5 5, .int .i64 0] ∧ H = limH p0 p1 p2 p3 p4 p5 p6 p7 ∧ R = []) := by
  have h5 := rising5
  have h7 := rising7
  have h8 := rising8
  refine con_gen (con_cut 25 (by simp) (con_drop (con_run 1000 [] hmix trivial fn15 ?_)))
  generalize Try.prog = P at *
  cbv
  repeat (first | refine And.intro ⟨by decide⟩ ?_ | refine And.intro ⟨Nat.le_refl _⟩ ?_ | ((intro _ _ _; skip); cbv; done) | ((intro _ _ _; skip); cbv) | ((intro _ _; skip); cbv) | (intro _; cbv))
  refine CallX.mono' (fun _ _ h => h) (call_con (ρ := [(3, .z), (1, .z), (4, .z), (6, .z), (8, .z), (10, .z)]) (h5 _) ⟨by rfl, by rfl, by rfl, by cbv; exact ⟨⟨by decide, fun i hi => by simp at hi⟩, ⟨by decide, fun i hi => by simp at hi⟩, ⟨by decide, fun i hi => by simp at hi⟩, ⟨by decide, fun i hi => by simp at hi⟩, ⟨by decide, fun i hi => by simp at hi⟩, trivial⟩⟩ ?_)
  rintro v H R js ⟨rfl, rfl, rfl⟩
  cbv
  repeat (first | refine And.intro ⟨by decide⟩ ?_ | refine And.intro ⟨Nat.le_refl _⟩ ?_ | ((intro _ _ _; skip); cbv; done) | ((intro _ _ _; skip); cbv) | ((intro _ _; skip); cbv) | (intro _; cbv))
  rename_i _ _ _ _ _ _ q1 _ _ _ _ _ _ _ _ _ q2 _ _ q3 _ _
  refine CallX.mono' (fun _ _ h => h) (call_con (ρ := [(12, .z), (8, .z), (10, .z), (6, .z), (4, .z), (1, .z), (13, .z), (15, .z)]) (h7 q3 q1 q2) ⟨by rfl, by rfl, by rfl, by cbv; exact ⟨⟨by decide, fun i hi => by simp at hi⟩, ⟨by decide, fun i hi => by simp at hi⟩, ⟨by decide, fun i hi => by simp at hi⟩, ⟨by decide, fun i hi => by simp at hi⟩, ⟨by decide, fun i hi => by simp at hi⟩, ⟨by decide, fun i hi => by simp at hi⟩, ⟨by decide, fun i hi => by simp at hi⟩, trivial⟩⟩ ?_)
  rintro v H R js ⟨rfl, rfl, rfl⟩
  cbv
  repeat (first | refine And.intro ⟨by decide⟩ ?_ | refine And.intro ⟨Nat.le_refl _⟩ ?_ | ((intro _ _ _; skip); cbv; done) | ((intro _ _ _; skip); cbv) | ((intro _ _; skip); cbv) | (intro _; cbv))
  rename_i q7 _ _ _ _ _ _ _ _ q4 _ _ _ _ _ _ _ _ q1 _ _ q0 _ hq
  refine CallX.mono' (fun _ _ h => h) (call_con (ρ := [(17, .z), (8, .z), (10, .z), (6, .z), (4, .z), (1, .z), (18, .z), (20, .z), (22, .z)]) (h8 q0 q7 q4 q1) ⟨by rfl, by rfl, by rfl, by cbv; exact ⟨⟨by decide, fun i hi => by simp at hi⟩, ⟨by decide, fun i hi => by simp at hi⟩, ⟨by decide, fun i hi => by simp at hi⟩, ⟨by decide, fun i hi => by simp at hi⟩, ⟨by decide, fun i hi => by simp at hi⟩, ⟨by decide, fun i hi => by simp at hi⟩, ⟨by decide, fun i hi => by simp at hi⟩, ⟨by decide, fun i hi => by simp at hi⟩, trivial⟩⟩ ?_)
  rintro v H R js ⟨rfl, rfl, rfl⟩
  cbv
  repeat (first | refine And.intro ⟨by decide⟩ ?_ | refine And.intro ⟨Nat.le_refl _⟩ ?_ | ((intro _ _ _; skip); cbv; done) | ((intro _ _ _; skip); cbv) | ((intro _ _; skip); cbv) | (intro _; cbv))
  refine And.intro ⟨by have := hq.out; refine ⟨by decide, ?_⟩; simp only [Int.ofNat_eq_natCast]; omega⟩ ?_
  repeat (first | refine And.intro ⟨by decide⟩ ?_ | refine And.intro ⟨Nat.le_refl _⟩ ?_ | ((intro _ _ _; skip); cbv; done) | ((intro _ _ _; skip); cbv) | ((intro _ _; skip); cbv) | (intro _; cbv))
  exact ⟨_, _, _, _, _, _, _, _, rfl, rfl, rfl⟩
end Go.Proofs.Ytodobmkflimfkaa
namespace Go.Proofs.Ytodobmkflimfkaa
open Go Go.Sx Go.Proofs
/-! balerlaw05.wakes. -/
def tbW5 : Tab := [(32, fun _ => x32, 22, [2, 3]), (78, fun _ => x78, 37, [2]), (79, fun _ => x79, 4, [2]), (118, fun _ => x118, 33, []), (51, fun _ => x51, 26, [4]), (19, fun _ => x19, 33, [4])]
theorem tbW5_ok : TabOk Try.prog tbW5 := ⟨fn32, fn78, fn79, fn118, fn51, fn19, trivial⟩

set_option maxRecDepth 100000 in
set_option maxHeartbeats 4000000 in
theorem wakes5_con : Con Try.prog 17 [] [] (fun v H R => v = .bool true ∧ H = [] ∧ R = []) := by
  have hT := tbW5_ok
  have hl := limit_run
  have hm := hmix
  refine con_gen (con_cut 0 (by simp) (con_drop (con_run 3000 tbW5 hmix hT fn17 ?_)))
  generalize Try.prog = P at *
  cbv
  repeat (first | refine And.intro ⟨by decide⟩ ?_ | refine And.intro ⟨Nat.le_refl _⟩ ?_ | ((intro _ _ _; skip); cbv; done) | ((intro _ _ _; skip); cbv) | ((intro _ _; skip); cbv) | (intro _; cbv))
  refine CallX.mono' (fun _ _ h => h) (call_con (ρ := [(7, .z)]) (hl 5) ⟨by rfl, by rfl, by rfl, by cbv; exact ⟨⟨⟨by decide, fun i _ => by rw [Nat.zero_add]⟩⟩, trivial⟩⟩ ?_)
  rintro v H R js ⟨p0, p1, p2, p3, p4, p5, p6, p7, rfl, rfl, rfl⟩
  clear hl
  cbv
  repeat (first | refine And.intro ⟨by decide⟩ ?_ | refine And.intro ⟨Nat.le_refl _⟩ ?_ | ((intro _ _ _; skip); cbv; done) | ((intro _ _ _; skip); cbv) | ((intro _ _; skip); cbv) | (intro _; cbv))
  trivial
end Go.Proofs.Ytodobmkflimfkaa
