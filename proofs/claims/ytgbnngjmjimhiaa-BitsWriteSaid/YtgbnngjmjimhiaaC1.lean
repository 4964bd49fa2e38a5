/-
  Contracts of seat 1's functions, part 1: no reader, no writer.
-/
import Derived.Test.YtgbnngjmjimhiaaSx21
import Derived.Test.YtgbnngjmjimhiaaCode
namespace Go.Proofs.Ytgbnngjmjimhiaa
open Go Go.Sx Go.Proofs
theorem hmix : Try.prog.follows .mixedOrders = true := by kernel_rfl
theorem bits_nil (n : Int) : Con Try.prog 14 [.val (.pointer none), .int .i64 n] [] (fun v H R => v = .lit .u64 0 ∧ H = [] ∧ R = []) := by
  refine con_of_walk hmix fn14 (run_std fun O hO => ?_)
  generalize Try.prog = P
  cbv
theorem left_nil : Con Try.prog 16 [.val (.pointer none)] [] (fun v H R => v = .lit .i64 0 ∧ H = [] ∧ R = []) := by
  refine con_of_walk hmix fn16 (run_std fun O hO => ?_)
  generalize Try.prog = P
  cbv
theorem put_nil (x n : Int) : Con Try.prog 17 [.val (.pointer none), .int .u64 x, .int .i64 n] [] (fun v H R => v = .lit .i64 1 ∧ H = [] ∧ R = []) := by
  refine con_cut 0 (by simp) (con_of_walk hmix fn17 (run_std fun O hO => ?_))
  generalize Try.prog = P
  cbv
theorem close_nil : Con Try.prog 19 [.val (.pointer none)] [] (fun v H R => v = .val (.slice none 0 0) ∧ H = [] ∧ R = []) := by
  refine con_cut 0 (by simp) (con_of_walk hmix fn19 (run_std fun O hO => ?_))
  generalize Try.prog = P
  cbv
end Go.Proofs.Ytgbnngjmjimhiaa
