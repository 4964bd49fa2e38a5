/-
  The engine, part 22: the words, on numbers within their bounds.
-/
import Derived.Test.YtgbnngjmjimhiaaSx21
namespace Go.Sx
open Go
theorem wrap_i64 {x : Int} (h0 : -9223372036854775808 ≤ x) (h1 : x < 9223372036854775808) : IntKind.i64.wrap x = x := by
  simp [IntKind.wrap, IntKind.bits, IntKind.signed]; omega
theorem wrap_u64 {x : Int} (h0 : 0 ≤ x) (h1 : x < 18446744073709551616) : IntKind.u64.wrap x = x := by
  simp [IntKind.wrap, IntKind.bits, IntKind.signed]; omega
theorem wrap_u8 {x : Int} (h0 : 0 ≤ x) (h1 : x < 256) : IntKind.u8.wrap x = x := by
  simp [IntKind.wrap, IntKind.bits, IntKind.signed]; omega
theorem add_i64 {x y : Int} (h0 : -9223372036854775808 ≤ x + y) (h1 : x + y < 9223372036854775808) : bV .add .i64 x y = x + y := wrap_i64 h0 h1
theorem sub_i64 {x y : Int} (h0 : -9223372036854775808 ≤ x - y) (h1 : x - y < 9223372036854775808) : bV .sub .i64 x y = x - y := wrap_i64 h0 h1
theorem mul_i64 {x y : Int} (h0 : -9223372036854775808 ≤ x * y) (h1 : x * y < 9223372036854775808) : bV .mul .i64 x y = x * y := wrap_i64 h0 h1
theorem rem_i64 {x y : Int} (h0 : 0 ≤ x) : bV .rem .i64 x y = x % y := by
  show x.tmod y = x % y
  exact Int.tmod_eq_emod_of_nonneg h0
theorem quo_i64 {x y : Int} (h0 : 0 ≤ x) (h1 : x < 9223372036854775808) (hy : 0 ≤ y) : bV .quo .i64 x y = x / y := by
  show IntKind.i64.wrap (x.tdiv y) = x / y
  rw [Int.tdiv_eq_ediv_of_nonneg h0]
  have := Int.ediv_nonneg h0 hy
  have := Int.ediv_le_self y h0
  exact wrap_i64 (by omega) (by omega)
theorem lss_eq (x y : Int) : cV .lss x y = decide (x < y) := rfl
theorem leq_eq (x y : Int) : cV .leq x y = decide (x ≤ y) := rfl
theorem gtr_eq (x y : Int) : cV .gtr x y = decide (x > y) := rfl
theorem geq_eq (x y : Int) : cV .geq x y = decide (x ≥ y) := rfl
theorem eql_eq (x y : Int) : cV .eql x y = decide (x = y) := rfl
theorem neq_eq (x y : Int) : cV .neq x y = decide (x ≠ y) := by simp [cV, bne, BEq.beq]
end Go.Sx
