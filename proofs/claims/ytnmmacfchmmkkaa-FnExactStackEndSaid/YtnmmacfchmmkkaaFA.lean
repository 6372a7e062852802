/-
  The walk of the program's (Link).other.
-/
import Derived.Test.YtnmmacfchmmkkaaDG
namespace Go.Proofs.Ytnmmacfchmmkkaa
open Go.RowKit
set_option maxRecDepth 100000

set_option maxHeartbeats 1000000 in
theorem other_a {x n : Int} (h : x = n) (y z : Int) (w : World) :
    Calls Try.prog 31 #[.agg #[.int .i64 x, .int .i64 y, .int .i64 z], .int .i64 n] w fun e w' => e = .returned (.tuple #[.int .i64 y, .bool true]) ∧ Below w.heap.size w w' := by
  subst h
  go_enter Try.func31, Try.ntmps31
  go_wp2_with fail
  go_ret2
  exact ⟨rfl, bnew _ _⟩
set_option maxHeartbeats 1000000 in
theorem other_b {x y n : Int} (h : x ≠ n) (h' : y = n) (z : Int) (w : World) :
    Calls Try.prog 31 #[.agg #[.int .i64 x, .int .i64 y, .int .i64 z], .int .i64 n] w fun e w' => e = .returned (.tuple #[.int .i64 x, .bool true]) ∧ Below w.heap.size w w' := by
  subst h'
  have t : (y == x) = false := by rw [beq_eq_false_iff_ne]; exact Ne.symm h
  clear h
  go_enter Try.func31, Try.ntmps31
  go_wp2_with fail
  go_ret2
  exact ⟨rfl, bnew _ _⟩
set_option maxHeartbeats 1000000 in
theorem other_c {x y n : Int} (h : x ≠ n) (h' : y ≠ n) (z : Int) (w : World) :
    Calls Try.prog 31 #[.agg #[.int .i64 x, .int .i64 y, .int .i64 z], .int .i64 n] w fun e w' => e = .returned (.tuple #[.int .i64 0, .bool false]) ∧ Below w.heap.size w w' := by
  have t : (n == x) = false := by rw [beq_eq_false_iff_ne]; exact Ne.symm h
  have t' : (n == y) = false := by rw [beq_eq_false_iff_ne]; exact Ne.symm h'
  clear h h'
  go_enter Try.func31, Try.ntmps31
  go_wp2_with fail
  go_ret2
  exact ⟨rfl, bnew _ _⟩

end Go.Proofs.Ytnmmacfchmmkkaa
