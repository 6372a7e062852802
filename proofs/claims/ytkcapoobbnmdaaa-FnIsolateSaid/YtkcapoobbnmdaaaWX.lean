/-
  The walk of the laws' sameGraph, at two graphs that read alike.
-/
import Derived.Test.YtkcapoobbnmdaaaWV
namespace Go.Proofs.Ytkcapoobbnmdaaa
open Go.RowKit
set_option maxRecDepth 100000

set_option maxRecDepth 100000 in
set_option maxHeartbeats 2000000 in
theorem same_yes (nd : Int) (A B : Option Addr) (cp cq : Nat) (ls : List Lk) (w : World) (hlen : ls.length ≤ 9223372036854775806) (hr : RdL w w.heap.size A ls) (hs : RdL w w.heap.size B ls) :
    Calls Try.prog 43 #[.agg #[.int .i64 nd, .slice A ls.length cp], .agg #[.int .i64 nd, .slice B ls.length cq]] w fun e w' => e = .returned (.bool true) ∧ Below w.heap.size w w' := by
  go_enter Try.func43, Try.ntmps43
  have n0 : (nd != nd) = false := by simp
  have n1 : ((ls.length : Int) != (ls.length : Int)) = false := by simp
  go_wp2_with fail
  go_loopw [5] (fun i wr => ∃ k : Nat, k ≤ ls.length ∧ i = .int .i64 k ∧ Below w.heap.size w wr ∧ wr.cell? ⟨w.heap.size, 1, none⟩ = some (.slice A ls.length cp) ∧ wr.cell? ⟨w.heap.size + 1, 1, none⟩ = some (.slice B ls.length cq) ∧ w.heap.size + 1 < wr.heap.size) (fun i _ => ls.length - (intOf i).toNat)
  case atStart =>
    exact ⟨0, Nat.zero_le _, rfl, b2 _ _ _, by go_simp, by go_simp, by simp⟩
  case round =>
    obtain ⟨k, hk, rfl, hb, hc0, hc1, hsz⟩ := hrel
    by_cases hlt : k < ls.length
    · obtain ⟨ad, o, hA, hbk, hc⟩ := hr (by omega)
      obtain ⟨c1, c2, c3⟩ := hc k hlt
      obtain rfl := hA
      obtain ⟨bd, p, hB, hbl, hd⟩ := hs (by omega)
      obtain ⟨d1, d2, d3⟩ := hd k hlt
      obtain rfl := hB
      have c1' := (hb.cell (by exact hbk)).trans c1
      have c2' := (hb.cell (by exact hbk)).trans c2
      have c3' := (hb.cell (by exact hbk)).trans c3
      have d1' := (hb.cell (by exact hbl)).trans d1
      have d2' := (hb.cell (by exact hbl)).trans d2
      have d3' := (hb.cell (by exact hbl)).trans d3
      have hbk' : ad < wr.heap.size := by omega
      have hbl' : bd < wr.heap.size := by omega
      have s0 : w.heap.size < wr.heap.size := by omega
      clear c1 c2 c3 hc d1 d2 d3 hd
      go_wp2_with fail
      go_quiet (fail)
      go_wp2_with fail
      go_roundw
      case rel => exact ⟨k + 1, by omega, by go_num, bdN hb _, hc0, hc1, hsz⟩
      case measure => simp [intOf]; omega
    · go_wp2_with fail
      go_ret
      exact ⟨rfl, hb⟩

end Go.Proofs.Ytkcapoobbnmdaaa
