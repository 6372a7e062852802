/-
  The walks of linkOf, GraphLink, l1Link and the reference's GraphLink: the place of the link between two nodes.
-/
import Derived.Test.YtmkjndfhfhfggaaWD
namespace Go.Proofs.Ytmkjndfhfhfggaa
open Go.RowKit

set_option maxRecDepth 100000 in
set_option maxHeartbeats 1000000 in
theorem linkOf_any (nd : Int) (A : Option Addr) (cp : Nat) (ls : List Lk) (a b : Int) (w : World) (hlen : ls.length ≤ 9223372036854775806) (hr : RdL w w.heap.size A ls) :
    Calls Try.prog 63 #[.agg #[.int .i64 nd, .slice A ls.length cp], .int .i64 a, .int .i64 b] w fun e w' => e = .returned (.int .i64 (lkIx ls a b)) ∧ Below w.heap.size w w' := by
  go_enter Try.func63, Try.ntmps63
  go_wp2_with fail
  refine (ixf_any A cp ls a b (w.heap.size + 1) (w.heap.size + 1 + 1) _ hlen (hr.on (b3 _ _ _ _)) (by go_simp) (by go_simp) (by simp) (by simp)).mono ?_
  rintro e w1 ⟨rfl, hb1⟩
  go_wp2_with fail
  go_ret
  exact ⟨rfl, bthen (b3 _ _ _ _) hb1⟩

set_option maxRecDepth 100000 in
set_option maxHeartbeats 1000000 in
theorem gLink_yes {nd : Int} {ls : List Lk} (hv : Valid nd ls) (A : Option Addr) (cp : Nat) (a b : Int) (w : World) (hr : RdL w w.heap.size A ls) :
    Calls Try.prog 23 #[.agg #[.int .i64 nd, .slice A ls.length cp], .int .i64 a, .int .i64 b] w fun e w' => e = .returned (.int .i64 (lkIx ls a b)) ∧ Below w.heap.size w w' := by
  have hlen : ls.length ≤ 14 := hv.2.2.1
  go_enter Try.func23, Try.ntmps23
  go_wp2_with fail
  refine (gv_yes hv A cp _ (hr.on (bnew _ _))).mono ?_
  rintro e w1 ⟨rfl, hb1⟩
  obtain ⟨k1, k2⟩ := box2 hb1
  go_wp2_with fail
  refine (linkOf_any nd A cp ls a b _ (by omega) ((hr.on (bnew _ _)).on hb1)).mono ?_
  rintro e w2 ⟨rfl, hb2⟩
  go_wp2_with fail
  go_ret
  exact ⟨rfl, bthen (bthen (bnew _ _) hb1) hb2⟩
set_option maxRecDepth 100000 in
set_option maxHeartbeats 1000000 in
theorem gLink_no {nd : Int} {ls : List Lk} (hv : ¬ Valid nd ls) (A : Option Addr) (cp : Nat) (a b : Int) (w : World) (hlen : ls.length ≤ 9223372036854775806) (hr : RdL w w.heap.size A ls) :
    Calls Try.prog 23 #[.agg #[.int .i64 nd, .slice A ls.length cp], .int .i64 a, .int .i64 b] w fun e w' => e = .returned (.int .i64 (-1)) ∧ Below w.heap.size w w' := by
  go_enter Try.func23, Try.ntmps23
  go_wp2_with fail
  refine (gv_no hv A cp _ (by omega) (hr.on (bnew _ _))).mono ?_
  rintro e w1 ⟨rfl, hb1⟩
  go_wp2_with fail
  go_ret
  exact ⟨rfl, bthen (bnew _ _) hb1⟩


end Go.Proofs.Ytmkjndfhfhfggaa
