/-
  The walk of the law FnExactPathCount: both PathCount answer alike.
-/
import Derived.Test.YtkcapoobbnmdaaaFE
import Derived.Test.YtkcapoobbnmdaaaWO
namespace Go.Proofs.Ytkcapoobbnmdaaa.fnExactPathCount
open Go.RowKit

set_option maxRecDepth 100000 in
set_option maxHeartbeats 1000000 in
theorem walk (nd : Int) (A : Option Addr) (cp : Nat) (ls : List Lk) (x0 x1 : Int) (w : World) (hr : RdL w w.heap.size A ls) (hl : ls.length ≤ 9223372036854775807) (_ : (Lit.int .i64 x0).wf = true) (_ : (Lit.int .i64 x1).wf = true) :
    Calls Try.prog 12 #[.agg #[.int .i64 nd, .slice A ls.length cp], .int .i64 x0, .int .i64 x1] w fun e w' => e = .returned (.bool true) ∧ Below w.heap.size w w' := by
  by_cases h20 : ls.length ≤ 1048576
  · go_enter Try.func12, Try.ntmps12
    go_wp2_with fail
    refine (szGraph_any nd A ls.length cp _ _ h20 rfl).mono ?_
    rintro e w1 ⟨rfl, hb1⟩
    obtain ⟨k1, k2⟩ := box2 hb1
    have hw1 : w.heap.size < w1.heap.size := Nat.lt_of_lt_of_le (by simp) hb1.size
    have r1 := (hr.on (bnew w (.cells #[.int .i64 nd, .slice A ls.length cp] 36))).on hb1
    have B1 := bthen (bnew _ _) hb1
    go_wp2_with fail
    refine (toGraph_any nd A cp ls _ h20 r1).mono ?_
    rintro e w2 ⟨⟨B, cq, rfl, ho⟩, hb2⟩
    have r2 := r1.on hb2
    have k3 := ckeep k1 hb2
    have k4 := ckeep k2 hb2
    clear k1 k2
    go_wp2_with fail
    refine (sgCnt_any nd B cq ls x0 x1 _ (by omega) ho.rd).mono ?_
    rintro e w3 ⟨rfl, hb3⟩
    have r3 := r2.on hb3
    have k1 := ckeep k3 hb3
    have k2 := ckeep k4 hb3
    clear k3 k4
    go_wp2_with fail
    refine (toGraph_any nd A cp ls _ h20 r3).mono ?_
    rintro e w4 ⟨⟨C, cr, rfl, hx⟩, hb4⟩
    have r4 := r3.on hb4
    have k3 := ckeep k1 hb4
    have k4 := ckeep k2 hb4
    have hw4 : w.heap.size < w4.heap.size := Nat.lt_of_lt_of_le hw1 (Nat.le_trans hb2.size (Nat.le_trans hb3.size hb4.size))
    clear k1 k2
    go_wp2_with fail
    refine (gCnt_any nd C cr ls x0 x1 _ (by omega) (hx.rd.on (bnew _ _))).mono ?_
    rintro e w5 ⟨rfl, hb5⟩
    have r5 := (r4.on (bnew _ _)).on hb5
    have k1 := ckeep (ckeep k3 (bnew _ _)) hb5
    have k2 := ckeep (ckeep k4 (bnew _ _)) hb5
    obtain ⟨x1, x2⟩ := box2 hb5
    have rC := (hx.rd.on (bnew w4 (.cells #[.int .i64 nd, .slice C ls.length cr] 25))).on hb5
    have hw5 : w4.heap.size < w5.heap.size := Nat.lt_of_lt_of_le (by simp) hb5.size
    have r6 : RdL w5.drew w5.drew.heap.size A ls := r5
    have rC' : RdL w5.drew w5.drew.heap.size C ls := rC
    have B5 : Below w.heap.size w w5.drew := (bthen (bthen (bthen (bthen (bthen B1 hb2) hb3) hb4) (bnew _ _)) hb5).drew
    clear r1 r2 r3 r4 hb1 hb2 hb3 hb4 hb5 B1
    go_wp2_with fail
    go_region_with (first | (go_at_call 22; refine (toGraph_any nd A cp ls _ h20 r6).mono ?_; rintro e w6 ⟨⟨D, cs, rfl, hD⟩, hb6⟩; have x3 := ckeepD x1 hb6; have x4 := ckeepD x2 hb6; have rC6 := rC'.on hb6; have B6 := bthen B5 hb6) | (go_at_call 24; refine (eqGraph_any nd C D cr cs ls _ (by omega) rC6 hD.rd).mono ?_; rintro e w7 ⟨rfl, hb7⟩; have B7 := bthen B6 hb7))
    all_goals (go_wp2_with fail; go_ret; exact ⟨rfl, B7⟩)
  · go_enter Try.func12, Try.ntmps12
    go_wp2_with fail
    refine (szGraph_big nd A ls.length cp _ _ (by omega) hl rfl).mono ?_
    rintro e w1 ⟨rfl, hb1⟩
    go_wp2_with fail
    go_ret
    exact ⟨rfl, bthen (bnew _ _) hb1⟩

end Go.Proofs.Ytkcapoobbnmdaaa.fnExactPathCount
