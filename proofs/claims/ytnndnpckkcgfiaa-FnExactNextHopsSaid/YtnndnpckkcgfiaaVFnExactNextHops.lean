/-
  The walk of the law FnExactNextHops: both NextHops answer alike, and what the program hands back is memory of its own.
-/
import Derived.Test.YtnndnpckkcgfiaaEF
import Derived.Test.YtnndnpckkcgfiaaFC
namespace Go.Proofs.Ytnndnpckkcgfiaa.fnExactNextHops
open Go.RowKit

theorem pair (nd : Int) (ls : List Lk) (x0 x1 : Int) (hlen : ls.length ≤ 1048576) : ∃ ys : List Int, ys.length ≤ 1048576 ∧
    (∀ (A : Option Addr) (cp : Nat) (w : World), ls.length ≤ cp → RdL w w.heap.size A ls → Calls Try.prog 30 #[.agg #[.int .i64 nd, .slice A ls.length cp], .int .i64 x0, .int .i64 x1] w (RI ys w)) ∧
    (∀ (A : Option Addr) (cp : Nat) (w : World), RdL w w.heap.size A ls → Calls Try.prog 24 #[.agg #[.int .i64 nd, .slice A ls.length cp], .int .i64 x0, .int .i64 x1] w (RI ys w)) := by
  exact ⟨hopsO nd ls x0 x1, Nat.le_trans (hopsO_8 _ _ _ _) (by omega), fun A cp w _ hr => sgHops_any nd A cp ls x0 x1 w (by omega) hr, fun A cp w hr => gHops_any nd A cp ls x0 x1 w (by omega) hr⟩

set_option maxRecDepth 100000 in
set_option maxHeartbeats 4000000 in
theorem walk (nd : Int) (A : Option Addr) (cp : Nat) (ls : List Lk) (x0 x1 : Int) (w : World) (hr : RdL w w.heap.size A ls) (hl : ls.length ≤ 9223372036854775807) (_ : (Lit.int .i64 x0).wf = true) (_ : (Lit.int .i64 x1).wf = true) :
    Calls Try.prog 6 #[.agg #[.int .i64 nd, .slice A ls.length cp], .int .i64 x0, .int .i64 x1] w fun e w' => e = .returned (.bool true) ∧ Below w.heap.size w w' := by
  by_cases h20 : ls.length ≤ 1048576
  · obtain ⟨ys, hl2, hS, hI⟩ := pair nd ls x0 x1 h20
    have HS := Lib.hid hS
    have HI := Lib.hid hI
    clear hS hI
    go_enter Try.func6, Try.ntmps6
    go_wp2_with fail
    refine (szGraph_any nd A ls.length cp _ _ h20 rfl).mono ?_
    rintro e w1 ⟨rfl, hb1⟩
    have B1 := bthen (bnew w (.cells #[.int .i64 nd, .slice A ls.length cp] 42)) hb1
    have ba1 := (Blk.new w #[.int .i64 nd, .slice A ls.length cp] 42).keep hb1
    have k1 : w1.cell? ⟨w.heap.size, 0, none⟩ = some (.int .i64 nd) := ba1.cellAt 0
    have k2 : w1.cell? ⟨w.heap.size, 1, none⟩ = some (.slice A ls.length cp) := ba1.cellAt 1
    clear hb1
    go_wp2_with fail
    refine (toGraph_any nd A cp ls _ h20 ((hr.keep B1).more B1.size)).mono ?_
    rintro e w2 ⟨⟨B, cq, rfl, ho⟩, hb2⟩
    have B2 := bthen B1 hb2
    have ba2 := ba1.keep hb2
    clear k1 k2 ba1 hb2
    go_wp2_with fail
    refine (HS.out B cq _ (own_cap ho) ho.rd).mono ?_
    rintro e w3 ⟨⟨C, cc, rfl, oC⟩, hb3⟩
    have B3 := bthen B2 hb3
    have ba3 := ba2.keep hb3
    have lC := fun k hk => (World.ownsRow.lt oC k hk).2
    have k1 : w3.cell? ⟨w.heap.size, 0, none⟩ = some (.int .i64 nd) := ba3.cellAt 0
    have k2 : w3.cell? ⟨w.heap.size, 1, none⟩ = some (.slice A ls.length cp) := ba3.cellAt 1
    clear ba2 hb3 ho B2
    go_wp2_with fail
    refine (toGraph_any nd A cp ls _ h20 ((hr.keep B3).more B3.size)).mono ?_
    rintro e w4 ⟨⟨D, cd, rfl, oD⟩, hb4⟩
    have B4' := bthen (bthen B3 hb4) (bnew w4 (.cells #[.int .i64 nd, .slice D ls.length cd] 25))
    have ba4 := (ba3.keep hb4).keep (bnew w4 (.cells #[.int .i64 nd, .slice D ls.length cd] 25))
    have oC4 := (oC.keep hb4).keep (bnew w4 (.cells #[.int .i64 nd, .slice D ls.length cd] 25))
    have b84 := Blk.new w4 #[.int .i64 nd, .slice D ls.length cd] 25
    have oD4 := oD.keep (bnew w4 (.cells #[.int .i64 nd, .slice D ls.length cd] 25))
    have s4 := Nat.le_trans hb4.size (bnew w4 (.cells #[.int .i64 nd, .slice D ls.length cd] 25)).size
    clear ba3 oC hb4 oD k1 k2
    go_wp2_with fail
    refine (HI.out D cd _ oD4.rd).mono ?_
    rintro e w5 ⟨⟨E, ce, rfl, oE⟩, hb5⟩
    have S : EY w w5 nd A cp ls C cc ys w4.heap.size D cd ls E ce ys w2.heap.size w3.heap.size (w4.alloc (.cells #[.int .i64 nd, .slice D ls.length cd] 25)).heap.size :=
      ⟨ba4.keep hb5, oC4.keep hb5, b84.keep hb5, oD4.keep hb5, oE, fun k hk => Nat.lt_of_lt_of_le (lC k (by rw [ownBlock_eq]; exact hk)) s4, B3.size, Nat.le_trans B3.size s4, bthen B4' hb5⟩
    have tn1 : decide ((1 : Int) + 3 * (ls.length : Int) < 0) = false := by simp; omega
    have tn2 : decide ((1 : Int) + (ys.length : Int) < 0) = false := by simp; omega
    have tn3 : ((1 : Int) + (ys.length : Int) != 1 + (ys.length : Int)) = false := by simp
    clear ba4 oC4 b84 oD4 lC s4 B4' B3 hb5 oE B1
    go_wp2_with fail
    refine (eqI_any E C ce cc ys _ (by omega) S.oe.rd S.oc.rd).mono ?_
    rintro e w6 ⟨rfl, hb6⟩
    have S6 := S.on hb6
    clear S hb6
    generalize w4.heap.size = G8 at *
    generalize w2.heap.size = bC at *
    generalize w3.heap.size = bD at *
    generalize (w4.alloc (.cells #[.int .i64 nd, .slice D ls.length cd] 25)).heap.size = bE at *
    have S6d := S6.on (Below.refl _ _).drew
    obtain ⟨a0, a1, a4, a5⟩ := S6.cells
    go_upto_region 10 with fail
    go_cut [39] from 15 (fun s wx => s = .bool false ∧ EY w wx nd A cp ls C cc ys G8 D cd ls E ce ys bC bD bE)
    case first =>
      go_region_with (first
        | (go_at_call 31; refine (toGraph_any nd A cp ls _ h20 (S6d.ra hr)).mono ?_; rintro e w7 ⟨⟨F, cf, rfl, oF⟩, hb7⟩; have S7 := S6d.on hb7; have a4' := S7.cells.2.2.1; have a5' := S7.cells.2.2.2)
        | (go_at_call 33; refine (eqGraph_any nd D F cd cf ls _ (by omega) S7.od.rd oF.rd).mono ?_; rintro e w8 ⟨rfl, hb8⟩; have S8 := S7.on hb8))
      all_goals
        go_wp2_with fail
        go_meet
        exact ⟨rfl, S8⟩
    case rest =>
      obtain ⟨rfl, S9⟩ := hcut
      clear S6 S6d a0 a1 a4 a5
      obtain ⟨a0, a1, a4, a5⟩ := S9.cells
      go_wp2_with fail
      refine (markG_any nd D cd ls _ 1 _ rfl h20 S9.od).mono ?_
      rintro e w10 ⟨rfl, oD', gD'⟩
      have S10 := S9.markD oD' gD'
      clear S9 oD' gD' a0 a1 a4 a5
      obtain ⟨a0, a1, a4, a5⟩ := S10.cells
      go_wp2_with fail
      refine (eqI_any E C ce cc ys _ (by omega) S10.oe.rd S10.oc.rd).mono ?_
      rintro e w11 ⟨rfl, hb11⟩
      have S11 := S10.on hb11
      clear S10 hb11 a0 a1 a4 a5
      obtain ⟨a0, a1, a4, a5⟩ := S11.cells
      go_wp2_with fail
      refine (markIS_any E ce ys _ 1 _ rfl hl2 S11.oe).mono ?_
      rintro e w12 ⟨rfl, oE', gE'⟩
      have S12 := S11.markE oE' gE'
      clear S11 oE' gE' a0 a1 a4 a5
      obtain ⟨a0, a1, a4, a5⟩ := S12.cells
      go_wp2_with fail
      refine (heldIS_any E ce ys.length 1 _ rfl hl2 S12.oe.rd).mono ?_
      rintro e w13 ⟨rfl, hb13⟩
      have S13 := S12.on hb13
      clear S12 hb13 a0 a1 a4 a5
      obtain ⟨a0, a1, a4, a5⟩ := S13.cells
      go_wp2_with fail
      refine (toGraph_any nd A cp ls _ h20 (S13.ra hr)).mono ?_
      rintro e w14 ⟨⟨F, cf, rfl, oF⟩, hb14⟩
      have S14 := S13.on hb14
      clear S13 hb14 a0 a1 a4 a5
      obtain ⟨a0, a1, a4, a5⟩ := S14.cells
      go_wp2_with fail
      refine (HI.out F cf _ oF.rd).mono ?_
      rintro e w15 ⟨⟨X, cx, rfl, oX⟩, hb15⟩
      have S15 := S14.on hb15
      clear S14 hb15 a0 a1 a4 a5
      obtain ⟨a0, a1, a4, a5⟩ := S15.cells
      go_wp2_with fail
      refine (eqI_any X C cx cc ys _ (by omega) oX.rd S15.oc.rd).mono ?_
      rintro e w17 ⟨rfl, hb17⟩
      have S17 := S15.on hb17
      clear S15 hb17 a0 a1 a4 a5 oX
      obtain ⟨a0, a1, a4, a5⟩ := S17.cells
      go_wp2_with fail
      refine (heldIS_any E ce ys.length 1 _ rfl hl2 S17.oe.rd).mono ?_
      rintro e w18 ⟨rfl, hb18⟩
      have S18 := S17.on hb18
      go_wp2_with fail
      go_ret
      exact ⟨rfl, S18.bl⟩
  · go_enter Try.func6, Try.ntmps6
    go_wp2_with fail
    refine (szGraph_big nd A ls.length cp _ _ (by omega) hl rfl).mono ?_
    rintro e w1 ⟨rfl, hb1⟩
    go_wp2_with fail
    go_ret
    exact ⟨rfl, bthen (bnew _ _) hb1⟩

end Go.Proofs.Ytnndnpckkcgfiaa.fnExactNextHops
