/-
  The walk of the law FnExactGraphCost: both GraphCost answer alike, and what the program hands back is memory of its own.
-/
import Derived.Test.YtnkcldophdbehaaDK
import Derived.Test.YtnkcldophdbehaaDM
namespace Go.Proofs.Ytnkcldophdbehaa.fnExactGraphCost
open Go.RowKit

theorem pair (nd : Int) (ls : List Lk) (x0 x1 : Int) (hlen : ls.length ≤ 1048576) : ∃ nd2 ls2 b2, ls2.length ≤ 1048576 ∧
    (∀ (A : Option Addr) (cp : Nat) (w : World), ls.length ≤ cp → RdL w w.heap.size A ls → Calls Try.prog 25 #[.agg #[.int .i64 nd, .slice A ls.length cp], .int .i64 x0, .int .i64 x1] w (RG nd2 ls2 b2 w)) ∧
    (∀ (A : Option Addr) (cp : Nat) (w : World), RdL w w.heap.size A ls → Calls Try.prog 24 #[.agg #[.int .i64 nd, .slice A ls.length cp], .int .i64 x0, .int .i64 x1] w (RG nd2 ls2 b2 w)) := by
  by_cases h : Valid nd ls ∧ Lnk ls x0 ∧ Cst x1
  · exact ⟨nd, lsC ls x0.toNat x1, true, by rw [length_lsC]; omega, fun A cp w _ hr => sgCost_yes h.1 h.2.1 h.2.2.1 h.2.2.2 A cp w hr, fun A cp w hr => gCost_yes h.1 h.2.1 h.2.2.1 h.2.2.2 A cp w hr⟩
  · exact ⟨0, [], false, by simp, fun A cp w _ hr => sgCost_no h A cp w (by omega) hr, fun A cp w hr => gCost_no h A cp w (by omega) hr⟩

set_option maxRecDepth 100000 in
set_option maxHeartbeats 4000000 in
theorem walk (nd : Int) (A : Option Addr) (cp : Nat) (ls : List Lk) (x0 x1 : Int) (w : World) (hr : RdL w w.heap.size A ls) (hl : ls.length ≤ 9223372036854775807) (_ : (Lit.int .i64 x0).wf = true) (_ : (Lit.int .i64 x1).wf = true) :
    Calls Try.prog 12 #[.agg #[.int .i64 nd, .slice A ls.length cp], .int .i64 x0, .int .i64 x1] w fun e w' => e = .returned (.bool true) ∧ Below w.heap.size w w' := by
  by_cases h20 : ls.length ≤ 1048576
  · obtain ⟨nd2, ls2, b2, hl2, hS, hI⟩ := pair nd ls x0 x1 h20
    have HS := Lib.hid hS
    have HI := Lib.hid hI
    have hbb : (b2 != b2) = false := by simp
    clear hS hI
    go_enter Try.func12, Try.ntmps12
    go_wp2_with fail
    refine (szGraph_any nd A ls.length cp _ _ h20 rfl).mono ?_
    rintro e w1 ⟨rfl, hb1⟩
    have B1 := bthen (bnew w (.cells #[.int .i64 nd, .slice A ls.length cp] 25)) hb1
    have ba1 := (Blk.new w #[.int .i64 nd, .slice A ls.length cp] 25).keep hb1
    have k1 : w1.cell? ⟨w.heap.size, 0, none⟩ = some (.int .i64 nd) := ba1.cellAt 0
    have k2 : w1.cell? ⟨w.heap.size, 1, none⟩ = some (.slice A ls.length cp) := ba1.cellAt 1
    clear hb1
    go_wp2_with fail
    refine (toGraph_any nd A cp ls _ h20 ((hr.keep B1).more B1.size)).mono ?_
    rintro e w2 ⟨⟨B, cq, rfl, ho⟩, hb2⟩
    have B2 := bthen B1 hb2
    have ba2 := ba1.keep hb2
    clear k1 k2 ba1 hb2
    go_wp2_with fail
    refine (HS.out B cq _ (own_cap ho) ho.rd).mono ?_
    rintro e w3 ⟨⟨C, cc, rfl, oC⟩, hb3⟩
    have B3 := bthen B2 hb3
    have ba3 := (ba2.keep hb3).keep (bnew w3 (.cells #[.int .i64 nd2, .slice C ls2.length cc] 30))
    have b63 := Blk.new w3 #[.int .i64 nd2, .slice C ls2.length cc] 30
    have oC3 := oC.keep (bnew w3 (.cells #[.int .i64 nd2, .slice C ls2.length cc] 30))
    have lC := fun k hk => (World.ownsRow.lt oC k hk).2
    have B3' := bthen B3 (bnew w3 (.cells #[.int .i64 nd2, .slice C ls2.length cc] 30))
    have k1 : w3.cell? ⟨w.heap.size, 0, none⟩ = some (.int .i64 nd) := (ba2.keep hb3).cellAt 0
    have k2 : w3.cell? ⟨w.heap.size, 1, none⟩ = some (.slice A ls.length cp) := (ba2.keep hb3).cellAt 1
    have l3 := (ba2.keep hb3).lt
    clear ba2 hb3 oC ho B2
    go_wp2_with fail
    refine (toGraph_any nd A cp ls _ h20 ((hr.keep B3').more B3'.size)).mono ?_
    rintro e w4 ⟨⟨D, cd, rfl, oD⟩, hb4⟩
    have B4 := bthen B3' hb4
    have B4' := bthen B4 (bnew w4 (.cells #[.int .i64 nd, .slice D ls.length cd] 30))
    have ba4 := (ba3.keep hb4).keep (bnew w4 (.cells #[.int .i64 nd, .slice D ls.length cd] 30))
    have b64 := (b63.keep hb4).keep (bnew w4 (.cells #[.int .i64 nd, .slice D ls.length cd] 30))
    have oC4 := (oC3.keep hb4).keep (bnew w4 (.cells #[.int .i64 nd, .slice D ls.length cd] 30))
    have b84 := Blk.new w4 #[.int .i64 nd, .slice D ls.length cd] 30
    have oD4 := oD.keep (bnew w4 (.cells #[.int .i64 nd, .slice D ls.length cd] 30))
    have lD := fun k hk => (World.ownsRow.lt oD k hk).2
    have s4 := Nat.le_trans hb4.size (bnew w4 (.cells #[.int .i64 nd, .slice D ls.length cd] 30)).size
    clear ba3 b63 oC3 hb4 oD k1 k2 l3 B3 B4
    go_wp2_with fail
    refine (HI.out D cd _ oD4.rd).mono ?_
    rintro e w5 ⟨⟨E, ce, rfl, oE⟩, hb5⟩
    have S : EX w (w5.alloc (.cells #[.int .i64 nd2, .slice E ls2.length ce] 30)) nd A cp ls nd2 ls2 w3.heap.size C cc w4.heap.size D cd ls w5.heap.size E ce ls2 w2.heap.size (w3.alloc (.cells #[.int .i64 nd2, .slice C ls2.length cc] 30)).heap.size (w4.alloc (.cells #[.int .i64 nd, .slice D ls.length cd] 30)).heap.size :=
      ⟨(ba4.keep hb5).keep (bnew _ _), (b64.keep hb5).keep (bnew _ _), (oC4.keep hb5).keep (bnew _ _), (b84.keep hb5).keep (bnew _ _), (oD4.keep hb5).keep (bnew _ _), Blk.new _ _ _, oE.keep (bnew _ _),
        fun k hk => by have := lC k (by rw [ownBlock_eq]; exact hk); simp; omega, fun k hk => by have := lD k (by rw [ownBlock_eq]; exact hk); simp; omega, B3'.size, s4, bthen B4' (bthen hb5 (bnew _ _))⟩
    have x0' : w5.cell? ⟨w3.heap.size, 0, none⟩ = some (.int .i64 nd2) := (b64.keep hb5).cellAt 0
    have x1' : w5.cell? ⟨w3.heap.size, 1, none⟩ = some (.slice C ls2.length cc) := (b64.keep hb5).cellAt 1
    have l35 := (b64.keep hb5).lt
    have tn1 : decide ((1 : Int) + 3 * (ls.length : Int) < 0) = false := by simp; omega
    have tn2 : decide ((1 : Int) + 3 * (ls2.length : Int) < 0) = false := by simp; omega
    have tn3 : ((1 : Int) + 3 * (ls2.length : Int) != 1 + 3 * (ls2.length : Int)) = false := by simp
    clear ba4 b64 oC4 b84 oD4 lC lD s4 B4' B3' hb5 oE B1
    go_wp2_with fail
    refine (eqGraph_any nd2 E C ce cc ls2 _ (by omega) S.oe.rd S.oc.rd).mono ?_
    rintro e w6 ⟨rfl, hb6⟩
    have S6 := S.on hb6
    clear S hb6 x0' x1' l35
    generalize w3.heap.size = G6 at *
    generalize w4.heap.size = G8 at *
    generalize w5.heap.size = G9 at *
    generalize w2.heap.size = bC at *
    generalize (w3.alloc (.cells #[.int .i64 nd2, .slice C ls2.length cc] 30)).heap.size = bD at *
    generalize (w4.alloc (.cells #[.int .i64 nd, .slice D ls.length cd] 30)).heap.size = bE at *
    have S6d := S6.on (Below.refl _ _).drew
    obtain ⟨a0, a1, a2, a3, a4, a5, a6, a7⟩ := S6.cells
    go_upto_region 10 with fail
    go_cut [53] from 18 (fun s wx => s = .bool false ∧ EX w wx nd A cp ls nd2 ls2 G6 C cc G8 D cd ls G9 E ce ls2 bC bD bE)
    case first =>
      go_region_with (first
        | (go_at_call 17; refine (toGraph_any nd A cp ls _ h20 (S6d.ra hr)).mono ?_; rintro e w7 ⟨⟨F, cf, rfl, oF⟩, hb7⟩; have S7 := S6d.on hb7; have a4' := S7.cells.2.2.2.2.1; have a5' := S7.cells.2.2.2.2.2.1)
        | (go_at_call 19; refine (eqGraph_any nd D F cd cf ls _ (by omega) S7.od.rd oF.rd).mono ?_; rintro e w8 ⟨rfl, hb8⟩; have S8 := S7.on hb8))
      all_goals
        go_wp2_with fail
        go_meet
        exact ⟨rfl, S8⟩
    case rest =>
      obtain ⟨rfl, S9⟩ := hcut
      clear S6 S6d a0 a1 a2 a3 a4 a5 a6 a7
      obtain ⟨a0, a1, a2, a3, a4, a5, a6, a7⟩ := S9.cells
      go_wp2_with fail
      refine (markG_any nd D cd ls _ 1 _ rfl h20 S9.od).mono ?_
      rintro e w10 ⟨rfl, oD', gD'⟩
      have S10 := S9.markD oD' gD'
      clear S9 oD' gD' a0 a1 a2 a3 a4 a5 a6 a7
      obtain ⟨a0, a1, a2, a3, a4, a5, a6, a7⟩ := S10.cells
      go_wp2_with fail
      refine (eqGraph_any nd2 E C ce cc ls2 _ (by omega) S10.oe.rd S10.oc.rd).mono ?_
      rintro e w11 ⟨rfl, hb11⟩
      have S11 := S10.on hb11
      clear S10 hb11 a0 a1 a2 a3 a4 a5 a6 a7
      obtain ⟨a0, a1, a2, a3, a4, a5, a6, a7⟩ := S11.cells
      go_wp2_with fail
      refine (markG_any nd2 E ce ls2 _ 1 _ rfl hl2 S11.oe).mono ?_
      rintro e w12 ⟨rfl, oE', gE'⟩
      have S12 := S11.markE oE' gE'
      clear S11 oE' gE' a0 a1 a2 a3 a4 a5 a6 a7
      obtain ⟨a0, a1, a2, a3, a4, a5, a6, a7⟩ := S12.cells
      go_wp2_with fail
      refine (heldG_any nd2 E ce ls2.length 1 _ rfl hl2 S12.oe.rd).mono ?_
      rintro e w13 ⟨rfl, hb13⟩
      have S13 := S12.on hb13
      clear S12 hb13 a0 a1 a2 a3 a4 a5 a6 a7
      obtain ⟨a0, a1, a2, a3, a4, a5, a6, a7⟩ := S13.cells
      go_wp2_with fail
      refine (toGraph_any nd A cp ls _ h20 (S13.ra hr)).mono ?_
      rintro e w14 ⟨⟨F, cf, rfl, oF⟩, hb14⟩
      have S14 := S13.on hb14
      clear S13 hb14 a0 a1 a2 a3 a4 a5 a6 a7
      obtain ⟨a0, a1, a2, a3, a4, a5, a6, a7⟩ := S14.cells
      go_wp2_with fail
      refine (HI.out F cf _ oF.rd).mono ?_
      rintro e w15 ⟨⟨X, cx, rfl, oX⟩, hb15⟩
      have S15 := S14.on hb15
      have lt15 := S15.b6.lt
      clear S14 hb15 a0 a1 a2 a3 a4 a5 a6 a7
      obtain ⟨a0, a1, a2, a3, a4, a5, a6, a7⟩ := S15.cells
      have S16 := S15.on (bnew w15 (.cells #[.int .i64 nd2, .slice X ls2.length cx] 30))
      have rX := oX.rd.on (bnew w15 (.cells #[.int .i64 nd2, .slice X ls2.length cx] 30))
      go_wp2_with fail
      refine (eqGraph_any nd2 X C cx cc ls2 _ (by omega) rX S16.oc.rd).mono ?_
      rintro e w17 ⟨rfl, hb17⟩
      have S17 := S16.on hb17
      clear S15 S16 hb17 a0 a1 a2 a3 a4 a5 a6 a7 lt15 rX oX
      obtain ⟨a0, a1, a2, a3, a4, a5, a6, a7⟩ := S17.cells
      go_wp2_with fail
      refine (heldG_any nd2 E ce ls2.length 1 _ rfl hl2 S17.oe.rd).mono ?_
      rintro e w18 ⟨rfl, hb18⟩
      have S18 := S17.on hb18
      go_wp2_with fail
      go_ret
      exact ⟨rfl, S18.bl⟩
  · go_enter Try.func12, Try.ntmps12
    go_wp2_with fail
    refine (szGraph_big nd A ls.length cp _ _ (by omega) hl rfl).mono ?_
    rintro e w1 ⟨rfl, hb1⟩
    go_wp2_with fail
    go_ret
    exact ⟨rfl, bthen (bnew _ _) hb1⟩

end Go.Proofs.Ytnkcldophdbehaa.fnExactGraphCost
