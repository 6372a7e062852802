/-
  The walk of the law FnExactStackEnd: both StackEnd answer alike.
-/
import Derived.Test.YtnmmacfchmmkkaaSD
import Derived.Test.YtnmmacfchmmkkaaSB
namespace Go.Proofs.Ytnmmacfchmmkkaa.fnExactStackEnd
open Go.RowKit

set_option maxRecDepth 100000 in
set_option maxHeartbeats 4000000 in
theorem walk (nd : Int) (A : Option Addr) (cp : Nat) (ls : List Lk) (x : Int) (P : Option Addr) (cs : Nat) (st : List Lab) (w : World) (hr : RdL w w.heap.size A ls) (hl : ls.length ≤ 9223372036854775807) (_ : (Lit.int .i64 x).wf = true) (hp : RdP w w.heap.size P st) (hm : st.length ≤ 9223372036854775807) :
    Calls Try.prog 3 #[.agg #[.int .i64 nd, .slice A ls.length cp], .int .i64 x, .slice P st.length cs] w fun e w' => e = .returned (.bool true) ∧ Below w.heap.size w w' := by
  by_cases h20 : ls.length ≤ 1048576
  · by_cases h21 : (st.length : Int) ≤ 1048576 - (ls.length : Int)
    · have h22 : st.length ≤ 1048576 := by omega
      go_enter Try.func3, Try.ntmps3
      go_wp2_with fail
      refine (szGraph_any nd A ls.length cp _ _ h20 rfl).mono ?_
      rintro e w1 ⟨rfl, hb1⟩
      obtain ⟨k1, k2⟩ := box2 hb1
      have r1 := (hr.on (bnew w (.cells #[.int .i64 nd, .slice A ls.length cp] 24))).on hb1
      have p1 := (hp.on (bnew w (.cells #[.int .i64 nd, .slice A ls.length cp] 24))).on hb1
      have B1 := bthen (bnew _ _) hb1
      have t1 : decide ((1048576 : Int) - (ls.length : Int) < 0) = false := by rw [decide_eq_false_iff_not]; omega
      have t2 : decide ((1048576 : Int) - (ls.length : Int) - (st.length : Int) < 0) = false := by rw [decide_eq_false_iff_not]; omega
      go_wp2_with fail
      refine (szLabelS_any P st.length cs _ _ (by omega) h21).mono ?_
      rintro e w2 ⟨rfl, rfl⟩
      go_wp2_with fail
      refine (toGraph_any nd A cp ls _ h20 r1).mono ?_
      rintro e w2 ⟨⟨B, cq, rfl, ho⟩, hb2⟩
      have r2 := r1.on hb2
      have p2 := p1.on hb2
      have k3 := ckeep k1 hb2
      have k4 := ckeep k2 hb2
      have B2 := bthen B1 hb2
      clear k1 k2 r1 p1 hb1 hb2 B1
      go_wp2_with fail
      refine (toLabelS_any P cs st _ h22 p2).mono ?_
      rintro e w3 ⟨⟨Q, cu, rfl, hq⟩, hb3⟩
      have r3 := r2.on hb3
      have p3 := p2.on hb3
      have o3 := ho.rd.on hb3
      have k1 := ckeep k3 hb3
      have k2 := ckeep k4 hb3
      have B3 := bthen B2 hb3
      clear k3 k4 r2 p2 hb3 B2 ho
      go_wp2_with fail
      refine (sEnd_any nd B cq ls x Q cu st _ (by omega) h22 o3 hq).mono ?_
      rintro e w4 ⟨rfl, hb4⟩
      have r4 := r3.on hb4
      have p4 := p3.on hb4
      have k3 := ckeep k1 hb4
      have k4 := ckeep k2 hb4
      have B4 := bthen B3 hb4
      clear k1 k2 r3 p3 hb4 B3 o3 hq
      generalize hz : endN nd ls x st = z at *
      generalize hbl : bl (StkOk nd ls x st) = b at *
      go_wp2_with fail
      refine (toGraph_any nd A cp ls _ h20 r4).mono ?_
      rintro e w5 ⟨⟨C, cr, rfl, hx⟩, hb5⟩
      have r5 := r4.on hb5
      have p5 := p4.on hb5
      have k1 := ckeep k3 hb5
      have k2 := ckeep k4 hb5
      have B5 := bthen B4 hb5
      clear k3 k4 r4 p4 hb5 B4
      go_wp2_with fail
      have BN := bnew w5 (.cells #[.int .i64 nd, .slice C ls.length cr] 32)
      have x5 := hx.rd.on BN
      refine (toLabelS_any P cs st _ h22 (p5.on BN)).mono ?_
      rintro e w6 ⟨⟨R, cv, rfl, hy⟩, hb6⟩
      have r6 := (r5.on BN).on hb6
      have p6 := (p5.on BN).on hb6
      have q6 := x5.on hb6
      have k3 := ckeep (ckeep k1 BN) hb6
      have k4 := ckeep (ckeep k2 BN) hb6
      obtain ⟨x1, x2⟩ := box2 hb6
      have B6 := bthen (bthen B5 BN) hb6
      clear k1 k2 r5 p5 hb6 B5 x5 BN
      go_wp2_with fail
      refine (gEnd_any nd C cr ls x R cv st _ (by omega) h22 q6 hy).mono ?_
      rintro e w7 ⟨he, hb7⟩
      rw [hz, hbl] at he
      subst he
      clear hz hbl
      have hd7 := hb7.drew
      have r7 := r6.on hd7
      have p7 := p6.on hd7
      have q7 := q6.on hd7
      have y7 := hy.on hd7
      have k1 := ckeep k3 hd7
      have k2 := ckeep k4 hd7
      have x3 := ckeep x1 hd7
      have x4 := ckeep x2 hd7
      have g1 := ckeep k3 hb7
      have g2 := ckeep k4 hb7
      have g3 := ckeep x1 hb7
      have g4 := ckeep x2 hb7
      have B7 := bthen B6 hd7
      clear k3 k4 x1 x2 r6 p6 q6 hy hb7 hd7 B6
      go_upto_region 14 with fail
      go_region_with (first | (go_at_call 7; refine (toGraph_any nd A cp ls _ h20 r7).mono ?_; rintro e w8 ⟨⟨D, cx, rfl, hD⟩, hb8⟩; have x5 := ckeep x3 hb8; have x6 := ckeep x4 hb8; have q8 := q7.on hb8; have p8 := p7.on hb8; have y8 := y7.on hb8; have B8 := bthen B7 hb8) | (go_at_call 10; refine (eqGraph_any nd C D cr cx ls _ (by omega) q8 hD.rd).mono ?_; rintro e w9 ⟨rfl, hb9⟩; have p9 := p8.on hb9; have y9 := y8.on hb9; have B9 := bthen B8 hb9))
      all_goals
        go_wp2_with fail
        refine (toLabelS_any P cs st _ h22 p9).mono ?_
        rintro e wa ⟨⟨E, cy, rfl, hE⟩, hba⟩
        have ya := y9.on hba
        have Ba := bthen B9 hba
        go_wp2_with fail
        refine (eqLabelS_any R E cv cy st _ (by omega) ya hE).mono ?_
        rintro e wb ⟨rfl, hbb⟩
        have Bb := bthen Ba hbb
        go_wp2_with fail
        go_ret
        exact ⟨rfl, Bb⟩
    · go_enter Try.func3, Try.ntmps3
      go_wp2_with fail
      refine (szGraph_any nd A ls.length cp _ _ h20 rfl).mono ?_
      rintro e w1 ⟨rfl, hb1⟩
      have t1 : decide ((1048576 : Int) - (ls.length : Int) < 0) = false := by rw [decide_eq_false_iff_not]; omega
      go_wp2_with fail
      refine (szLabelS_big P st.length cs _ _ (by omega) (by omega) (by omega) hm).mono ?_
      rintro e w2 ⟨rfl, rfl⟩
      go_wp2_with fail
      go_ret
      exact ⟨rfl, bthen (bnew _ _) hb1⟩
  · go_enter Try.func3, Try.ntmps3
    go_wp2_with fail
    refine (szGraph_big nd A ls.length cp _ _ (by omega) hl rfl).mono ?_
    rintro e w1 ⟨rfl, hb1⟩
    go_wp2_with fail
    go_ret
    exact ⟨rfl, bthen (bnew _ _) hb1⟩

end Go.Proofs.Ytnmmacfchmmkkaa.fnExactStackEnd
