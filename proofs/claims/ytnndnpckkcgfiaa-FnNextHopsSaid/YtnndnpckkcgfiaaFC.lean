/-
  The walks of the next hops: nextHops, l2Hops, both NextHops.
-/
import Derived.Test.YtnndnpckkcgfiaaFB
import Derived.Deep.RegionHeld3
namespace Go.Proofs.Ytnndnpckkcgfiaa
open Go.RowKit
set_option maxRecDepth 100000

/-- what NextHops lists -/
noncomputable def hopsO (nd : Int) (ls : List Lk) (f t : Int) : List Int := if bl (Valid nd ls ∧ Nd nd f ∧ Nd nd t) then hops nd ls f t else []
theorem hopsO_yes {nd : Int} {ls : List Lk} {f t : Int} (h : Valid nd ls ∧ Nd nd f ∧ Nd nd t) : hopsO nd ls f t = hops nd ls f t := by unfold hopsO; rw [bl_true h, if_pos rfl]
theorem hopsO_no {nd : Int} {ls : List Lk} {f t : Int} (h : ¬ (Valid nd ls ∧ Nd nd f ∧ Nd nd t)) : hopsO nd ls f t = [] := by unfold hopsO; rw [bl_false h]; rfl
theorem hopsO_8 (nd : Int) (ls : List Lk) (f t : Int) : (hopsO nd ls f t).length ≤ 8 := by
  by_cases h : Valid nd ls ∧ Nd nd f ∧ Nd nd t
  · rw [hopsO_yes h]; have := hops_le nd ls f t; have := h.1.2.1; omega
  · rw [hopsO_no h]; simp
theorem Ix_D (nd : Int) (ls : List Lk) (u : Int) (v : Nat) : Ix (dists nd ls u) v = D nd ls u v := by unfold D; rw [Int.toNat_natCast]

set_option maxHeartbeats 4000000 in
theorem nextHops_any {nd : Int} {ls : List Lk} (hv : Valid nd ls) {f t : Int} (hf : Nd nd f) (ht : Nd nd t) (A : Option Addr) (cp : Nat) (w : World) (hr : RdL w w.heap.size A ls) :
    Calls Try.prog 62 #[.agg #[.int .i64 nd, .slice A ls.length cp], .int .i64 f, .int .i64 t] w (RI (hops nd ls f t) w) := by
  have h14 := hv.2.2.1
  have hn8 := hv.2.1
  have hn1 := hv.1
  have E0 := emptyOut w (.cells #[.int .i64 nd, .slice A ls.length cp] 25)
  have BX0 := (Blk.new w #[.int .i64 nd, .slice A ls.length cp] 25).keep (bnew _ (.cells #[] 3))
  have BB0 : Below w.heap.size w ((w.alloc (.cells #[.int .i64 nd, .slice A ls.length cp] 25)).alloc (.cells #[] 3)) := b2 _ _ _
  have HD := Lib.hid (dist_any hv ht A cp _ (hr.on BB0))
  have HL := Lib.hid (length_dists nd ls t)
  obtain ⟨f', rfl⟩ := Int.eq_ofNat_of_zero_le hf.1
  have hfn := hf.2
  by_cases hft : (f' : Int) = t
  · subst hft
    rw [hops_self hv ht]
    have tt : ((f' : Int) == (f' : Int)) = true := by simp
    go_enter Try.func62, Try.ntmps62
    go_wp2_with fail
    refine HD.out.mono ?_
    rintro e w1 ⟨⟨DA, dc, rfl, oD⟩, hb1⟩
    have E1 := E0.keep hb1
    have B1 := bthen BB0 hb1
    go_wp2_with fail
    go_ret
    exact ⟨⟨_, _, rfl, E1⟩, B1⟩
  · have tt : ((f' : Int) == t) = false := by rw [beq_eq_false_iff_ne]; exact hft
    by_cases hd : 0 ≤ D nd ls t f'
    · have HQ : Hid (flt (hopQ nd ls f' t) (nbr nd ls f') (nbr nd ls f').length = hops nd ls f' t) := by show _ = _; rw [flt_full, hops_filter hv ht hd]
      have HLE := Lib.hid (fun k : Nat => flt_le (hopQ nd ls f' t) (nbr nd ls f') k)
      have HNL := Lib.hid (nbr_le nd ls f')
      have HM : Hid (∀ k, k < (nbr nd ls f').length → ∃ m kk : Nat, Ix (nbr nd ls f') k = m ∧ (m : Int) < nd ∧ lkIx ls f' m = kk ∧ kk < ls.length ∧ 1 ≤ Lc ls kk ∧ Lc ls kk ≤ 20 ∧ (hopQ nd ls f' t (Ix (nbr nd ls f') k) = decide (D nd ls t m + Lc ls kk = D nd ls t f'))) := fun k hk => by
        have hm := nbr_facts hv (Ix_mem hk)
        obtain ⟨m, hm'⟩ := Int.eq_ofNat_of_zero_le hm.2.1.1
        rw [hm'] at hm
        obtain ⟨kk, hkk⟩ := Int.eq_ofNat_of_zero_le hm.2.2.2.1
        rw [hkk, Int.toNat_natCast] at hm
        refine ⟨m, kk, hm', hm.2.1.2, hkk, hm.2.2.2.2.1, hm.2.2.2.2.2.2.1, hm.2.2.2.2.2.2.2, ?_⟩
        unfold hopQ
        rw [hm', hkk, Int.toNat_natCast]
      have HB := Lib.hid (fun v : Nat => D_bd hv t v)
      have HNB := Lib.hid (fun wr hr => neighbours_any hv f' A cp wr hr)
      have td : decide (D nd ls t f' < 0) = false := by rw [decide_eq_false_iff_not]; omega
      obtain ⟨i0, hi, hz0, hz1, hz2⟩ := info_parts Try.infoIn
      have bf := D_bd hv t f'
      clear hv
      generalize hops nd ls f' t = HO at *
      generalize hNB : nbr nd ls f' = NB at *
      clear hNB
      go_enter Try.func62, Try.ntmps62
      go_wp2_with fail
      refine HD.out.mono ?_
      rintro e w1 ⟨⟨DA, dc, rfl, oD⟩, hb1⟩
      have T1 : UT w w1 nd A cp ls (some ⟨w.heap.size + 1, 0, none⟩) 0 [] DA (dists nd ls t) := ⟨E0.keep hb1, RdF.start oD (fun k hk => by simp at hk; subst hk; simp), BX0.keep hb1, bthen BB0 hb1⟩
      clear E0 BX0 BB0 hb1 oD HD
      have c0 : w1.cell? ⟨w.heap.size, 0, none⟩ = some (.int .i64 nd) := T1.bx.cellAt 0
      have c1 : w1.cell? ⟨w.heap.size, 1, none⟩ = some (.slice A ls.length cp) := T1.bx.cellAt 1
      obtain ⟨dg, dof, hA1, hg1, -, hc1⟩ := T1.hd (by rw [HL.out]; omega)
      obtain rfl := hA1
      have m1 := hc1 f' (by rw [HL.out]; omega)
      rw [Ix_D] at m1
      have j0 : (0 : Int) ≤ (f' : Int) := by omega
      have j1 : (f' : Int) < ((dists nd ls t).length : Int) := by rw [HL.out]; omega
      clear hc1
      go_wp2_with fail
      refine (HNB.out _ ((hr.keep T1.bl).more T1.bl.size)).mono ?_
      rintro e w2 ⟨⟨EA, ec, rfl, oE⟩, hb2⟩
      have T : UT2 w w2 nd A cp ls (some ⟨w.heap.size + 1, 0, none⟩) 0 [] (some ⟨dg, dof, none⟩) (dists nd ls t) EA NB := ⟨T1.on hb2, RdF.start oE (fun k hk => (World.ownsRow.lt T1.ho k (by rw [ownBlk_eq]; exact hk)).2)⟩
      clear c0 c1 T1 hb2 oE HNB m1 td
      go_wp2_with fail
      go_loopw [7, 30] (fun o i wr => ∃ (k : Nat) (B : Option Addr) (cq : Nat), k ≤ NB.length ∧ i = .int .i64 k ∧ o = .slice B (flt (hopQ nd ls f' t) NB k).length cq ∧ UT2 w wr nd A cp ls B cq (flt (hopQ nd ls f' t) NB k) (some ⟨dg, dof, none⟩) (dists nd ls t) EA NB) (fun _ i _ => NB.length - (intOf i).toNat)
      case atStart => exact ⟨0, _, _, Nat.zero_le _, rfl, rfl, T⟩
      case round =>
        obtain ⟨k, B, cq, hk, rfl, rfl, T2⟩ := hrel
        clear T
        by_cases hlt : k < NB.length
        · obtain ⟨m, kk, hm, hmn, hkk, hkl, hc1', hc2', hq⟩ := HM.out k hlt
          obtain ⟨g1, o1, hA1, hg1, -, hc1⟩ := T2.t.hd (by rw [HL.out]; omega)
          injection hA1 with hA1
          injection hA1 with e1 e2
          subst e1 e2
          have m1 := hc1 f' (by rw [HL.out]; omega)
          have m2 := hc1 m (by rw [HL.out]; omega)
          rw [Ix_D] at m1 m2
          obtain ⟨g2, o2, hA2, hg2, -, hc2⟩ := T2.he (by omega)
          obtain rfl := hA2
          have m3 := hc2 k hlt
          obtain ⟨ga, go, hA, hga, hcL⟩ := hr (by omega)
          obtain rfl := hA
          have m4 := (T2.t.bl.cell (by exact hga)).trans (hcL kk hkl).2.2
          have c0 : wr.cell? ⟨w.heap.size, 0, none⟩ = some (.int .i64 nd) := T2.t.bx.cellAt 0
          have c1 : wr.cell? ⟨w.heap.size, 1, none⟩ = some (.slice (some ⟨ga, go, none⟩) ls.length cp) := T2.t.bx.cellAt 1
          have BD : Below wr.heap.size wr wr.drew := (Below.refl _ _).drew
          have HK : Hid (Calls Try.prog 73 #[.agg #[.int .i64 nd, .slice (some ⟨ga, go, none⟩) ls.length cp], .int .i64 f', .int .i64 m] wr.drew fun e w' => e = .returned (.int .i64 kk) ∧ Below wr.drew.heap.size wr.drew w') := by
            have := linkOf_any nd (some ⟨ga, go, none⟩) cp ls f' m wr.drew (by omega) ((hr.keep (bthen T2.t.bl BD)).more (bthen T2.t.bl BD).size)
            rwa [hkk] at this
          have bm := HB.out m
          have hkl8 := HLE.out k
          have hk8 := HNL.out
          have HY : Hid (hopQ nd ls f' t (Ix NB k) = true → flt (hopQ nd ls f' t) NB (k + 1) = flt (hopQ nd ls f' t) NB k ++ [(m : Int)]) := fun h => by rw [← hm]; exact flt_yes hlt h
          have HZ : Hid (hopQ nd ls f' t (Ix NB k) = false → flt (hopQ nd ls f' t) NB (k + 1) = flt (hopQ nd ls f' t) NB k) := fun h => flt_no hlt h
          have hq := Lib.hid hq
          rw [hm] at m3
          have q0 : (0 : Int) ≤ (k : Int) := by omega
          have q1 : (k : Int) < (NB.length : Int) := by omega
          have q2 : (0 : Int) ≤ (m : Int) := by omega
          have q3 : (m : Int) < ((dists nd ls t).length : Int) := by rw [HL.out]; omega
          have q4 : (0 : Int) ≤ (kk : Int) := by omega
          have q5 : (kk : Int) < (ls.length : Int) := by omega
          clear hcL hc1 hc2 hm hkk
          generalize D nd ls t m = x at *
          generalize D nd ls t f' = y at *
          generalize Lc ls kk = c at *
          have qs : IntKind.i64.wrap (x + c) = x + c := IntWalk.i64_in _ (by omega)
          go_wp2_with fail
          go_region_held3 (fun w' => w'.cell? ⟨w.heap.size, 0, none⟩ = some (.int .i64 nd) ∧ w'.cell? ⟨w.heap.size, 1, none⟩ = some (.slice (some ⟨ga, go, none⟩) ls.length cp) ∧ w'.cell? ⟨dg, dof + f', none⟩ = some (.int .i64 y) ∧ w'.cell? ⟨dg, dof + m, none⟩ = some (.int .i64 x) ∧ w'.cell? ⟨ga, go + kk * 3 + 2, none⟩ = some (.int .i64 c)) (go_keep)
            ((go_at_call 73; refine HK.out.mono ?_; rintro e w3 ⟨rfl, hb3⟩; have BX := bthen BD hb3; have y0 := ckeep c0 BX; have y1 := ckeep c1 BX; have y2 := ckeep m1 BX; have y3 := ckeep m2 BX; have y4 := ckeep m4 BX))
          all_goals
            have T3 := T2.on BX
            clear qs
            by_cases hxy : x + c = y
            · have tx : (x + c == y) = true := by rw [beq_iff_eq]; exact hxy
              have HP : Hid (flt (hopQ nd ls f' t) NB (k + 1) = flt (hopQ nd ls f' t) NB k ++ [(m : Int)]) := HY.out (by rw [hq.out, decide_eq_true_eq]; exact hxy)
              clear hxy
              go_wp2_with (at_builtin; refine wpList_appJ _ rfl (.tmp 53) (.tmp 55) 36 rfl i0 Try.underlying36 hi hz0 hz1 hz2 rfl rfl (T3.t.ho.keep (bnew _ _)) m rfl (by go_simp) (by omega) (by have := T3.t.bl.size; simp; omega) ?_; intro A5 cp5 n5 w5 HN5 O5 G5 hat5)
              have T5 := (T3.on (bnew w3 (.cells #[.int .i64 m] 3))).app O5 G5 hat5
              go_roundw
              case rel => exact ⟨k + 1, A5, cp5, by omega, by go_num, by rw [HN5.out, HP.out], by rw [HP.out]; exact T5⟩
              case measure => simp [intOf]; omega
            · have tx : (x + c == y) = false := by rw [beq_eq_false_iff_ne]; exact hxy
              have HP : Hid (flt (hopQ nd ls f' t) NB (k + 1) = flt (hopQ nd ls f' t) NB k) := HZ.out (by rw [hq.out, decide_eq_false_iff_not]; exact hxy)
              clear hxy
              go_wp2_with fail
              go_roundw
              case rel => exact ⟨k + 1, B, cq, by omega, by go_num, by rw [HP.out], by rw [HP.out]; exact T3⟩
              case measure => simp [intOf]; omega
        · obtain rfl : k = NB.length := by omega
          go_wp2_with fail
          go_ret
          exact ⟨⟨B, cq, by rw [← HQ.out]; rfl, by rw [← HQ.out]; exact T2.t.ho⟩, T2.t.bl⟩
    · rw [hops_far hv (by omega)]
      have td : decide (D nd ls t f' < 0) = true := by rw [decide_eq_true_eq]; omega
      clear hd
      go_enter Try.func62, Try.ntmps62
      go_wp2_with fail
      refine HD.out.mono ?_
      rintro e w1 ⟨⟨DA, dc, rfl, oD⟩, hb1⟩
      have E1 := E0.keep hb1
      have B1 := bthen BB0 hb1
      obtain ⟨dg, dof, hA1, hg1, hc1⟩ := oD.rd (by rw [HL.out]; omega)
      obtain rfl := hA1
      have m1 := hc1 f' (by rw [HL.out]; omega)
      rw [Ix_D] at m1
      have j0 : (0 : Int) ≤ (f' : Int) := by omega
      have j1 : (f' : Int) < ((dists nd ls t).length : Int) := by rw [HL.out]; omega
      clear hc1 oD
      go_wp2_with fail
      go_ret
      exact ⟨⟨_, _, rfl, E1⟩, B1⟩

set_option maxHeartbeats 4000000 in
theorem l2Hops_any {nd : Int} {ls : List Lk} (hv : Valid nd ls) {f t : Int} (hf : Nd nd f) (ht : Nd nd t) (A : Option Addr) (cp : Nat) (w : World) (hr : RdL w w.heap.size A ls) :
    Calls Try.prog 66 #[.agg #[.int .i64 nd, .slice A ls.length cp], .int .i64 f, .int .i64 t] w (RI (hops nd ls f t) w) := by
  have h14 := hv.2.2.1
  have hn8 := hv.2.1
  have hn1 := hv.1
  have E0 := emptyOut w (.cells #[.int .i64 nd, .slice A ls.length cp] 25)
  have BX0 := (Blk.new w #[.int .i64 nd, .slice A ls.length cp] 25).keep (bnew _ (.cells #[] 3))
  have BB0 : Below w.heap.size w ((w.alloc (.cells #[.int .i64 nd, .slice A ls.length cp] 25)).alloc (.cells #[] 3)) := b2 _ _ _
  have HD := Lib.hid (sdist_any hv ht A cp _ (hr.on BB0))
  have HL := Lib.hid (length_dists nd ls t)
  have HLE := Lib.hid (fun k : Nat => upTo_le (hopB nd ls f t) k)
  have HB := Lib.hid (fun v : Nat => D_bd hv t v)
  have HC : Hid (∀ kk : Nat, kk < ls.length → 1 ≤ Lc ls kk ∧ Lc ls kk ≤ 20) := fun kk h => (ends_nd hv h).2.2.2
  have HR : Hid (∀ k : Nat, -1 ≤ lkIx ls f k ∧ lkIx ls f k < ls.length) := fun k => lkIx_range ls f k
  obtain ⟨f', rfl⟩ := Int.eq_ofNat_of_zero_le hf.1
  have hfn := hf.2
  have HO : Hid (upTo (hopB nd ls f' t) nd.toNat = hops nd ls f' t) := rfl
  obtain ⟨i0, hi, hz0, hz1, hz2⟩ := info_parts Try.infoIn
  have bf := D_bd hv t f'
  clear hv
  generalize hops nd ls f' t = HOP at *
  go_enter Try.func66, Try.ntmps66
  go_wp2_with fail
  refine HD.out.mono ?_
  rintro e w1 ⟨⟨DA, dc, rfl, oD⟩, hb1⟩
  have T : UT w w1 nd A cp ls (some ⟨w.heap.size + 1, 0, none⟩) 0 [] DA (dists nd ls t) := ⟨E0.keep hb1, RdF.start oD (fun k hk => by simp at hk; subst hk; simp), BX0.keep hb1, bthen BB0 hb1⟩
  clear E0 BX0 BB0 hb1 oD HD
  go_wp2_with fail
  go_loopw [7, 9] (fun o i wr => ∃ (k : Nat) (B : Option Addr) (cq : Nat), (k : Int) ≤ nd ∧ i = .int .i64 k ∧ o = .slice B (upTo (hopB nd ls f' t) k).length cq ∧ UT w wr nd A cp ls B cq (upTo (hopB nd ls f' t) k) DA (dists nd ls t)) (fun _ i _ => nd.toNat - (intOf i).toNat)
  case atStart => exact ⟨0, _, _, by omega, rfl, rfl, T⟩
  case round =>
    obtain ⟨k, B, cq, hk, rfl, rfl, T1⟩ := hrel
    clear T
    have c0 : wr.cell? ⟨w.heap.size, 0, none⟩ = some (.int .i64 nd) := T1.bx.cellAt 0
    have c1 : wr.cell? ⟨w.heap.size, 1, none⟩ = some (.slice A ls.length cp) := T1.bx.cellAt 1
    by_cases hlt : (k : Int) < nd
    · have hkl := HLE.out k
      have hrg := HR.out k
      have bm := HB.out k
      have HP1 : Hid (∀ kk : Nat, lkIx ls f' k = kk → (hopB nd ls f' t k = true ↔ 0 ≤ D nd ls t k ∧ D nd ls t k + Lc ls kk = D nd ls t f')) := fun kk hkk => by
        unfold hopB; rw [hkk, Int.toNat_natCast, decide_eq_true_eq]
        exact ⟨fun h => h.2, fun h => ⟨by omega, h⟩⟩
      have HP2 : Hid (lkIx ls f' k < 0 → hopB nd ls f' t k = false) := fun h => by unfold hopB; rw [decide_eq_false_iff_not]; omega
      go_wp2_with fail
      refine (l1Link_any nd A cp ls f' k _ (by omega) ((hr.keep T1.bl).more T1.bl.size)).mono ?_
      rintro e w2 ⟨rfl, hb2⟩
      have T2 := T1.on hb2
      clear T1 c0 c1 hb2
      have c0 : w2.cell? ⟨w.heap.size, 0, none⟩ = some (.int .i64 nd) := T2.bx.cellAt 0
      have c1 : w2.cell? ⟨w.heap.size, 1, none⟩ = some (.slice A ls.length cp) := T2.bx.cellAt 1
      obtain ⟨dg, dof, hA1, hg1, -, hc1⟩ := T2.hd (by rw [HL.out]; omega)
      obtain rfl := hA1
      have m1 := hc1 f' (by rw [HL.out]; omega)
      have m2 := hc1 k (by rw [HL.out]; omega)
      rw [Ix_D] at m1 m2
      have j0 : (0 : Int) ≤ (f' : Int) := by omega
      have j1 : (f' : Int) < ((dists nd ls t).length : Int) := by rw [HL.out]; omega
      have q0 : (0 : Int) ≤ (k : Int) := by omega
      have q1 : (k : Int) < ((dists nd ls t).length : Int) := by rw [HL.out]; omega
      clear hc1
      by_cases hneg : lkIx ls f' k < 0
      · have HP := Lib.hid (upTo_no (HP2.out hneg))
        have tn : decide (0 ≤ lkIx ls f' k) = false := by rw [decide_eq_false_iff_not]; omega
        clear hneg hrg HP1 HP2
        generalize lkIx ls f' k = z at *
        go_wp2_with fail
        go_quiet (fail)
        go_wp2_with fail
        go_roundw
        case rel => exact ⟨k + 1, B, cq, by omega, by go_num, by rw [HP.out], by rw [HP.out]; exact T2.on (bdN (Below.refl _ _) _)⟩
        case measure => simp [intOf]; omega
      · obtain ⟨kk, hkk⟩ := Int.eq_ofNat_of_zero_le (show 0 ≤ lkIx ls f' k by omega)
        have hP := Lib.hid (HP1.out kk hkk)
        rw [hkk] at hrg ⊢
        have hkkl : kk < ls.length := by omega
        have hcc := HC.out kk hkkl
        obtain ⟨ga, go, hA, hga, hcL⟩ := hr (by omega)
        obtain rfl := hA
        have m4 := (T2.bl.cell (by exact hga)).trans (hcL kk hkkl).2.2
        have q4 : (0 : Int) ≤ (kk : Int) := by omega
        have q5 : (kk : Int) < (ls.length : Int) := by omega
        have tn : decide (0 ≤ (kk : Int)) = true := by rw [decide_eq_true_eq]; omega
        clear hcL hkk hneg HP1 HP2
        have HB := Lib.hid bf
        clear bf
        generalize D nd ls t k = x at *
        generalize D nd ls t f' = y at *
        generalize Lc ls kk = c at *
        have qs : IntKind.i64.wrap (x + c) = x + c := IntWalk.i64_in _ (by omega)
        by_cases hx0 : 0 ≤ x
        · have tx0 : decide (0 ≤ x) = true := by rw [decide_eq_true_eq]; exact hx0
          by_cases hxy : x + c = y
          · have tx : (x + c == y) = true := by rw [beq_iff_eq]; exact hxy
            have HP := Lib.hid (upTo_yes (hP.out.2 ⟨hx0, hxy⟩))
            clear hxy
            go_wp2_with fail
            go_quiet (fail)
            clear qs
            go_wp2_with (at_builtin; refine wpList_appJ _ rfl (.tmp 52) (.tmp 54) 36 rfl i0 Try.underlying36 hi hz0 hz1 hz2 rfl rfl ((T2.on (bdN (Below.refl _ w2) _)).ho.keep (bnew _ _)) k rfl (by exact (Blk.new (w2.drewN _) #[.int .i64 k] 3).cellAt 0) (by omega) (by have := T2.bl.size; simp; omega) ?_; intro A5 cp5 n5 w5 HN5 O5 G5 hat5)
            have T5 := ((T2.on (bdN (Below.refl _ w2) _)).on (bnew _ (.cells #[.int .i64 k] 3))).app O5 G5 hat5
            go_roundw
            case rel => exact ⟨k + 1, A5, cp5, by omega, by go_num, by rw [HN5.out, HP.out], by rw [HP.out]; exact T5⟩
            case measure => simp [intOf]; omega
          · have tx : (x + c == y) = false := by rw [beq_eq_false_iff_ne]; exact hxy
            have HP := Lib.hid (upTo_no (show hopB nd ls f' t k = false by rw [Bool.eq_false_iff]; exact fun h => hxy (hP.out.1 h).2))
            clear hxy
            go_wp2_with fail
            go_quiet (fail)
            clear qs
            go_wp2_with fail
            go_roundw
            case rel => exact ⟨k + 1, B, cq, by omega, by go_num, by rw [HP.out], by rw [HP.out]; exact T2.on (bdN (Below.refl _ _) _)⟩
            case measure => simp [intOf]; omega
        · have tx0 : decide (0 ≤ x) = false := by rw [decide_eq_false_iff_not]; exact hx0
          have HP := Lib.hid (upTo_no (show hopB nd ls f' t k = false by rw [Bool.eq_false_iff]; exact fun h => hx0 (hP.out.1 h).1))
          clear hx0
          go_wp2_with fail
          go_quiet (fail)
          clear qs
          go_wp2_with fail
          go_roundw
          case rel => exact ⟨k + 1, B, cq, by omega, by go_num, by rw [HP.out], by rw [HP.out]; exact T2.on (bdN (Below.refl _ _) _)⟩
          case measure => simp [intOf]; omega
    · have HE : Hid (upTo (hopB nd ls f' t) k = HOP) := by show _ = _; rw [← HO.out, show k = nd.toNat from by omega]
      go_wp2_with fail
      go_ret
      exact ⟨⟨B, cq, by rw [← HE.out]; rfl, by rw [← HE.out]; exact T1.ho⟩, T1.bl⟩

set_option maxHeartbeats 1000000 in
theorem gHops_any (nd : Int) (A : Option Addr) (cp : Nat) (ls : List Lk) (f t : Int) (w : World) (hlen : ls.length ≤ 9223372036854775806) (hr : RdL w w.heap.size A ls) :
    Calls Try.prog 24 #[.agg #[.int .i64 nd, .slice A ls.length cp], .int .i64 f, .int .i64 t] w (RI (hopsO nd ls f t) w) := by
  have S := BG.start (nd := nd) (cp := cp) hr
  by_cases hf : Valid nd ls ∧ Nd nd f
  · by_cases ht : Nd nd t
    · rw [hopsO_yes ⟨hf.1, hf.2, ht⟩]
      go_enter Try.func24, Try.ntmps24
      go_wp2_with fail
      refine (hasNode_yes hf.1 hf.2 A cp _ S.rd).mono ?_
      rintro e w1 ⟨rfl, hb1⟩
      have S1 := S.on hb1
      have c0 := S1.c0
      have c1 := S1.c1
      clear S hb1
      go_wp2_with fail
      refine (hasNode_yes hf.1 ht A cp _ S1.rd).mono ?_
      rintro e w2 ⟨rfl, hb2⟩
      have S2 := S1.on hb2
      clear c0 c1 S1 hb2
      have c0 := S2.c0
      have c1 := S2.c1
      go_wp2_with fail
      refine (nextHops_any hf.1 hf.2 ht A cp _ S2.rd).mono ?_
      intro e w3 h3
      obtain ⟨⟨B, cq, rfl, ho⟩, hb3⟩ := h3.of S2.bl
      go_wp2_with fail
      go_ret
      exact ⟨⟨B, cq, rfl, ho⟩, hb3⟩
    · rw [hopsO_no (fun h => ht h.2.2)]
      go_enter Try.func24, Try.ntmps24
      go_wp2_with fail
      refine (hasNode_yes hf.1 hf.2 A cp _ S.rd).mono ?_
      rintro e w1 ⟨rfl, hb1⟩
      have S1 := S.on hb1
      have c0 := S1.c0
      have c1 := S1.c1
      clear S hb1
      go_wp2_with fail
      refine (hasNode_no (fun h => ht h.2) A cp _ hlen S1.rd).mono ?_
      rintro e w2 ⟨rfl, hb2⟩
      have B2 := bthen S1.bl hb2
      go_wp2_with fail
      go_ret
      exact RI.nil_ B2
  · rw [hopsO_no (fun h => hf ⟨h.1, h.2.1⟩)]
    go_enter Try.func24, Try.ntmps24
    go_wp2_with fail
    refine (hasNode_no hf A cp _ hlen S.rd).mono ?_
    rintro e w1 ⟨rfl, hb1⟩
    have B1 := bthen S.bl hb1
    go_wp2_with fail
    go_ret
    exact RI.nil_ B1

set_option maxHeartbeats 1000000 in
theorem sgHops_any (nd : Int) (A : Option Addr) (cp : Nat) (ls : List Lk) (f t : Int) (w : World) (hlen : ls.length ≤ 9223372036854775806) (hr : RdL w w.heap.size A ls) :
    Calls Try.prog 30 #[.agg #[.int .i64 nd, .slice A ls.length cp], .int .i64 f, .int .i64 t] w (RI (hopsO nd ls f t) w) := by
  have S := BG.start (nd := nd) (cp := cp) hr
  by_cases h : Valid nd ls ∧ Nd nd f ∧ Nd nd t
  · rw [hopsO_yes h]
    go_enter Try.func30, Try.ntmps30
    go_wp2_with fail
    refine (l2Two_yes h.1 h.2.1 h.2.2 A cp _ S.rd).mono ?_
    rintro e w1 ⟨rfl, hb1⟩
    have S1 := S.on hb1
    have c0 := S1.c0
    have c1 := S1.c1
    clear S hb1
    go_wp2_with fail
    refine (l2Hops_any h.1 h.2.1 h.2.2 A cp _ S1.rd).mono ?_
    intro e w3 h3
    obtain ⟨⟨B, cq, rfl, ho⟩, hb3⟩ := h3.of S1.bl
    go_wp2_with fail
    go_ret
    exact ⟨⟨B, cq, rfl, ho⟩, hb3⟩
  · rw [hopsO_no h]
    go_enter Try.func30, Try.ntmps30
    go_wp2_with fail
    refine (l2Two_no h A cp _ hlen S.rd).mono ?_
    rintro e w1 ⟨rfl, hb1⟩
    have B1 := bthen S.bl hb1
    go_wp2_with fail
    go_ret
    exact own_emptyI B1

end Go.Proofs.Ytnndnpckkcgfiaa
