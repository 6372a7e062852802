/-
  The walk of the law FnAfterBound: a distance changes by no more than the cost.
-/
import Derived.Test.YtmkjndfhfhfggaaEI
import Derived.Test.YtmkjndfhfhfggaaWO
import Derived.Test.YtmkjndfhfhfggaaPF
namespace Go.Proofs.Ytmkjndfhfhfggaa.fnAfterBound
open Go.RowKit

set_option maxRecDepth 100000 in
set_option maxHeartbeats 4000000 in
theorem walk (A : Option Addr) (cp : Nat) (bs : List Int) (w : World) (hr : RdB w w.heap.size A bs) (hl : bs.length ≤ 9223372036854775807 ∧ bs.length ≤ cp) :
    Calls Try.prog 10 #[.slice A bs.length cp] w fun e w' => e = .returned (.bool true) ∧ Below w.heap.size w w' := by
  obtain ⟨hl, hcp⟩ := hl
  by_cases h20 : bs.length ≤ 1048576
  · go_enter Try.func10, Try.ntmps10
    go_wp2_with fail
    refine (drawDistancesAfter_any A cp bs _ hr hl hcp).mono ?_
    rintro e w1 ⟨nd, A2, cp2, ls, x, y, z, rfl, hg⟩
    have S := LS.of_drawn (nd := nd) hg
    have hlen := S.len
    have hdl : (afterO nd ls x y z).length ≤ 14 := Nat.le_trans (afterO_8 _ _ _ _ _) (by omega)
    clear hr hg
    go_wp2_with fail
    refine (gAfter_any nd A2 cp2 ls x y z _ (by omega) S.rd).mono ?_
    rintro e w2 ⟨⟨B, cb, rfl, ho2⟩, hb2⟩
    have S2 := S.on hb2
    have r2 := ho2.rd
    have c0 := S2.c0
    have c1 := S2.c1
    clear S hb2 ho2
    go_wp2_with fail
    refine (sgAfter_any nd A2 cp2 ls x y z _ (by omega) S2.rd).mono ?_
    rintro e w3 ⟨⟨C, cc, rfl, ho3⟩, hb3⟩
    have S3 := S2.on hb3
    have r3 := r2.on hb3
    have q3 := ho3.rd
    clear S2 hb3 c0 c1 ho3 r2
    have c0 := S3.c0
    have c1 := S3.c1
    go_wp2_with fail
    refine (sameI_yes B C cb cc _ _ (by omega) r3 q3).mono ?_
    rintro e w4 ⟨rfl, hb4⟩
    have S4 := S3.on hb4
    have r4 := r3.on hb4
    have q4 := q3.on hb4
    clear S3 hb4 c0 c1 r3 q3
    have c0 := S4.c0
    have c1 := S4.c1
    by_cases h : (Valid nd ls ∧ Lnk ls y ∧ Cst z) ∧ Nd nd x
    · obtain ⟨⟨hv, hk, hc⟩, hx⟩ := h
      rw [afterO_full ⟨hv, hk, hc⟩ hx] at r4 q4 hdl ⊢
      have hn1 := hv.1
      have hn8 := hv.2.1
      obtain ⟨y', rfl⟩ := Int.eq_ofNat_of_zero_le hk.1
      have hkl : y' < ls.length := by have := hk.2; omega
      rw [Int.toNat_natCast] at r4 q4 hdl ⊢
      have hld := length_dists nd (lsC ls y' z) x
      have hld2 := length_dists nd ls x
      have ne0 : (((dists nd (lsC ls y' z) x).length : Int) == 0) = false := by rw [beq_eq_false_iff_ne]; omega
      have HD : Hid (∀ wr, RdL wr wr.heap.size A2 ls → Calls Try.prog 45 #[.agg #[.int .i64 nd, .slice A2 ls.length cp2], .int .i64 x] wr (RI (dists nd ls x) wr)) := fun wr hr => by
        have := gDist_any nd A2 cp2 ls x wr (by omega) hr
        rwa [distO_yes ⟨hv, hx⟩] at this
      have HP : Hid (∀ j : Nat, (j : Int) < nd → (∃ D1, D1 = z - Lc ls y' ∧ Ix (dists nd (lsC ls y' z) x) j - Ix (dists nd ls x) j ≤ max (z - Lc ls y') (Lc ls y' - z) ∧ Ix (dists nd ls x) j - Ix (dists nd (lsC ls y' z) x) j ≤ max (z - Lc ls y') (Lc ls y' - z)) ∧ -1 ≤ Ix (dists nd ls x) j ∧ Ix (dists nd ls x) j ≤ 4480 ∧ -1 ≤ Ix (dists nd (lsC ls y' z) x) j ∧ Ix (dists nd (lsC ls y' z) x) j ≤ 4480) := fun j hj => by
        have := D_lsC_any hv hkl hc.1 hc.2 hx (show Nd nd (j : Int) from ⟨by omega, hj⟩)
        have b1 := D_bd hv x j
        have b2 := D_bd (hv.lsC (k := y') hc.1 hc.2) x j
        unfold D at this b1 b2
        rw [Int.toNat_natCast] at this b1 b2
        refine ⟨⟨_, rfl, ?_⟩, b1.1, b1.2, b2.1, b2.2⟩
        rcases this with ⟨_, _, a, b⟩ | ⟨a, b⟩
        · rcases Int.le_total (Lc ls y') z with h | h
          · have := a h; omega
          · have := b h; omega
        · omega
      have hcb := (ends_nd hv hkl).2.2.2
      have hz1 := hc.1
      have hz2 := hc.2
      have HL1 : Hid ((dists nd (lsC ls y' z) x).length = nd.toNat) := hld
      have HL2 : Hid ((dists nd ls x).length = nd.toNat) := hld2
      clear hld hld2
      generalize dists nd (lsC ls y' z) x = R at *
      generalize dists nd ls x = Q at *
      go_wp2_with fail
      refine (HD.out _ S4.rd).mono ?_
      rintro e w5 ⟨⟨E, ce, rfl, oE⟩, hb5⟩
      have S5 := S4.on hb5
      have r5 := r4.on hb5
      have e5 := oE.rd
      clear S4 r4 q4 c0 c1 hb5 oE HD
      generalize w1.heap.size = G at *
      have c0 := S5.c0
      have c1 := S5.c1
      obtain ⟨ga, go, hA, hga, hcells⟩ := S5.rd (by omega)
      obtain rfl := hA
      have d3 := (hcells y' hkl).2.2
      have k0 : (0 : Int) ≤ (y' : Int) := by omega
      have k1 : (y' : Int) < (ls.length : Int) := by omega
      clear hcells
      generalize Lc ls y' = c at *
      go_wp2_with fail
      go_quiet (fail)
      clear c0 c1 d3
      go_wp2_with fail
      all_goals
        go_loopw [11] (fun i wr => ∃ j : Nat, (j : Int) ≤ nd ∧ i = .int .i64 j ∧ LS w wr G nd (some ⟨ga, go, none⟩) cp2 ls ∧ RdI wr wr.heap.size B R ∧ RdI wr wr.heap.size E Q) (fun i _ => nd.toNat - (intOf i).toNat)
        case atStart => exact ⟨0, by omega, rfl, S5.on (bdN (Below.refl _ _) _), r5.on (bdN (Below.refl _ _) _), e5.on (bdN (Below.refl _ _) _)⟩
        case round =>
          obtain ⟨j, hj, rfl, T, rd, re⟩ := hrel
          clear S5 r5 e5
          have c0 := T.c0
          have c1 := T.c1
          by_cases hlt : (j : Int) < nd
          · obtain ⟨bg, bo, hB, hbg, hbc⟩ := rd (by rw [HL1.out]; omega)
            obtain rfl := hB
            obtain ⟨eg, eo, hE, heg, hec⟩ := re (by rw [HL2.out]; omega)
            obtain rfl := hE
            have m1 := hbc j (by rw [HL1.out]; omega)
            have m2 := hec j (by rw [HL2.out]; omega)
            obtain ⟨⟨D1, -, p1, p2⟩, p3, p4, p5, p6⟩ := HP.out j hlt
            have i1 : (j : Int) < (R.length : Int) := by rw [HL1.out]; omega
            have i2 : (j : Int) < (Q.length : Int) := by rw [HL2.out]; omega
            have j0 : (0 : Int) ≤ (j : Int) := by omega
            have b1 : nd ≤ 8 := hn8
            clear hbc hec
            generalize Ix R j = p at *
            generalize Ix Q j = q at *
            first
              | (have t1 : decide (c - z < p - q) = false := (by rw [decide_eq_false_iff_not]; omega); have t2 : decide (c - z < q - p) = false := (by rw [decide_eq_false_iff_not]; omega))
              | (have t1 : decide (z - c < p - q) = false := (by rw [decide_eq_false_iff_not]; omega); have t2 : decide (z - c < q - p) = false := (by rw [decide_eq_false_iff_not]; omega))
            have q1' : IntKind.i64.wrap (p - q) = p - q := IntWalk.i64_in _ (by omega)
            have q2' : IntKind.i64.wrap (q - p) = q - p := IntWalk.i64_in _ (by omega)
            go_wp2_with fail
            go_quiet (fail)
            all_goals
              go_wp2_with fail
              go_roundw
              case rel => exact ⟨j + 1, by omega, by go_num, T.on (bdN (Below.refl _ _) _), rd.on (bdN (Below.refl _ _) _), re.on (bdN (Below.refl _ _) _)⟩
              case measure => simp [intOf]; omega
          · go_wp2_with fail
            go_ret
            exact ⟨rfl, T.bl⟩
    · have e0 : afterO nd ls x y z = [] := by
        by_cases h' : Valid nd ls ∧ Lnk ls y ∧ Cst z
        · exact afterO_out (fun hf => h ⟨h', hf⟩)
        · exact afterO_no h'
      rw [e0] at r4 q4 hdl ⊢
      clear e0
      go_wp2_with fail
      refine (sameI_yes B C cb cc _ _ (by omega) r4 q4).mono ?_
      rintro e w5 ⟨rfl, hb5⟩
      go_wp2_with fail
      go_ret
      exact ⟨rfl, (S4.on hb5).bl⟩
  · have h20' : (1048576 : Int) < (bs.length : Int) := by omega
    go_enter Try.func10, Try.ntmps10
    go_wp2_with fail
    go_ret
    exact ⟨rfl, Below.refl _ _⟩

end Go.Proofs.Ytmkjndfhfhfggaa.fnAfterBound
