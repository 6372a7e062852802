/-
  The walk of the law FnAffectedNone: the same cost affects nobody.
-/
import Derived.Test.YtmkjndfhfhfggaaEI
import Derived.Test.YtmkjndfhfhfggaaWO
import Derived.Test.YtmkjndfhfhfggaaEK
import Derived.Deep.RegionHeld3
namespace Go.Proofs.Ytmkjndfhfhfggaa.fnAffectedNone
open Go.RowKit

set_option maxRecDepth 100000 in
set_option maxHeartbeats 4000000 in
theorem walk (A : Option Addr) (cp : Nat) (bs : List Int) (w : World) (hr : RdB w w.heap.size A bs) (hl : bs.length ≤ 9223372036854775807 ∧ bs.length ≤ cp) :
    Calls Try.prog 15 #[.slice A bs.length cp] w fun e w' => e = .returned (.bool true) ∧ Below w.heap.size w w' := by
  obtain ⟨hl, hcp⟩ := hl
  by_cases h20 : bs.length ≤ 1048576
  · go_enter Try.func15, Try.ntmps15
    go_wp2_with fail
    refine (drawAffected_any A cp bs _ hr hl hcp).mono ?_
    rintro e w1 ⟨nd, A2, cp2, ls, x, y, z, rfl, hg⟩
    have S := LS.of_drawn (nd := nd) hg
    have hlen := S.len
    have hdl : (affO nd ls x y z).length ≤ 14 := Nat.le_trans (affO_8 _ _ _ _ _) (by omega)
    clear hr hg
    go_wp2_with fail
    refine (gAff_any nd A2 cp2 ls x y z _ (by omega) S.rd).mono ?_
    rintro e w2 ⟨⟨B, cb, rfl, ho2⟩, hb2⟩
    have S2 := S.on hb2
    have r2 := ho2.rd
    have c0 := S2.c0
    have c1 := S2.c1
    clear S hb2 ho2
    go_wp2_with fail
    refine (sgAff_any nd A2 cp2 ls x y z _ (by omega) S2.rd).mono ?_
    rintro e w3 ⟨⟨C, cc, rfl, ho3⟩, hb3⟩
    have S3 := S2.on hb3
    have r3 := r2.on hb3
    have q3 := ho3.rd
    clear S2 hb3 c0 c1 ho3 r2
    have c0 := S3.c0
    have c1 := S3.c1
    go_wp2_with fail
    refine (sameI_yes B C cb cc _ _ (by omega) r3 q3).mono ?_
    rintro e w4 ⟨rfl, hb4⟩
    have S4 := S3.on hb4
    have r4 := r3.on hb4
    have q4 := q3.on hb4
    clear S3 hb4 c0 c1 r3 q3
    have c0 := S4.c0
    have c1 := S4.c1
    by_cases hk : Lnk ls y
    · obtain ⟨y', rfl⟩ := Int.eq_ofNat_of_zero_le hk.1
      have hkl : y' < ls.length := by have := hk.2; omega
      have t1 : decide ((y' : Int) < 0) = false := by rw [decide_eq_false_iff_not]; omega
      have t2 : decide ((ls.length : Int) ≤ (y' : Int)) = false := by rw [decide_eq_false_iff_not]; omega
      have k0 : (0 : Int) ≤ (y' : Int) := by omega
      have k1 : (y' : Int) < (ls.length : Int) := by omega
      obtain ⟨ga, go, hA, hga, hcells⟩ := S4.rd (by omega)
      obtain rfl := hA
      have d3 := (hcells y' hkl).2.2
      have hN : affO nd ls x (y' : Int) (Lc ls y') = [] := by have := aff_none nd ls x (y' : Int); rwa [Int.toNat_natCast] at this
      have hO : decide (x ∈ affO nd ls x (y' : Int) z) = false := by rw [decide_eq_false_iff_not]; exact aff_self _ _ _ _ _
      have BX : Below w4.heap.size w4 w4.drew := (Below.refl _ _).drew
      have HA : Hid (∀ wr, Below w4.heap.size w4 wr → Calls Try.prog 47 #[.agg #[.int .i64 nd, .slice (some ⟨ga, go, none⟩) ls.length cp2], .int .i64 x, .int .i64 y', .int .i64 (Lc ls y')] wr (RI [] wr)) := fun wr hb => by
        have := gAff_any nd (some ⟨ga, go, none⟩) cp2 ls x y' (Lc ls y') wr (by omega) (S4.on hb).rd
        rwa [hN] at this
      have HH : Hid (∀ wr, Below w4.heap.size w4 wr → Calls Try.prog 29 #[.slice B (affO nd ls x (y' : Int) z).length cb, .int .i64 x] wr fun e w' => e = .returned (.bool false) ∧ Below wr.heap.size wr w') := fun wr hb => by
        have := hasI_any B cb (affO nd ls x (y' : Int) z) x wr (by omega) (r4.on hb)
        rwa [hO] at this
      clear hcells hN hO
      have BL := S4.bl
      generalize affO nd ls x (y' : Int) z = R at *
      generalize Lc ls y' = c at *
      generalize w1.heap.size = G at *
      go_upto_region 8 with fail
      go_region_held3 (fun w' => w'.cell? ⟨G, 0, none⟩ = some (.int .i64 nd) ∧ w'.cell? ⟨G, 1, none⟩ = some (.slice (some ⟨ga, go, none⟩) ls.length cp2) ∧ w'.cell? ⟨ga, go + y' * 3 + 2, none⟩ = some (.int .i64 c)) (go_keep)
        (first
          | (go_at_call 47; refine (HA.out _ BX).mono ?_; rintro e w5 ⟨⟨E, ce, rfl, oE⟩, hb5⟩; have BY := bthen BX hb5; have e0 := ckeep c0 BY; have e1 := ckeep c1 BY; have e2 := ckeep d3 BY)
          | (go_at_call 29; refine (HH.out _ BY).mono ?_; rintro e w6 ⟨rfl, hb6⟩; have BZ := bthen BY hb6; have e0 := ckeep c0 BZ; have e1 := ckeep c1 BZ; have e2 := ckeep d3 BZ))
      all_goals
        go_wp2_with fail
        go_ret
        exact ⟨rfl, bthen BL BZ⟩
    · by_cases h0 : y < 0
      · have t1 : decide (y < 0) = true := by simpa using h0
        clear h0
        go_wp2_with fail
        refine (sameI_yes B C cb cc _ _ (by omega) r4 q4).mono ?_
        rintro e w5 ⟨rfl, hb5⟩
        go_wp2_with fail
        go_ret
        exact ⟨rfl, (S4.on hb5).bl⟩
      · have t1 : decide (y < 0) = false := by simpa using h0
        have t2 : decide ((ls.length : Int) ≤ y) = true := by
          rw [decide_eq_true_eq]
          by_cases h : y < (ls.length : Int)
          · exact absurd ⟨by omega, h⟩ hk
          · omega
        clear h0
        go_wp2_with fail
        refine (sameI_yes B C cb cc _ _ (by omega) r4 q4).mono ?_
        rintro e w5 ⟨rfl, hb5⟩
        go_wp2_with fail
        go_ret
        exact ⟨rfl, (S4.on hb5).bl⟩
  · have h20' : (1048576 : Int) < (bs.length : Int) := by omega
    go_enter Try.func15, Try.ntmps15
    go_wp2_with fail
    go_ret
    exact ⟨rfl, Below.refl _ _⟩

end Go.Proofs.Ytmkjndfhfhfggaa.fnAffectedNone
