/-
  The walk of the law FnAffectedUsed: a greater cost affects only nodes that use the link.
-/
import Derived.Test.YtkcapoobbnmdaaaEI
import Derived.Test.YtkcapoobbnmdaaaWO
import Derived.Test.YtkcapoobbnmdaaaEK
import Derived.Test.YtkcapoobbnmdaaaEC
import Derived.Test.YtkcapoobbnmdaaaFE
import Derived.Test.YtkcapoobbnmdaaaPJ
import Derived.Deep.RegionHeld3
namespace Go.Proofs.Ytkcapoobbnmdaaa.fnAffectedUsed
open Go.RowKit

set_option maxRecDepth 100000 in
set_option maxHeartbeats 4000000 in
theorem walk (A : Option Addr) (cp : Nat) (bs : List Int) (w : World) (hr : RdB w w.heap.size A bs) (hl : bs.length ≤ 9223372036854775807 ∧ bs.length ≤ cp) :
    Calls Try.prog 5 #[.slice A bs.length cp] w fun e w' => e = .returned (.bool true) ∧ Below w.heap.size w w' := by
  obtain ⟨hl, hcp⟩ := hl
  by_cases h20 : bs.length ≤ 1048576
  · go_enter Try.func5, Try.ntmps5
    go_wp2_with fail
    refine (drawAffected_any A cp bs _ hr hl hcp).mono ?_
    rintro e w1 ⟨nd, A2, cp2, ls, x, y, z, rfl, hg⟩
    have S := LS.of_drawn (nd := nd) hg
    have hlen := S.len
    have hdl : (affO nd ls x y z).length ≤ 14 := Nat.le_trans (affO_8 _ _ _ _ _) (by omega)
    clear hr hg
    go_wp2_with fail
    refine (gAff_any nd A2 cp2 ls x y z _ (by omega) S.rd).mono ?_
    rintro e w2 ⟨⟨B, cb, rfl, ho2⟩, hb2⟩
    have S2 := S.on hb2
    have r2 := ho2.rd
    have c0 := S2.c0
    have c1 := S2.c1
    clear S hb2 ho2
    go_wp2_with fail
    refine (sgAff_any nd A2 cp2 ls x y z _ (by omega) S2.rd).mono ?_
    rintro e w3 ⟨⟨C, cc, rfl, ho3⟩, hb3⟩
    have S3 := S2.on hb3
    have r3 := r2.on hb3
    have q3 := ho3.rd
    clear S2 hb3 c0 c1 ho3 r2
    have c0 := S3.c0
    have c1 := S3.c1
    go_wp2_with fail
    refine (sameI_yes B C cb cc _ _ (by omega) r3 q3).mono ?_
    rintro e w4 ⟨rfl, hb4⟩
    have S4 := S3.on hb4
    have r4 := r3.on hb4
    have q4 := q3.on hb4
    clear S3 hb4 c0 c1 r3 q3
    have c0 := S4.c0
    have c1 := S4.c1
    by_cases hk : Lnk ls y
    · obtain ⟨y', rfl⟩ := Int.eq_ofNat_of_zero_le hk.1
      have hkl : y' < ls.length := by have := hk.2; omega
      have u1 : decide ((y' : Int) < 0) = false := by rw [decide_eq_false_iff_not]; omega
      have u2 : decide ((ls.length : Int) ≤ (y' : Int)) = false := by rw [decide_eq_false_iff_not]; omega
      have k0 : (0 : Int) ≤ (y' : Int) := by omega
      have k1 : (y' : Int) < (ls.length : Int) := by omega
      by_cases hv : Valid nd ls
      · by_cases hx : Nd nd x
        · have tx1 : decide (x < 0) = false := by rw [decide_eq_false_iff_not]; have := hx.1; omega
          have tx2 : decide (nd ≤ x) = false := by rw [decide_eq_false_iff_not]; have := hx.2; omega
          go_wp2_with fail
          refine (sgv_yes hv A2 cp2 _ S4.rd).mono ?_
          rintro e w5 ⟨rfl, hb5⟩
          have S5 := S4.on hb5
          have r5 := r4.on hb5
          have q5 := q4.on hb5
          clear S4 r4 q4 c0 c1 hb5
          have c0 := S5.c0
          have c1 := S5.c1
          obtain ⟨ga, go, hA, hga, hcells⟩ := S5.rd (by omega)
          obtain rfl := hA
          have m3 := (hcells y' hkl).2.2
          clear hcells
          by_cases hc : Lc ls y' < z
          · have t6 : decide (z ≤ Lc ls y') = false := by rw [decide_eq_false_iff_not]; omega
            by_cases h20 : z ≤ 20
            · have t7 : decide (20 < z) = false := by rw [decide_eq_false_iff_not]; omega
              have hcb := (ends_nd hv hkl).2.2.2
              have HM : Hid (∀ j : Nat, (j : Int) < nd → (decide ((j : Int) ∈ affO nd ls x y' z) = true → usedB nd ls x j y' = true) ∧ (usedB nd ls x j y' = true → cnt nd ls x j = 1 → decide ((j : Int) ∈ affO nd ls x y' z) = true)) := fun j hj => by
                have hjn : Nd nd (j : Int) := ⟨by omega, hj⟩
                have h1 := affected_used hv hkl (c0 := z) (by omega) h20 hx hjn
                have h2 : (j : Int) ∈ affO nd ls x y' z ↔ D nd ls x j ≠ D nd (lsC ls y' z) x j := by
                  rw [affO_iff ⟨hv, hk, ⟨by omega, h20⟩⟩ hx, Int.toNat_natCast]
                  exact ⟨fun h => h.2, fun h => ⟨hjn, h⟩⟩
                rw [decide_eq_true_eq, h2]
                exact h1
              have HU : Hid (∀ (j : Nat), (j : Int) < nd → ∀ wx, RdL wx wx.heap.size (some ⟨ga, go, none⟩) ls → Calls Try.prog 19 #[.agg #[.int .i64 nd, .slice (some ⟨ga, go, none⟩) ls.length cp2], .int .i64 x, .int .i64 j, .int .i64 y'] wx fun e w' => e = .returned (.bool (usedB nd ls x j y')) ∧ Below wx.heap.size wx w') := fun j hj wx hr => by
                have := gLinkUsed_any nd (some ⟨ga, go, none⟩) cp2 ls x j y' wx (by omega) hr
                rwa [luO_yes ⟨hv, hx, ⟨by omega, hj⟩, hk⟩, Int.toNat_natCast] at this
              have HC : Hid (∀ (j : Nat), (j : Int) < nd → ∀ wx, RdL wx wx.heap.size (some ⟨ga, go, none⟩) ls → Calls Try.prog 33 #[.agg #[.int .i64 nd, .slice (some ⟨ga, go, none⟩) ls.length cp2], .int .i64 x, .int .i64 j] wx fun e w' => e = .returned (.int .i64 (cnt nd ls x j : Nat)) ∧ Below wx.heap.size wx w') := fun j hj wx hr => by
                have := gCnt_any nd (some ⟨ga, go, none⟩) cp2 ls x j wx (by omega) hr
                rwa [cntO_yes ⟨hv, hx, ⟨by omega, hj⟩⟩] at this
              have hn1 := hv.1
              have hn8 := hv.2.1
              clear q5
              generalize affO nd ls x y' z = R at *
              generalize w1.heap.size = G at *
              go_wp2_with fail
              clear k0 k1 u1 u2 m3
              generalize ((y' : Nat) : Int) = Y at *
              generalize decide (ls.length ≤ y') = b44 at *
              go_loopw [9, 10] (fun i _ wr => ∃ j : Nat, (j : Int) ≤ nd ∧ i = .int .i64 j ∧ LS w wr G nd (some ⟨ga, go, none⟩) cp2 ls ∧ RdI wr wr.heap.size B R) (fun i _ _ => nd.toNat - (intOf i).toNat)
              case atStart => exact ⟨0, by omega, rfl, S5, r5⟩
              case round =>
                obtain ⟨j, hj, rfl, S, rd⟩ := hrel
                clear S5 r5 c0 c1
                have c0 := S.c0
                have c1 := S.c1
                by_cases hlt : (j : Int) < nd
                · have HMj := Lib.hid (HM.out j hlt)
                  have HUj := Lib.hid (HU.out j hlt)
                  have HCj := Lib.hid (HC.out j hlt)
                  have HI := Lib.hid (fun wx hr => hasI_any B cb R (j : Int) wx (by omega) hr)
                  generalize usedB nd ls x j y' = u at *
                  generalize cnt nd ls x j = n at *
                  generalize decide ((j : Int) ∈ R) = a at *
                  go_wp2_with fail
                  refine (HUj.out _ S.rd).mono ?_
                  rintro e w6 ⟨rfl, hb6⟩
                  have S6 := S.on hb6
                  have rd6 := rd.on hb6
                  clear S rd c0 c1 hb6
                  have c0 := S6.c0
                  have c1 := S6.c1
                  cases u
                  · have ha : a = false := by
                      cases a
                      · rfl
                      · exact absurd (HMj.out.1 rfl) (by simp)
                    subst ha
                    go_wp2_with fail
                    refine (HI.out _ rd6).mono ?_
                    rintro e w7 ⟨rfl, hb7⟩
                    go_wp2_with fail
                    go_roundw
                    case rel => exact ⟨j + 1, by omega, by go_num, S6.on hb7, rd6.on hb7⟩
                    case measure => simp [intOf]; omega
                  · by_cases hn : n = 1
                    · subst hn
                      have ha : a = true := HMj.out.2 rfl rfl
                      subst ha
                      go_wp2_with fail
                      refine (HI.out _ rd6).mono ?_
                      rintro e w7 ⟨rfl, hb7⟩
                      have S7 := S6.on hb7
                      have rd7 := rd6.on hb7
                      clear S6 rd6 c0 c1 hb7
                      have c0 := S7.c0
                      have c1 := S7.c1
                      go_wp2_with fail
                      refine (HCj.out _ S7.rd).mono ?_
                      rintro e w8 ⟨rfl, hb8⟩
                      have S8 := S7.on hb8
                      have rd8 := rd7.on hb8
                      clear S7 rd7 c0 c1 hb8
                      go_wp2_with fail
                      refine (HI.out _ rd8).mono ?_
                      rintro e w9 ⟨rfl, hb9⟩
                      go_wp2_with fail
                      go_roundw
                      case rel => exact ⟨j + 1, by omega, by go_num, S8.on hb9, rd8.on hb9⟩
                      case measure => simp [intOf]; omega
                    · have tn : ((n : Int) == 1) = false := by rw [beq_eq_false_iff_ne]; omega
                      clear hn
                      cases a
                      all_goals
                        go_wp2_with fail
                        refine (HI.out _ rd6).mono ?_
                        rintro e w7 ⟨rfl, hb7⟩
                        have S7 := S6.on hb7
                        have rd7 := rd6.on hb7
                        clear S6 rd6 c0 c1 hb7
                        have c0 := S7.c0
                        have c1 := S7.c1
                        go_wp2_with fail
                        refine (HCj.out _ S7.rd).mono ?_
                        rintro e w8 ⟨rfl, hb8⟩
                        go_wp2_with fail
                        go_roundw
                        case rel => exact ⟨j + 1, by omega, by go_num, S7.on hb8, rd7.on hb8⟩
                        case measure => simp [intOf]; omega
                · go_wp2_with fail
                  go_ret
                  exact ⟨rfl, S.bl⟩
            · have t7 : decide (20 < z) = true := by rw [decide_eq_true_eq]; omega
              go_wp2_with fail
              refine (sameI_yes B C cb cc _ _ (by omega) r5 q5).mono ?_
              rintro e w6 ⟨rfl, hb6⟩
              go_wp2_with fail
              go_ret
              exact ⟨rfl, (S5.on hb6).bl⟩
          · have t6 : decide (z ≤ Lc ls y') = true := by rw [decide_eq_true_eq]; omega
            clear hc
            go_wp2_with fail
            refine (sameI_yes B C cb cc _ _ (by omega) r5 q5).mono ?_
            rintro e w6 ⟨rfl, hb6⟩
            go_wp2_with fail
            go_ret
            exact ⟨rfl, (S5.on hb6).bl⟩
        · go_wp2_with fail
          refine (sgv_yes hv A2 cp2 _ S4.rd).mono ?_
          rintro e w5 ⟨rfl, hb5⟩
          have S5 := S4.on hb5
          have r5 := r4.on hb5
          have q5 := q4.on hb5
          clear S4 r4 q4 c0 c1 hb5
          have c0 := S5.c0
          have c1 := S5.c1
          by_cases h0 : x < 0
          · have t1 : decide (x < 0) = true := by rw [decide_eq_true_eq]; exact h0
            clear h0
            go_wp2_with fail
            refine (sameI_yes B C cb cc _ _ (by omega) r5 q5).mono ?_
            rintro e w6 ⟨rfl, hb6⟩
            go_wp2_with fail
            go_ret
            exact ⟨rfl, (S5.on hb6).bl⟩
          · have t1 : decide (x < 0) = false := by rw [decide_eq_false_iff_not]; exact h0
            have t2 : decide (nd ≤ x) = true := by
              rw [decide_eq_true_eq]
              by_cases h : x < nd
              · exact absurd ⟨by omega, h⟩ hx
              · omega
            clear h0
            go_wp2_with fail
            refine (sameI_yes B C cb cc _ _ (by omega) r5 q5).mono ?_
            rintro e w6 ⟨rfl, hb6⟩
            go_wp2_with fail
            go_ret
            exact ⟨rfl, (S5.on hb6).bl⟩
      · go_wp2_with fail
        refine (sgv_no hv A2 cp2 _ (by omega) S4.rd).mono ?_
        rintro e w5 ⟨rfl, hb5⟩
        have S5 := S4.on hb5
        have r5 := r4.on hb5
        have q5 := q4.on hb5
        clear S4 r4 q4 c0 c1 hb5
        go_wp2_with fail
        refine (sameI_yes B C cb cc _ _ (by omega) r5 q5).mono ?_
        rintro e w6 ⟨rfl, hb6⟩
        go_wp2_with fail
        go_ret
        exact ⟨rfl, (S5.on hb6).bl⟩
    · by_cases h0 : y < 0
      · have t1 : decide (y < 0) = true := by simpa using h0
        clear h0
        go_wp2_with fail
        refine (sameI_yes B C cb cc _ _ (by omega) r4 q4).mono ?_
        rintro e w5 ⟨rfl, hb5⟩
        go_wp2_with fail
        go_ret
        exact ⟨rfl, (S4.on hb5).bl⟩
      · have t1 : decide (y < 0) = false := by simpa using h0
        have t2 : decide ((ls.length : Int) ≤ y) = true := by
          rw [decide_eq_true_eq]
          by_cases h : y < (ls.length : Int)
          · exact absurd ⟨by omega, h⟩ hk
          · omega
        clear h0
        go_wp2_with fail
        refine (sameI_yes B C cb cc _ _ (by omega) r4 q4).mono ?_
        rintro e w5 ⟨rfl, hb5⟩
        go_wp2_with fail
        go_ret
        exact ⟨rfl, (S4.on hb5).bl⟩
  · have h20' : (1048576 : Int) < (bs.length : Int) := by omega
    go_enter Try.func5, Try.ntmps5
    go_wp2_with fail
    go_ret
    exact ⟨rfl, Below.refl _ _⟩

end Go.Proofs.Ytkcapoobbnmdaaa.fnAffectedUsed
