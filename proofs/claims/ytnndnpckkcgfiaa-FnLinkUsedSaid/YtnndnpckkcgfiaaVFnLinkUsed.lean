/-
  The walk of the law FnLinkUsed: a link is used if and only if without it there are fewer paths.
-/
import Derived.Test.YtnndnpckkcgfiaaEC
import Derived.Test.YtnndnpckkcgfiaaWO
import Derived.Test.YtnndnpckkcgfiaaWS
import Derived.Test.YtnndnpckkcgfiaaFE
import Derived.Test.YtnndnpckkcgfiaaPJ
import Derived.Test.YtnndnpckkcgfiaaEB
import Derived.Deep.RegionHeld3
namespace Go.Proofs.Ytnndnpckkcgfiaa.fnLinkUsed
open Go.RowKit

set_option maxRecDepth 100000 in
set_option maxHeartbeats 4000000 in
theorem walk (A : Option Addr) (cp : Nat) (bs : List Int) (w : World) (hr : RdB w w.heap.size A bs) (hl : bs.length ≤ 9223372036854775807 ∧ bs.length ≤ cp) :
    Calls Try.prog 10 #[.slice A bs.length cp] w fun e w' => e = .returned (.bool true) ∧ Below w.heap.size w w' := by
  obtain ⟨hl, hcp⟩ := hl
  by_cases h20 : bs.length ≤ 1048576
  · go_enter Try.func10, Try.ntmps10
    go_wp2_with fail
    refine (drawLinkUsed_any A cp bs _ hr hl hcp).mono ?_
    rintro e w1 ⟨nd, A2, cp2, ls, x, y, z, rfl, hg⟩
    have S := LS.of_drawn (nd := nd) hg
    have hlen := S.len
    clear hr hg
    go_wp2_with fail
    refine (gLinkUsed_any nd A2 cp2 ls x y z _ (by omega) S.rd).mono ?_
    rintro e w2 ⟨rfl, hb2⟩
    have S2 := S.on hb2
    have c0 := S2.c0
    have c1 := S2.c1
    clear S hb2
    go_wp2_with fail
    refine (sgLinkUsed_any nd A2 cp2 ls x y z _ (by omega) S2.rd).mono ?_
    rintro e w3 ⟨rfl, hb3⟩
    have S3 := S2.on hb3
    clear S2 hb3 c0 c1
    have c0 := S3.c0
    have c1 := S3.c1
    have tu : (luO nd ls x y z != luO nd ls x y z) = false := by simp
    by_cases hv : Valid nd ls
    · by_cases hx : Nd nd x
      · by_cases hy : Nd nd y
        · by_cases hz : Lnk ls z
          · have tx1 : decide (x < 0) = false := by rw [decide_eq_false_iff_not]; have := hx.1; omega
            have tx2 : decide (nd ≤ x) = false := by rw [decide_eq_false_iff_not]; have := hx.2; omega
            have ty1 : decide (y < 0) = false := by rw [decide_eq_false_iff_not]; have := hy.1; omega
            have ty2 : decide (nd ≤ y) = false := by rw [decide_eq_false_iff_not]; have := hy.2; omega
            have tz1 : decide (z < 0) = false := by rw [decide_eq_false_iff_not]; have := hz.1; omega
            have tz2 : decide ((ls.length : Int) ≤ z) = false := by rw [decide_eq_false_iff_not]; have := hz.2; omega
            go_wp2_with fail
            refine (sgv_yes hv A2 cp2 _ S3.rd).mono ?_
            rintro e w4 ⟨rfl, hb4⟩
            have S4 := S3.on hb4
            clear S3 c0 c1 hb4
            have c0 := S4.c0
            have c1 := S4.c1
            obtain ⟨kk, rfl⟩ := Int.eq_ofNat_of_zero_le hz.1
            have hkl : kk < ls.length := by have := hz.2; omega
            have hlaw := used_law hv hkl hx hy
            rw [luO_yes ⟨hv, hx, hy, hz⟩, Int.toNat_natCast] at tu ⊢
            have hv2 := hv.lsW kk
            have hms : (lsW ls kk).length ≤ 16 := by have := length_lsW hkl; omega
            have HD1 : Hid (∀ wx, RdL wx wx.heap.size A2 ls → Calls Try.prog 20 #[.agg #[.int .i64 nd, .slice A2 ls.length cp2], .int .i64 x, .int .i64 y] wx fun e w' => e = .returned (.int .i64 (D nd ls x y)) ∧ Below wx.heap.size wx w') := fun wx hr => distL_any hv hx hy A2 cp2 wx hr
            have HC1 : Hid (∀ wx, RdL wx wx.heap.size A2 ls → Calls Try.prog 21 #[.agg #[.int .i64 nd, .slice A2 ls.length cp2], .int .i64 x, .int .i64 y] wx fun e w' => e = .returned (.int .i64 (cnt nd ls x y : Nat)) ∧ Below wx.heap.size wx w') := fun wx hr => by
              have := gCnt_any nd A2 cp2 ls x y wx (by omega) hr
              rwa [cntO_yes ⟨hv, hx, hy⟩] at this
            have HD2 : Hid (∀ B cb wx, RdL wx wx.heap.size B (lsW ls kk) → Calls Try.prog 20 #[.agg #[.int .i64 nd, .slice B (lsW ls kk).length cb], .int .i64 x, .int .i64 y] wx fun e w' => e = .returned (.int .i64 (D nd (lsW ls kk) x y)) ∧ Below wx.heap.size wx w') := fun B cb wx hr => distL_any hv2 hx hy B cb wx hr
            have HC2 : Hid (∀ B cb wx, RdL wx wx.heap.size B (lsW ls kk) → Calls Try.prog 21 #[.agg #[.int .i64 nd, .slice B (lsW ls kk).length cb], .int .i64 x, .int .i64 y] wx fun e w' => e = .returned (.int .i64 (cnt nd (lsW ls kk) x y : Nat)) ∧ Below wx.heap.size wx w') := fun B cb wx hr => by
              have := gCnt_any nd B cb (lsW ls kk) x y wx (by omega) hr
              rwa [cntO_yes ⟨hv2, hx, hy⟩] at this
            have HW := Lib.hid (gWithout_yes hv hz A2 cp2 w4 S4.rd)
            rw [Int.toNat_natCast] at HW
            generalize usedB nd ls x y kk = u at *
            generalize lsW ls kk = ms at *
            generalize D nd ls x y = d1 at *
            generalize D nd ms x y = d2 at *
            generalize cnt nd ls x y = n1 at *
            generalize cnt nd ms x y = n2 at *
            generalize w1.heap.size = G at *
            go_wp2_with fail
            refine HW.out.mono ?_
            rintro e w5 ⟨⟨B, cb, rfl, ho5⟩, hb5⟩
            have S5 := S4.on hb5
            have S6 := S5.on (bnew w5 (.cells #[.int .i64 nd, .slice B ms.length cb] 25))
            have T6 : LS w (w5.alloc (.cells #[.int .i64 nd, .slice B ms.length cb] 25)) w5.heap.size nd B cb ms := ⟨by go_simp, by go_simp, ho5.rd.on (bnew _ _), S6.bl, hms⟩
            clear S4 S5 c0 c1 hb5 ho5 HW
            have HS1 := Lib.hid (fun wx hb => HD1.out wx (S6.on hb).rd)
            have HS2 := Lib.hid (fun wx hb => HC1.out wx (S6.on hb).rd)
            have HS3 := Lib.hid (fun wx hb => HD2.out B cb wx (T6.on hb).rd)
            have HS4 := Lib.hid (fun wx hb => HC2.out B cb wx (T6.on hb).rd)
            clear HD1 HC1 HD2 HC2
            have c0 := S6.c0
            have c1 := S6.c1
            have d0 := T6.c0
            have d1' := T6.c1
            have hbl := S6.bl
            clear S6 T6 hv hv2 hx hy hz
            have BX : Below (w5.alloc (.cells #[.int .i64 nd, .slice B ms.length cb] 25)).heap.size (w5.alloc (.cells #[.int .i64 nd, .slice B ms.length cb] 25)) (w5.alloc (.cells #[.int .i64 nd, .slice B ms.length cb] 25)).drew := (Below.refl _ _).drew
            by_cases hd : d1 = d2
            · subst hd
              have hu : u = decide ((n2 : Int) < (n1 : Int)) := by
                rw [Bool.eq_iff_iff, decide_eq_true_eq, hlaw]
                omega
              have tn : (d1 != d1) = false := by simp
              clear hlaw tu
              subst hu
              go_wp2_with fail
              go_region_held3 (fun w' => w'.cell? ⟨G, 0, none⟩ = some (.int .i64 nd) ∧ w'.cell? ⟨G, 1, none⟩ = some (.slice A2 ls.length cp2) ∧ w'.cell? ⟨w5.heap.size, 0, none⟩ = some (.int .i64 nd) ∧ w'.cell? ⟨w5.heap.size, 1, none⟩ = some (.slice B ms.length cb)) (go_keep)
                (first
                  | (go_at_call 20; with_reducible refine (HS1.out _ BX).mono ?_; rintro e w6 ⟨rfl, hb6⟩; have BX := bthen BX hb6; have e0 := ckeep c0 BX; have e1 := ckeep c1 BX; have e2 := ckeep d0 BX; have e3 := ckeep d1' BX)
                  | (go_at_call 20; with_reducible refine (HS3.out _ BX).mono ?_; rintro e w6 ⟨rfl, hb6⟩; have BX := bthen BX hb6; have e0 := ckeep c0 BX; have e1 := ckeep c1 BX; have e2 := ckeep d0 BX; have e3 := ckeep d1' BX)
                  | (go_at_call 21; with_reducible refine (HS4.out _ BX).mono ?_; rintro e w6 ⟨rfl, hb6⟩; have BX := bthen BX hb6; have e0 := ckeep c0 BX; have e1 := ckeep c1 BX; have e2 := ckeep d0 BX; have e3 := ckeep d1' BX)
                  | (go_at_call 21; with_reducible refine (HS2.out _ BX).mono ?_; rintro e w6 ⟨rfl, hb6⟩; have BX := bthen BX hb6; have e0 := ckeep c0 BX; have e1 := ckeep c1 BX; have e2 := ckeep d0 BX; have e3 := ckeep d1' BX))
              all_goals
                go_wp2_with fail
                go_ret
                exact ⟨by simp, bthen hbl BX⟩
            · have hu : u = true := hlaw.2 (.inl hd)
              have tn : (d1 != d2) = true := bne_iff_ne.2 hd
              clear hlaw tu
              subst hu
              go_wp2_with fail
              refine wp_region_held_drew (S := fun w' => w'.cell? ⟨G, 0, none⟩ = some (.int .i64 nd) ∧ w'.cell? ⟨G, 1, none⟩ = some (.slice A2 ls.length cp2) ∧ w'.cell? ⟨w5.heap.size, 0, none⟩ = some (.int .i64 nd) ∧ w'.cell? ⟨w5.heap.size, 1, none⟩ = some (.slice B ms.length cb)) (by kernel_rfl) ?_ (fun hHeld1_0 => ?_)
              · exact ⟨ckeep c0 BX, ckeep c1 BX, ckeep d0 BX, ckeep d1' BX⟩
              refine wpAnyH_take (i := 0) (v := ?v1_0) rfl (by kernel_rfl) (by kernel_rfl) (by kernel_rfl) (fun _ _ _ h => h) (Or.inl ⟨by rfl, ?y1_0⟩) (by assumption) ?r1_0
              case y1_0 => intro w hSw; (try dsimp only at hSw); go_simp; (try with_reducible rfl)
              try simp only [Act.put, List.setIfInBounds_toArray]
              refine wpAnyH_take (i := 1) (v := ?v1_1) rfl (by kernel_rfl) (by kernel_rfl) (by kernel_rfl) (fun _ _ _ h => h) (Or.inl ⟨by rfl, ?y1_1⟩) (by assumption) ?r1_1
              case y1_1 => intro w hSw; (try dsimp only at hSw); go_simp; (try with_reducible rfl)
              try simp only [Act.put]
              refine wpAnyH_take (i := 2) (v := ?v1_2) rfl (by kernel_rfl) (by kernel_rfl) (by kernel_rfl) (fun _ _ _ h => h) (Or.inl ⟨by rfl, ?y1_2⟩) (by assumption) ?r1_2
              case y1_2 => intro w hSw; (try dsimp only at hSw); go_simp; (try with_reducible rfl)
              try simp only [Act.put]
              refine wpAnyH_take (i := 3) (v := ?v1_3) rfl (by kernel_rfl) (by kernel_rfl) (by kernel_rfl) (fun _ _ _ h => h) (Or.inl ⟨by rfl, ?y1_3⟩) (by assumption) ?r1_3
              case y1_3 => intro w hSw; (try dsimp only at hSw); go_simp; (try with_reducible rfl)
              try simp only [Act.put]
              refine wpAnyH_take (i := 5) (v := ?v1_5) rfl (by kernel_rfl) (by kernel_rfl) (by kernel_rfl) (fun _ _ _ h => h) (Or.inl ⟨by rfl, ?y1_5⟩) (by assumption) ?r1_5
              case y1_5 => intro w hSw; (try dsimp only at hSw); go_simp; (try with_reducible rfl)
              try simp only [Act.put]
              refine wpAnyH_take (i := 6) (v := ?v1_6) rfl (by kernel_rfl) (by kernel_rfl) (by kernel_rfl) (fun _ _ _ h => h) (Or.inl ⟨by rfl, ?y1_6⟩) (by assumption) ?r1_6
              case y1_6 => intro w hSw; (try dsimp only at hSw); go_simp; (try with_reducible rfl)
              try simp only [Act.put]
              refine wpAnyH_take (i := 7) (v := ?v1_7) rfl (by kernel_rfl) (by kernel_rfl) (by kernel_rfl) (fun _ _ _ h => h) (Or.inl ⟨by rfl, ?y1_7⟩) (by assumption) ?r1_7
              case y1_7 => intro w hSw; (try dsimp only at hSw); go_simp; (try with_reducible rfl)
              try simp only [Act.put]
              refine wpAnyH_ready (rs := [4]) (by kernel_rfl) (by simp) ?_
              refine AllReadyH.cons rfl (fun K hK => ?_) AllReadyH.nil
              go_simp
              (go_at_call 20; with_reducible refine (HS1.out _ BX).mono ?_; rintro e w6 ⟨rfl, hb6⟩; have BX := bthen BX hb6)
              go_wp2_with fail
              refine hK.out _ _ ?_ (fun hHeld1_1 => ?_)
              · exact ⟨ckeep c0 BX, ckeep c1 BX, ckeep d0 BX, ckeep d1' BX⟩
              clear hK K
              try simp only [Act.put, List.setIfInBounds_toArray]
              refine wpAnyH_ready (rs := [8]) (by kernel_rfl) (by simp) ?_
              refine AllReadyH.cons rfl (fun K hK => ?_) AllReadyH.nil
              go_simp
              (go_at_call 20; with_reducible refine (HS3.out _ BX).mono ?_; rintro e w6 ⟨rfl, hb6⟩; have BX := bthen BX hb6)
              go_wp2_with fail
              refine hK.out _ _ ?_ (fun hHeld1_2 => ?_)
              · exact ⟨ckeep c0 BX, ckeep c1 BX, ckeep d0 BX, ckeep d1' BX⟩
              clear hK K
              try simp only [Act.put, List.setIfInBounds_toArray]
              refine wpAnyH_take (i := 9) (v := .bool true) rfl (by kernel_rfl) (by kernel_rfl) (by kernel_rfl) (fun _ _ _ h => h) (Or.inl ⟨by rfl, ?y1_9⟩) (by assumption) ?r1_9
              case y1_9 => intro w hSw; (try dsimp only at hSw); go_simp; (try first | exact tn | simp [tn] | with_reducible rfl)
              try simp only [Act.put]
              refine wpAnyH_take (i := 10) (v := ?v1_10) rfl (by kernel_rfl) (by kernel_rfl) (by kernel_rfl) (fun _ _ _ h => h) (Or.inl ⟨by rfl, ?y1_10⟩) (by assumption) ?r1_10
              case y1_10 => intro w hSw; (try dsimp only at hSw); go_simp; (try with_reducible rfl)
              try simp only [Act.put]
              refine wpAnyH_take (i := 11) (v := undef) rfl (by kernel_rfl) (by kernel_rfl) (by kernel_rfl) (fun _ _ _ h => h) (Or.inr ⟨by kernel_rfl, by kernel_rfl⟩) (by assumption) ?r1_11
              try simp only [Act.put]
              refine wpAnyH_take (i := 12) (v := undef) rfl (by kernel_rfl) (by kernel_rfl) (by kernel_rfl) (fun _ _ _ h => h) (Or.inr ⟨by kernel_rfl, by kernel_rfl⟩) (by assumption) ?r1_12
              try simp only [Act.put]
              refine wpAnyH_take (i := 13) (v := undef) rfl (by kernel_rfl) (by kernel_rfl) (by kernel_rfl) (fun _ _ _ h => h) (Or.inr ⟨by kernel_rfl, by kernel_rfl⟩) (by assumption) ?r1_13
              try simp only [Act.put]
              refine wpAnyH_take (i := 14) (v := undef) rfl (by kernel_rfl) (by kernel_rfl) (by kernel_rfl) (fun _ _ _ h => h) (Or.inr ⟨by kernel_rfl, by kernel_rfl⟩) (by assumption) ?r1_14
              try simp only [Act.put]
              refine wpAnyH_take (i := 15) (v := undef) rfl (by kernel_rfl) (by kernel_rfl) (by kernel_rfl) (fun _ _ _ h => h) (Or.inr ⟨by kernel_rfl, by kernel_rfl⟩) (by assumption) ?r1_15
              try simp only [Act.put]
              refine wpAnyH_take (i := 16) (v := undef) rfl (by kernel_rfl) (by kernel_rfl) (by kernel_rfl) (fun _ _ _ h => h) (Or.inr ⟨by kernel_rfl, by kernel_rfl⟩) (by assumption) ?r1_16
              try simp only [Act.put]
              refine wpAnyH_take (i := 17) (v := undef) rfl (by kernel_rfl) (by kernel_rfl) (by kernel_rfl) (fun _ _ _ h => h) (Or.inr ⟨by kernel_rfl, by kernel_rfl⟩) (by assumption) ?r1_17
              try simp only [Act.put]
              refine wpAnyH_take (i := 18) (v := undef) rfl (by kernel_rfl) (by kernel_rfl) (by kernel_rfl) (fun _ _ _ h => h) (Or.inr ⟨by kernel_rfl, by kernel_rfl⟩) (by assumption) ?r1_18
              try simp only [Act.put]
              refine wpAnyH_take (i := 19) (v := undef) rfl (by kernel_rfl) (by kernel_rfl) (by kernel_rfl) (fun _ _ _ h => h) (Or.inr ⟨by kernel_rfl, by kernel_rfl⟩) (by assumption) ?r1_19
              try simp only [Act.put]
              refine wpAnyH_take (i := 20) (v := ?v1_20) rfl (by kernel_rfl) (by kernel_rfl) (by kernel_rfl) (fun _ _ _ h => h) (Or.inl ⟨by rfl, ?y1_20⟩) (by assumption) ?r1_20
              case y1_20 => intro w hSw; (try dsimp only at hSw); go_simp; (try with_reducible rfl)
              try simp only [Act.put]
              refine wpAnyH_take (i := 21) (v := ?v1_21) rfl (by kernel_rfl) (by kernel_rfl) (by kernel_rfl) (fun _ _ _ h => h) (Or.inl ⟨by rfl, ?y1_21⟩) (by assumption) ?r1_21
              case y1_21 => intro w hSw; (try dsimp only at hSw); go_simp; (try with_reducible rfl)
              try simp only [Act.put]
              refine wpAnyH_take (i := 22) (v := ?v1_22) rfl (by kernel_rfl) (by kernel_rfl) (by kernel_rfl) (fun _ _ _ h => h) (Or.inl ⟨by rfl, ?y1_22⟩) (by assumption) ?r1_22
              case y1_22 => intro w hSw; (try dsimp only at hSw); go_simp; (try with_reducible rfl)
              simp only [Act.put, List.getElem_toArray, List.getElem_cons_succ, List.getElem_cons_zero, List.setIfInBounds_toArray, List.set_cons_zero, List.set_cons_succ]
              refine wpAnyH_done (by kernel_rfl) ?_ _
              go_wp2_with fail
              go_ret
              exact ⟨by simp, bthen hbl BX⟩
          · have tx1 : decide (x < 0) = false := by rw [decide_eq_false_iff_not]; have := hx.1; omega
            have tx2 : decide (nd ≤ x) = false := by rw [decide_eq_false_iff_not]; have := hx.2; omega
            have ty1 : decide (y < 0) = false := by rw [decide_eq_false_iff_not]; have := hy.1; omega
            have ty2 : decide (nd ≤ y) = false := by rw [decide_eq_false_iff_not]; have := hy.2; omega
            go_wp2_with fail
            refine (sgv_yes hv A2 cp2 _ S3.rd).mono ?_
            rintro e w4 ⟨rfl, hb4⟩
            have S4 := S3.on hb4
            clear S3 c0 c1 hb4
            have c0 := S4.c0
            have c1 := S4.c1
            by_cases h0 : z < 0
            · have t1 : decide (z < 0) = true := by rw [decide_eq_true_eq]; exact h0
              clear h0
              go_wp2_with fail
              go_ret
              exact ⟨by simp, S4.bl⟩
            · have t1 : decide (z < 0) = false := by rw [decide_eq_false_iff_not]; exact h0
              have t2 : decide ((ls.length : Int) ≤ z) = true := by
                rw [decide_eq_true_eq]
                by_cases h : z < (ls.length : Int)
                · exact absurd ⟨by omega, h⟩ hz
                · omega
              clear h0 hz
              go_wp2_with fail
              go_ret
              exact ⟨by simp, S4.bl⟩
        · have tx1 : decide (x < 0) = false := by rw [decide_eq_false_iff_not]; have := hx.1; omega
          have tx2 : decide (nd ≤ x) = false := by rw [decide_eq_false_iff_not]; have := hx.2; omega
          go_wp2_with fail
          refine (sgv_yes hv A2 cp2 _ S3.rd).mono ?_
          rintro e w4 ⟨rfl, hb4⟩
          have S4 := S3.on hb4
          clear S3 c0 c1 hb4
          have c0 := S4.c0
          have c1 := S4.c1
          by_cases h0 : y < 0
          · have t1 : decide (y < 0) = true := by rw [decide_eq_true_eq]; exact h0
            clear h0
            go_wp2_with fail
            go_ret
            exact ⟨by simp, S4.bl⟩
          · have t1 : decide (y < 0) = false := by rw [decide_eq_false_iff_not]; exact h0
            have t2 : decide (nd ≤ y) = true := by
              rw [decide_eq_true_eq]
              by_cases h : y < nd
              · exact absurd ⟨by omega, h⟩ hy
              · omega
            clear h0 hy
            go_wp2_with fail
            go_ret
            exact ⟨by simp, S4.bl⟩
      · go_wp2_with fail
        refine (sgv_yes hv A2 cp2 _ S3.rd).mono ?_
        rintro e w4 ⟨rfl, hb4⟩
        have S4 := S3.on hb4
        clear S3 c0 c1 hb4
        have c0 := S4.c0
        have c1 := S4.c1
        by_cases h0 : x < 0
        · have t1 : decide (x < 0) = true := by rw [decide_eq_true_eq]; exact h0
          clear h0
          go_wp2_with fail
          go_ret
          exact ⟨by simp, S4.bl⟩
        · have t1 : decide (x < 0) = false := by rw [decide_eq_false_iff_not]; exact h0
          have t2 : decide (nd ≤ x) = true := by
            rw [decide_eq_true_eq]
            by_cases h : x < nd
            · exact absurd ⟨by omega, h⟩ hx
            · omega
          clear h0 hx
          go_wp2_with fail
          go_ret
          exact ⟨by simp, S4.bl⟩
    · go_wp2_with fail
      refine (sgv_no hv A2 cp2 _ (by omega) S3.rd).mono ?_
      rintro e w4 ⟨rfl, hb4⟩
      have S4 := S3.on hb4
      go_wp2_with fail
      go_ret
      exact ⟨by simp, S4.bl⟩
  · have h20' : (1048576 : Int) < (bs.length : Int) := by omega
    go_enter Try.func10, Try.ntmps10
    go_wp2_with fail
    go_ret
    exact ⟨rfl, Below.refl _ _⟩

end Go.Proofs.Ytnndnpckkcgfiaa.fnLinkUsed
