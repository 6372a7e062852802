/-
  The walk of the law FnNodeUsedCount: without an unused node there are as many paths.
-/
import Derived.Test.YtnndnpckkcgfiaaDH
import Derived.Test.YtnndnpckkcgfiaaEC
import Derived.Test.YtnndnpckkcgfiaaWO
import Derived.Test.YtnndnpckkcgfiaaWS
import Derived.Test.YtnndnpckkcgfiaaFE
import Derived.Test.YtnndnpckkcgfiaaPJ
import Derived.Test.YtnndnpckkcgfiaaEB
import Derived.Deep.RegionHeld3
namespace Go.Proofs.Ytnndnpckkcgfiaa.fnNodeUsedCount
open Go.RowKit

set_option maxRecDepth 100000 in
set_option maxHeartbeats 4000000 in
theorem walk (A : Option Addr) (cp : Nat) (bs : List Int) (w : World) (hr : RdB w w.heap.size A bs) (hl : bs.length ≤ 9223372036854775807 ∧ bs.length ≤ cp) :
    Calls Try.prog 3 #[.slice A bs.length cp] w fun e w' => e = .returned (.bool true) ∧ Below w.heap.size w w' := by
  obtain ⟨hl, hcp⟩ := hl
  by_cases h20 : bs.length ≤ 1048576
  · go_enter Try.func3, Try.ntmps3
    go_wp2_with fail
    refine (drawNodeUsed_any A cp bs _ hr hl hcp).mono ?_
    rintro e w1 ⟨nd, A2, cp2, ls, x, y, z, rfl, hg⟩
    have S := LS.of_drawn (nd := nd) hg
    have hlen := S.len
    clear hr hg
    go_wp2_with fail
    refine (nodeUsed_any nd A2 cp2 ls x y z _ (by omega) S.rd).mono ?_
    rintro e w2 ⟨rfl, hb2⟩
    have S2 := S.on hb2
    have c0 := S2.c0
    have c1 := S2.c1
    clear S hb2
    go_wp2_with fail
    refine (snodeUsed_any nd A2 cp2 ls x y z _ (by omega) S2.rd).mono ?_
    rintro e w3 ⟨rfl, hb3⟩
    have S3 := S2.on hb3
    clear S2 hb3 c0 c1
    have c0 := S3.c0
    have c1 := S3.c1
    have tu : (nuO nd ls x y z != nuO nd ls x y z) = false := by simp
    by_cases hu : nuO nd ls x y z = true
    · rw [hu] at tu ⊢
      go_wp2_with fail
      go_ret
      exact ⟨rfl, S3.bl⟩
    have hu0 : nuO nd ls x y z = false := by cases h : nuO nd ls x y z <;> simp_all
    rw [hu0] at tu ⊢
    by_cases hv : Valid nd ls
    · by_cases hx : Nd nd x
      · by_cases hy : Nd nd y
        · by_cases hz : Nd nd z
          · have tx1 : decide (x < 0) = false := by rw [decide_eq_false_iff_not]; have := hx.1; omega
            have tx2 : decide (nd ≤ x) = false := by rw [decide_eq_false_iff_not]; have := hx.2; omega
            have ty1 : decide (y < 0) = false := by rw [decide_eq_false_iff_not]; have := hy.1; omega
            have ty2 : decide (nd ≤ y) = false := by rw [decide_eq_false_iff_not]; have := hy.2; omega
            have tz1 : decide (z < 0) = false := by rw [decide_eq_false_iff_not]; have := hz.1; omega
            have tz2 : decide (nd ≤ z) = false := by rw [decide_eq_false_iff_not]; have := hz.2; omega
            go_wp2_with fail
            refine (sgv_yes hv A2 cp2 _ S3.rd).mono ?_
            rintro e w4 ⟨rfl, hb4⟩
            have S4 := S3.on hb4
            clear S3 c0 c1 hb4
            have c0 := S4.c0
            have c1 := S4.c1
            rw [nuO_yes ⟨hv, hx, hy, hz⟩] at hu0
            have hlaw := node_law hv hx hy hz hu0
            have hv2 := hv.lsI z
            have hms : (lsI ls z).length ≤ 16 := by have := length_lsI ls z; omega
            have HD1 : Hid (∀ wx, RdL wx wx.heap.size A2 ls → Calls Try.prog 20 #[.agg #[.int .i64 nd, .slice A2 ls.length cp2], .int .i64 x, .int .i64 y] wx fun e w' => e = .returned (.int .i64 (D nd ls x y)) ∧ Below wx.heap.size wx w') := fun wx hr => distL_any hv hx hy A2 cp2 wx hr
            have HC1 : Hid (∀ wx, RdL wx wx.heap.size A2 ls → Calls Try.prog 21 #[.agg #[.int .i64 nd, .slice A2 ls.length cp2], .int .i64 x, .int .i64 y] wx fun e w' => e = .returned (.int .i64 (cnt nd ls x y : Nat)) ∧ Below wx.heap.size wx w') := fun wx hr => by
              have := gCnt_any nd A2 cp2 ls x y wx (by omega) hr
              rwa [cntO_yes ⟨hv, hx, hy⟩] at this
            have HD2 : Hid (∀ B cb wx, RdL wx wx.heap.size B (lsI ls z) → Calls Try.prog 20 #[.agg #[.int .i64 nd, .slice B (lsI ls z).length cb], .int .i64 x, .int .i64 y] wx fun e w' => e = .returned (.int .i64 (D nd ls x y)) ∧ Below wx.heap.size wx w') := fun B cb wx hr => by rw [← hlaw.1]; exact distL_any hv2 hx hy B cb wx hr
            have HC2 : Hid (∀ B cb wx, RdL wx wx.heap.size B (lsI ls z) → Calls Try.prog 21 #[.agg #[.int .i64 nd, .slice B (lsI ls z).length cb], .int .i64 x, .int .i64 y] wx fun e w' => e = .returned (.int .i64 (cnt nd ls x y : Nat)) ∧ Below wx.heap.size wx w') := fun B cb wx hr => by
              have := gCnt_any nd B cb (lsI ls z) x y wx (by omega) hr
              rwa [cntO_yes ⟨hv2, hx, hy⟩, hlaw.2] at this
            have HW := Lib.hid (gIsolate_yes hv hz A2 cp2 w4 S4.rd)
            clear hlaw hu0
            generalize lsI ls z = ms at *
            generalize D nd ls x y = d1 at *
            generalize cnt nd ls x y = n1 at *
            generalize w1.heap.size = G at *
            go_wp2_with fail
            refine HW.out.mono ?_
            rintro e w5 ⟨⟨B, cb, rfl, ho5⟩, hb5⟩
            have S5 := S4.on hb5
            have S6 := S5.on (bnew w5 (.cells #[.int .i64 nd, .slice B ms.length cb] 25))
            have T6 : LS w (w5.alloc (.cells #[.int .i64 nd, .slice B ms.length cb] 25)) w5.heap.size nd B cb ms := ⟨by go_simp, by go_simp, ho5.rd.on (bnew _ _), S6.bl, hms⟩
            clear S4 S5 c0 c1 hb5 ho5 HW
            have HS1 := Lib.hid (fun wx hb => HD1.out wx (S6.on hb).rd)
            have HS2 := Lib.hid (fun wx hb => HC1.out wx (S6.on hb).rd)
            have HS3 := Lib.hid (fun wx hb => HD2.out B cb wx (T6.on hb).rd)
            have HS4 := Lib.hid (fun wx hb => HC2.out B cb wx (T6.on hb).rd)
            clear HD1 HC1 HD2 HC2
            have c0 := S6.c0
            have c1 := S6.c1
            have d0 := T6.c0
            have d1' := T6.c1
            have hbl := S6.bl
            clear S6 T6 hv hv2 hx hy hz
            have BX : Below (w5.alloc (.cells #[.int .i64 nd, .slice B ms.length cb] 25)).heap.size (w5.alloc (.cells #[.int .i64 nd, .slice B ms.length cb] 25)) (w5.alloc (.cells #[.int .i64 nd, .slice B ms.length cb] 25)).drew := (Below.refl _ _).drew
            by_cases e1 : z = x
            · subst e1
              go_wp2_with fail
              refine wp_region_held_drew (S := fun w' => w'.cell? ⟨G, 0, none⟩ = some (.int .i64 nd) ∧ w'.cell? ⟨G, 1, none⟩ = some (.slice A2 ls.length cp2) ∧ w'.cell? ⟨w5.heap.size, 0, none⟩ = some (.int .i64 nd) ∧ w'.cell? ⟨w5.heap.size, 1, none⟩ = some (.slice B ms.length cb)) (by kernel_rfl) ?_ (fun hHeld2_0 => ?_)
              · exact ⟨ckeep c0 BX, ckeep c1 BX, ckeep d0 BX, ckeep d1' BX⟩
              refine wpAnyH_take (i := 0) (v := ?v2_0) rfl (by kernel_rfl) (by kernel_rfl) (by kernel_rfl) (fun _ _ _ h => h) (Or.inl ⟨by kernel_rfl, ?y2_0⟩) (by assumption) ?r2_0
              case y2_0 => intro w hSw; (try dsimp only at hSw); go_simp; (try with_reducible rfl)
              try simp only [Act.put, List.setIfInBounds_toArray]
              refine wpAnyH_take (i := 1) (v := ?v2_1) rfl (by kernel_rfl) (by kernel_rfl) (by kernel_rfl) (fun _ _ _ h => h) (Or.inl ⟨by kernel_rfl, ?y2_1⟩) (by assumption) ?r2_1
              case y2_1 => intro w hSw; (try dsimp only at hSw); go_simp; (try with_reducible rfl)
              try simp only [Act.put]
              refine wpAnyH_take (i := 2) (v := ?v2_2) rfl (by kernel_rfl) (by kernel_rfl) (by kernel_rfl) (fun _ _ _ h => h) (Or.inl ⟨by kernel_rfl, ?y2_2⟩) (by assumption) ?r2_2
              case y2_2 => intro w hSw; (try dsimp only at hSw); go_simp; (try with_reducible rfl)
              try simp only [Act.put]
              refine wpAnyH_take (i := 3) (v := ?v2_3) rfl (by kernel_rfl) (by kernel_rfl) (by kernel_rfl) (fun _ _ _ h => h) (Or.inl ⟨by kernel_rfl, ?y2_3⟩) (by assumption) ?r2_3
              case y2_3 => intro w hSw; (try dsimp only at hSw); go_simp; (try with_reducible rfl)
              try simp only [Act.put]
              refine wpAnyH_take (i := 4) (v := undef) rfl (by kernel_rfl) (by kernel_rfl) (by kernel_rfl) (fun _ _ _ h => h) (Or.inr ⟨by kernel_rfl, by kernel_rfl⟩) (by assumption) ?r2_4
              try simp only [Act.put]
              refine wpAnyH_take (i := 5) (v := undef) rfl (by kernel_rfl) (by kernel_rfl) (by kernel_rfl) (fun _ _ _ h => h) (Or.inr ⟨by kernel_rfl, by kernel_rfl⟩) (by assumption) ?r2_5
              try simp only [Act.put]
              refine wpAnyH_take (i := 6) (v := undef) rfl (by kernel_rfl) (by kernel_rfl) (by kernel_rfl) (fun _ _ _ h => h) (Or.inr ⟨by kernel_rfl, by kernel_rfl⟩) (by assumption) ?r2_6
              try simp only [Act.put]
              refine wpAnyH_take (i := 7) (v := ?v2_7) rfl (by kernel_rfl) (by kernel_rfl) (by kernel_rfl) (fun _ _ _ h => h) (Or.inl ⟨by kernel_rfl, ?y2_7⟩) (by assumption) ?r2_7
              case y2_7 => intro w hSw; (try dsimp only at hSw); go_simp; (try with_reducible rfl)
              try simp only [Act.put]
              refine wpAnyH_take (i := 8) (v := ?v2_8) rfl (by kernel_rfl) (by kernel_rfl) (by kernel_rfl) (fun _ _ _ h => h) (Or.inl ⟨by kernel_rfl, ?y2_8⟩) (by assumption) ?r2_8
              case y2_8 => intro w hSw; (try dsimp only at hSw); go_simp; (try with_reducible rfl)
              try simp only [Act.put]
              refine wpAnyH_take (i := 9) (v := undef) rfl (by kernel_rfl) (by kernel_rfl) (by kernel_rfl) (fun _ _ _ h => h) (Or.inr ⟨by kernel_rfl, by kernel_rfl⟩) (by assumption) ?r2_9
              try simp only [Act.put]
              refine wpAnyH_take (i := 10) (v := undef) rfl (by kernel_rfl) (by kernel_rfl) (by kernel_rfl) (fun _ _ _ h => h) (Or.inr ⟨by kernel_rfl, by kernel_rfl⟩) (by assumption) ?r2_10
              try simp only [Act.put]
              refine wpAnyH_take (i := 11) (v := undef) rfl (by kernel_rfl) (by kernel_rfl) (by kernel_rfl) (fun _ _ _ h => h) (Or.inr ⟨by kernel_rfl, by kernel_rfl⟩) (by assumption) ?r2_11
              try simp only [Act.put]
              refine wpAnyH_take (i := 12) (v := undef) rfl (by kernel_rfl) (by kernel_rfl) (by kernel_rfl) (fun _ _ _ h => h) (Or.inr ⟨by kernel_rfl, by kernel_rfl⟩) (by assumption) ?r2_12
              try simp only [Act.put]
              refine wpAnyH_take (i := 13) (v := undef) rfl (by kernel_rfl) (by kernel_rfl) (by kernel_rfl) (fun _ _ _ h => h) (Or.inr ⟨by kernel_rfl, by kernel_rfl⟩) (by assumption) ?r2_13
              try simp only [Act.put]
              refine wpAnyH_take (i := 14) (v := undef) rfl (by kernel_rfl) (by kernel_rfl) (by kernel_rfl) (fun _ _ _ h => h) (Or.inr ⟨by kernel_rfl, by kernel_rfl⟩) (by assumption) ?r2_14
              try simp only [Act.put]
              refine wpAnyH_take (i := 15) (v := undef) rfl (by kernel_rfl) (by kernel_rfl) (by kernel_rfl) (fun _ _ _ h => h) (Or.inr ⟨by kernel_rfl, by kernel_rfl⟩) (by assumption) ?r2_15
              try simp only [Act.put]
              refine wpAnyH_take (i := 16) (v := undef) rfl (by kernel_rfl) (by kernel_rfl) (by kernel_rfl) (fun _ _ _ h => h) (Or.inr ⟨by kernel_rfl, by kernel_rfl⟩) (by assumption) ?r2_16
              try simp only [Act.put]
              refine wpAnyH_take (i := 17) (v := undef) rfl (by kernel_rfl) (by kernel_rfl) (by kernel_rfl) (fun _ _ _ h => h) (Or.inr ⟨by kernel_rfl, by kernel_rfl⟩) (by assumption) ?r2_17
              try simp only [Act.put]
              refine wpAnyH_take (i := 18) (v := undef) rfl (by kernel_rfl) (by kernel_rfl) (by kernel_rfl) (fun _ _ _ h => h) (Or.inr ⟨by kernel_rfl, by kernel_rfl⟩) (by assumption) ?r2_18
              try simp only [Act.put]
              refine wpAnyH_take (i := 19) (v := undef) rfl (by kernel_rfl) (by kernel_rfl) (by kernel_rfl) (fun _ _ _ h => h) (Or.inr ⟨by kernel_rfl, by kernel_rfl⟩) (by assumption) ?r2_19
              try simp only [Act.put]
              refine wpAnyH_take (i := 20) (v := undef) rfl (by kernel_rfl) (by kernel_rfl) (by kernel_rfl) (fun _ _ _ h => h) (Or.inr ⟨by kernel_rfl, by kernel_rfl⟩) (by assumption) ?r2_20
              try simp only [Act.put]
              refine wpAnyH_take (i := 21) (v := undef) rfl (by kernel_rfl) (by kernel_rfl) (by kernel_rfl) (fun _ _ _ h => h) (Or.inr ⟨by kernel_rfl, by kernel_rfl⟩) (by assumption) ?r2_21
              try simp only [Act.put]
              refine wpAnyH_take (i := 22) (v := undef) rfl (by kernel_rfl) (by kernel_rfl) (by kernel_rfl) (fun _ _ _ h => h) (Or.inr ⟨by kernel_rfl, by kernel_rfl⟩) (by assumption) ?r2_22
              try simp only [Act.put]
              refine wpAnyH_take (i := 23) (v := undef) rfl (by kernel_rfl) (by kernel_rfl) (by kernel_rfl) (fun _ _ _ h => h) (Or.inr ⟨by kernel_rfl, by kernel_rfl⟩) (by assumption) ?r2_23
              try simp only [Act.put]
              refine wpAnyH_take (i := 24) (v := undef) rfl (by kernel_rfl) (by kernel_rfl) (by kernel_rfl) (fun _ _ _ h => h) (Or.inr ⟨by kernel_rfl, by kernel_rfl⟩) (by assumption) ?r2_24
              try simp only [Act.put]
              refine wpAnyH_take (i := 25) (v := undef) rfl (by kernel_rfl) (by kernel_rfl) (by kernel_rfl) (fun _ _ _ h => h) (Or.inr ⟨by kernel_rfl, by kernel_rfl⟩) (by assumption) ?r2_25
              try simp only [Act.put]
              refine wpAnyH_take (i := 26) (v := undef) rfl (by kernel_rfl) (by kernel_rfl) (by kernel_rfl) (fun _ _ _ h => h) (Or.inr ⟨by kernel_rfl, by kernel_rfl⟩) (by assumption) ?r2_26
              try simp only [Act.put]
              refine wpAnyH_take (i := 27) (v := undef) rfl (by kernel_rfl) (by kernel_rfl) (by kernel_rfl) (fun _ _ _ h => h) (Or.inr ⟨by kernel_rfl, by kernel_rfl⟩) (by assumption) ?r2_27
              try simp only [Act.put]
              refine wpAnyH_take (i := 28) (v := undef) rfl (by kernel_rfl) (by kernel_rfl) (by kernel_rfl) (fun _ _ _ h => h) (Or.inr ⟨by kernel_rfl, by kernel_rfl⟩) (by assumption) ?r2_28
              try simp only [Act.put]
              refine wpAnyH_take (i := 29) (v := undef) rfl (by kernel_rfl) (by kernel_rfl) (by kernel_rfl) (fun _ _ _ h => h) (Or.inr ⟨by kernel_rfl, by kernel_rfl⟩) (by assumption) ?r2_29
              try simp only [Act.put]
              refine wpAnyH_take (i := 30) (v := undef) rfl (by kernel_rfl) (by kernel_rfl) (by kernel_rfl) (fun _ _ _ h => h) (Or.inr ⟨by kernel_rfl, by kernel_rfl⟩) (by assumption) ?r2_30
              try simp only [Act.put]
              refine wpAnyH_take (i := 31) (v := undef) rfl (by kernel_rfl) (by kernel_rfl) (by kernel_rfl) (fun _ _ _ h => h) (Or.inr ⟨by kernel_rfl, by kernel_rfl⟩) (by assumption) ?r2_31
              try simp only [Act.put]
              refine wpAnyH_take (i := 32) (v := ?v2_32) rfl (by kernel_rfl) (by kernel_rfl) (by kernel_rfl) (fun _ _ _ h => h) (Or.inl ⟨by kernel_rfl, ?y2_32⟩) (by assumption) ?r2_32
              case y2_32 => intro w hSw; (try dsimp only at hSw); go_simp; (try with_reducible rfl)
              try simp only [Act.put]
              refine wpAnyH_take (i := 33) (v := ?v2_33) rfl (by kernel_rfl) (by kernel_rfl) (by kernel_rfl) (fun _ _ _ h => h) (Or.inl ⟨by kernel_rfl, ?y2_33⟩) (by assumption) ?r2_33
              case y2_33 => intro w hSw; (try dsimp only at hSw); go_simp; (try with_reducible rfl)
              simp only [Act.put, List.getElem_toArray, List.getElem_cons_succ, List.getElem_cons_zero, List.setIfInBounds_toArray, List.set_cons_zero, List.set_cons_succ]
              refine wpAnyH_done (by kernel_rfl) ?_ _
              go_wp2_with fail
              go_ret
              exact ⟨by simp, bthen hbl BX⟩
            · have t1 : (z == x) = false := by rw [beq_eq_false_iff_ne]; exact e1
              by_cases e2 : z = y
              · subst e2
                go_wp2_with fail
                refine wp_region_held_drew (S := fun w' => w'.cell? ⟨G, 0, none⟩ = some (.int .i64 nd) ∧ w'.cell? ⟨G, 1, none⟩ = some (.slice A2 ls.length cp2) ∧ w'.cell? ⟨w5.heap.size, 0, none⟩ = some (.int .i64 nd) ∧ w'.cell? ⟨w5.heap.size, 1, none⟩ = some (.slice B ms.length cb)) (by kernel_rfl) ?_ (fun hHeld3_0 => ?_)
                · exact ⟨ckeep c0 BX, ckeep c1 BX, ckeep d0 BX, ckeep d1' BX⟩
                refine wpAnyH_take (i := 0) (v := ?v3_0) rfl (by kernel_rfl) (by kernel_rfl) (by kernel_rfl) (fun _ _ _ h => h) (Or.inl ⟨by kernel_rfl, ?y3_0⟩) (by assumption) ?r3_0
                case y3_0 => intro w hSw; (try dsimp only at hSw); go_simp; (try with_reducible rfl)
                try simp only [Act.put, List.setIfInBounds_toArray]
                refine wpAnyH_take (i := 1) (v := ?v3_1) rfl (by kernel_rfl) (by kernel_rfl) (by kernel_rfl) (fun _ _ _ h => h) (Or.inl ⟨by kernel_rfl, ?y3_1⟩) (by assumption) ?r3_1
                case y3_1 => intro w hSw; (try dsimp only at hSw); go_simp; (try with_reducible rfl)
                try simp only [Act.put]
                refine wpAnyH_take (i := 2) (v := .bool false) rfl (by kernel_rfl) (by kernel_rfl) (by kernel_rfl) (fun _ _ _ h => h) (Or.inl ⟨by kernel_rfl, ?y3_2⟩) (by assumption) ?r3_2
                case y3_2 => intro w hSw; (try dsimp only at hSw); go_simp; (try first | exact t1 | simp [t1] | with_reducible rfl)
                try simp only [Act.put]
                refine wpAnyH_take (i := 3) (v := ?v3_3) rfl (by kernel_rfl) (by kernel_rfl) (by kernel_rfl) (fun _ _ _ h => h) (Or.inl ⟨by kernel_rfl, ?y3_3⟩) (by assumption) ?r3_3
                case y3_3 => intro w hSw; (try dsimp only at hSw); go_simp; (try with_reducible rfl)
                try simp only [Act.put]
                refine wpAnyH_take (i := 4) (v := ?v3_4) rfl (by kernel_rfl) (by kernel_rfl) (by kernel_rfl) (fun _ _ _ h => h) (Or.inl ⟨by kernel_rfl, ?y3_4⟩) (by assumption) ?r3_4
                case y3_4 => intro w hSw; (try dsimp only at hSw); go_simp; (try with_reducible rfl)
                try simp only [Act.put]
                refine wpAnyH_take (i := 5) (v := ?v3_5) rfl (by kernel_rfl) (by kernel_rfl) (by kernel_rfl) (fun _ _ _ h => h) (Or.inl ⟨by kernel_rfl, ?y3_5⟩) (by assumption) ?r3_5
                case y3_5 => intro w hSw; (try dsimp only at hSw); go_simp; (try with_reducible rfl)
                try simp only [Act.put]
                refine wpAnyH_take (i := 6) (v := ?v3_6) rfl (by kernel_rfl) (by kernel_rfl) (by kernel_rfl) (fun _ _ _ h => h) (Or.inl ⟨by kernel_rfl, ?y3_6⟩) (by assumption) ?r3_6
                case y3_6 => intro w hSw; (try dsimp only at hSw); go_simp; (try with_reducible rfl)
                try simp only [Act.put]
                refine wpAnyH_take (i := 7) (v := ?v3_7) rfl (by kernel_rfl) (by kernel_rfl) (by kernel_rfl) (fun _ _ _ h => h) (Or.inl ⟨by kernel_rfl, ?y3_7⟩) (by assumption) ?r3_7
                case y3_7 => intro w hSw; (try dsimp only at hSw); go_simp; (try with_reducible rfl)
                try simp only [Act.put]
                refine wpAnyH_take (i := 8) (v := ?v3_8) rfl (by kernel_rfl) (by kernel_rfl) (by kernel_rfl) (fun _ _ _ h => h) (Or.inl ⟨by kernel_rfl, ?y3_8⟩) (by assumption) ?r3_8
                case y3_8 => intro w hSw; (try dsimp only at hSw); go_simp; (try with_reducible rfl)
                try simp only [Act.put]
                refine wpAnyH_take (i := 9) (v := undef) rfl (by kernel_rfl) (by kernel_rfl) (by kernel_rfl) (fun _ _ _ h => h) (Or.inr ⟨by kernel_rfl, by kernel_rfl⟩) (by assumption) ?r3_9
                try simp only [Act.put]
                refine wpAnyH_take (i := 10) (v := undef) rfl (by kernel_rfl) (by kernel_rfl) (by kernel_rfl) (fun _ _ _ h => h) (Or.inr ⟨by kernel_rfl, by kernel_rfl⟩) (by assumption) ?r3_10
                try simp only [Act.put]
                refine wpAnyH_take (i := 11) (v := undef) rfl (by kernel_rfl) (by kernel_rfl) (by kernel_rfl) (fun _ _ _ h => h) (Or.inr ⟨by kernel_rfl, by kernel_rfl⟩) (by assumption) ?r3_11
                try simp only [Act.put]
                refine wpAnyH_take (i := 12) (v := undef) rfl (by kernel_rfl) (by kernel_rfl) (by kernel_rfl) (fun _ _ _ h => h) (Or.inr ⟨by kernel_rfl, by kernel_rfl⟩) (by assumption) ?r3_12
                try simp only [Act.put]
                refine wpAnyH_take (i := 13) (v := undef) rfl (by kernel_rfl) (by kernel_rfl) (by kernel_rfl) (fun _ _ _ h => h) (Or.inr ⟨by kernel_rfl, by kernel_rfl⟩) (by assumption) ?r3_13
                try simp only [Act.put]
                refine wpAnyH_take (i := 14) (v := undef) rfl (by kernel_rfl) (by kernel_rfl) (by kernel_rfl) (fun _ _ _ h => h) (Or.inr ⟨by kernel_rfl, by kernel_rfl⟩) (by assumption) ?r3_14
                try simp only [Act.put]
                refine wpAnyH_take (i := 15) (v := undef) rfl (by kernel_rfl) (by kernel_rfl) (by kernel_rfl) (fun _ _ _ h => h) (Or.inr ⟨by kernel_rfl, by kernel_rfl⟩) (by assumption) ?r3_15
                try simp only [Act.put]
                refine wpAnyH_take (i := 16) (v := undef) rfl (by kernel_rfl) (by kernel_rfl) (by kernel_rfl) (fun _ _ _ h => h) (Or.inr ⟨by kernel_rfl, by kernel_rfl⟩) (by assumption) ?r3_16
                try simp only [Act.put]
                refine wpAnyH_take (i := 17) (v := undef) rfl (by kernel_rfl) (by kernel_rfl) (by kernel_rfl) (fun _ _ _ h => h) (Or.inr ⟨by kernel_rfl, by kernel_rfl⟩) (by assumption) ?r3_17
                try simp only [Act.put]
                refine wpAnyH_take (i := 18) (v := undef) rfl (by kernel_rfl) (by kernel_rfl) (by kernel_rfl) (fun _ _ _ h => h) (Or.inr ⟨by kernel_rfl, by kernel_rfl⟩) (by assumption) ?r3_18
                try simp only [Act.put]
                refine wpAnyH_take (i := 19) (v := undef) rfl (by kernel_rfl) (by kernel_rfl) (by kernel_rfl) (fun _ _ _ h => h) (Or.inr ⟨by kernel_rfl, by kernel_rfl⟩) (by assumption) ?r3_19
                try simp only [Act.put]
                refine wpAnyH_take (i := 20) (v := undef) rfl (by kernel_rfl) (by kernel_rfl) (by kernel_rfl) (fun _ _ _ h => h) (Or.inr ⟨by kernel_rfl, by kernel_rfl⟩) (by assumption) ?r3_20
                try simp only [Act.put]
                refine wpAnyH_take (i := 21) (v := undef) rfl (by kernel_rfl) (by kernel_rfl) (by kernel_rfl) (fun _ _ _ h => h) (Or.inr ⟨by kernel_rfl, by kernel_rfl⟩) (by assumption) ?r3_21
                try simp only [Act.put]
                refine wpAnyH_take (i := 22) (v := undef) rfl (by kernel_rfl) (by kernel_rfl) (by kernel_rfl) (fun _ _ _ h => h) (Or.inr ⟨by kernel_rfl, by kernel_rfl⟩) (by assumption) ?r3_22
                try simp only [Act.put]
                refine wpAnyH_take (i := 23) (v := undef) rfl (by kernel_rfl) (by kernel_rfl) (by kernel_rfl) (fun _ _ _ h => h) (Or.inr ⟨by kernel_rfl, by kernel_rfl⟩) (by assumption) ?r3_23
                try simp only [Act.put]
                refine wpAnyH_take (i := 24) (v := undef) rfl (by kernel_rfl) (by kernel_rfl) (by kernel_rfl) (fun _ _ _ h => h) (Or.inr ⟨by kernel_rfl, by kernel_rfl⟩) (by assumption) ?r3_24
                try simp only [Act.put]
                refine wpAnyH_take (i := 25) (v := undef) rfl (by kernel_rfl) (by kernel_rfl) (by kernel_rfl) (fun _ _ _ h => h) (Or.inr ⟨by kernel_rfl, by kernel_rfl⟩) (by assumption) ?r3_25
                try simp only [Act.put]
                refine wpAnyH_take (i := 26) (v := undef) rfl (by kernel_rfl) (by kernel_rfl) (by kernel_rfl) (fun _ _ _ h => h) (Or.inr ⟨by kernel_rfl, by kernel_rfl⟩) (by assumption) ?r3_26
                try simp only [Act.put]
                refine wpAnyH_take (i := 27) (v := undef) rfl (by kernel_rfl) (by kernel_rfl) (by kernel_rfl) (fun _ _ _ h => h) (Or.inr ⟨by kernel_rfl, by kernel_rfl⟩) (by assumption) ?r3_27
                try simp only [Act.put]
                refine wpAnyH_take (i := 28) (v := undef) rfl (by kernel_rfl) (by kernel_rfl) (by kernel_rfl) (fun _ _ _ h => h) (Or.inr ⟨by kernel_rfl, by kernel_rfl⟩) (by assumption) ?r3_28
                try simp only [Act.put]
                refine wpAnyH_take (i := 29) (v := undef) rfl (by kernel_rfl) (by kernel_rfl) (by kernel_rfl) (fun _ _ _ h => h) (Or.inr ⟨by kernel_rfl, by kernel_rfl⟩) (by assumption) ?r3_29
                try simp only [Act.put]
                refine wpAnyH_take (i := 30) (v := undef) rfl (by kernel_rfl) (by kernel_rfl) (by kernel_rfl) (fun _ _ _ h => h) (Or.inr ⟨by kernel_rfl, by kernel_rfl⟩) (by assumption) ?r3_30
                try simp only [Act.put]
                refine wpAnyH_take (i := 31) (v := undef) rfl (by kernel_rfl) (by kernel_rfl) (by kernel_rfl) (fun _ _ _ h => h) (Or.inr ⟨by kernel_rfl, by kernel_rfl⟩) (by assumption) ?r3_31
                try simp only [Act.put]
                refine wpAnyH_take (i := 32) (v := ?v3_32) rfl (by kernel_rfl) (by kernel_rfl) (by kernel_rfl) (fun _ _ _ h => h) (Or.inl ⟨by kernel_rfl, ?y3_32⟩) (by assumption) ?r3_32
                case y3_32 => intro w hSw; (try dsimp only at hSw); go_simp; (try with_reducible rfl)
                try simp only [Act.put]
                refine wpAnyH_take (i := 33) (v := ?v3_33) rfl (by kernel_rfl) (by kernel_rfl) (by kernel_rfl) (fun _ _ _ h => h) (Or.inl ⟨by kernel_rfl, ?y3_33⟩) (by assumption) ?r3_33
                case y3_33 => intro w hSw; (try dsimp only at hSw); go_simp; (try with_reducible rfl)
                simp only [Act.put, List.getElem_toArray, List.getElem_cons_succ, List.getElem_cons_zero, List.setIfInBounds_toArray, List.set_cons_zero, List.set_cons_succ]
                refine wpAnyH_done (by kernel_rfl) ?_ _
                go_wp2_with fail
                go_ret
                exact ⟨by simp, bthen hbl BX⟩
              · have t2 : (z == y) = false := by rw [beq_eq_false_iff_ne]; exact e2
                go_wp2_with fail
                refine wp_region_held_drew (S := fun w' => w'.cell? ⟨G, 0, none⟩ = some (.int .i64 nd) ∧ w'.cell? ⟨G, 1, none⟩ = some (.slice A2 ls.length cp2) ∧ w'.cell? ⟨w5.heap.size, 0, none⟩ = some (.int .i64 nd) ∧ w'.cell? ⟨w5.heap.size, 1, none⟩ = some (.slice B ms.length cb)) (by kernel_rfl) ?_ (fun hHeld4_0 => ?_)
                · exact ⟨ckeep c0 BX, ckeep c1 BX, ckeep d0 BX, ckeep d1' BX⟩
                refine wpAnyH_take (i := 0) (v := ?v4_0) rfl (by kernel_rfl) (by kernel_rfl) (by kernel_rfl) (fun _ _ _ h => h) (Or.inl ⟨by kernel_rfl, ?y4_0⟩) (by assumption) ?r4_0
                case y4_0 => intro w hSw; (try dsimp only at hSw); go_simp; (try with_reducible rfl)
                try simp only [Act.put, List.setIfInBounds_toArray]
                refine wpAnyH_take (i := 1) (v := ?v4_1) rfl (by kernel_rfl) (by kernel_rfl) (by kernel_rfl) (fun _ _ _ h => h) (Or.inl ⟨by kernel_rfl, ?y4_1⟩) (by assumption) ?r4_1
                case y4_1 => intro w hSw; (try dsimp only at hSw); go_simp; (try with_reducible rfl)
                try simp only [Act.put]
                refine wpAnyH_take (i := 2) (v := .bool false) rfl (by kernel_rfl) (by kernel_rfl) (by kernel_rfl) (fun _ _ _ h => h) (Or.inl ⟨by kernel_rfl, ?y4_2⟩) (by assumption) ?r4_2
                case y4_2 => intro w hSw; (try dsimp only at hSw); go_simp; (try first | exact t1 | simp [t1] | with_reducible rfl)
                try simp only [Act.put]
                refine wpAnyH_take (i := 3) (v := ?v4_3) rfl (by kernel_rfl) (by kernel_rfl) (by kernel_rfl) (fun _ _ _ h => h) (Or.inl ⟨by kernel_rfl, ?y4_3⟩) (by assumption) ?r4_3
                case y4_3 => intro w hSw; (try dsimp only at hSw); go_simp; (try with_reducible rfl)
                try simp only [Act.put]
                refine wpAnyH_take (i := 4) (v := ?v4_4) rfl (by kernel_rfl) (by kernel_rfl) (by kernel_rfl) (fun _ _ _ h => h) (Or.inl ⟨by kernel_rfl, ?y4_4⟩) (by assumption) ?r4_4
                case y4_4 => intro w hSw; (try dsimp only at hSw); go_simp; (try with_reducible rfl)
                try simp only [Act.put]
                refine wpAnyH_take (i := 5) (v := ?v4_5) rfl (by kernel_rfl) (by kernel_rfl) (by kernel_rfl) (fun _ _ _ h => h) (Or.inl ⟨by kernel_rfl, ?y4_5⟩) (by assumption) ?r4_5
                case y4_5 => intro w hSw; (try dsimp only at hSw); go_simp; (try with_reducible rfl)
                try simp only [Act.put]
                refine wpAnyH_take (i := 6) (v := .bool false) rfl (by kernel_rfl) (by kernel_rfl) (by kernel_rfl) (fun _ _ _ h => h) (Or.inl ⟨by kernel_rfl, ?y4_6⟩) (by assumption) ?r4_6
                case y4_6 => intro w hSw; (try dsimp only at hSw); go_simp; (try first | exact t2 | simp [t2] | with_reducible rfl)
                try simp only [Act.put]
                refine wpAnyH_take (i := 7) (v := ?v4_7) rfl (by kernel_rfl) (by kernel_rfl) (by kernel_rfl) (fun _ _ _ h => h) (Or.inl ⟨by kernel_rfl, ?y4_7⟩) (by assumption) ?r4_7
                case y4_7 => intro w hSw; (try dsimp only at hSw); go_simp; (try with_reducible rfl)
                try simp only [Act.put]
                refine wpAnyH_take (i := 8) (v := ?v4_8) rfl (by kernel_rfl) (by kernel_rfl) (by kernel_rfl) (fun _ _ _ h => h) (Or.inl ⟨by kernel_rfl, ?y4_8⟩) (by assumption) ?r4_8
                case y4_8 => intro w hSw; (try dsimp only at hSw); go_simp; (try with_reducible rfl)
                try simp only [Act.put]
                refine wpAnyH_take (i := 9) (v := ?v4_9) rfl (by kernel_rfl) (by kernel_rfl) (by kernel_rfl) (fun _ _ _ h => h) (Or.inl ⟨by kernel_rfl, ?y4_9⟩) (by assumption) ?r4_9
                case y4_9 => intro w hSw; (try dsimp only at hSw); go_simp; (try with_reducible rfl)
                try simp only [Act.put]
                refine wpAnyH_take (i := 10) (v := ?v4_10) rfl (by kernel_rfl) (by kernel_rfl) (by kernel_rfl) (fun _ _ _ h => h) (Or.inl ⟨by kernel_rfl, ?y4_10⟩) (by assumption) ?r4_10
                case y4_10 => intro w hSw; (try dsimp only at hSw); go_simp; (try with_reducible rfl)
                try simp only [Act.put]
                refine wpAnyH_take (i := 11) (v := ?v4_11) rfl (by kernel_rfl) (by kernel_rfl) (by kernel_rfl) (fun _ _ _ h => h) (Or.inl ⟨by kernel_rfl, ?y4_11⟩) (by assumption) ?r4_11
                case y4_11 => intro w hSw; (try dsimp only at hSw); go_simp; (try with_reducible rfl)
                try simp only [Act.put]
                refine wpAnyH_take (i := 12) (v := ?v4_12) rfl (by kernel_rfl) (by kernel_rfl) (by kernel_rfl) (fun _ _ _ h => h) (Or.inl ⟨by kernel_rfl, ?y4_12⟩) (by assumption) ?r4_12
                case y4_12 => intro w hSw; (try dsimp only at hSw); go_simp; (try with_reducible rfl)
                try simp only [Act.put]
                refine wpAnyH_take (i := 13) (v := ?v4_13) rfl (by kernel_rfl) (by kernel_rfl) (by kernel_rfl) (fun _ _ _ h => h) (Or.inl ⟨by kernel_rfl, ?y4_13⟩) (by assumption) ?r4_13
                case y4_13 => intro w hSw; (try dsimp only at hSw); go_simp; (try with_reducible rfl)
                try simp only [Act.put]
                refine wpAnyH_take (i := 15) (v := ?v4_15) rfl (by kernel_rfl) (by kernel_rfl) (by kernel_rfl) (fun _ _ _ h => h) (Or.inl ⟨by kernel_rfl, ?y4_15⟩) (by assumption) ?r4_15
                case y4_15 => intro w hSw; (try dsimp only at hSw); go_simp; (try with_reducible rfl)
                try simp only [Act.put]
                refine wpAnyH_take (i := 16) (v := ?v4_16) rfl (by kernel_rfl) (by kernel_rfl) (by kernel_rfl) (fun _ _ _ h => h) (Or.inl ⟨by kernel_rfl, ?y4_16⟩) (by assumption) ?r4_16
                case y4_16 => intro w hSw; (try dsimp only at hSw); go_simp; (try with_reducible rfl)
                try simp only [Act.put]
                refine wpAnyH_take (i := 17) (v := ?v4_17) rfl (by kernel_rfl) (by kernel_rfl) (by kernel_rfl) (fun _ _ _ h => h) (Or.inl ⟨by kernel_rfl, ?y4_17⟩) (by assumption) ?r4_17
                case y4_17 => intro w hSw; (try dsimp only at hSw); go_simp; (try with_reducible rfl)
                try simp only [Act.put]
                refine wpAnyH_ready (rs := [14]) (by kernel_rfl) (by simp) ?_
                refine AllReadyH.cons rfl (fun K hK => ?_) AllReadyH.nil
                go_simp
                (go_at_call 20; with_reducible refine (HS3.out _ BX).mono ?_; rintro e w6 ⟨rfl, hb6⟩; have BX := bthen BX hb6)
                go_wp2_with fail
                refine hK.out _ _ ?_ (fun hHeld4_1 => ?_)
                · exact ⟨ckeep c0 BX, ckeep c1 BX, ckeep d0 BX, ckeep d1' BX⟩
                clear hK K
                try simp only [Act.put, List.setIfInBounds_toArray]
                refine wpAnyH_ready (rs := [18]) (by kernel_rfl) (by simp) ?_
                refine AllReadyH.cons rfl (fun K hK => ?_) AllReadyH.nil
                go_simp
                (go_at_call 20; with_reducible refine (HS1.out _ BX).mono ?_; rintro e w6 ⟨rfl, hb6⟩; have BX := bthen BX hb6)
                go_wp2_with fail
                refine hK.out _ _ ?_ (fun hHeld4_2 => ?_)
                · exact ⟨ckeep c0 BX, ckeep c1 BX, ckeep d0 BX, ckeep d1' BX⟩
                clear hK K
                try simp only [Act.put, List.setIfInBounds_toArray]
                refine wpAnyH_take (i := 19) (v := ?v4_19) rfl (by kernel_rfl) (by kernel_rfl) (by kernel_rfl) (fun _ _ _ h => h) (Or.inl ⟨by kernel_rfl, ?y4_19⟩) (by assumption) ?r4_19
                case y4_19 => intro w hSw; (try dsimp only at hSw); go_simp; (try with_reducible rfl)
                try simp only [Act.put]
                refine wpAnyH_take (i := 20) (v := ?v4_20) rfl (by kernel_rfl) (by kernel_rfl) (by kernel_rfl) (fun _ _ _ h => h) (Or.inl ⟨by kernel_rfl, ?y4_20⟩) (by assumption) ?r4_20
                case y4_20 => intro w hSw; (try dsimp only at hSw); go_simp; (try with_reducible rfl)
                try simp only [Act.put]
                refine wpAnyH_take (i := 21) (v := ?v4_21) rfl (by kernel_rfl) (by kernel_rfl) (by kernel_rfl) (fun _ _ _ h => h) (Or.inl ⟨by kernel_rfl, ?y4_21⟩) (by assumption) ?r4_21
                case y4_21 => intro w hSw; (try dsimp only at hSw); go_simp; (try with_reducible rfl)
                try simp only [Act.put]
                refine wpAnyH_take (i := 22) (v := ?v4_22) rfl (by kernel_rfl) (by kernel_rfl) (by kernel_rfl) (fun _ _ _ h => h) (Or.inl ⟨by kernel_rfl, ?y4_22⟩) (by assumption) ?r4_22
                case y4_22 => intro w hSw; (try dsimp only at hSw); go_simp; (try with_reducible rfl)
                try simp only [Act.put]
                refine wpAnyH_take (i := 23) (v := ?v4_23) rfl (by kernel_rfl) (by kernel_rfl) (by kernel_rfl) (fun _ _ _ h => h) (Or.inl ⟨by kernel_rfl, ?y4_23⟩) (by assumption) ?r4_23
                case y4_23 => intro w hSw; (try dsimp only at hSw); go_simp; (try with_reducible rfl)
                try simp only [Act.put]
                refine wpAnyH_take (i := 24) (v := ?v4_24) rfl (by kernel_rfl) (by kernel_rfl) (by kernel_rfl) (fun _ _ _ h => h) (Or.inl ⟨by kernel_rfl, ?y4_24⟩) (by assumption) ?r4_24
                case y4_24 => intro w hSw; (try dsimp only at hSw); go_simp; (try with_reducible rfl)
                try simp only [Act.put]
                refine wpAnyH_take (i := 26) (v := ?v4_26) rfl (by kernel_rfl) (by kernel_rfl) (by kernel_rfl) (fun _ _ _ h => h) (Or.inl ⟨by kernel_rfl, ?y4_26⟩) (by assumption) ?r4_26
                case y4_26 => intro w hSw; (try dsimp only at hSw); go_simp; (try with_reducible rfl)
                try simp only [Act.put]
                refine wpAnyH_take (i := 27) (v := ?v4_27) rfl (by kernel_rfl) (by kernel_rfl) (by kernel_rfl) (fun _ _ _ h => h) (Or.inl ⟨by kernel_rfl, ?y4_27⟩) (by assumption) ?r4_27
                case y4_27 => intro w hSw; (try dsimp only at hSw); go_simp; (try with_reducible rfl)
                try simp only [Act.put]
                refine wpAnyH_take (i := 28) (v := ?v4_28) rfl (by kernel_rfl) (by kernel_rfl) (by kernel_rfl) (fun _ _ _ h => h) (Or.inl ⟨by kernel_rfl, ?y4_28⟩) (by assumption) ?r4_28
                case y4_28 => intro w hSw; (try dsimp only at hSw); go_simp; (try with_reducible rfl)
                try simp only [Act.put]
                refine wpAnyH_ready (rs := [25]) (by kernel_rfl) (by simp) ?_
                refine AllReadyH.cons rfl (fun K hK => ?_) AllReadyH.nil
                go_simp
                (go_at_call 21; with_reducible refine (HS4.out _ BX).mono ?_; rintro e w6 ⟨rfl, hb6⟩; have BX := bthen BX hb6)
                go_wp2_with fail
                refine hK.out _ _ ?_ (fun hHeld4_3 => ?_)
                · exact ⟨ckeep c0 BX, ckeep c1 BX, ckeep d0 BX, ckeep d1' BX⟩
                clear hK K
                try simp only [Act.put, List.setIfInBounds_toArray]
                refine wpAnyH_ready (rs := [29]) (by kernel_rfl) (by simp) ?_
                refine AllReadyH.cons rfl (fun K hK => ?_) AllReadyH.nil
                go_simp
                (go_at_call 21; with_reducible refine (HS2.out _ BX).mono ?_; rintro e w6 ⟨rfl, hb6⟩; have BX := bthen BX hb6)
                go_wp2_with fail
                refine hK.out _ _ ?_ (fun hHeld4_4 => ?_)
                · exact ⟨ckeep c0 BX, ckeep c1 BX, ckeep d0 BX, ckeep d1' BX⟩
                clear hK K
                try simp only [Act.put, List.setIfInBounds_toArray]
                refine wpAnyH_take (i := 30) (v := ?v4_30) rfl (by kernel_rfl) (by kernel_rfl) (by kernel_rfl) (fun _ _ _ h => h) (Or.inl ⟨by kernel_rfl, ?y4_30⟩) (by assumption) ?r4_30
                case y4_30 => intro w hSw; (try dsimp only at hSw); go_simp; (try with_reducible rfl)
                try simp only [Act.put]
                refine wpAnyH_take (i := 31) (v := ?v4_31) rfl (by kernel_rfl) (by kernel_rfl) (by kernel_rfl) (fun _ _ _ h => h) (Or.inl ⟨by kernel_rfl, ?y4_31⟩) (by assumption) ?r4_31
                case y4_31 => intro w hSw; (try dsimp only at hSw); go_simp; (try with_reducible rfl)
                try simp only [Act.put]
                refine wpAnyH_take (i := 32) (v := ?v4_32) rfl (by kernel_rfl) (by kernel_rfl) (by kernel_rfl) (fun _ _ _ h => h) (Or.inl ⟨by kernel_rfl, ?y4_32⟩) (by assumption) ?r4_32
                case y4_32 => intro w hSw; (try dsimp only at hSw); go_simp; (try with_reducible rfl)
                try simp only [Act.put]
                refine wpAnyH_take (i := 33) (v := ?v4_33) rfl (by kernel_rfl) (by kernel_rfl) (by kernel_rfl) (fun _ _ _ h => h) (Or.inl ⟨by kernel_rfl, ?y4_33⟩) (by assumption) ?r4_33
                case y4_33 => intro w hSw; (try dsimp only at hSw); go_simp; (try with_reducible rfl)
                simp only [Act.put, List.getElem_toArray, List.getElem_cons_succ, List.getElem_cons_zero, List.setIfInBounds_toArray, List.set_cons_zero, List.set_cons_succ]
                refine wpAnyH_done (by kernel_rfl) ?_ _
                go_wp2_with fail
                go_ret
                exact ⟨by simp, bthen hbl BX⟩
          · have tx1 : decide (x < 0) = false := by rw [decide_eq_false_iff_not]; have := hx.1; omega
            have tx2 : decide (nd ≤ x) = false := by rw [decide_eq_false_iff_not]; have := hx.2; omega
            have ty1 : decide (y < 0) = false := by rw [decide_eq_false_iff_not]; have := hy.1; omega
            have ty2 : decide (nd ≤ y) = false := by rw [decide_eq_false_iff_not]; have := hy.2; omega
            go_wp2_with fail
            refine (sgv_yes hv A2 cp2 _ S3.rd).mono ?_
            rintro e w4 ⟨rfl, hb4⟩
            have S4 := S3.on hb4
            clear S3 c0 c1 hb4
            have c0 := S4.c0
            have c1 := S4.c1
            by_cases h0 : z < 0
            · have t1 : decide (z < 0) = true := by rw [decide_eq_true_eq]; exact h0
              clear h0
              go_wp2_with fail
              go_ret
              exact ⟨by simp, S4.bl⟩
            · have t1 : decide (z < 0) = false := by rw [decide_eq_false_iff_not]; exact h0
              have t2 : decide (nd ≤ z) = true := by
                rw [decide_eq_true_eq]
                by_cases h : z < nd
                · exact absurd ⟨by omega, h⟩ hz
                · omega
              clear h0 hz
              go_wp2_with fail
              go_ret
              exact ⟨by simp, S4.bl⟩
        · have tx1 : decide (x < 0) = false := by rw [decide_eq_false_iff_not]; have := hx.1; omega
          have tx2 : decide (nd ≤ x) = false := by rw [decide_eq_false_iff_not]; have := hx.2; omega
          go_wp2_with fail
          refine (sgv_yes hv A2 cp2 _ S3.rd).mono ?_
          rintro e w4 ⟨rfl, hb4⟩
          have S4 := S3.on hb4
          clear S3 c0 c1 hb4
          have c0 := S4.c0
          have c1 := S4.c1
          by_cases h0 : y < 0
          · have t1 : decide (y < 0) = true := by rw [decide_eq_true_eq]; exact h0
            clear h0
            go_wp2_with fail
            go_ret
            exact ⟨by simp, S4.bl⟩
          · have t1 : decide (y < 0) = false := by rw [decide_eq_false_iff_not]; exact h0
            have t2 : decide (nd ≤ y) = true := by
              rw [decide_eq_true_eq]
              by_cases h : y < nd
              · exact absurd ⟨by omega, h⟩ hy
              · omega
            clear h0 hy
            go_wp2_with fail
            go_ret
            exact ⟨by simp, S4.bl⟩
      · go_wp2_with fail
        refine (sgv_yes hv A2 cp2 _ S3.rd).mono ?_
        rintro e w4 ⟨rfl, hb4⟩
        have S4 := S3.on hb4
        clear S3 c0 c1 hb4
        have c0 := S4.c0
        have c1 := S4.c1
        by_cases h0 : x < 0
        · have t1 : decide (x < 0) = true := by rw [decide_eq_true_eq]; exact h0
          clear h0
          go_wp2_with fail
          go_ret
          exact ⟨by simp, S4.bl⟩
        · have t1 : decide (x < 0) = false := by rw [decide_eq_false_iff_not]; exact h0
          have t2 : decide (nd ≤ x) = true := by
            rw [decide_eq_true_eq]
            by_cases h : x < nd
            · exact absurd ⟨by omega, h⟩ hx
            · omega
          clear h0 hx
          go_wp2_with fail
          go_ret
          exact ⟨by simp, S4.bl⟩
    · go_wp2_with fail
      refine (sgv_no hv A2 cp2 _ (by omega) S3.rd).mono ?_
      rintro e w4 ⟨rfl, hb4⟩
      have S4 := S3.on hb4
      go_wp2_with fail
      go_ret
      exact ⟨by simp, S4.bl⟩
  · have h20' : (1048576 : Int) < (bs.length : Int) := by omega
    go_enter Try.func3, Try.ntmps3
    go_wp2_with fail
    go_ret
    exact ⟨rfl, Below.refl _ _⟩

end Go.Proofs.Ytnndnpckkcgfiaa.fnNodeUsedCount
