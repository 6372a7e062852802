/-
  The walk of the law FnPathBack: a path back starts and ends the other way.
-/
import Derived.Test.YtnndnpckkcgfiaaFD
import Derived.Test.YtnndnpckkcgfiaaWO
import Derived.Test.YtnndnpckkcgfiaaFE
namespace Go.Proofs.Ytnndnpckkcgfiaa.fnPathBack
open Go.RowKit

set_option maxRecDepth 100000 in
set_option maxHeartbeats 4000000 in
theorem walk (A : Option Addr) (cp : Nat) (bs : List Int) (w : World) (hr : RdB w w.heap.size A bs) (hl : bs.length ≤ 9223372036854775807 ∧ bs.length ≤ cp) :
    Calls Try.prog 14 #[.slice A bs.length cp] w fun e w' => e = .returned (.bool true) ∧ Below w.heap.size w w' := by
  obtain ⟨hl, hcp⟩ := hl
  by_cases h20 : bs.length ≤ 1048576
  · go_enter Try.func14, Try.ntmps14
    go_wp2_with fail
    refine (drawShortestPath_any A cp bs _ hr hl hcp).mono ?_
    rintro e w1 ⟨nd, A2, cp2, ls, x, y, rfl, hg⟩
    have S := LS.of_drawn (nd := nd) hg
    have hlen := S.len
    have hdl : (pathO nd ls x y).length ≤ 4481 := pathO_len _ _ _ _
    clear hr hg
    go_wp2_with fail
    refine (gPath_any nd A2 cp2 ls x y _ (by omega) S.rd).mono ?_
    rintro e w2 ⟨⟨B, cb, rfl, ho2⟩, hb2⟩
    have S2 := S.on hb2
    have r2 := ho2.rd
    have c0 := S2.c0
    have c1 := S2.c1
    clear S hb2 ho2
    go_wp2_with fail
    refine (sgPath_any nd A2 cp2 ls x y _ (by omega) S2.rd).mono ?_
    rintro e w3 ⟨⟨C, cc, rfl, ho3⟩, hb3⟩
    have S3 := S2.on hb3
    have r3 := r2.on hb3
    have q3 := ho3.rd
    clear S2 hb3 c0 c1 ho3 r2
    have c0 := S3.c0
    have c1 := S3.c1
    go_wp2_with fail
    refine (sameI_yes B C cb cc _ _ (by omega) r3 q3).mono ?_
    rintro e w4 ⟨rfl, hb4⟩
    have S4 := S3.on hb4
    have r4 := r3.on hb4
    have q4 := q3.on hb4
    clear S3 hb4 c0 c1 r3 q3
    have c0 := S4.c0
    have c1 := S4.c1
    by_cases h : (Valid nd ls ∧ Nd nd x ∧ Nd nd y) ∧ 0 ≤ D nd ls y x
    · obtain ⟨⟨hv, hx, hy⟩, hd⟩ := h
      have hd' : 0 ≤ D nd ls x y := by rw [D_symm hv hx hy]; exact hd
      rw [pathO_yes ⟨hv, hx, hy⟩, pathP_yes hd] at r4 q4 hdl ⊢
      have hpos := path_pos hv hx hy hd
      have hpos' := path_pos hv hy hx hd'
      have hcap := pathO_len nd ls y x
      have ne0 : (((path nd ls x y).length : Int) == 0) = false := by rw [beq_eq_false_iff_ne]; omega
      have ne1 : (((path nd ls y x).length : Int) == 0) = false := by rw [beq_eq_false_iff_ne]; omega
      have hp0 := path_head hv hy hx hd'
      have hp1 := path_last hv hy hx hd'
      rw [pathO_yes ⟨hv, hy, hx⟩, pathP_yes hd'] at hcap
      have HB : Hid (∀ wx, RdL wx wx.heap.size A2 ls → Calls Try.prog 26 #[.agg #[.int .i64 nd, .slice A2 ls.length cp2], .int .i64 y, .int .i64 x] wx (RI (path nd ls y x) wx)) := fun wx hr => by
        have := gPath_any nd A2 cp2 ls y x wx (by omega) hr
        rwa [pathO_yes ⟨hv, hy, hx⟩, pathP_yes hd'] at this
      have HC : Hid (∀ wx, RdL wx wx.heap.size A2 ls → Calls Try.prog 21 #[.agg #[.int .i64 nd, .slice A2 ls.length cp2], .int .i64 x, .int .i64 y] wx fun e w' => e = .returned (.int .i64 (cnt nd ls x y : Nat)) ∧ Below wx.heap.size wx w') := fun wx hr => by
        have := gCnt_any nd A2 cp2 ls x y wx (by omega) hr
        rwa [cntO_yes ⟨hv, hx, hy⟩] at this
      have hc := (cnt_pos hv hy hx).2 hd
      have t9 : decide (0 < (cnt nd ls x y : Int)) = true := by rw [decide_eq_true_eq]; omega
      clear q4 hd hd'
      generalize cnt nd ls x y = n at *
      generalize path nd ls x y = R at *
      generalize path nd ls y x = T at *
      generalize w1.heap.size = G at *
      go_wp2_with fail
      refine (HB.out _ S4.rd).mono ?_
      rintro e w5 ⟨⟨E, ce, rfl, oE⟩, hb5⟩
      have S5 := S4.on hb5
      have rE := oE.rd
      clear S4 r4 c0 c1 hb5 oE HB
      have c0 := S5.c0
      have c1 := S5.c1
      go_wp2_with fail
      refine (HC.out _ S5.rd).mono ?_
      rintro e w6 ⟨rfl, hb6⟩
      have S6 := S5.on hb6
      have rE6 := rE.on hb6
      clear S5 rE c0 c1 hb6 HC
      obtain ⟨bg, bo, hB, hbg, hbc⟩ := rE6 (by omega)
      obtain rfl := hB
      have m1 := hbc 0 (by omega)
      have m2 := hbc (T.length - 1) (by omega)
      rw [hp0, Nat.add_zero] at m1
      rw [hp1] at m2
      obtain ⟨l, hl⟩ : ∃ l, T.length = l + 1 := ⟨T.length - 1, by omega⟩
      rw [hl] at m2 hcap ne1 ⊢
      rw [show l + 1 - 1 = l from by omega] at m2
      have q1 : (0 : Int) ≤ (l : Int) := by omega
      have q2 : (l : Int) < ((l + 1 : Nat) : Int) := by omega
      have q6 : IntKind.i64.wrap (l : Int) = (l : Int) := IntWalk.i64_in _ (by omega)
      have q3 : IntKind.i64.wrap (((l + 1 : Nat) : Int) - 1) = (l : Int) := by rw [show ((l + 1 : Nat) : Int) - 1 = l from by omega]; exact IntWalk.i64_in _ (by omega)
      have q7 : IntKind.i64.wrap ((l : Int) + 1 - 1) = (l : Int) := by rw [show (l : Int) + 1 - 1 = l from by omega]; exact IntWalk.i64_in _ (by omega)
      clear hbc hp0 hp1
      go_wp2_with fail
      go_ret
      exact ⟨by simp, S6.bl⟩
    · have e0 : pathO nd ls x y = [] := by
        by_cases h' : Valid nd ls ∧ Nd nd x ∧ Nd nd y
        · rw [pathO_yes h']; exact pathP_no (fun hd => h ⟨h', hd⟩)
        · exact pathO_no h'
      have e1 : pathO nd ls y x = [] := by
        by_cases h' : Valid nd ls ∧ Nd nd y ∧ Nd nd x
        · rw [pathO_yes h']; exact pathP_no (fun hd => h ⟨⟨h'.1, h'.2.2, h'.2.1⟩, by rw [D_symm h'.1 h'.2.1 h'.2.2]; exact hd⟩)
        · exact pathO_no h'
      have HB : Hid (∀ wx, RdL wx wx.heap.size A2 ls → Calls Try.prog 26 #[.agg #[.int .i64 nd, .slice A2 ls.length cp2], .int .i64 y, .int .i64 x] wx (RI [] wx)) := fun wx hr => by
        have := gPath_any nd A2 cp2 ls y x wx (by omega) hr
        rwa [e1] at this
      rw [e0] at r4 q4 hdl ⊢
      clear e0 e1
      go_wp2_with fail
      refine (HB.out _ S4.rd).mono ?_
      rintro e w5 ⟨⟨E, ce, rfl, oE⟩, hb5⟩
      go_wp2_with fail
      go_ret
      exact ⟨rfl, (S4.on hb5).bl⟩
  · have h20' : (1048576 : Int) < (bs.length : Int) := by omega
    go_enter Try.func14, Try.ntmps14
    go_wp2_with fail
    go_ret
    exact ⟨rfl, Below.refl _ _⟩

end Go.Proofs.Ytnndnpckkcgfiaa.fnPathBack
