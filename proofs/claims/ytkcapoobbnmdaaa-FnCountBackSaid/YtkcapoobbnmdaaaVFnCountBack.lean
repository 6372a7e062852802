/-
  The walk of the law FnCountBack: there are as many paths back.
-/
import Derived.Test.YtkcapoobbnmdaaaFE
import Derived.Test.YtkcapoobbnmdaaaWO
namespace Go.Proofs.Ytkcapoobbnmdaaa.fnCountBack
open Go.RowKit

set_option maxRecDepth 100000 in
set_option maxHeartbeats 4000000 in
theorem walk (A : Option Addr) (cp : Nat) (bs : List Int) (w : World) (hr : RdB w w.heap.size A bs) (hl : bs.length ≤ 9223372036854775807 ∧ bs.length ≤ cp) :
    Calls Try.prog 14 #[.slice A bs.length cp] w fun e w' => e = .returned (.bool true) ∧ Below w.heap.size w w' := by
  obtain ⟨hl, hcp⟩ := hl
  by_cases h20 : bs.length ≤ 1048576
  · go_enter Try.func14, Try.ntmps14
    go_wp2_with fail
    refine (drawPathCount_any A cp bs _ hr hl hcp).mono ?_
    rintro e w1 ⟨nd, A2, cp2, ls, x, y, rfl, hg⟩
    have S := LS.of_drawn (nd := nd) hg
    have hlen := S.len
    clear hr hg
    go_wp2_with fail
    refine (gCnt_any nd A2 cp2 ls x y _ (by omega) S.rd).mono ?_
    rintro e w2 ⟨rfl, hb2⟩
    have S2 := S.on hb2
    have c0 := S2.c0
    have c1 := S2.c1
    clear S hb2
    go_wp2_with fail
    refine (sgCnt_any nd A2 cp2 ls x y _ (by omega) S2.rd).mono ?_
    rintro e w3 ⟨rfl, hb3⟩
    have S3 := S2.on hb3
    clear S2 hb3 c0 c1
    have c0 := S3.c0
    have c1 := S3.c1
    by_cases h : Valid nd ls ∧ Nd nd x ∧ Nd nd y
    · rw [cntO_yes h]
      have HB : Hid (∀ wx, RdL wx wx.heap.size A2 ls → Calls Try.prog 33 #[.agg #[.int .i64 nd, .slice A2 ls.length cp2], .int .i64 y, .int .i64 x] wx fun e w' => e = .returned (.int .i64 (cnt nd ls x y : Nat)) ∧ Below wx.heap.size wx w') := fun wx hr => by
        have := gCnt_any nd A2 cp2 ls y x wx (by omega) hr
        rwa [cntO_yes ⟨h.1, h.2.2, h.2.1⟩, cnt_back h.1 h.2.1 h.2.2] at this
      have t0 : decide ((cnt nd ls x y : Int) < 0) = false := by rw [decide_eq_false_iff_not]; omega
      generalize cnt nd ls x y = n at *
      go_wp2_with fail
      refine (HB.out _ S3.rd).mono ?_
      rintro e w4 ⟨rfl, hb4⟩
      go_wp2_with fail
      go_ret
      exact ⟨rfl, (S3.on hb4).bl⟩
    · rw [cntO_no h]
      go_wp2_with fail
      go_ret
      exact ⟨rfl, S3.bl⟩
  · have h20' : (1048576 : Int) < (bs.length : Int) := by omega
    go_enter Try.func14, Try.ntmps14
    go_wp2_with fail
    go_ret
    exact ⟨rfl, Below.refl _ _⟩

end Go.Proofs.Ytkcapoobbnmdaaa.fnCountBack
