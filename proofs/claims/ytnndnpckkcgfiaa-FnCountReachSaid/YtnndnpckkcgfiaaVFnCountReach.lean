/-
  The walk of the law FnCountReach: there are paths to the reachable nodes.
-/
import Derived.Test.YtnndnpckkcgfiaaFE
import Derived.Test.YtnndnpckkcgfiaaWO
import Derived.Test.YtnndnpckkcgfiaaEB
namespace Go.Proofs.Ytnndnpckkcgfiaa.fnCountReach
open Go.RowKit

set_option maxRecDepth 100000 in
set_option maxHeartbeats 4000000 in
theorem walk (A : Option Addr) (cp : Nat) (bs : List Int) (w : World) (hr : RdB w w.heap.size A bs) (hl : bs.length ≤ 9223372036854775807 ∧ bs.length ≤ cp) :
    Calls Try.prog 8 #[.slice A bs.length cp] w fun e w' => e = .returned (.bool true) ∧ Below w.heap.size w w' := by
  obtain ⟨hl, hcp⟩ := hl
  by_cases h20 : bs.length ≤ 1048576
  · go_enter Try.func8, Try.ntmps8
    go_wp2_with fail
    refine (drawPathCount_any A cp bs _ hr hl hcp).mono ?_
    rintro e w1 ⟨nd, A2, cp2, ls, x, y, rfl, hg⟩
    have S := LS.of_drawn (nd := nd) hg
    have hlen := S.len
    clear hr hg
    go_wp2_with fail
    refine (gCnt_any nd A2 cp2 ls x y _ (by omega) S.rd).mono ?_
    rintro e w2 ⟨rfl, hb2⟩
    have S2 := S.on hb2
    have c0 := S2.c0
    have c1 := S2.c1
    clear S hb2
    go_wp2_with fail
    refine (sgCnt_any nd A2 cp2 ls x y _ (by omega) S2.rd).mono ?_
    rintro e w3 ⟨rfl, hb3⟩
    have S3 := S2.on hb3
    clear S2 hb3 c0 c1
    have c0 := S3.c0
    have c1 := S3.c1
    by_cases h : Valid nd ls ∧ Nd nd x ∧ Nd nd y
    · rw [cntO_yes h]
      have hp := cnt_pos h.1 h.2.2 h.2.1
      have he : decide (y ∈ rch nd ls x) = decide (0 < (cnt nd ls x y : Int)) := by
        rw [Bool.eq_iff_iff, decide_eq_true_eq, decide_eq_true_eq, rch_mem, D_symm h.1 h.2.1 h.2.2]
        constructor
        · intro hh; have := hp.2 hh.2.2; omega
        · intro hh; exact ⟨h.2.2.1, h.2.2.2, hp.1 (by omega)⟩
      have hl8 : (rch nd ls x).length ≤ 8 := by
        have := upTo_le (rchB nd ls x) nd.toNat
        have := h.1.2.1
        unfold rch
        omega
      have HR : Hid (∀ wx, RdL wx wx.heap.size A2 ls → Calls Try.prog 41 #[.agg #[.int .i64 nd, .slice A2 ls.length cp2], .int .i64 x] wx (RI (rch nd ls x) wx)) := fun wx hr => by
        have := gReach_any nd A2 cp2 ls x wx (by omega) hr
        rwa [rchO_yes ⟨h.1, h.2.1⟩] at this
      have t0 : decide ((cnt nd ls x y : Int) < 0) = false := by rw [decide_eq_false_iff_not]; omega
      generalize cnt nd ls x y = n at *
      generalize rch nd ls x = R at *
      have HI : Hid (∀ (E : Option Addr) ce wx, RdI wx wx.heap.size E R → Calls Try.prog 40 #[.slice E R.length ce, .int .i64 y] wx fun e w' => e = .returned (.bool (decide (0 < (n : Int)))) ∧ Below wx.heap.size wx w') := fun E ce wx hr => by
        rw [← he]; exact hasI_any E ce R y wx (by omega) hr
      clear he hp
      go_wp2_with fail
      refine (HR.out _ S3.rd).mono ?_
      rintro e w4 ⟨⟨E, ce, rfl, oE⟩, hb4⟩
      go_wp2_with fail
      refine (HI.out E ce _ oE.rd).mono ?_
      rintro e w5 ⟨rfl, hb5⟩
      go_wp2_with fail
      go_ret
      exact ⟨by simp, ((S3.on hb4).on hb5).bl⟩
    · rw [cntO_no h]
      go_wp2_with fail
      go_ret
      exact ⟨rfl, S3.bl⟩
  · have h20' : (1048576 : Int) < (bs.length : Int) := by omega
    go_enter Try.func8, Try.ntmps8
    go_wp2_with fail
    go_ret
    exact ⟨rfl, Below.refl _ _⟩

end Go.Proofs.Ytnndnpckkcgfiaa.fnCountReach
