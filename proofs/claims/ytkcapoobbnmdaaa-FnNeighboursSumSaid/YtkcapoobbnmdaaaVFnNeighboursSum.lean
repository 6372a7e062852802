/-
  The walk of the law FnNeighboursSum: each link is counted twice.
-/
import Derived.Test.YtkcapoobbnmdaaaWO
import Derived.Test.YtkcapoobbnmdaaaFB
namespace Go.Proofs.Ytkcapoobbnmdaaa.fnNeighboursSum
open Go.RowKit

set_option maxRecDepth 100000 in
set_option maxHeartbeats 4000000 in
theorem walk (A : Option Addr) (cp : Nat) (bs : List Int) (w : World) (hr : RdB w w.heap.size A bs) (hl : bs.length ≤ 9223372036854775807 ∧ bs.length ≤ cp) :
    Calls Try.prog 6 #[.slice A bs.length cp] w fun e w' => e = .returned (.bool true) ∧ Below w.heap.size w w' := by
  obtain ⟨hl, hcp⟩ := hl
  by_cases h20 : bs.length ≤ 1048576
  · go_enter Try.func6, Try.ntmps6
    go_wp2_with fail
    refine (drawGraphValid_any A cp bs _ hr hl hcp).mono ?_
    rintro e w1 ⟨nd, A2, cp2, ls, rfl, hg⟩
    have S := LS.of_drawn (nd := nd) hg
    have hlen := S.len
    clear hr hg
    by_cases hv : Valid nd ls
    · go_wp2_with fail
      refine (gv_yes hv A2 cp2 _ S.rd).mono ?_
      rintro e w2 ⟨rfl, hb2⟩
      have S2 := S.on hb2
      have c0 := S2.c0
      have c1 := S2.c1
      clear S hb2
      go_wp2_with fail
      refine (sgv_yes hv A2 cp2 _ S2.rd).mono ?_
      rintro e w3 ⟨rfl, hb3⟩
      have S3 := S2.on hb3
      clear S2 hb3 c0 c1
      have c0 := S3.c0
      have c1 := S3.c1
      have hn1 := hv.1
      have hn8 := hv.2.1
      have HG : Hid (∀ m wx, RdL wx wx.heap.size A2 ls → Calls Try.prog 36 #[.agg #[.int .i64 nd, .slice A2 ls.length cp2], .int .i64 m] wx (RI (nbr nd ls m) wx)) := fun m wx hr => by
        have := gNbr_any nd A2 cp2 ls m wx (by omega) hr
        rwa [nbrO_yes hv] at this
      have HE : Hid (sumTo (fun x => (nbr nd ls x).length) nd.toNat = 2 * ls.length) := nbr_sum hv
      have HS : Hid (∀ k : Nat, (k : Int) ≤ nd → sumTo (fun x => (nbr nd ls x).length) k ≤ 2 * ls.length) := fun k hk => by
        have := sumTo_mono (f := fun x : Nat => (nbr nd ls x).length) (show k ≤ nd.toNat by omega)
        rw [nbr_sum hv] at this
        exact this
      have HT : Hid (∀ k : Nat, sumTo (fun x => (nbr nd ls x).length) (k + 1) = sumTo (fun x => (nbr nd ls x).length) k + (nbr nd ls (k : Int)).length) := fun k => rfl
      have HZ : Hid (sumTo (fun x => (nbr nd ls x).length) 0 = 0) := rfl
      generalize (sumTo fun x => (nbr nd ls x).length) = F at *
      generalize w1.heap.size = G at *
      go_wp2_with fail
      go_loopw [6, 7] (fun n i wr => ∃ j : Nat, (j : Int) ≤ nd ∧ n = .int .i64 (F j : Nat) ∧ i = .int .i64 j ∧ LS w wr G nd A2 cp2 ls) (fun _ i _ => nd.toNat - (intOf i).toNat)
      case atStart => exact ⟨0, by omega, by rw [HZ.out]; rfl, rfl, S3⟩
      case round =>
        obtain ⟨j, hj, rfl, rfl, S⟩ := hrel
        clear S3 c0 c1
        have c0 := S.c0
        have c1 := S.c1
        by_cases hlt : (j : Int) < nd
        · have hs := HS.out (j + 1) (by omega)
          have ht := HT.out j
          rw [ht] at hs
          have HN := Lib.hid (HG.out (j : Int))
          generalize nbr nd ls (j : Int) = R at *
          generalize F j = f0 at *
          go_wp2_with fail
          refine (HN.out _ S.rd).mono ?_
          rintro e w4 ⟨⟨B, cb, rfl, ho4⟩, hb4⟩
          go_wp2_with fail
          go_roundw
          case rel => exact ⟨j + 1, by omega, by rw [ht]; go_num, by go_num, S.on hb4⟩
          case measure => simp [intOf]; omega
        · have he : F j = 2 * ls.length := by rw [← HE.out, show j = nd.toNat by omega]
          rw [he]
          go_wp2_with fail
          go_ret
          exact ⟨by simp, S.bl⟩
    · go_wp2_with fail
      refine (gv_no hv A2 cp2 _ (by omega) S.rd).mono ?_
      rintro e w2 ⟨rfl, hb2⟩
      have S2 := S.on hb2
      have c0 := S2.c0
      have c1 := S2.c1
      clear S hb2
      go_wp2_with fail
      refine (sgv_no hv A2 cp2 _ (by omega) S2.rd).mono ?_
      rintro e w3 ⟨rfl, hb3⟩
      go_wp2_with fail
      go_ret
      exact ⟨rfl, (S2.on hb3).bl⟩
  · have h20' : (1048576 : Int) < (bs.length : Int) := by omega
    go_enter Try.func6, Try.ntmps6
    go_wp2_with fail
    go_ret
    exact ⟨rfl, Below.refl _ _⟩

end Go.Proofs.Ytkcapoobbnmdaaa.fnNeighboursSum
