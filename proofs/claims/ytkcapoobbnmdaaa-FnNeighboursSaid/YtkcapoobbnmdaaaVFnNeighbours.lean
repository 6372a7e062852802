/-
  The walk of the law FnNeighbours: neighbours are linked nodes.
-/
import Derived.Test.YtkcapoobbnmdaaaFB
import Derived.Test.YtkcapoobbnmdaaaWO
import Derived.Test.YtkcapoobbnmdaaaEB
import Derived.Deep.RegionHeld3
namespace Go.Proofs.Ytkcapoobbnmdaaa.fnNeighbours
open Go.RowKit

set_option maxRecDepth 100000 in
set_option maxHeartbeats 4000000 in
theorem walk (A : Option Addr) (cp : Nat) (bs : List Int) (w : World) (hr : RdB w w.heap.size A bs) (hl : bs.length ≤ 9223372036854775807 ∧ bs.length ≤ cp) :
    Calls Try.prog 8 #[.slice A bs.length cp] w fun e w' => e = .returned (.bool true) ∧ Below w.heap.size w w' := by
  obtain ⟨hl, hcp⟩ := hl
  by_cases h20 : bs.length ≤ 1048576
  · go_enter Try.func8, Try.ntmps8
    go_wp2_with fail
    refine (drawGraphNeighbours_any A cp bs _ hr hl hcp).mono ?_
    rintro e w1 ⟨nd, A2, cp2, ls, x, rfl, hg⟩
    have S := LS.of_drawn (nd := nd) hg
    have hlen := S.len
    have hdl : (nbrO nd ls x).length ≤ 14 := Nat.le_trans (nbrO_8 _ _ _) (by omega)
    clear hr hg
    go_wp2_with fail
    refine (gNbr_any nd A2 cp2 ls x _ (by omega) S.rd).mono ?_
    rintro e w2 ⟨⟨B, cb, rfl, ho2⟩, hb2⟩
    have S2 := S.on hb2
    have r2 := ho2.rd
    have c0 := S2.c0
    have c1 := S2.c1
    clear S hb2 ho2
    go_wp2_with fail
    refine (sgNbr_any nd A2 cp2 ls x _ (by omega) S2.rd).mono ?_
    rintro e w3 ⟨⟨C, cc, rfl, ho3⟩, hb3⟩
    have S3 := S2.on hb3
    have r3 := r2.on hb3
    have q3 := ho3.rd
    clear S2 hb3 c0 c1 ho3 r2
    have c0 := S3.c0
    have c1 := S3.c1
    go_wp2_with fail
    refine (sameI_yes B C cb cc _ _ (by omega) r3 q3).mono ?_
    rintro e w4 ⟨rfl, hb4⟩
    have S4 := S3.on hb4
    have r4 := r3.on hb4
    have q4 := q3.on hb4
    clear S3 hb4 c0 c1 r3 q3
    have c0 := S4.c0
    have c1 := S4.c1
    by_cases hv : Valid nd ls
    · go_wp2_with fail
      refine (sgv_yes hv A2 cp2 _ S4.rd).mono ?_
      rintro e w5 ⟨rfl, hb5⟩
      have S5 := S4.on hb5
      have r5 := r4.on hb5
      have q5 := q4.on hb5
      clear S4 r4 q4 c0 c1 hb5
      have c0 := S5.c0
      have c1 := S5.c1
      rw [nbrO_yes hv] at r5 q5 hdl ⊢
      have hn8 := hv.2.1
      have HM : Hid (∀ j : Nat, (j : Int) < nd → decide ((j : Int) ∈ nbr nd ls x) = decide (0 ≤ lkIx ls x j)) := fun j hj => by
        rw [Bool.eq_iff_iff, decide_eq_true_eq, decide_eq_true_eq, mem_nbr hv]
        exact (lkIx_adj hv).symm
      have HQ := Lib.hid (show (nbr nd ls x).Pairwise (· < ·) from upTo_pw _ _)
      have HG : Hid (∀ b wx, RdL wx wx.heap.size A2 ls → Calls Try.prog 20 #[.agg #[.int .i64 nd, .slice A2 ls.length cp2], .int .i64 x, .int .i64 b] wx fun e w' => e = .returned (.int .i64 (lkIx ls x b)) ∧ Below wx.heap.size wx w') := fun b wx hr => gLink_yes hv A2 cp2 x b wx hr
      have hn1 := hv.1
      clear q5
      generalize nbr nd ls x = R at *
      generalize w1.heap.size = G at *
      go_wp2_with fail
      go_loopw [7] (fun i wr => ∃ j : Nat, (j : Int) ≤ nd ∧ i = .int .i64 j ∧ LS w wr G nd A2 cp2 ls ∧ RdI wr wr.heap.size B R) (fun i _ => nd.toNat - (intOf i).toNat)
      case atStart => exact ⟨0, by omega, rfl, S5, r5⟩
      case round =>
        obtain ⟨j, hj, rfl, S, rd⟩ := hrel
        clear S5 r5 c0 c1
        have c0 := S.c0
        have c1 := S.c1
        by_cases hlt : (j : Int) < nd
        · have BX : Below wr.heap.size wr wr.drew := (Below.refl _ _).drew
          have HMj := Lib.hid (HM.out j hlt)
          have H1 : Hid (∀ wx, Below wr.heap.size wr wx → Calls Try.prog 20 #[.agg #[.int .i64 nd, .slice A2 ls.length cp2], .int .i64 x, .int .i64 j] wx fun e w' => e = .returned (.int .i64 (lkIx ls x j)) ∧ Below wx.heap.size wx w') := fun wx hb => HG.out _ wx (S.on hb).rd
          have H2 : Hid (∀ wx, Below wr.heap.size wr wx → Calls Try.prog 32 #[.slice B R.length cb, .int .i64 j] wx fun e w' => e = .returned (.bool (decide (0 ≤ lkIx ls x j))) ∧ Below wx.heap.size wx w') := fun wx hb => by
            rw [← HMj.out]; exact hasI_any B cb R j wx (by omega) (rd.on hb)
          clear HMj
          generalize lkIx ls x j = z at *
          have tb : (decide (0 ≤ z) != decide (0 ≤ z)) = false := by simp
          go_wp2_with fail
          go_region_held3 (fun w' => w'.cell? ⟨G, 0, none⟩ = some (.int .i64 nd) ∧ w'.cell? ⟨G, 1, none⟩ = some (.slice A2 ls.length cp2)) (go_keep)
            (first
              | (go_at_call 20; refine (H1.out _ BX).mono ?_; rintro e w6 ⟨rfl, hb6⟩; have BX := bthen BX hb6; have e0 := ckeep c0 BX; have e1 := ckeep c1 BX)
              | (go_at_call 32; refine (H2.out _ BX).mono ?_; rintro e w6 ⟨rfl, hb6⟩; have BX := bthen BX hb6; have e0 := ckeep c0 BX; have e1 := ckeep c1 BX))
          all_goals
            go_wp2_with fail
            go_roundw
            case rel => exact ⟨j + 1, by omega, by go_num, S.on BX, rd.on BX⟩
            case measure => simp [intOf]; omega
        · go_wp2_with fail
          refine (asc_any B cb R _ (by omega) HQ.out rd).mono ?_
          rintro e w7 ⟨rfl, hb7⟩
          go_wp2_with fail
          go_ret
          exact ⟨rfl, bthen S.bl hb7⟩
    · go_wp2_with fail
      refine (sgv_no hv A2 cp2 _ (by omega) S4.rd).mono ?_
      rintro e w5 ⟨rfl, hb5⟩
      have S5 := S4.on hb5
      have r5 := r4.on hb5
      have q5 := q4.on hb5
      clear S4 r4 q4 c0 c1 hb5
      go_wp2_with fail
      refine (sameI_yes B C cb cc _ _ (by omega) r5 q5).mono ?_
      rintro e w6 ⟨rfl, hb6⟩
      go_wp2_with fail
      go_ret
      exact ⟨rfl, (S5.on hb6).bl⟩
  · have h20' : (1048576 : Int) < (bs.length : Int) := by omega
    go_enter Try.func8, Try.ntmps8
    go_wp2_with fail
    go_ret
    exact ⟨rfl, Below.refl _ _⟩

end Go.Proofs.Ytkcapoobbnmdaaa.fnNeighbours
