/-
  The walk of the law FnNodeUsedPath: all nodes of a shortest path are used.
-/
import Derived.Test.YtnndnpckkcgfiaaFD
import Derived.Test.YtnndnpckkcgfiaaWO
import Derived.Test.YtnndnpckkcgfiaaDH
import Derived.Deep.RegionHeld3
namespace Go.Proofs.Ytnndnpckkcgfiaa.fnNodeUsedPath
open Go.RowKit

set_option maxRecDepth 100000 in
set_option maxHeartbeats 4000000 in
theorem walk (A : Option Addr) (cp : Nat) (bs : List Int) (w : World) (hr : RdB w w.heap.size A bs) (hl : bs.length ≤ 9223372036854775807 ∧ bs.length ≤ cp) :
    Calls Try.prog 9 #[.slice A bs.length cp] w fun e w' => e = .returned (.bool true) ∧ Below w.heap.size w w' := by
  obtain ⟨hl, hcp⟩ := hl
  by_cases h20 : bs.length ≤ 1048576
  · go_enter Try.func9, Try.ntmps9
    go_wp2_with fail
    refine (drawShortestPath_any A cp bs _ hr hl hcp).mono ?_
    rintro e w1 ⟨nd, A2, cp2, ls, x, y, rfl, hg⟩
    have S := LS.of_drawn (nd := nd) hg
    have hlen := S.len
    have hdl : (pathO nd ls x y).length ≤ 4481 := pathO_len _ _ _ _
    clear hr hg
    go_wp2_with fail
    refine (gPath_any nd A2 cp2 ls x y _ (by omega) S.rd).mono ?_
    rintro e w2 ⟨⟨B, cb, rfl, ho2⟩, hb2⟩
    have S2 := S.on hb2
    have r2 := ho2.rd
    have c0 := S2.c0
    have c1 := S2.c1
    clear S hb2 ho2
    go_wp2_with fail
    refine (sgPath_any nd A2 cp2 ls x y _ (by omega) S2.rd).mono ?_
    rintro e w3 ⟨⟨C, cc, rfl, ho3⟩, hb3⟩
    have S3 := S2.on hb3
    have r3 := r2.on hb3
    have q3 := ho3.rd
    clear S2 hb3 c0 c1 ho3 r2
    have c0 := S3.c0
    have c1 := S3.c1
    go_wp2_with fail
    refine (sameI_yes B C cb cc _ _ (by omega) r3 q3).mono ?_
    rintro e w4 ⟨rfl, hb4⟩
    have S4 := S3.on hb4
    have r4 := r3.on hb4
    have q4 := q3.on hb4
    clear S3 hb4 c0 c1 r3 q3
    have c0 := S4.c0
    have c1 := S4.c1
    by_cases h : (Valid nd ls ∧ Nd nd x ∧ Nd nd y) ∧ 0 ≤ D nd ls y x
    · obtain ⟨⟨hv, hx, hy⟩, hd⟩ := h
      rw [pathO_yes ⟨hv, hx, hy⟩, pathP_yes hd] at r4 q4 hdl ⊢
      have hpos := path_pos hv hx hy hd
      have ne0 : (((path nd ls x y).length : Int) == 0) = false := by rw [beq_eq_false_iff_ne]; omega
      have HU : Hid (∀ j : Nat, j < (path nd ls x y).length → ∀ wx, RdL wx wx.heap.size A2 ls → Calls Try.prog 16 #[.agg #[.int .i64 nd, .slice A2 ls.length cp2], .int .i64 x, .int .i64 y, .int .i64 (Ix (path nd ls x y) j)] wx fun e w' => e = .returned (.bool true) ∧ Below wx.heap.size wx w') := fun j hj wx hr => by
        have hP := path_at hv hx hy hd j hj
        have := nodeUsed_any nd A2 cp2 ls x y (Ix (path nd ls x y) j) wx (by omega) hr
        rwa [nuO_yes ⟨hv, hx, hy, hP.nd'⟩, OnR.nused hP.on] at this
      clear q4
      generalize path nd ls x y = R at *
      generalize w1.heap.size = G at *
      go_wp2_with fail
      go_loopw [8] (fun i wr => ∃ k : Nat, k ≤ R.length ∧ i = .int .i64 k ∧ LS w wr G nd A2 cp2 ls ∧ RdI wr wr.heap.size B R) (fun i _ => R.length - (intOf i).toNat)
      case atStart => exact ⟨0, by omega, rfl, S4, r4⟩
      case round =>
        obtain ⟨k, hk, rfl, S, rd⟩ := hrel
        clear S4 r4 c0 c1
        have c0 := S.c0
        have c1 := S.c1
        by_cases hlt : k < R.length
        · obtain ⟨bg, bo, hB, hbg, hbc⟩ := rd (by omega)
          obtain rfl := hB
          have m1 := hbc k hlt
          have H1 := Lib.hid (HU.out k hlt)
          clear hbc
          generalize Ix R k = a at *
          have q1 : (0 : Int) ≤ (k : Int) := by omega
          have q2 : (k : Int) < (R.length : Int) := by omega
          go_wp2_with fail
          go_region_held3 (fun w' => w'.cell? ⟨G, 0, none⟩ = some (.int .i64 nd) ∧ w'.cell? ⟨G, 1, none⟩ = some (.slice A2 ls.length cp2) ∧ w'.cell? ⟨bg, bo + k, none⟩ = some (.int .i64 a)) (go_keep)
            (first
              | (go_at_call 16; refine (H1.out _ (S.on (Below.refl _ _).drew).rd).mono ?_; rintro e w6 ⟨rfl, hb6⟩; have BX := (Below.refl _ _).drew.trans hb6; have e0 := ckeepD c0 hb6; have e1 := ckeepD c1 hb6; have e2 := ckeepD m1 hb6))
          all_goals
            go_wp2_with fail
            go_roundw
            case rel => exact ⟨k + 1, by omega, by go_num, S.on BX, rd.on BX⟩
            case measure => simp [intOf]; omega
        · go_wp2_with fail
          go_ret
          exact ⟨rfl, S.bl⟩
    · have e0 : pathO nd ls x y = [] := by
        by_cases h' : Valid nd ls ∧ Nd nd x ∧ Nd nd y
        · rw [pathO_yes h']; exact pathP_no (fun hd => h ⟨h', hd⟩)
        · exact pathO_no h'
      rw [e0] at r4 q4 hdl ⊢
      clear e0
      go_wp2_with fail
      refine (sameI_yes B C cb cc _ _ (by omega) r4 q4).mono ?_
      rintro e w5 ⟨rfl, hb5⟩
      go_wp2_with fail
      go_ret
      exact ⟨rfl, (S4.on hb5).bl⟩
  · have h20' : (1048576 : Int) < (bs.length : Int) := by omega
    go_enter Try.func9, Try.ntmps9
    go_wp2_with fail
    go_ret
    exact ⟨rfl, Below.refl _ _⟩

end Go.Proofs.Ytnndnpckkcgfiaa.fnNodeUsedPath
