/-
  The walk of the law FnPathOnce: a path visits each node once.
-/
import Derived.Test.YtnndnpckkcgfiaaFD
import Derived.Test.YtnndnpckkcgfiaaWO
import Derived.Test.YtnndnpckkcgfiaaEB
import Derived.Test.YtnndnpckkcgfiaaFC
import Derived.Deep.RegionHeld3
namespace Go.Proofs.Ytnndnpckkcgfiaa.fnPathOnce
open Go.RowKit

theorem own_capI {w : World} {base : Nat} {A : Option Addr} {cp : Nat} {xs : List Int} (h : OwI w base A cp xs) : xs.length ≤ cp := by
  rcases h.2 with ⟨hv, h0⟩ | ⟨g, cap, cur, hv, _, _, hn, _⟩
  · omega
  · simp only [Value.slice.injEq] at hv
    obtain ⟨_, _, rfl⟩ := hv
    exact hn

set_option maxRecDepth 100000 in
set_option maxHeartbeats 4000000 in
theorem walk (A : Option Addr) (cp : Nat) (bs : List Int) (w : World) (hr : RdB w w.heap.size A bs) (hl : bs.length ≤ 9223372036854775807 ∧ bs.length ≤ cp) :
    Calls Try.prog 12 #[.slice A bs.length cp] w fun e w' => e = .returned (.bool true) ∧ Below w.heap.size w w' := by
  obtain ⟨hl, hcp⟩ := hl
  by_cases h20 : bs.length ≤ 1048576
  · go_enter Try.func12, Try.ntmps12
    go_wp2_with fail
    refine (drawShortestPath_any A cp bs _ hr hl hcp).mono ?_
    rintro e w1 ⟨nd, A2, cp2, ls, x, y, rfl, hg⟩
    have S := LS.of_drawn (nd := nd) hg
    have hlen := S.len
    have hdl : (pathO nd ls x y).length ≤ 4481 := pathO_len _ _ _ _
    clear hr hg
    go_wp2_with fail
    refine (gPath_any nd A2 cp2 ls x y _ (by omega) S.rd).mono ?_
    rintro e w2 ⟨⟨B, cb, rfl, ho2⟩, hb2⟩
    have hcb := own_capI ho2
    have S2 := S.on hb2
    have r2 := ho2.rd
    have c0 := S2.c0
    have c1 := S2.c1
    clear S hb2 ho2
    go_wp2_with fail
    refine (sgPath_any nd A2 cp2 ls x y _ (by omega) S2.rd).mono ?_
    rintro e w3 ⟨⟨C, cc, rfl, ho3⟩, hb3⟩
    have S3 := S2.on hb3
    have r3 := r2.on hb3
    have q3 := ho3.rd
    clear S2 hb3 c0 c1 ho3 r2
    have c0 := S3.c0
    have c1 := S3.c1
    go_wp2_with fail
    refine (sameI_yes B C cb cc _ _ (by omega) r3 q3).mono ?_
    rintro e w4 ⟨rfl, hb4⟩
    have S4 := S3.on hb4
    have r4 := r3.on hb4
    have q4 := q3.on hb4
    clear S3 hb4 c0 c1 r3 q3
    have c0 := S4.c0
    have c1 := S4.c1
    by_cases h : (Valid nd ls ∧ Nd nd x ∧ Nd nd y) ∧ 0 ≤ D nd ls y x
    · obtain ⟨⟨hv, hx, hy⟩, hd⟩ := h
      rw [pathO_yes ⟨hv, hx, hy⟩, pathP_yes hd] at r4 q4 hdl hcb ⊢
      have hpos := path_pos hv hx hy hd
      have ne0 : (((path nd ls x y).length : Int) == 0) = false := by rw [beq_eq_false_iff_ne]; omega
      have HO : Hid (∀ j, j + 1 < (path nd ls x y).length → decide (Ix (path nd ls x y) (j + 1) ∈ (path nd ls x y).take (j + 1)) = false) := fun j hj => decide_eq_false (path_once hv hx hy hd hj)
      have HH : Hid (∀ j, j + 1 < (path nd ls x y).length → ∃ H : List Int, 0 < H.length ∧ H.length ≤ 8 ∧ Ix H 0 = Ix (path nd ls x y) (j + 1) ∧ ∀ wx, RdL wx wx.heap.size A2 ls → Calls Try.prog 24 #[.agg #[.int .i64 nd, .slice A2 ls.length cp2], .int .i64 (Ix (path nd ls x y) j), .int .i64 y] wx (RI H wx)) := fun j hj => by
        have hP := path_at hv hx hy hd j (by omega)
        obtain ⟨hne, h1, _, _⟩ := path_next hv hy hP hj
        have h8 := hopsO_8 nd ls (Ix (path nd ls x y) j) y
        rw [hopsO_yes ⟨hv, hP.nd', hy⟩] at h8
        refine ⟨hops nd ls (Ix (path nd ls x y) j) y, hops_some hv hP.nd' hy hne hP.far, h8, h1.symm, fun wx hr => ?_⟩
        have := gHops_any nd A2 cp2 ls (Ix (path nd ls x y) j) y wx (by omega) hr
        rwa [hopsO_yes ⟨hv, hP.nd', hy⟩] at this
      clear q4 hd
      generalize path nd ls x y = R at *
      generalize w1.heap.size = G at *
      go_wp2_with fail
      go_loopw [8] (fun i wr => ∃ k : Nat, (k + 1 ≤ R.length) ∧ i = .int .i64 (k + 1 : Nat) ∧ LS w wr G nd A2 cp2 ls ∧ RdI wr wr.heap.size B R) (fun i _ => R.length - (intOf i).toNat)
      case atStart => exact ⟨0, by omega, rfl, S4, r4⟩
      case round =>
        obtain ⟨k, hk, rfl, S, rd⟩ := hrel
        clear S4 r4 c0 c1
        have c0 := S.c0
        have c1 := S.c1
        by_cases hlt : k + 1 < R.length
        · have hon := HO.out k hlt
          obtain ⟨H, hH0, hH8, hH1, hHc⟩ := HH.out k hlt
          have HHC := Lib.hid hHc
          obtain ⟨bg, bo, hB, hbg, hbc⟩ := rd (by omega)
          obtain rfl := hB
          have m1 := hbc k (by omega)
          have m2 := hbc (k + 1) hlt
          have BX : Below wr.heap.size wr wr.drew := (Below.refl _ _).drew
          have hlt1 : (R.take (k + 1)).length = k + 1 := by rw [List.length_take]; omega
          have RT : RdI wr wr.heap.size (some ⟨bg, bo, none⟩) (R.take (k + 1)) := fun _ => ⟨bg, bo, rfl, hbg, fun j hj => by
            rw [hlt1] at hj
            have e : Ix (R.take (k + 1)) j = Ix R j := by unfold Ix; simp [List.getD_eq_getElem?_getD, hj]
            rw [e]
            exact hbc j (by omega)⟩
          have H0 : Hid (∀ wx, Below wr.heap.size wr wx → Calls Try.prog 40 #[.slice (some ⟨bg, bo, none⟩) (k + 1) cb, .int .i64 (Ix R (k + 1))] wx fun e w' => e = .returned (.bool false) ∧ Below wx.heap.size wx w') := fun wx hb => by
            have := hasI_any (some ⟨bg, bo, none⟩) cb (R.take (k + 1)) (Ix R (k + 1)) wx (by omega) (RT.on hb)
            rwa [hlt1, hon] at this
          have H1 : Hid (∀ wx, Below wr.heap.size wr wx → Calls Try.prog 24 #[.agg #[.int .i64 nd, .slice A2 ls.length cp2], .int .i64 (Ix R k), .int .i64 y] wx (RI H wx)) := fun wx hb => HHC.out wx (S.on hb).rd
          clear hbc hon RT hHc HHC hlt1
          generalize Ix R k = a at *
          generalize Ix R (k + 1) = b at *
          have q1 : (0 : Int) ≤ (k : Int) := by omega
          have q2 : (k : Int) + 1 < (R.length : Int) := by omega
          have q4 : (k : Int) < (R.length : Int) := by omega
          have q5 : (0 : Int) ≤ (k : Int) + 1 := by omega
          have q8 : (k : Int) + 1 ≤ (cb : Int) := by omega
          have q9 : (k : Int) + 1 ≤ (R.length : Int) := by omega
          have q6 : IntKind.i64.wrap (k : Int) = (k : Int) := IntWalk.i64_in _ (by omega)
          have q3 : IntKind.i64.wrap ((k : Int) + 1 - 1) = (k : Int) := by rw [show (k : Int) + 1 - 1 = k from by omega]; exact IntWalk.i64_in _ (by omega)
          go_wp2_with fail
          refine wp_region_held_drew (S := fun w' => w'.cell? ⟨G, 0, none⟩ = some (.int .i64 nd) ∧ w'.cell? ⟨G, 1, none⟩ = some (.slice A2 ls.length cp2) ∧ w'.cell? ⟨bg, bo + k, none⟩ = some (.int .i64 a) ∧ w'.cell? ⟨bg, bo + (k + 1), none⟩ = some (.int .i64 b)) (by kernel_rfl) ?_ (fun hHeld1_0 => ?_)
          · exact ⟨ckeep c0 BX, ckeep c1 BX, ckeep m1 BX, ckeep m2 BX⟩
          refine wpAnyH_take (i := 0) (v := ?v1_0) rfl (by kernel_rfl) (by kernel_rfl) (by kernel_rfl) (fun _ _ _ h => h) (Or.inl ⟨by kernel_rfl, ?y1_0⟩) (by assumption) ?r1_0
          case y1_0 => intro w hSw; (try dsimp only at hSw); go_simp; (try with_reducible rfl)
          try simp only [Act.put, List.setIfInBounds_toArray]
          refine wpAnyH_take (i := 1) (v := ?v1_1) rfl (by kernel_rfl) (by kernel_rfl) (by kernel_rfl) (fun _ _ _ h => h) (Or.inl ⟨by kernel_rfl, ?y1_1⟩) (by assumption) ?r1_1
          case y1_1 => intro w hSw; (try dsimp only at hSw); go_simp; (try with_reducible rfl)
          try simp only [Act.put]
          refine wpAnyH_take (i := 2) (v := ?v1_2) rfl (by kernel_rfl) (by kernel_rfl) (by kernel_rfl) (fun _ _ _ h => h) (Or.inl ⟨by kernel_rfl, ?y1_2⟩) (by assumption) ?r1_2
          case y1_2 => intro w hSw; (try dsimp only at hSw); go_simp; (try with_reducible rfl)
          try simp only [Act.put]
          refine wpAnyH_take (i := 3) (v := ?v1_3) rfl (by kernel_rfl) (by kernel_rfl) (by kernel_rfl) (fun _ _ _ h => h) (Or.inl ⟨by kernel_rfl, ?y1_3⟩) (by assumption) ?r1_3
          case y1_3 => intro w hSw; (try dsimp only at hSw); go_simp; (try with_reducible rfl)
          try simp only [Act.put]
          refine wpAnyH_take (i := 4) (v := ?v1_4) rfl (by kernel_rfl) (by kernel_rfl) (by kernel_rfl) (fun _ _ _ h => h) (Or.inl ⟨by kernel_rfl, ?y1_4⟩) (by assumption) ?r1_4
          case y1_4 => intro w hSw; (try dsimp only at hSw); go_simp; (try with_reducible rfl)
          try simp only [Act.put]
          refine wpAnyH_take (i := 5) (v := ?v1_5) rfl (by kernel_rfl) (by kernel_rfl) (by kernel_rfl) (fun _ _ _ h => h) (Or.inl ⟨by kernel_rfl, ?y1_5⟩) (by assumption) ?r1_5
          case y1_5 => intro w hSw; (try dsimp only at hSw); go_simp; (try with_reducible rfl)
          try simp only [Act.put]
          refine wpAnyH_take (i := 6) (v := ?v1_6) rfl (by kernel_rfl) (by kernel_rfl) (by kernel_rfl) (fun _ _ _ h => h) (Or.inl ⟨by kernel_rfl, ?y1_6⟩) (by assumption) ?r1_6
          case y1_6 => intro w hSw; (try dsimp only at hSw); go_simp; (try with_reducible rfl)
          try simp only [Act.put]
          refine wpAnyH_ready (rs := [7]) (by kernel_rfl) (by simp) ?_
          refine AllReadyH.cons rfl (fun K hK => ?_) AllReadyH.nil
          go_simp
          (go_at_call 40; refine (H0.out _ BX).mono ?_; rintro e w6 ⟨rfl, hb6⟩; have BX := bthen BX hb6)
          go_wp2_with fail
          refine hK.out _ _ ?_ (fun hHeld1_1 => ?_)
          · exact ⟨ckeep c0 BX, ckeep c1 BX, ckeep m1 BX, ckeep m2 BX⟩
          clear hK K
          try simp only [Act.put, List.setIfInBounds_toArray]
          refine wpAnyH_take (i := 8) (v := ?v1_8) rfl (by kernel_rfl) (by kernel_rfl) (by kernel_rfl) (fun _ _ _ h => h) (Or.inl ⟨by kernel_rfl, ?y1_8⟩) (by assumption) ?r1_8
          case y1_8 => intro w hSw; (try dsimp only at hSw); go_simp; (try with_reducible rfl)
          try simp only [Act.put]
          refine wpAnyH_take (i := 9) (v := ?v1_9) rfl (by kernel_rfl) (by kernel_rfl) (by kernel_rfl) (fun _ _ _ h => h) (Or.inl ⟨by kernel_rfl, ?y1_9⟩) (by assumption) ?r1_9
          case y1_9 => intro w hSw; (try dsimp only at hSw); go_simp; (try with_reducible rfl)
          try simp only [Act.put]
          refine wpAnyH_take (i := 10) (v := ?v1_10) rfl (by kernel_rfl) (by kernel_rfl) (by kernel_rfl) (fun _ _ _ h => h) (Or.inl ⟨by kernel_rfl, ?y1_10⟩) (by assumption) ?r1_10
          case y1_10 => intro w hSw; (try dsimp only at hSw); go_simp; (try with_reducible rfl)
          try simp only [Act.put]
          refine wpAnyH_take (i := 11) (v := ?v1_11) rfl (by kernel_rfl) (by kernel_rfl) (by kernel_rfl) (fun _ _ _ h => h) (Or.inl ⟨by kernel_rfl, ?y1_11⟩) (by assumption) ?r1_11
          case y1_11 => intro w hSw; (try dsimp only at hSw); go_simp; (try with_reducible rfl)
          try simp only [Act.put]
          refine wpAnyH_take (i := 12) (v := ?v1_12) rfl (by kernel_rfl) (by kernel_rfl) (by kernel_rfl) (fun _ _ _ h => h) (Or.inl ⟨by kernel_rfl, ?y1_12⟩) (by assumption) ?r1_12
          case y1_12 => intro w hSw; (try dsimp only at hSw); go_simp; (try with_reducible rfl)
          try simp only [Act.put]
          refine wpAnyH_take (i := 13) (v := ?v1_13) rfl (by kernel_rfl) (by kernel_rfl) (by kernel_rfl) (fun _ _ _ h => h) (Or.inl ⟨by kernel_rfl, ?y1_13⟩) (by assumption) ?r1_13
          case y1_13 => intro w hSw; (try dsimp only at hSw); go_simp; (try with_reducible rfl)
          try simp only [Act.put]
          refine wpAnyH_take (i := 14) (v := ?v1_14) rfl (by kernel_rfl) (by kernel_rfl) (by kernel_rfl) (fun _ _ _ h => h) (Or.inl ⟨by kernel_rfl, ?y1_14⟩) (by assumption) ?r1_14
          case y1_14 => intro w hSw; (try dsimp only at hSw); go_simp; (try with_reducible rfl)
          try simp only [Act.put]
          refine wpAnyH_take (i := 15) (v := ?v1_15) rfl (by kernel_rfl) (by kernel_rfl) (by kernel_rfl) (fun _ _ _ h => h) (Or.inl ⟨by kernel_rfl, ?y1_15⟩) (by assumption) ?r1_15
          case y1_15 => intro w hSw; (try dsimp only at hSw); go_simp; (try with_reducible rfl)
          try simp only [Act.put]
          refine wpAnyH_take (i := 19) (v := ?v1_19) rfl (by kernel_rfl) (by kernel_rfl) (by kernel_rfl) (fun _ _ _ h => h) (Or.inl ⟨by kernel_rfl, ?y1_19⟩) (by assumption) ?r1_19
          case y1_19 => intro w hSw; (try dsimp only at hSw); go_simp; (try with_reducible rfl)
          try simp only [Act.put]
          refine wpAnyH_take (i := 20) (v := ?v1_20) rfl (by kernel_rfl) (by kernel_rfl) (by kernel_rfl) (fun _ _ _ h => h) (Or.inl ⟨by kernel_rfl, ?y1_20⟩) (by assumption) ?r1_20
          case y1_20 => intro w hSw; (try dsimp only at hSw); go_simp; (try with_reducible rfl)
          try simp only [Act.put]
          refine wpAnyH_take (i := 21) (v := ?v1_21) rfl (by kernel_rfl) (by kernel_rfl) (by kernel_rfl) (fun _ _ _ h => h) (Or.inl ⟨by kernel_rfl, ?y1_21⟩) (by assumption) ?r1_21
          case y1_21 => intro w hSw; (try dsimp only at hSw); go_simp; (try with_reducible rfl)
          try simp only [Act.put]
          refine wpAnyH_take (i := 22) (v := ?v1_22) rfl (by kernel_rfl) (by kernel_rfl) (by kernel_rfl) (fun _ _ _ h => h) (Or.inl ⟨by kernel_rfl, ?y1_22⟩) (by assumption) ?r1_22
          case y1_22 => intro w hSw; (try dsimp only at hSw); go_simp; (try with_reducible rfl)
          try simp only [Act.put]
          refine wpAnyH_ready (rs := [16]) (by kernel_rfl) (by simp) ?_
          refine AllReadyH.cons rfl (fun K hK => ?_) AllReadyH.nil
          go_simp
          (go_at_call 24; refine (H1.out _ BX).mono ?_; rintro e w7 ⟨⟨E, ce, rfl, oE⟩, hb7⟩; have BX := bthen BX hb7; obtain ⟨eg, eo, hE, heg, hec⟩ := oE.rd hH0; obtain rfl := hE; have x1 := hec 0 hH0; rw [hH1, Nat.add_zero] at x1; have z0 : (0 : Int) < (H.length : Int) := (by omega); clear hec)
          go_wp2_with fail
          refine hK.out _ _ ?_ (fun hHeld1_2 => ?_)
          · exact ⟨ckeep c0 BX, ckeep c1 BX, ckeep m1 BX, ckeep m2 BX⟩
          clear hK K
          try simp only [Act.put, List.setIfInBounds_toArray]
          refine wpAnyH_take (i := 17) (v := ?v1_17) rfl (by kernel_rfl) (by kernel_rfl) (by kernel_rfl) (fun _ _ _ h => h) (Or.inl ⟨by kernel_rfl, ?y1_17⟩) (by assumption) ?r1_17
          case y1_17 => intro w hSw; (try dsimp only at hSw); go_simp; (try with_reducible rfl)
          try simp only [Act.put]
          refine wpAnyH_ready (rs := [18]) (by kernel_rfl) (by simp) ?_
          refine AllReadyH.cons rfl (fun K hK => ?_) AllReadyH.nil
          go_simp
          refine hK.out _ _ ?_ (fun hHeld1_3 => ?_)
          · exact ⟨ckeep c0 BX, ckeep c1 BX, ckeep m1 BX, ckeep m2 BX⟩
          clear hK K
          try simp only [Act.put, List.setIfInBounds_toArray]
          refine wpAnyH_take (i := 23) (v := ?v1_23) rfl (by kernel_rfl) (by kernel_rfl) (by kernel_rfl) (fun _ _ _ h => h) (Or.inl ⟨by kernel_rfl, ?y1_23⟩) (by assumption) ?r1_23
          case y1_23 => intro w hSw; (try dsimp only at hSw); go_simp; (try with_reducible rfl)
          try simp only [Act.put]
          refine wpAnyH_take (i := 24) (v := ?v1_24) rfl (by kernel_rfl) (by kernel_rfl) (by kernel_rfl) (fun _ _ _ h => h) (Or.inl ⟨by kernel_rfl, ?y1_24⟩) (by assumption) ?r1_24
          case y1_24 => intro w hSw; (try dsimp only at hSw); go_simp; (try with_reducible rfl)
          simp only [Act.put, List.getElem_toArray, List.getElem_cons_succ, List.getElem_cons_zero, List.setIfInBounds_toArray, List.set_cons_zero, List.set_cons_succ]
          refine wpAnyH_done (by kernel_rfl) ?_ _
          go_wp2_with fail
          go_roundw
          case rel => exact ⟨k + 1, by omega, by go_num, S.on BX, rd.on BX⟩
          case measure => simp [intOf]; omega
        · go_wp2_with fail
          go_ret
          exact ⟨rfl, S.bl⟩
    · have e0 : pathO nd ls x y = [] := by
        by_cases h' : Valid nd ls ∧ Nd nd x ∧ Nd nd y
        · rw [pathO_yes h']; exact pathP_no (fun hd => h ⟨h', hd⟩)
        · exact pathO_no h'
      rw [e0] at r4 q4 hdl ⊢
      clear e0
      go_wp2_with fail
      refine (sameI_yes B C cb cc _ _ (by omega) r4 q4).mono ?_
      rintro e w5 ⟨rfl, hb5⟩
      go_wp2_with fail
      go_ret
      exact ⟨rfl, (S4.on hb5).bl⟩
  · have h20' : (1048576 : Int) < (bs.length : Int) := by omega
    go_enter Try.func12, Try.ntmps12
    go_wp2_with fail
    go_ret
    exact ⟨rfl, Below.refl _ _⟩

end Go.Proofs.Ytnndnpckkcgfiaa.fnPathOnce
