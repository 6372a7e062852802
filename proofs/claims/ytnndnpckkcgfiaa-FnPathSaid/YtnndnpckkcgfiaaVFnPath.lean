/-
  The walk of the law FnPath: a path leads along links, and costs the distance.
-/
import Derived.Test.YtnndnpckkcgfiaaFD
import Derived.Test.YtnndnpckkcgfiaaWO
import Derived.Test.YtnndnpckkcgfiaaEB
import Derived.Deep.RegionHeld3
namespace Go.Proofs.Ytnndnpckkcgfiaa.fnPath
open Go.RowKit

set_option maxRecDepth 100000 in
set_option maxHeartbeats 4000000 in
theorem walk (A : Option Addr) (cp : Nat) (bs : List Int) (w : World) (hr : RdB w w.heap.size A bs) (hl : bs.length ≤ 9223372036854775807 ∧ bs.length ≤ cp) :
    Calls Try.prog 13 #[.slice A bs.length cp] w fun e w' => e = .returned (.bool true) ∧ Below w.heap.size w w' := by
  obtain ⟨hl, hcp⟩ := hl
  by_cases h20 : bs.length ≤ 1048576
  · go_enter Try.func13, Try.ntmps13
    go_wp2_with fail
    refine (drawShortestPath_any A cp bs _ hr hl hcp).mono ?_
    rintro e w1 ⟨nd, A2, cp2, ls, x, y, rfl, hg⟩
    have S := LS.of_drawn (nd := nd) hg
    have hlen := S.len
    have hdl : (pathO nd ls x y).length ≤ 4481 := pathO_len _ _ _ _
    clear hr hg
    go_wp2_with fail
    refine (gPath_any nd A2 cp2 ls x y _ (by omega) S.rd).mono ?_
    rintro e w2 ⟨⟨B, cb, rfl, ho2⟩, hb2⟩
    have S2 := S.on hb2
    have r2 := ho2.rd
    have c0 := S2.c0
    have c1 := S2.c1
    clear S hb2 ho2
    go_wp2_with fail
    refine (sgPath_any nd A2 cp2 ls x y _ (by omega) S2.rd).mono ?_
    rintro e w3 ⟨⟨C, cc, rfl, ho3⟩, hb3⟩
    have S3 := S2.on hb3
    have r3 := r2.on hb3
    have q3 := ho3.rd
    clear S2 hb3 c0 c1 ho3 r2
    have c0 := S3.c0
    have c1 := S3.c1
    go_wp2_with fail
    refine (sameI_yes B C cb cc _ _ (by omega) r3 q3).mono ?_
    rintro e w4 ⟨rfl, hb4⟩
    have S4 := S3.on hb4
    have r4 := r3.on hb4
    have q4 := q3.on hb4
    clear S3 hb4 c0 c1 r3 q3
    have c0 := S4.c0
    have c1 := S4.c1
    by_cases h : (Valid nd ls ∧ Nd nd x ∧ Nd nd y) ∧ 0 ≤ D nd ls y x
    · obtain ⟨⟨hv, hx, hy⟩, hd⟩ := h
      rw [pathO_yes ⟨hv, hx, hy⟩, pathP_yes hd] at r4 q4 hdl ⊢
      have hpos := path_pos hv hx hy hd
      have ne0 : (((path nd ls x y).length : Int) == 0) = false := by rw [beq_eq_false_iff_ne]; omega
      have hp0 := path_head hv hx hy hd
      have hp1 := path_last hv hx hy hd
      have HM : Hid (∀ j : Nat, j + 1 < (path nd ls x y).length → ∃ kk : Nat, lkIx ls (Ix (path nd ls x y) j) (Ix (path nd ls x y) (j + 1)) = kk ∧ kk < ls.length ∧ D nd ls y (Ix (path nd ls x y) (j + 1)) + Lc ls kk = D nd ls y (Ix (path nd ls x y) j)) := fun j hj => by
        obtain ⟨h0, h1⟩ := path_cost hv hx hy hd hj
        obtain ⟨kk, hkk⟩ := Int.eq_ofNat_of_zero_le h0
        have hr := lkIx_range ls (Ix (path nd ls x y) j) (Ix (path nd ls x y) (j + 1))
        rw [hkk, Int.toNat_natCast] at h1
        exact ⟨kk, hkk, by omega, h1⟩
      have HB : Hid (∀ v, -1 ≤ D nd ls y v ∧ D nd ls y v ≤ 4480) := fun v => D_bd hv y v
      have HS : Hid (D nd ls x y = D nd ls y x - D nd ls y y) := by show D nd ls x y = _; rw [D_self hv hy, D_symm hv hx hy]; omega
      have HD : Hid (∀ wx, RdL wx wx.heap.size A2 ls → Calls Try.prog 20 #[.agg #[.int .i64 nd, .slice A2 ls.length cp2], .int .i64 x, .int .i64 y] wx fun e w' => e = .returned (.int .i64 (D nd ls y x - D nd ls y y)) ∧ Below wx.heap.size wx w') := fun wx hr => by
        rw [← HS.out]; exact distL_any hv hx hy A2 cp2 wx hr
      have HG : Hid (∀ a b wx, RdL wx wx.heap.size A2 ls → Calls Try.prog 39 #[.agg #[.int .i64 nd, .slice A2 ls.length cp2], .int .i64 a, .int .i64 b] wx fun e w' => e = .returned (.int .i64 (lkIx ls a b)) ∧ Below wx.heap.size wx w') := fun a b wx hr => gLink_yes hv A2 cp2 a b wx hr
      clear q4 HS hd
      generalize path nd ls x y = R at *
      generalize D nd ls y = Dy at *
      generalize w1.heap.size = G at *
      go_wp2_with fail
      go_loopw [8, 9] (fun s i wr => ∃ k : Nat, (k + 1 ≤ R.length) ∧ s = .int .i64 (Dy x - Dy (Ix R k)) ∧ i = .int .i64 (k + 1 : Nat) ∧ LS w wr G nd A2 cp2 ls ∧ RdI wr wr.heap.size B R) (fun _ i _ => R.length - (intOf i).toNat)
      case atStart => exact ⟨0, by omega, by rw [hp0]; simp, rfl, S4, r4⟩
      case round =>
        obtain ⟨k, hk, rfl, rfl, S, rd⟩ := hrel
        clear S4 r4 c0 c1
        have c0 := S.c0
        have c1 := S.c1
        by_cases hlt : k + 1 < R.length
        · obtain ⟨kk, hkk, hkl, hcost⟩ := HM.out k hlt
          obtain ⟨bg, bo, hB, hbg, hbc⟩ := rd (by omega)
          obtain rfl := hB
          have m1 := hbc k (by omega)
          have m2 := hbc (k + 1) hlt
          have BX : Below wr.heap.size wr wr.drew := (Below.refl _ _).drew
          have H1 : Hid (∀ wx, Below wr.heap.size wr wx → Calls Try.prog 39 #[.agg #[.int .i64 nd, .slice A2 ls.length cp2], .int .i64 (Ix R k), .int .i64 (Ix R (k + 1))] wx fun e w' => e = .returned (.int .i64 kk) ∧ Below wx.heap.size wx w') := fun wx hb => by
            rw [← hkk]; exact HG.out _ _ wx (S.on hb).rd
          have b0 := HB.out x
          have b1 := HB.out (Ix R k)
          have b2 := HB.out (Ix R (k + 1))
          clear hbc hkk
          have hrel' : ∀ s : Int, s = Dy x - Dy (Ix R k) + Lc ls kk → s = Dy x - Dy (Ix R (k + 1)) := fun s hs => by omega
          have HREL := Lib.hid hrel'
          clear hrel'
          generalize hda : Dy (Ix R k) = da at *
          generalize hdb : Dy (Ix R (k + 1)) = db at *
          clear hda
          generalize hdx : Dy x = dx at *
          generalize Ix R k = a at *
          generalize hb' : Ix R (k + 1) = b at *
          have q1 : (0 : Int) ≤ (k : Int) := by omega
          have q2 : (k : Int) + 1 < (R.length : Int) := by omega
          have q4 : (k : Int) < (R.length : Int) := by omega
          have q5 : (0 : Int) ≤ (k : Int) + 1 := by omega
          have q6 : IntKind.i64.wrap (k : Int) = (k : Int) := IntWalk.i64_in _ (by omega)
          have q3 : IntKind.i64.wrap ((k : Int) + 1 - 1) = (k : Int) := by rw [show (k : Int) + 1 - 1 = k from by omega]; exact IntWalk.i64_in _ (by omega)
          go_wp2_with fail
          go_region_held3 (fun w' => w'.cell? ⟨G, 0, none⟩ = some (.int .i64 nd) ∧ w'.cell? ⟨G, 1, none⟩ = some (.slice A2 ls.length cp2) ∧ w'.cell? ⟨bg, bo + k, none⟩ = some (.int .i64 a) ∧ w'.cell? ⟨bg, bo + (k + 1), none⟩ = some (.int .i64 b)) (go_keep)
            ((go_at_call 39; refine (H1.out _ BX).mono ?_; rintro e w6 ⟨rfl, hb6⟩; have BY := bthen BX hb6; have e0 := ckeep c0 BY; have e1 := ckeep c1 BY; have e2 := ckeep m1 BY; have e3 := ckeep m2 BY))
          all_goals
            have S6 := S.on BY
            have rd6 := rd.on BY
            clear S rd c0 m1 m2 e0 e2 e3 c1 e1 BX BY hb6 H1
            obtain ⟨ga, go, hA, hga, hgc⟩ := S6.rd (by omega)
            obtain rfl := hA
            have m3 := (hgc kk hkl).2.2
            have c1 := S6.c1
            clear hgc
            have i0 : (0 : Int) ≤ (kk : Int) := by omega
            have i1 : (kk : Int) < (ls.length : Int) := by omega
            have i2 : decide ((kk : Int) < 0) = false := by rw [decide_eq_false_iff_not]; omega
            have HR2 := Lib.hid (HREL.out _ rfl)
            have q7 : IntKind.i64.wrap (dx - da + Lc ls kk) = dx - da + Lc ls kk := IntWalk.i64_in _ (by omega)
            generalize Lc ls kk = c at *
            go_wp2_with fail
            go_roundw
            case rel => exact ⟨k + 1, by omega, congrArg (Value.int .i64) (by rw [hb', hdb, ← HR2.out]), by go_num, S6, rd6⟩
            case measure => simp [intOf]; omega
        · obtain ⟨bg, bo, hB, hbg, hbc⟩ := rd (by omega)
          obtain rfl := hB
          have m1 := hbc 0 (by omega)
          have m2 := hbc (R.length - 1) (by omega)
          rw [hp0, Nat.add_zero] at m1
          rw [hp1] at m2
          have hkR : R.length - 1 = k := by omega
          rw [hkR] at hp1 m2
          have hRk : R.length = k + 1 := by omega
          rw [hp1, hRk]
          have q1 : (0 : Int) ≤ (k : Int) := by omega
          have q6 : IntKind.i64.wrap (k : Int) = (k : Int) := IntWalk.i64_in _ (by omega)
          have q3 : IntKind.i64.wrap ((k : Int) + 1 - 1) = (k : Int) := by rw [show (k : Int) + 1 - 1 = k from by omega]; exact IntWalk.i64_in _ (by omega)
          have tx : (x == x) = true := by simp
          have ty : (y == y) = true := by simp
          clear hbc hp0 hp1
          go_wp2_with fail
          refine (HD.out _ S.rd).mono ?_
          rintro e w6 ⟨rfl, hb6⟩
          go_wp2_with fail
          go_ret
          exact ⟨by simp, (S.on hb6).bl⟩
    · have e0 : pathO nd ls x y = [] := by
        by_cases h' : Valid nd ls ∧ Nd nd x ∧ Nd nd y
        · rw [pathO_yes h']; exact pathP_no (fun hd => h ⟨h', hd⟩)
        · exact pathO_no h'
      rw [e0] at r4 q4 hdl ⊢
      clear e0
      go_wp2_with fail
      refine (sameI_yes B C cb cc _ _ (by omega) r4 q4).mono ?_
      rintro e w5 ⟨rfl, hb5⟩
      go_wp2_with fail
      go_ret
      exact ⟨rfl, (S4.on hb5).bl⟩
  · have h20' : (1048576 : Int) < (bs.length : Int) := by omega
    go_enter Try.func13, Try.ntmps13
    go_wp2_with fail
    go_ret
    exact ⟨rfl, Below.refl _ _⟩

end Go.Proofs.Ytnndnpckkcgfiaa.fnPath
