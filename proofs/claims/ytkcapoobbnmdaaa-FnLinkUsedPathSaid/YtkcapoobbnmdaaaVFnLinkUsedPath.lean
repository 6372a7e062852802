/-
  The walk of the law FnLinkUsedPath: all links of a shortest path are used.
-/
import Derived.Test.YtkcapoobbnmdaaaFD
import Derived.Test.YtkcapoobbnmdaaaWO
import Derived.Test.YtkcapoobbnmdaaaEC
import Derived.Test.YtkcapoobbnmdaaaPF
import Derived.Deep.RegionHeld3
namespace Go.Proofs.Ytkcapoobbnmdaaa.fnLinkUsedPath
open Go.RowKit

set_option maxRecDepth 100000 in
set_option maxHeartbeats 4000000 in
theorem walk (A : Option Addr) (cp : Nat) (bs : List Int) (w : World) (hr : RdB w w.heap.size A bs) (hl : bs.length ≤ 9223372036854775807 ∧ bs.length ≤ cp) :
    Calls Try.prog 3 #[.slice A bs.length cp] w fun e w' => e = .returned (.bool true) ∧ Below w.heap.size w w' := by
  obtain ⟨hl, hcp⟩ := hl
  by_cases h20 : bs.length ≤ 1048576
  · go_enter Try.func3, Try.ntmps3
    go_wp2_with fail
    refine (drawShortestPath_any A cp bs _ hr hl hcp).mono ?_
    rintro e w1 ⟨nd, A2, cp2, ls, x, y, rfl, hg⟩
    have S := LS.of_drawn (nd := nd) hg
    have hlen := S.len
    have hdl : (pathO nd ls x y).length ≤ 4481 := pathO_len _ _ _ _
    clear hr hg
    go_wp2_with fail
    refine (gPath_any nd A2 cp2 ls x y _ (by omega) S.rd).mono ?_
    rintro e w2 ⟨⟨B, cb, rfl, ho2⟩, hb2⟩
    have S2 := S.on hb2
    have r2 := ho2.rd
    have c0 := S2.c0
    have c1 := S2.c1
    clear S hb2 ho2
    go_wp2_with fail
    refine (sgPath_any nd A2 cp2 ls x y _ (by omega) S2.rd).mono ?_
    rintro e w3 ⟨⟨C, cc, rfl, ho3⟩, hb3⟩
    have S3 := S2.on hb3
    have r3 := r2.on hb3
    have q3 := ho3.rd
    clear S2 hb3 c0 c1 ho3 r2
    have c0 := S3.c0
    have c1 := S3.c1
    go_wp2_with fail
    refine (sameI_yes B C cb cc _ _ (by omega) r3 q3).mono ?_
    rintro e w4 ⟨rfl, hb4⟩
    have S4 := S3.on hb4
    have r4 := r3.on hb4
    have q4 := q3.on hb4
    clear S3 hb4 c0 c1 r3 q3
    have c0 := S4.c0
    have c1 := S4.c1
    by_cases h : (Valid nd ls ∧ Nd nd x ∧ Nd nd y) ∧ 0 ≤ D nd ls y x
    · obtain ⟨⟨hv, hx, hy⟩, hd⟩ := h
      rw [pathO_yes ⟨hv, hx, hy⟩, pathP_yes hd] at r4 q4 hdl ⊢
      have hpos := path_pos hv hx hy hd
      have ne0 : (((path nd ls x y).length : Int) == 0) = false := by rw [beq_eq_false_iff_ne]; omega
      have HM : Hid (∀ j : Nat, j + 1 < (path nd ls x y).length → ∃ kk : Nat, lkIx ls (Ix (path nd ls x y) j) (Ix (path nd ls x y) (j + 1)) = kk ∧ luO nd ls x y kk = true) := fun j hj => by
        have hP := path_at hv hx hy hd j (by omega)
        obtain ⟨_, _, hm, _⟩ := path_next hv hy hP hj
        have hu := OnR.used hv hx hy hP.on hm
        obtain ⟨c, ha, _⟩ := (mem_hops hv).1 hm
        have h0 := ((adj_iff hv).1 ha).1
        obtain ⟨kk, hkk⟩ := Int.eq_ofNat_of_zero_le h0
        have hr := lkIx_range ls (Ix (path nd ls x y) j) (Ix (path nd ls x y) (j + 1))
        refine ⟨kk, hkk, ?_⟩
        rw [luO_yes ⟨hv, hx, hy, ⟨by omega, by omega⟩⟩, Int.toNat_natCast]
        rwa [hkk, Int.toNat_natCast] at hu
      have HG : Hid (∀ a b wx, RdL wx wx.heap.size A2 ls → Calls Try.prog 20 #[.agg #[.int .i64 nd, .slice A2 ls.length cp2], .int .i64 a, .int .i64 b] wx fun e w' => e = .returned (.int .i64 (lkIx ls a b)) ∧ Below wx.heap.size wx w') := fun a b wx hr => gLink_yes hv A2 cp2 a b wx hr
      have HU : Hid (∀ (kk : Nat) wx, RdL wx wx.heap.size A2 ls → Calls Try.prog 19 #[.agg #[.int .i64 nd, .slice A2 ls.length cp2], .int .i64 x, .int .i64 y, .int .i64 kk] wx fun e w' => e = .returned (.bool (luO nd ls x y kk)) ∧ Below wx.heap.size wx w') := fun kk wx hr => gLinkUsed_any nd A2 cp2 ls x y kk wx (by omega) hr
      clear q4
      generalize path nd ls x y = R at *
      generalize w1.heap.size = G at *
      go_wp2_with fail
      go_loopw [8] (fun i wr => ∃ k : Nat, (k + 1 ≤ R.length) ∧ i = .int .i64 (k + 1 : Nat) ∧ LS w wr G nd A2 cp2 ls ∧ RdI wr wr.heap.size B R) (fun i _ => R.length - (intOf i).toNat)
      case atStart => exact ⟨0, by omega, rfl, S4, r4⟩
      case round =>
        obtain ⟨k, hk, rfl, S, rd⟩ := hrel
        clear S4 r4 c0 c1
        have c0 := S.c0
        have c1 := S.c1
        by_cases hlt : k + 1 < R.length
        · obtain ⟨kk, hkk, hu⟩ := HM.out k hlt
          obtain ⟨bg, bo, hB, hbg, hbc⟩ := rd (by omega)
          obtain rfl := hB
          have m1 := hbc k (by omega)
          have m2 := hbc (k + 1) hlt
          have BX : Below wr.heap.size wr wr.drew := (Below.refl _ _).drew
          have H1 : Hid (∀ wx, Below wr.heap.size wr wx → Calls Try.prog 20 #[.agg #[.int .i64 nd, .slice A2 ls.length cp2], .int .i64 (Ix R k), .int .i64 (Ix R (k + 1))] wx fun e w' => e = .returned (.int .i64 kk) ∧ Below wx.heap.size wx w') := fun wx hb => by
            rw [← hkk]; exact HG.out _ _ wx (S.on hb).rd
          have H2 : Hid (∀ wx, Below wr.heap.size wr wx → Calls Try.prog 19 #[.agg #[.int .i64 nd, .slice A2 ls.length cp2], .int .i64 x, .int .i64 y, .int .i64 kk] wx fun e w' => e = .returned (.bool true) ∧ Below wx.heap.size wx w') := fun wx hb => by
            rw [← hu]; exact HU.out kk wx (S.on hb).rd
          clear hbc hkk hu
          generalize Ix R k = a at *
          generalize Ix R (k + 1) = b at *
          have q1 : (0 : Int) ≤ (k : Int) := by omega
          have q2 : (k : Int) + 1 < (R.length : Int) := by omega
          have q4 : (k : Int) < (R.length : Int) := by omega
          have q5 : (0 : Int) ≤ (k : Int) + 1 := by omega
          have q6 : IntKind.i64.wrap (k : Int) = (k : Int) := IntWalk.i64_in _ (by omega)
          have q3 : IntKind.i64.wrap ((k : Int) + 1 - 1) = (k : Int) := by rw [show (k : Int) + 1 - 1 = k from by omega]; exact IntWalk.i64_in _ (by omega)
          go_wp2_with fail
          go_region_held3 (fun w' => w'.cell? ⟨G, 0, none⟩ = some (.int .i64 nd) ∧ w'.cell? ⟨G, 1, none⟩ = some (.slice A2 ls.length cp2) ∧ w'.cell? ⟨bg, bo + k, none⟩ = some (.int .i64 a) ∧ w'.cell? ⟨bg, bo + (k + 1), none⟩ = some (.int .i64 b)) (go_keep)
            (first
              | (go_at_call 20; refine (H1.out _ BX).mono ?_; rintro e w6 ⟨rfl, hb6⟩; have BY := bthen BX hb6; have e0 := ckeep c0 BY; have e1 := ckeep c1 BY; have e2 := ckeep m1 BY; have e3 := ckeep m2 BY)
              | (go_at_call 19; refine (H2.out _ BY).mono ?_; rintro e w7 ⟨rfl, hb7⟩; have BZ := bthen BY hb7; have e0 := ckeep c0 BZ; have e1 := ckeep c1 BZ; have e2 := ckeep m1 BZ; have e3 := ckeep m2 BZ))
          all_goals
            go_wp2_with fail
            go_roundw
            case rel => exact ⟨k + 1, by omega, by go_num, S.on BZ, rd.on BZ⟩
            case measure => simp [intOf]; omega
        · go_wp2_with fail
          go_ret
          exact ⟨rfl, S.bl⟩
    · have e0 : pathO nd ls x y = [] := by
        by_cases h' : Valid nd ls ∧ Nd nd x ∧ Nd nd y
        · rw [pathO_yes h']; exact pathP_no (fun hd => h ⟨h', hd⟩)
        · exact pathO_no h'
      rw [e0] at r4 q4 hdl ⊢
      clear e0
      go_wp2_with fail
      refine (sameI_yes B C cb cc _ _ (by omega) r4 q4).mono ?_
      rintro e w5 ⟨rfl, hb5⟩
      go_wp2_with fail
      go_ret
      exact ⟨rfl, (S4.on hb5).bl⟩
  · have h20' : (1048576 : Int) < (bs.length : Int) := by omega
    go_enter Try.func3, Try.ntmps3
    go_wp2_with fail
    go_ret
    exact ⟨rfl, Below.refl _ _⟩

end Go.Proofs.Ytkcapoobbnmdaaa.fnLinkUsedPath
