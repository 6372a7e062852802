/-
  The walk of the law FnCount: paths are counted over the next hops.
-/
import Derived.Test.YtnndnpckkcgfiaaFE
import Derived.Test.YtnndnpckkcgfiaaWO
import Derived.Test.YtnndnpckkcgfiaaFC
import Derived.Deep.RegionHeld3
namespace Go.Proofs.Ytnndnpckkcgfiaa.fnCount
open Go.RowKit

set_option maxRecDepth 100000 in
set_option maxHeartbeats 4000000 in
theorem walk (A : Option Addr) (cp : Nat) (bs : List Int) (w : World) (hr : RdB w w.heap.size A bs) (hl : bs.length ≤ 9223372036854775807 ∧ bs.length ≤ cp) :
    Calls Try.prog 4 #[.slice A bs.length cp] w fun e w' => e = .returned (.bool true) ∧ Below w.heap.size w w' := by
  obtain ⟨hl, hcp⟩ := hl
  by_cases h20 : bs.length ≤ 1048576
  · go_enter Try.func4, Try.ntmps4
    go_wp2_with fail
    refine (drawPathCount_any A cp bs _ hr hl hcp).mono ?_
    rintro e w1 ⟨nd, A2, cp2, ls, x, y, rfl, hg⟩
    have S := LS.of_drawn (nd := nd) hg
    have hlen := S.len
    clear hr hg
    go_wp2_with fail
    refine (gCnt_any nd A2 cp2 ls x y _ (by omega) S.rd).mono ?_
    rintro e w2 ⟨rfl, hb2⟩
    have S2 := S.on hb2
    have c0 := S2.c0
    have c1 := S2.c1
    clear S hb2
    go_wp2_with fail
    refine (sgCnt_any nd A2 cp2 ls x y _ (by omega) S2.rd).mono ?_
    rintro e w3 ⟨rfl, hb3⟩
    have S3 := S2.on hb3
    clear S2 hb3 c0 c1
    have c0 := S3.c0
    have c1 := S3.c1
    by_cases h : Valid nd ls ∧ Nd nd x ∧ Nd nd y
    · rw [cntO_yes h]
      by_cases hxy : x = y
      · subst hxy
        have e1 := cnt_self h.1 h.2.1
        have te : (x == x) = true := by simp
        rw [e1]
        go_wp2_with fail
        go_ret
        exact ⟨rfl, S3.bl⟩
      · have te : (x == y) = false := by rw [beq_eq_false_iff_ne]; exact hxy
        have t0 : decide ((cnt nd ls x y : Int) < 0) = false := by rw [decide_eq_false_iff_not]; omega
        have hl8 := hopsO_8 nd ls x y
        rw [hopsO_yes h] at hl8
        have hbd := cnt_bd h.1 h.2.2 h.2.1
        have HN : Hid (∀ wx, RdL wx wx.heap.size A2 ls → Calls Try.prog 24 #[.agg #[.int .i64 nd, .slice A2 ls.length cp2], .int .i64 x, .int .i64 y] wx (RI (hops nd ls x y) wx)) := fun wx hr => by
          have := gHops_any nd A2 cp2 ls x y wx (by omega) hr
          rwa [hopsO_yes h] at this
        have HC : Hid (∀ j, j < (hops nd ls x y).length → ∀ wx, RdL wx wx.heap.size A2 ls → Calls Try.prog 21 #[.agg #[.int .i64 nd, .slice A2 ls.length cp2], .int .i64 (Ix (hops nd ls x y) j), .int .i64 y] wx fun e w' => e = .returned (.int .i64 (cnt nd ls (Ix (hops nd ls x y) j) y : Nat)) ∧ Below wx.heap.size wx w') := fun j hj wx hr => by
          have := gCnt_any nd A2 cp2 ls (Ix (hops nd ls x y) j) y wx (by omega) hr
          rwa [cntO_yes ⟨h.1, (hop_facts h.1 (Ix_mem hj)).2.1, h.2.2⟩] at this
        obtain ⟨F, F0, FS, FE, FL⟩ : ∃ F : Nat → Nat, F 0 = 0 ∧ (∀ k, F (k + 1) = F k + cnt nd ls (Ix (hops nd ls x y) k) y) ∧ F (hops nd ls x y).length = cnt nd ls x y ∧ (∀ k, k ≤ (hops nd ls x y).length → F k ≤ cnt nd ls x y) :=
          ⟨cntTo nd ls x y, rfl, fun k => cntTo_succ nd ls x y k, (cnt_step h.1 hxy).symm, fun k hk => cntTo_le h.1 hxy hk⟩
        have HFS := Lib.hid FS
        have HFL := Lib.hid FL
        have HFE := Lib.hid FE
        clear FS FL FE hxy
        generalize cnt nd ls x y = n at *
        generalize hops nd ls x y = R at *
        generalize w1.heap.size = G at *
        go_wp2_with fail
        refine (HN.out _ S3.rd).mono ?_
        rintro e w4 ⟨⟨E, ce, rfl, oE⟩, hb4⟩
        have S4 := S3.on hb4
        have rE := oE.rd
        clear S3 hb4 c0 c1 oE
        go_wp2_with fail
        go_loopw [8, 10] (fun s i wr => ∃ k : Nat, k ≤ R.length ∧ s = .int .i64 (F k : Nat) ∧ i = .int .i64 k ∧ LS w wr G nd A2 cp2 ls ∧ RdI wr wr.heap.size E R) (fun _ i _ => R.length - (intOf i).toNat)
        case atStart => exact ⟨0, Nat.zero_le _, by rw [F0]; rfl, rfl, S4, rE⟩
        case round =>
          obtain ⟨k, hk, rfl, rfl, S, rd⟩ := hrel
          clear S4 rE
          have c0 := S.c0
          have c1 := S.c1
          by_cases hlt : k < R.length
          · obtain ⟨bg, bo, hB, hbg, hbc⟩ := rd (by omega)
            obtain rfl := hB
            have m1 := hbc k hlt
            have H1 := Lib.hid (HC.out k hlt)
            have hs := HFS.out k
            have hb1 := HFL.out (k + 1) (by omega)
            rw [hs] at hb1
            clear hbc
            generalize cnt nd ls (Ix R k) y = c at *
            generalize Ix R k = a at *
            have q1 : (0 : Int) ≤ (k : Int) := by omega
            have q2 : (k : Int) < (R.length : Int) := by omega
            generalize F k = f0 at *
            have q6 : IntKind.i64.wrap ((f0 : Int) + (c : Int)) = (f0 : Int) + (c : Int) := IntWalk.i64_in _ (by omega)
            go_wp2_with fail
            go_region_held3 (fun w' => w'.cell? ⟨G, 0, none⟩ = some (.int .i64 nd) ∧ w'.cell? ⟨G, 1, none⟩ = some (.slice A2 ls.length cp2) ∧ w'.cell? ⟨bg, bo + k, none⟩ = some (.int .i64 a)) (go_keep)
              (first
                | (go_at_call 21; refine (H1.out _ (S.on (Below.refl _ _).drew).rd).mono ?_; rintro e w6 ⟨rfl, hb6⟩; have BX := (Below.refl _ _).drew.trans hb6; have e0 := ckeepD c0 hb6; have e1 := ckeepD c1 hb6; have e2 := ckeepD m1 hb6))
            all_goals
              go_wp2_with fail
              go_roundw
              case rel => exact ⟨k + 1, by omega, congrArg (Value.int .i64) (by rw [hs]; first | rw [q6] | skip; omega), by go_num, S.on BX, rd.on BX⟩
              case measure => simp [intOf]; omega
          · obtain rfl : k = R.length := by omega
            rw [HFE.out]
            go_wp2_with fail
            go_ret
            exact ⟨by simp, S.bl⟩
    · rw [cntO_no h]
      go_wp2_with fail
      go_ret
      exact ⟨rfl, S3.bl⟩
  · have h20' : (1048576 : Int) < (bs.length : Int) := by omega
    go_enter Try.func4, Try.ntmps4
    go_wp2_with fail
    go_ret
    exact ⟨rfl, Below.refl _ _⟩

end Go.Proofs.Ytnndnpckkcgfiaa.fnCount
