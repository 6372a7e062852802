/-
  The walk of the law FnHopsUsed: next hops are used.
-/
import Derived.Test.YtnndnpckkcgfiaaFC
import Derived.Test.YtnndnpckkcgfiaaWO
import Derived.Test.YtnndnpckkcgfiaaDH
import Derived.Test.YtnndnpckkcgfiaaEC
import Derived.Test.YtnndnpckkcgfiaaFD
import Derived.Deep.RegionHeld3
namespace Go.Proofs.Ytnndnpckkcgfiaa.fnHopsUsed
open Go.RowKit

set_option maxRecDepth 100000 in
set_option maxHeartbeats 4000000 in
theorem walk (A : Option Addr) (cp : Nat) (bs : List Int) (w : World) (hr : RdB w w.heap.size A bs) (hl : bs.length ≤ 9223372036854775807 ∧ bs.length ≤ cp) :
    Calls Try.prog 7 #[.slice A bs.length cp] w fun e w' => e = .returned (.bool true) ∧ Below w.heap.size w w' := by
  obtain ⟨hl, hcp⟩ := hl
  by_cases h20 : bs.length ≤ 1048576
  · go_enter Try.func7, Try.ntmps7
    go_wp2_with fail
    refine (drawNextHops_any A cp bs _ hr hl hcp).mono ?_
    rintro e w1 ⟨nd, A2, cp2, ls, x, y, rfl, hg⟩
    have S := LS.of_drawn (nd := nd) hg
    have hlen := S.len
    have hdl : (hopsO nd ls x y).length ≤ 14 := Nat.le_trans (hopsO_8 _ _ _ _) (by omega)
    clear hr hg
    go_wp2_with fail
    refine (gHops_any nd A2 cp2 ls x y _ (by omega) S.rd).mono ?_
    rintro e w2 ⟨⟨B, cb, rfl, ho2⟩, hb2⟩
    have S2 := S.on hb2
    have r2 := ho2.rd
    have c0 := S2.c0
    have c1 := S2.c1
    clear S hb2 ho2
    go_wp2_with fail
    refine (sgHops_any nd A2 cp2 ls x y _ (by omega) S2.rd).mono ?_
    rintro e w3 ⟨⟨C, cc, rfl, ho3⟩, hb3⟩
    have S3 := S2.on hb3
    have r3 := r2.on hb3
    have q3 := ho3.rd
    clear S2 hb3 c0 c1 ho3 r2
    have c0 := S3.c0
    have c1 := S3.c1
    go_wp2_with fail
    refine (sameI_yes B C cb cc _ _ (by omega) r3 q3).mono ?_
    rintro e w4 ⟨rfl, hb4⟩
    have S4 := S3.on hb4
    have r4 := r3.on hb4
    have q4 := q3.on hb4
    clear S3 hb4 c0 c1 r3 q3
    have c0 := S4.c0
    have c1 := S4.c1
    have HM : Hid (∀ j : Nat, j < (hopsO nd ls x y).length → ∃ kk : Nat, gix nd ls x (Ix (hopsO nd ls x y) j) = kk ∧ nuO nd ls x y (Ix (hopsO nd ls x y) j) = true ∧ luO nd ls x y kk = true) := fun j hj => by
      by_cases h : Valid nd ls ∧ Nd nd x ∧ Nd nd y
      · obtain ⟨hv, hx, hy⟩ := h
        rw [hopsO_yes ⟨hv, hx, hy⟩] at hj ⊢
        have hm := Ix_mem hj
        have hf := hop_facts hv hm
        have on := OnR.start hv hx hy (show 0 ≤ D nd ls y x by omega)
        have hu := OnR.used hv hx hy on hm
        obtain ⟨c, ha, _⟩ := (mem_hops hv).1 hm
        have h0 := ((adj_iff hv).1 ha).1
        obtain ⟨kk, hkk⟩ := Int.eq_ofNat_of_zero_le h0
        have hr := lkIx_range ls x (Ix (hops nd ls x y) j)
        refine ⟨kk, by rw [gix_yes hv]; exact hkk, ?_, ?_⟩
        · rw [nuO_yes ⟨hv, hx, hy, hf.2.1⟩]; exact OnR.nused (OnR.hop hv hx hy on hm)
        · rw [luO_yes ⟨hv, hx, hy, ⟨by omega, by omega⟩⟩, Int.toNat_natCast]
          rwa [hkk, Int.toNat_natCast] at hu
      · rw [hopsO_no h] at hj; simp at hj
    have HG : Hid (∀ b wx, RdL wx wx.heap.size A2 ls → Calls Try.prog 39 #[.agg #[.int .i64 nd, .slice A2 ls.length cp2], .int .i64 x, .int .i64 b] wx fun e w' => e = .returned (.int .i64 (gix nd ls x b)) ∧ Below wx.heap.size wx w') := fun b wx hr => gLink_any nd A2 cp2 ls x b wx (by omega) hr
    have HU : Hid (∀ (kk : Nat) wx, RdL wx wx.heap.size A2 ls → Calls Try.prog 38 #[.agg #[.int .i64 nd, .slice A2 ls.length cp2], .int .i64 x, .int .i64 y, .int .i64 kk] wx fun e w' => e = .returned (.bool (luO nd ls x y kk)) ∧ Below wx.heap.size wx w') := fun kk wx hr => gLinkUsed_any nd A2 cp2 ls x y kk wx (by omega) hr
    have HV : Hid (∀ (m : Int) wx, RdL wx wx.heap.size A2 ls → Calls Try.prog 16 #[.agg #[.int .i64 nd, .slice A2 ls.length cp2], .int .i64 x, .int .i64 y, .int .i64 m] wx fun e w' => e = .returned (.bool (nuO nd ls x y m)) ∧ Below wx.heap.size wx w') := fun m wx hr => nodeUsed_any nd A2 cp2 ls x y m wx (by omega) hr
    clear q4
    generalize hopsO nd ls x y = R at *
    generalize w1.heap.size = G at *
    go_wp2_with fail
    go_loopw [8] (fun i wr => ∃ k : Nat, k ≤ R.length ∧ i = .int .i64 k ∧ LS w wr G nd A2 cp2 ls ∧ RdI wr wr.heap.size B R) (fun i _ => R.length - (intOf i).toNat)
    case atStart => exact ⟨0, by omega, rfl, S4, r4⟩
    case round =>
      obtain ⟨k, hk, rfl, S, rd⟩ := hrel
      clear S4 r4 c0 c1
      have c0 := S.c0
      have c1 := S.c1
      by_cases hlt : k < R.length
      · obtain ⟨kk, hkk, hn, hu⟩ := HM.out k hlt
        obtain ⟨bg, bo, hB, hbg, hbc⟩ := rd (by omega)
        obtain rfl := hB
        have m1 := hbc k hlt
        have BX : Below wr.heap.size wr wr.drew := (Below.refl _ _).drew
        have H0 : Hid (∀ wx, Below wr.heap.size wr wx → Calls Try.prog 16 #[.agg #[.int .i64 nd, .slice A2 ls.length cp2], .int .i64 x, .int .i64 y, .int .i64 (Ix R k)] wx fun e w' => e = .returned (.bool true) ∧ Below wx.heap.size wx w') := fun wx hb => by
          rw [← hn]; exact HV.out _ wx (S.on hb).rd
        have H1 : Hid (∀ wx, Below wr.heap.size wr wx → Calls Try.prog 39 #[.agg #[.int .i64 nd, .slice A2 ls.length cp2], .int .i64 x, .int .i64 (Ix R k)] wx fun e w' => e = .returned (.int .i64 kk) ∧ Below wx.heap.size wx w') := fun wx hb => by
          rw [← hkk]; exact HG.out _ wx (S.on hb).rd
        have H2 : Hid (∀ wx, Below wr.heap.size wr wx → Calls Try.prog 38 #[.agg #[.int .i64 nd, .slice A2 ls.length cp2], .int .i64 x, .int .i64 y, .int .i64 kk] wx fun e w' => e = .returned (.bool true) ∧ Below wx.heap.size wx w') := fun wx hb => by
          rw [← hu]; exact HU.out kk wx (S.on hb).rd
        clear hbc hkk hu hn
        generalize Ix R k = a at *
        have q1 : (0 : Int) ≤ (k : Int) := by omega
        have q2 : (k : Int) < (R.length : Int) := by omega
        go_wp2_with fail
        go_region_held3 (fun w' => w'.cell? ⟨G, 0, none⟩ = some (.int .i64 nd) ∧ w'.cell? ⟨G, 1, none⟩ = some (.slice A2 ls.length cp2) ∧ w'.cell? ⟨bg, bo + k, none⟩ = some (.int .i64 a)) (go_keep)
          (first
            | (go_at_call 16; refine (H0.out _ BX).mono ?_; rintro e w5 ⟨rfl, hb5⟩; have BX := bthen BX hb5; have e0 := ckeep c0 BX; have e1 := ckeep c1 BX; have e2 := ckeep m1 BX)
            | (go_at_call 39; refine (H1.out _ BX).mono ?_; rintro e w6 ⟨rfl, hb6⟩; have BY := bthen BX hb6; have e0 := ckeep c0 BY; have e1 := ckeep c1 BY; have e2 := ckeep m1 BY)
            | (go_at_call 38; refine (H2.out _ BY).mono ?_; rintro e w7 ⟨rfl, hb7⟩; have BZ := bthen BY hb7; have e0 := ckeep c0 BZ; have e1 := ckeep c1 BZ; have e2 := ckeep m1 BZ))
        all_goals
          go_wp2_with fail
          go_roundw
          case rel => exact ⟨k + 1, by omega, by go_num, S.on BZ, rd.on BZ⟩
          case measure => simp [intOf]; omega
      · go_wp2_with fail
        go_ret
        exact ⟨rfl, S.bl⟩
  · have h20' : (1048576 : Int) < (bs.length : Int) := by omega
    go_enter Try.func7, Try.ntmps7
    go_wp2_with fail
    go_ret
    exact ⟨rfl, Below.refl _ _⟩

end Go.Proofs.Ytnndnpckkcgfiaa.fnHopsUsed
