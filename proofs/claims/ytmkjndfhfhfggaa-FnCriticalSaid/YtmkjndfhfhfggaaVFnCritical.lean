/-
  The walk of the law FnCritical: a critical link cannot be replaced.
-/
import Derived.Test.YtmkjndfhfhfggaaEG
import Derived.Test.YtmkjndfhfhfggaaDK
import Derived.Test.YtmkjndfhfhfggaaWO
import Derived.Test.YtmkjndfhfhfggaaPG
import Derived.Test.YtmkjndfhfhfggaaEI
import Derived.Test.YtmkjndfhfhfggaaEE
import Derived.Test.YtmkjndfhfhfggaaWS
import Derived.Deep.RegionHeld3
namespace Go.Proofs.Ytmkjndfhfhfggaa.fnCritical
open Go.RowKit

set_option maxRecDepth 100000 in
set_option maxHeartbeats 4000000 in
theorem walk (A : Option Addr) (cp : Nat) (bs : List Int) (w : World) (hr : RdB w w.heap.size A bs) (hl : bs.length ≤ 9223372036854775807 ∧ bs.length ≤ cp) :
    Calls Try.prog 8 #[.slice A bs.length cp] w fun e w' => e = .returned (.bool true) ∧ Below w.heap.size w w' := by
  obtain ⟨hl, hcp⟩ := hl
  by_cases h20 : bs.length ≤ 1048576
  · go_enter Try.func8, Try.ntmps8
    go_wp2_with fail
    refine (drawCritical_any A cp bs _ hr hl hcp).mono ?_
    rintro e w1 ⟨nd, A2, cp2, ls, rfl, hg⟩
    have S := LS.of_drawn (nd := nd) hg
    have hcap := own_cap hg.1
    have hlen := S.len
    have hdl : (critO nd ls).length ≤ 14 := critO_len
    clear hr hg
    go_wp2_with fail
    refine (gCrit_any nd A2 cp2 ls _ (by omega) S.rd).mono ?_
    rintro e w2 ⟨⟨B, cb, rfl, ho2⟩, hb2⟩
    have S2 := S.on hb2
    have r2 := ho2.rd
    have c0 := S2.c0
    have c1 := S2.c1
    clear S hb2 ho2
    go_wp2_with fail
    refine (sgCrit_any nd A2 cp2 ls _ (by omega) hcap S2.rd).mono ?_
    rintro e w3 ⟨⟨C, cc, rfl, ho3⟩, hb3⟩
    have S3 := S2.on hb3
    have r3 := r2.on hb3
    have q3 := ho3.rd
    clear S2 hb3 c0 c1 ho3 r2
    have c0 := S3.c0
    have c1 := S3.c1
    go_wp2_with fail
    refine (sameI_yes B C cb cc _ _ (by omega) r3 q3).mono ?_
    rintro e w4 ⟨rfl, hb4⟩
    have S4 := S3.on hb4
    have r4 := r3.on hb4
    have q4 := q3.on hb4
    clear S3 hb4 c0 c1 r3 q3
    have c0 := S4.c0
    have c1 := S4.c1
    by_cases hv : Valid nd ls
    · rw [critO_yes hv] at r4 q4 hdl ⊢
      have h14 := hv.2.2.1
      have hn8 := hv.2.1
      have HM : Hid (∀ j : Nat, j < ls.length → decide ((j : Int) ∈ crit nd ls) = decide ((rch nd (lsW ls j) (La ls j)).length < (rch nd ls (La ls j)).length)) := fun j hj => by
        rw [Bool.eq_iff_iff, decide_eq_true_eq, decide_eq_true_eq]
        unfold crit
        rw [mem_upTo' (by omega), Int.toNat_natCast, crit_rch hv hj]
        exact ⟨fun h => h.2, fun h => ⟨by omega, h⟩⟩
      have HQ := Lib.hid (show (crit nd ls).Pairwise (· < ·) from upTo_pw _ _)
      go_wp2_with fail
      refine (sgv_yes hv A2 cp2 _ S4.rd).mono ?_
      rintro e w5 ⟨rfl, hb5⟩
      have S5 := S4.on hb5
      have r5 := r4.on hb5
      clear S4 r4 q4 c0 c1 hb5
      have c0 := S5.c0
      have c1 := S5.c1
      generalize crit nd ls = R at *
      generalize w1.heap.size = G at *
      go_wp2_with fail
      go_loopw [6] (fun i wr => ∃ j : Nat, j ≤ ls.length ∧ i = .int .i64 j ∧ LS w wr G nd A2 cp2 ls ∧ RdI wr wr.heap.size B R) (fun i _ => ls.length - (intOf i).toNat)
      case atStart => exact ⟨0, by omega, rfl, S5, r5⟩
      case round =>
        obtain ⟨j, hj, rfl, T, rd⟩ := hrel
        clear S5 r5 c0 c1
        have c0 := T.c0
        have c1 := T.c1
        by_cases hlt : j < ls.length
        · obtain ⟨ea, eb, _⟩ := ends_nd hv hlt
          have hkL : Lnk ls (j : Int) := ⟨by omega, by omega⟩
          have hv2 := hv.lsW j
          have k0 : (0 : Int) ≤ (j : Int) := by omega
          have k1 : (j : Int) < (ls.length : Int) := by omega
          have HC := gWithout_yes hv hkL A2 cp2 wr T.rd
          rw [Int.toNat_natCast] at HC
          have HC := Lib.hid HC
          go_wp2_with fail
          refine HC.out.mono ?_
          rintro e w6 ⟨⟨X, cx, rfl, oX⟩, hb6⟩
          have T6 := (T.on hb6).on (bnew w6 (.cells #[.int .i64 nd, .slice X (lsW ls j).length cx] 25))
          have rd6 := (rd.on hb6).on (bnew w6 (.cells #[.int .i64 nd, .slice X (lsW ls j).length cx] 25))
          have rX := oX.rd.on (bnew w6 (.cells #[.int .i64 nd, .slice X (lsW ls j).length cx] 25))
          have x0 : (w6.alloc (.cells #[.int .i64 nd, .slice X (lsW ls j).length cx] 25)).cell? ⟨w6.heap.size, 0, none⟩ = some (.int .i64 nd) := (Blk.new w6 #[.int .i64 nd, .slice X (lsW ls j).length cx] 25).cellAt 0
          have x1 : (w6.alloc (.cells #[.int .i64 nd, .slice X (lsW ls j).length cx] 25)).cell? ⟨w6.heap.size, 1, none⟩ = some (.slice X (lsW ls j).length cx) := (Blk.new w6 #[.int .i64 nd, .slice X (lsW ls j).length cx] 25).cellAt 1
          obtain ⟨ga, go, hA, hga, hcells⟩ := T6.rd (by omega)
          obtain rfl := hA
          have d1 := (hcells j hlt).1
          have c0 := T6.c0
          have c1 := T6.c1
          have HLW : Hid ((lsW ls j).length ≤ 14) := by show _ ≤ _; rw [length_lsW hlt]; omega
          have hML := HM.out j hlt
          have H1 : Hid (∀ wr, RdL wr wr.heap.size X (lsW ls j) → Calls Try.prog 30 #[.agg #[.int .i64 nd, .slice X (lsW ls j).length cx], .int .i64 (La ls j)] wr (RI (rch nd (lsW ls j) (La ls j)) wr)) := fun wr hr => by
            have := gReach_any nd X cx (lsW ls j) (La ls j) wr (by have := HLW.out; omega) hr
            rwa [rchO_yes ⟨hv2, ea⟩] at this
          have H2 : Hid (∀ wr, RdL wr wr.heap.size (some ⟨ga, go, none⟩) ls → Calls Try.prog 30 #[.agg #[.int .i64 nd, .slice (some ⟨ga, go, none⟩) ls.length cp2], .int .i64 (La ls j)] wr (RI (rch nd ls (La ls j)) wr)) := fun wr hr => by
            have := gReach_any nd (some ⟨ga, go, none⟩) cp2 ls (La ls j) wr (by omega) hr
            rwa [rchO_yes ⟨hv, ea⟩] at this
          have H3 : Hid (∀ wr, RdI wr wr.heap.size B R → Calls Try.prog 29 #[.slice B R.length cb, .int .i64 j] wr fun e w' => e = .returned (.bool (decide ((rch nd (lsW ls j) (La ls j)).length < (rch nd ls (La ls j)).length))) ∧ Below wr.heap.size wr w') := fun wr hr => by
            rw [← hML]; exact hasI_any B cb R j wr (by omega) hr
          clear hcells hML hb6 oX T rd HC
          go_wp2_with fail
          generalize hW : w6.alloc (.cells #[.int .i64 nd, .slice X (lsW ls j).length cx] 25) = W at *
          clear hW
          generalize w6.heap.size = GX at *
          have BX : Below W.heap.size W W.drew := (Below.refl _ _).drew
          generalize rch nd (lsW ls j) (La ls j) = R1 at *
          generalize rch nd ls (La ls j) = R2 at *
          generalize La ls j = a at *
          generalize lsW ls j = ms at *
          have tb : (decide (R1.length < R2.length) != decide (R1.length < R2.length)) = false := by simp
          go_region_held3 (fun w' => w'.cell? ⟨G, 0, none⟩ = some (.int .i64 nd) ∧ w'.cell? ⟨G, 1, none⟩ = some (.slice (some ⟨ga, go, none⟩) ls.length cp2) ∧ w'.cell? ⟨GX, 0, none⟩ = some (.int .i64 nd) ∧ w'.cell? ⟨GX, 1, none⟩ = some (.slice X ms.length cx) ∧ w'.cell? ⟨ga, go + j * 3, none⟩ = some (.int .i64 a)) (go_keep)
            (first
              | (go_at_call 29; refine (H3.out _ (rd6.on BX)).mono ?_; rintro e w7 ⟨rfl, hb7⟩; have BX := bthen BX hb7; have e0 := ckeep c0 BX; have e1 := ckeep c1 BX; have e2 := ckeep x0 BX; have e3 := ckeep x1 BX; have e4 := ckeep d1 BX)
              | (go_at_call 30; (with_reducible refine (H1.out _ (rX.on BX)).mono ?_); rintro e w7 ⟨⟨P1, p1, rfl, -⟩, hb7⟩; have BX := bthen BX hb7; have e0 := ckeep c0 BX; have e1 := ckeep c1 BX; have e2 := ckeep x0 BX; have e3 := ckeep x1 BX; have e4 := ckeep d1 BX)
              | (go_at_call 30; (with_reducible refine (H2.out _ (T6.on BX).rd).mono ?_); rintro e w7 ⟨⟨P2, p2, rfl, -⟩, hb7⟩; have BX := bthen BX hb7; have e0 := ckeep c0 BX; have e1 := ckeep c1 BX; have e2 := ckeep x0 BX; have e3 := ckeep x1 BX; have e4 := ckeep d1 BX))
          all_goals
            go_wp2_with fail
            go_roundw
            case rel => exact ⟨j + 1, by omega, by go_num, T6.on BX, rd6.on BX⟩
            case measure => simp [intOf]; omega
        · go_wp2_with fail
          refine (asc_any B cb R _ (by omega) HQ.out rd).mono ?_
          rintro e w7 ⟨rfl, hb7⟩
          go_wp2_with fail
          go_ret
          exact ⟨rfl, bthen T.bl hb7⟩
    · go_wp2_with fail
      refine (sgv_no hv A2 cp2 _ (by omega) S4.rd).mono ?_
      rintro e w5 ⟨rfl, hb5⟩
      have S5 := S4.on hb5
      have r5 := r4.on hb5
      have q5 := q4.on hb5
      clear S4 r4 q4 c0 c1 hb5
      go_wp2_with fail
      refine (sameI_yes B C cb cc _ _ (by omega) r5 q5).mono ?_
      rintro e w6 ⟨rfl, hb6⟩
      go_wp2_with fail
      go_ret
      exact ⟨rfl, (S5.on hb6).bl⟩
  · have h20' : (1048576 : Int) < (bs.length : Int) := by omega
    go_enter Try.func8, Try.ntmps8
    go_wp2_with fail
    go_ret
    exact ⟨rfl, Below.refl _ _⟩

end Go.Proofs.Ytmkjndfhfhfggaa.fnCritical
