/-
  The walk of the law FnCriticalUsed: all paths between both sides use a critical link.
-/
import Derived.Test.YtmkjndfhfhfggaaEG
import Derived.Test.YtmkjndfhfhfggaaDK
import Derived.Test.YtmkjndfhfhfggaaWO
import Derived.Test.YtmkjndfhfhfggaaPG
import Derived.Test.YtmkjndfhfhfggaaEC
import Derived.Test.YtmkjndfhfhfggaaEL
import Derived.Test.YtmkjndfhfhfggaaWS
import Derived.Deep.RegionHeld3
namespace Go.Proofs.Ytmkjndfhfhfggaa.fnCriticalUsed
open Go.RowKit

set_option maxRecDepth 100000 in
set_option maxHeartbeats 4000000 in
theorem walk (A : Option Addr) (cp : Nat) (bs : List Int) (w : World) (hr : RdB w w.heap.size A bs) (hl : bs.length ≤ 9223372036854775807 ∧ bs.length ≤ cp) :
    Calls Try.prog 6 #[.slice A bs.length cp] w fun e w' => e = .returned (.bool true) ∧ Below w.heap.size w w' := by
  obtain ⟨hl, hcp⟩ := hl
  by_cases h20 : bs.length ≤ 1048576
  · go_enter Try.func6, Try.ntmps6
    go_wp2_with fail
    refine (drawCritical_any A cp bs _ hr hl hcp).mono ?_
    rintro e w1 ⟨nd, A2, cp2, ls, rfl, hg⟩
    have S := LS.of_drawn (nd := nd) hg
    have hcap := own_cap hg.1
    have hlen := S.len
    have hdl : (critO nd ls).length ≤ 14 := critO_len
    clear hr hg
    go_wp2_with fail
    refine (gCrit_any nd A2 cp2 ls _ (by omega) S.rd).mono ?_
    rintro e w2 ⟨⟨B, cb, rfl, ho2⟩, hb2⟩
    have S2 := S.on hb2
    have r2 := ho2.rd
    have c0 := S2.c0
    have c1 := S2.c1
    clear S hb2 ho2
    go_wp2_with fail
    refine (sgCrit_any nd A2 cp2 ls _ (by omega) hcap S2.rd).mono ?_
    rintro e w3 ⟨⟨C, cc, rfl, ho3⟩, hb3⟩
    have S3 := S2.on hb3
    have r3 := r2.on hb3
    have q3 := ho3.rd
    clear S2 hb3 c0 c1 ho3 r2
    have c0 := S3.c0
    have c1 := S3.c1
    go_wp2_with fail
    refine (sameI_yes B C cb cc _ _ (by omega) r3 q3).mono ?_
    rintro e w4 ⟨rfl, hb4⟩
    have S4 := S3.on hb4
    have r4 := r3.on hb4
    have q4 := q3.on hb4
    clear S3 hb4 c0 c1 r3 q3
    have c0 := S4.c0
    have c1 := S4.c1
    have HM : Hid (∀ j : Nat, j < (critO nd ls).length → ∃ m : Nat, Ix (critO nd ls) j = m ∧ m < ls.length ∧ Valid nd ls ∧ critB nd ls m = true) := fun j hj => by
      by_cases hv : Valid nd ls
      · rw [critO_yes hv] at hj ⊢
        obtain ⟨m, hm, hp, e⟩ := upTo_get (show j < (upTo (critB nd ls) ls.length).length from hj)
        exact ⟨m, e, hm, hv, hp⟩
      · rw [critO_no hv] at hj; simp at hj
    clear q4
    generalize critO nd ls = R at *
    generalize w1.heap.size = G at *
    go_wp2_with fail
    go_loopw [6] (fun i wr => ∃ j : Nat, j ≤ R.length ∧ i = .int .i64 j ∧ LS w wr G nd A2 cp2 ls ∧ RdI wr wr.heap.size B R) (fun i _ => R.length - (intOf i).toNat)
    case atStart => exact ⟨0, by omega, rfl, S4, r4⟩
    case round =>
      obtain ⟨j, hj, rfl, S, rd⟩ := hrel
      clear S4 r4 c0 c1
      have c0 := S.c0
      have c1 := S.c1
      by_cases hlt : j < R.length
      · obtain ⟨m, hm, hml, hv, hcr⟩ := HM.out j hlt
        obtain ⟨bg, bo, hB, hbg, hbc⟩ := rd (by omega)
        obtain rfl := hB
        have m1 := hbc j hlt
        rw [hm] at m1
        obtain ⟨ga, go, hA, hga, hcells⟩ := S.rd (by omega)
        obtain rfl := hA
        obtain ⟨d1, d2, d3⟩ := hcells m hml
        obtain ⟨ea, eb, _⟩ := ends_nd hv hml
        have h14 := hv.2.2.1
        have hn8 := hv.2.1
        have hv2 := hv.lsW m
        have hkL : Lnk ls (m : Int) := ⟨by omega, by omega⟩
        have HMm := Lib.hid hm
        have k0 : (0 : Int) ≤ (j : Int) := by omega
        have k1 : (j : Int) < (R.length : Int) := by omega
        have k2 : (0 : Int) ≤ (m : Int) := by omega
        have k3 : (m : Int) < (ls.length : Int) := by omega
        have lG : G < wr.heap.size := World.block_lt_of_cell? wr _ c0
        have n1 : ¬ G = wr.heap.size := by omega
        have n2 : ¬ wr.heap.size = G := by omega
        have n5 : ¬ bg = wr.heap.size := by omega
        have n6 : ¬ wr.heap.size = bg := by omega
        have n7 : ¬ ga = wr.heap.size := by omega
        have n8 : ¬ wr.heap.size = ga := by omega
        have HLW : Hid ((lsW ls m).length ≤ 14) := by show _ ≤ _; rw [length_lsW hml]; omega
        have HC : Hid (∀ wx, Below wr.heap.size wr wx → Calls Try.prog 20 #[.agg #[.int .i64 nd, .slice (some ⟨ga, go, none⟩) ls.length cp2], .int .i64 m] wx (RG nd (lsW ls m) true wx)) := fun wx hb => by
          have := gWithout_yes hv hkL (some ⟨ga, go, none⟩) cp2 wx (S.on hb).rd
          rwa [Int.toNat_natCast] at this
        have HK : Hid (∀ X cx wx, RdL wx wx.heap.size X (lsW ls m) → Calls Try.prog 30 #[.agg #[.int .i64 nd, .slice X (lsW ls m).length cx], .int .i64 (Lb ls m)] wx (RI (rch nd (lsW ls m) (Lb ls m)) wx)) := fun X cx wx hr => by
          have := gReach_any nd X cx (lsW ls m) (Lb ls m) wx (by have := HLW.out; omega) hr
          rwa [rchO_yes ⟨hv2, eb⟩] at this
        have HU : Hid (∀ k : Nat, k < (rch nd (lsW ls m) (Lb ls m)).length → ∀ wx, RdL wx wx.heap.size (some ⟨ga, go, none⟩) ls → Calls Try.prog 31 #[.agg #[.int .i64 nd, .slice (some ⟨ga, go, none⟩) ls.length cp2], .int .i64 (La ls m), .int .i64 (Ix (rch nd (lsW ls m) (Lb ls m)) k), .int .i64 m] wx fun e w' => e = .returned (.bool true) ∧ Below wx.heap.size wx w') := fun k hk wx hr => by
          have hmem : Ix (rch nd (lsW ls m) (Lb ls m)) k ∈ rch nd (lsW ls m) (Lb ls m) := by unfold Ix; simp [hk]
          have hs := rch_mem.1 hmem
          have hsn : Nd nd (Ix (rch nd (lsW ls m) (Lb ls m)) k) := ⟨hs.1, hs.2.1⟩
          have := gLinkUsed_any nd (some ⟨ga, go, none⟩) cp2 ls (La ls m) (Ix (rch nd (lsW ls m) (Lb ls m)) k) m wx (by omega) hr
          rwa [luO_yes ⟨hv, ea, hsn, hkL⟩, Int.toNat_natCast, used_crit hv hml (critB_iff.1 hcr) hsn hs.2.2] at this
        have HS8 : Hid ((rch nd (lsW ls m) (Lb ls m)).length ≤ 8) := by
          show _ ≤ _; have := upTo_le (rchB nd (lsW ls m) (Lb ls m)) nd.toNat; unfold rch; omega
        have BL : Below wr.heap.size wr (wr.alloc (.cells #[.int .i64 (La ls m), .int .i64 (Lb ls m), .int .i64 (Lc ls m)] 33)).drew := (bnew _ _).drew
        have lk := (Blk.new wr #[.int .i64 (La ls m), .int .i64 (Lb ls m), .int .i64 (Lc ls m)] 33)
        clear hm hcells hbc hcr ea eb hkL hv2
        generalize rch nd (lsW ls m) (Lb ls m) = Sd at *
        generalize lsW ls m = ms at *
        generalize La ls m = a at *
        generalize Lb ls m = b at *
        generalize Lc ls m = c at *
        go_wp2_with fail
        go_region_held3 (fun w' => w'.cell? ⟨G, 1, none⟩ = some (.slice (some ⟨ga, go, none⟩) ls.length cp2) ∧ w'.cell? ⟨bg, bo + j, none⟩ = some (.int .i64 m) ∧ w'.cell? ⟨ga, go + m * 3, none⟩ = some (.int .i64 a) ∧ w'.cell? ⟨ga, go + m * 3 + 1, none⟩ = some (.int .i64 b) ∧ w'.cell? ⟨ga, go + m * 3 + 2, none⟩ = some (.int .i64 c)) (go_keep) (fail)
        all_goals
          have S1 := S.on BL
          have rd1 := rd.on BL
          have lk1 : Blk (wr.alloc (.cells #[.int .i64 a, .int .i64 b, .int .i64 c] 33)).drew wr.heap.size 33 [.int .i64 a, .int .i64 b, .int .i64 c] := lk
          have m1 := ckeep m1 BL
          have HC1 : Hid (∀ wx, Below (wr.alloc (.cells #[.int .i64 a, .int .i64 b, .int .i64 c] 33)).drew.heap.size (wr.alloc (.cells #[.int .i64 a, .int .i64 b, .int .i64 c] 33)).drew wx → Calls Try.prog 20 #[.agg #[.int .i64 nd, .slice (some ⟨ga, go, none⟩) ls.length cp2], .int .i64 m] wx (RG nd ms true wx)) := fun wx hb => HC.out wx (bthen BL hb)
          clear S rd lk n1 n2 n5 n6 n7 n8 lG d1 d2 d3 HC c0 c1 hga hbg
          go_wp2_with fail
          generalize hW : (wr.alloc (.cells #[.int .i64 a, .int .i64 b, .int .i64 c] 33)).drew = W at *
          clear BL hW
          generalize wr.heap.size = LB at *
          have c0 := S1.c0
          have c1 := S1.c1
          have lG : G < W.heap.size := World.block_lt_of_cell? W _ c0
          have lb : bg < W.heap.size := World.block_lt_of_cell? W _ m1
          have n1 : ¬ G = W.heap.size := by omega
          have n2 : ¬ W.heap.size = G := by omega
          have n3 : ¬ bg = W.heap.size := by omega
          have n4 : ¬ W.heap.size = bg := by omega
          have BD : Below W.heap.size W W.drew := (Below.refl _ _).drew
          have BA : Below W.heap.size W (W.alloc (.cells #[.int .i64 0, .slice none 0 0] 25)).drew := (bnew _ _).drew
          have ZA : Blk (W.alloc (.cells #[.int .i64 0, .slice none 0 0] 25)).drew W.heap.size 25 [.int .i64 0, .slice none 0 0] := Blk.new W #[.int .i64 0, .slice none 0 0] 25
          have BLW := S1.bl
          have hms : ms.length ≤ 16 := by have := HLW.out; omega
          go_cut [8, 9] from 28 to 73 (fun s s9 wx => s9 = .bool true ∧ GXb w W nd ms s wx)
          case first =>
            go_region_held3 (fun w' => w'.cell? ⟨G, 0, none⟩ = some (.int .i64 nd) ∧ w'.cell? ⟨G, 1, none⟩ = some (.slice (some ⟨ga, go, none⟩) ls.length cp2) ∧ w'.cell? ⟨bg, bo + j, none⟩ = some (.int .i64 m)) (go_keep)
              (first
                | (go_at_call 20; (with_reducible refine (HC1.out _ BD).mono ?_); rintro e w5 ⟨⟨X, cx, rfl, oX⟩, hb5⟩; have BX := bthen BD hb5; have e0 := ckeep c0 BX; have e1 := ckeep c1 BX; have e2 := ckeep m1 BX; have l5 := Nat.lt_of_lt_of_le lG BX.size; have l6 := Nat.lt_of_lt_of_le lb BX.size)
                | (go_at_call 20; (with_reducible refine (HC1.out _ BA).mono ?_); rintro e w5 ⟨⟨X, cx, rfl, oX⟩, hb5⟩; have BX := bthen BA hb5; have e0 := ckeep c0 BX; have e1 := ckeep c1 BX; have e2 := ckeep m1 BX; have l5 := Nat.lt_of_lt_of_le lG BX.size; have ZB := ZA.keep hb5; have z0 := ZB.cellAt 0; have z1 := ZB.cellAt 1; have y0 := ZB.frozenAt 0; have y1 := ZB.frozenAt 1; simp only [List.getElem?_cons_zero, List.getElem?_cons_succ] at z0 z1))
            all_goals
              go_wp2_with fail
              go_meet
              first | exact ⟨rfl, gxbA BLW BX oX hms⟩ | exact ⟨rfl, gxbB BLW BX oX ZB (Nat.le_refl _) hms⟩
          case rest =>
            obtain ⟨rfl, G2, X, cx, rfl, T2, B2⟩ := hcut
            have S2 := S1.on B2
            have rd2 := rd1.on B2
            have lk2 := lk1.keep B2
            clear S1 rd1 lk1 HC1 BD BA ZA n1 n2 n3 n4 lG lb c0 c1 m1 B2 BLW
            have x0 := T2.c0
            have x1 := T2.c1
            have l1 : wc.cell? ⟨LB, 1, none⟩ = some (.int .i64 b) := lk2.cellAt 1
            go_wp2_with fail
            refine (HK.out X cx _ T2.rd).mono ?_
            rintro e w6 ⟨⟨E, ce, rfl, oE⟩, hb6⟩
            have S3 := S2.on hb6
            have rd3 := rd2.on hb6
            have l3 := ckeep (show wc.cell? ⟨LB, 0, none⟩ = some (.int .i64 a) from lk2.cellAt 0) hb6
            have e3 := oE.rd
            clear S2 rd2 lk2 T2 x0 x1 l1 hb6 oE HK
            go_wp2_with fail
            go_loopw [11] (fun i wq => ∃ k : Nat, k ≤ Sd.length ∧ i = .int .i64 k ∧ LS w wq G nd (some ⟨ga, go, none⟩) cp2 ls ∧ RdI wq wq.heap.size (some ⟨bg, bo, none⟩) R ∧ RdI wq wq.heap.size E Sd ∧ wq.cell? ⟨LB, 0, none⟩ = some (.int .i64 a)) (fun i _ => Sd.length - (intOf i).toNat)
            case atStart => exact ⟨0, by omega, rfl, S3, rd3, e3, l3⟩
            case round =>
              obtain ⟨k, hk, rfl, S5, rd5, e5, l5⟩ := hrel
              clear S3 rd3 e3 l3
              have c0 := S5.c0
              have c1 := S5.c1
              by_cases hlk : k < Sd.length
              · obtain ⟨eg, eo, hE, heg, hec⟩ := e5 (by omega)
                obtain rfl := hE
                have f1 := hec k hlk
                obtain ⟨bg', bo', hB', hbg', hbc'⟩ := rd5 (by omega)
                injection hB' with hB'
                injection hB' with g1 g2
                subst g1 g2
                have m2 := hbc' j hlt
                rw [HMm.out] at m2
                have q0 : (0 : Int) ≤ (k : Int) := by omega
                have q1 : (k : Int) < (Sd.length : Int) := by omega
                have q2 := HS8.out
                have BD : Below wr.heap.size wr wr.drew := (Below.refl _ _).drew
                have HUk := Lib.hid (HU.out k hlk wr.drew (S5.on BD).rd)
                clear hec hbc' hbg' heg
                generalize Ix Sd k = t at *
                go_wp2_with fail
                go_region_held3 (fun w' => w'.cell? ⟨G, 0, none⟩ = some (.int .i64 nd) ∧ w'.cell? ⟨G, 1, none⟩ = some (.slice (some ⟨ga, go, none⟩) ls.length cp2) ∧ w'.cell? ⟨bg, bo + j, none⟩ = some (.int .i64 m) ∧ w'.cell? ⟨LB, 0, none⟩ = some (.int .i64 a) ∧ w'.cell? ⟨eg, eo + k, none⟩ = some (.int .i64 t)) (go_keep)
                  ((go_at_call 31; refine HUk.out.mono ?_; rintro e w7 ⟨rfl, hb7⟩; have BX := bthen BD hb7; have e0 := ckeep c0 BX; have e1 := ckeep c1 BX; have e2 := ckeep m2 BX; have e3 := ckeep l5 BX; have e4 := ckeep f1 BX))
                all_goals
                  go_wp2_with fail
                  go_roundw
                  case rel => exact ⟨k + 1, by omega, by go_num, S5.on BX, rd5.on BX, e5.on BX, ckeep l5 BX⟩
                  case measure => simp [intOf]; omega
              · go_wp2_with fail
                go_roundw
                case rel => exact ⟨j + 1, by omega, by go_num, S5, rd5⟩
                case measure => simp [intOf]; omega
      · go_wp2_with fail
        go_ret
        exact ⟨rfl, S.bl⟩
  · have h20' : (1048576 : Int) < (bs.length : Int) := by omega
    go_enter Try.func6, Try.ntmps6
    go_wp2_with fail
    go_ret
    exact ⟨rfl, Below.refl _ _⟩

end Go.Proofs.Ytmkjndfhfhfggaa.fnCriticalUsed
