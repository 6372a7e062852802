/-
  The walk of the law FnWithoutTwo: the order of removing two links does not matter.
-/
import Derived.Test.YtmkjndfhfhfggaaWX
import Derived.Test.YtmkjndfhfhfggaaPK
import Derived.Test.YtmkjndfhfhfggaaEL
import Derived.Test.YtmkjndfhfhfggaaDK
import Derived.Deep.RegionHeld3
namespace Go.Proofs.Ytmkjndfhfhfggaa.fnWithoutTwo
open Go.RowKit

set_option maxRecDepth 100000 in
set_option maxHeartbeats 4000000 in
theorem walk (A : Option Addr) (cp : Nat) (bs : List Int) (A1 : Option Addr) (cp1 : Nat) (bs1 : List Int) (w : World) (hr : RdB w w.heap.size A bs) (hl : bs.length ≤ 9223372036854775807 ∧ bs.length ≤ cp) (_ : RdB w w.heap.size A1 bs1) (hl1 : bs1.length ≤ 9223372036854775807 ∧ bs1.length ≤ cp1) :
    Calls Try.prog 3 #[.slice A bs.length cp, .slice A1 bs1.length cp1] w fun e w' => e = .returned (.bool true) ∧ Below w.heap.size w w' := by
  obtain ⟨hl, hcp⟩ := hl
  obtain ⟨hl1, -⟩ := hl1
  by_cases h20 : bs.length ≤ 1048576
  · by_cases m20 : bs1.length ≤ 1048576
    · go_enter Try.func3, Try.ntmps3
      go_wp2_with fail
      refine (drawGraphWithout_any A cp bs _ hr hl hcp).mono ?_
      rintro e w1 ⟨nd, A2, cp2, ls, x, rfl, hg⟩
      have S := LS.of_drawn (nd := nd) hg
      have hcap := own_cap hg.1
      have hlen := S.len
      clear hr hg
      by_cases h : Valid nd ls ∧ Lnk ls x
      · obtain ⟨hv, hk⟩ := h
        go_wp2_with fail
        refine (gWithout_yes hv hk A2 cp2 _ S.rd).mono ?_
        rintro e w2 ⟨⟨B, cb, rfl, ho2⟩, hb2⟩
        obtain ⟨x', rfl⟩ := Int.eq_ofNat_of_zero_le hk.1
        rw [Int.toNat_natCast] at ho2 ⊢
        have hx : x' < ls.length := by have := hk.2; omega
        have hv2 := hv.lsW x'
        have HLW := Lib.hid (length_lsW hx)
        have hms : (lsW ls x').length ≤ 16 := by rw [HLW.out]; omega
        have S2 := S.on hb2
        have c0 := S2.c0
        have c1 := S2.c1
        have r2 := ho2.rd.on (bnew w2 (.cells #[.int .i64 nd, .slice B (lsW ls x').length cb] 25))
        have S2' := S2.on (bnew w2 (.cells #[.int .i64 nd, .slice B (lsW ls x').length cb] 25))
        have T2 : LS w (w2.alloc (.cells #[.int .i64 nd, .slice B (lsW ls x').length cb] 25)) w2.heap.size nd B cb (lsW ls x') := ⟨by go_simp, by go_simp, r2, S2'.bl, hms⟩
        have l2 := World.block_lt_of_cell? w2 _ c0
        clear S hb2 ho2
        go_wp2_with fail
        refine (sgWithout_yes hv hk A2 cp2 _ hcap S2'.rd).mono ?_
        rintro e w3 ⟨⟨C, cc, rfl, ho3⟩, hb3⟩
        rw [Int.toNat_natCast] at ho3 ⊢
        have S3 := S2'.on hb3
        have T3 := T2.on hb3
        have q3 := ho3.rd.on (bnew w3 (.cells #[.int .i64 nd, .slice C (lsW ls x').length cc] 25))
        clear S2 S2' T2 hb3 c0 c1 ho3 r2 l2
        have c0 := S3.c0
        have c1 := S3.c1
        have d0 := T3.c0
        have d1 := T3.c1
        have l3 := World.block_lt_of_cell? w3 _ c0
        have l4 := World.block_lt_of_cell? w3 _ d0
        have S4 := S3.on (bnew w3 (.cells #[.int .i64 nd, .slice C (lsW ls x').length cc] 25))
        have T4 := T3.on (bnew w3 (.cells #[.int .i64 nd, .slice C (lsW ls x').length cc] 25))
        have k40 : (w3.alloc (.cells #[.int .i64 nd, .slice C (lsW ls x').length cc] 25)).cell? ⟨w3.heap.size, 0, none⟩ = some (.int .i64 nd) := (Blk.new _ _ _).cellAt 0
        have k41 : (w3.alloc (.cells #[.int .i64 nd, .slice C (lsW ls x').length cc] 25)).cell? ⟨w3.heap.size, 1, none⟩ = some (.slice C (lsW ls x').length cc) := (Blk.new _ _ _).cellAt 1
        go_wp2_with fail
        refine (same_yes nd B C cb cc _ _ (by omega) T4.rd q3).mono ?_
        rintro e w5 ⟨rfl, hb5⟩
        have S5 := S4.on hb5
        have T5 := T4.on hb5
        have q5 := q3.on hb5
        have k50 := ckeep k40 hb5
        have k51 := ckeep k41 hb5
        clear S3 T3 S4 T4 c0 c1 d0 d1 l3 l4 hb5 q3 k40 k41
        generalize w1.heap.size = G at *
        generalize w2.heap.size = G2 at *
        generalize w3.heap.size = G3 at *
        have c0 := S5.c0
        have c1 := S5.c1
        have d0 := T5.c0
        have d1 := T5.c1
        by_cases h2 : ls.length < 2
        · have t2 : decide ((ls.length : Int) < 2) = true := by rw [decide_eq_true_eq]; omega
          clear h2
          go_wp2_with fail
          refine (same_yes nd B C cb cc _ _ (by omega) T5.rd q5).mono ?_
          rintro e w6 ⟨rfl, hb6⟩
          go_wp2_with fail
          go_ret
          exact ⟨rfl, (S5.on hb6).bl⟩
        · have t2 : decide ((ls.length : Int) < 2) = false := by rw [decide_eq_false_iff_not]; omega
          clear q5 k50 k51
          obtain ⟨r, hr1, hr2⟩ : ∃ r : Nat, (bs1.length : Int) % (ls.length : Int) = (r : Int) ∧ r < ls.length := ⟨bs1.length % ls.length, by omega, Nat.mod_lt _ (by omega)⟩
          have HR := Lib.hid hr1
          clear hr1 h2
          by_cases hrx : r = x'
          · have tA : ((bs1.length : Int) % (ls.length : Int) == (x' : Int)) = true := by rw [HR.out, hrx]; simp
            clear hrx
            go_wp2_with fail
            go_ret
            exact ⟨rfl, S5.bl⟩
          · have tA : ((bs1.length : Int) % (ls.length : Int) == (x' : Int)) = false := by rw [HR.out]; simp; omega
            have hkr : Lnk ls (r : Int) := ⟨by omega, by omega⟩
            have hv3 := hv.lsW r
            have HLR := Lib.hid (length_lsW hr2)
            have hmr : (lsW ls r).length ≤ 16 := by rw [HLR.out]; omega
            have HC := gWithout_yes hv hkr A2 cp2 w5 S5.rd
            rw [Int.toNat_natCast] at HC
            have HC := Lib.hid HC
            have HXA : Hid (lkIx (lsW ls x') (La ls r) (Lb ls r) = (shf x' r : Int)) := by show _ = _; rw [lkIx_lsW hv hx hr2, if_neg hrx]
            have HXB : Hid (lkIx (lsW ls r) (La ls x') (Lb ls x') = (shf r x' : Int)) := by show _ = _; rw [lkIx_lsW hv hr2 hx, if_neg (Ne.symm hrx)]
            have hsA := shf_lt hx hr2 hrx
            have hsB := shf_lt hr2 hx (Ne.symm hrx)
            have HQ : Hid (lsW (lsW ls x') (shf x' r) = lsW (lsW ls r) (shf r x')) := lsW_comm (Ne.symm hrx)
            have hmn : (lsW (lsW ls x') (shf x' r)).length ≤ 16 := by rw [length_lsW hsA, HLW.out]; omega
            have HGLA : Hid (∀ wx, RdL wx wx.heap.size B (lsW ls x') → Calls Try.prog 23 #[.agg #[.int .i64 nd, .slice B (lsW ls x').length cb], .int .i64 (La ls r), .int .i64 (Lb ls r)] wx fun e w' => e = .returned (.int .i64 (shf x' r : Nat)) ∧ Below wx.heap.size wx w') := fun wx hr => by
              rw [← HXA.out]; exact gLink_yes hv2 B cb _ _ wx hr
            have HGWA : Hid (∀ wx, RdL wx wx.heap.size B (lsW ls x') → Calls Try.prog 20 #[.agg #[.int .i64 nd, .slice B (lsW ls x').length cb], .int .i64 (shf x' r : Nat)] wx (RG nd (lsW (lsW ls x') (shf x' r)) true wx)) := fun wx hr => by
              have := gWithout_yes hv2 (n := (shf x' r : Nat)) ⟨by omega, by omega⟩ B cb wx hr
              rwa [Int.toNat_natCast] at this
            have HGLB : Hid (∀ D cd wx, RdL wx wx.heap.size D (lsW ls r) → Calls Try.prog 23 #[.agg #[.int .i64 nd, .slice D (lsW ls r).length cd], .int .i64 (La ls x'), .int .i64 (Lb ls x')] wx fun e w' => e = .returned (.int .i64 (shf r x' : Nat)) ∧ Below wx.heap.size wx w') := fun D cd wx hr => by
              rw [← HXB.out]; exact gLink_yes hv3 D cd _ _ wx hr
            have HGWB : Hid (∀ D cd wx, RdL wx wx.heap.size D (lsW ls r) → Calls Try.prog 20 #[.agg #[.int .i64 nd, .slice D (lsW ls r).length cd], .int .i64 (shf r x' : Nat)] wx (RG nd (lsW (lsW ls x') (shf x' r)) true wx)) := fun D cd wx hr => by
              have := gWithout_yes hv3 (n := (shf r x' : Nat)) ⟨by omega, by omega⟩ D cd wx hr
              rw [Int.toNat_natCast, ← HQ.out] at this
              exact this
            clear hsA hsB HXA HXB HQ
            go_wp2_with fail
            rw [HR.out]
            refine HC.out.mono ?_
            rintro e w6 ⟨⟨D, cd, rfl, oD⟩, hb6⟩
            have S6 := (S5.on hb6).on (bnew w6 (.cells #[.int .i64 nd, .slice D (lsW ls r).length cd] 25))
            have T6 := (T5.on hb6).on (bnew w6 (.cells #[.int .i64 nd, .slice D (lsW ls r).length cd] 25))
            have U6 : LS w (w6.alloc (.cells #[.int .i64 nd, .slice D (lsW ls r).length cd] 25)) w6.heap.size nd D cd (lsW ls r) := ⟨(Blk.new _ _ _).cellAt 0, (Blk.new _ _ _).cellAt 1, oD.rd.on (bnew _ _), S6.bl, hmr⟩
            clear S5 T5 c0 c1 d0 d1 hb6 oD HC
            go_wp2_with fail
            generalize hW : w6.alloc (.cells #[.int .i64 nd, .slice D (lsW ls r).length cd] 25) = W at *
            clear hW
            generalize w6.heap.size = GD at *
            generalize lsW (lsW ls x') (shf x' r) = mn at *
            generalize lsW ls x' = ms at *
            generalize lsW ls r = mr at *
            generalize shf x' r = iA at *
            generalize shf r x' = iB at *
            have HGL : Hid (∀ wx, Below W.heap.size W wx → Calls Try.prog 23 #[.agg #[.int .i64 nd, .slice B ms.length cb], .int .i64 (La ls r), .int .i64 (Lb ls r)] wx fun e w' => e = .returned (.int .i64 (iA : Nat)) ∧ Below wx.heap.size wx w') := fun wx hb => HGLA.out wx (T6.on hb).rd
            have HGW : Hid (∀ wx, Below W.heap.size W wx → Calls Try.prog 20 #[.agg #[.int .i64 nd, .slice B ms.length cb], .int .i64 (iA : Nat)] wx (RG nd mn true wx)) := fun wx hb => HGWA.out wx (T6.on hb).rd
            have BLW := S6.bl
            have c1 := S6.c1
            have d0 := T6.c0
            have d1 := T6.c1
            obtain ⟨ga, go, hA, hga, hcells⟩ := S6.rd (by omega)
            obtain rfl := hA
            obtain ⟨m1, m2, -⟩ := hcells r hr2
            have k0 : (0 : Int) ≤ (r : Int) := by omega
            have k1 : (r : Int) < (ls.length : Int) := by omega
            have k2 : (0 : Int) ≤ (x' : Int) := by omega
            have k3 : (x' : Int) < (ls.length : Int) := by omega
            clear hcells hga
            have BD : Below W.heap.size W W.drew := (Below.refl _ _).drew
            have BA : Below W.heap.size W (W.alloc (.cells #[.int .i64 0, .slice none 0 0] 25)).drew := (bnew _ _).drew
            have ZA : Blk (W.alloc (.cells #[.int .i64 0, .slice none 0 0] 25)).drew W.heap.size 25 [.int .i64 0, .slice none 0 0] := Blk.new W #[.int .i64 0, .slice none 0 0] 25
            have lG : G < W.heap.size := World.block_lt_of_cell? W _ c1
            have lG2 : G2 < W.heap.size := World.block_lt_of_cell? W _ d0
            have lga : ga < W.heap.size := World.block_lt_of_cell? W _ m1
            have n0 : ¬ G = W.heap.size := by omega
            have n1 : ¬ W.heap.size = G := by omega
            have n2 : ¬ G2 = W.heap.size := by omega
            have n3 : ¬ W.heap.size = G2 := by omega
            have n4 : ¬ ga = W.heap.size := by omega
            have n5 : ¬ W.heap.size = ga := by omega
            go_upto_region 12 with fail
            go_cut [14, 15] from 18 (fun s s2 wx => s2 = .bool true ∧ GXb w W nd mn s wx)
            case first =>
              go_region_held3 (fun w' => w'.cell? ⟨G2, 0, none⟩ = some (.int .i64 nd) ∧ w'.cell? ⟨G2, 1, none⟩ = some (.slice B ms.length cb) ∧ w'.cell? ⟨G, 1, none⟩ = some (.slice (some ⟨ga, go, none⟩) ls.length cp2) ∧ w'.cell? ⟨ga, go + r * 3, none⟩ = some (.int .i64 (La ls r)) ∧ w'.cell? ⟨ga, go + r * 3 + 1, none⟩ = some (.int .i64 (Lb ls r))) (go_keep)
                (first
                  | (go_at_call 23; (with_reducible refine (HGL.out _ BD).mono ?_); rintro e w7 ⟨rfl, hb7⟩; have BX := bthen BD hb7; have e0 := ckeep d0 BX; have e1 := ckeep d1 BX; have e2 := ckeep c1 BX; have e3 := ckeep m1 BX; have e4 := ckeep m2 BX; have l1 := Nat.lt_of_lt_of_le lG BX.size; have l2 := Nat.lt_of_lt_of_le lG2 BX.size; have l3 := Nat.lt_of_lt_of_le lga BX.size; have a1 : ¬ G = w7.heap.size := (by omega); have a2 : ¬ w7.heap.size = G := (by omega); have a3 : ¬ G2 = w7.heap.size := (by omega); have a4 : ¬ w7.heap.size = G2 := (by omega); have a5 : ¬ ga = w7.heap.size := (by omega); have a6 : ¬ w7.heap.size = ga := (by omega); have hLe := BX.size; have BY := bthen BX (bnew w7 (.cells #[.int .i64 0, .slice none 0 0] 25)); have ZY : Blk (w7.alloc (.cells #[.int .i64 0, .slice none 0 0] 25)) w7.heap.size 25 [.int .i64 0, .slice none 0 0] := Blk.new w7 #[.int .i64 0, .slice none 0 0] 25)
                  | (go_at_call 23; (with_reducible refine (HGL.out _ BA).mono ?_); rintro e w7 ⟨rfl, hb7⟩; have BX := bthen BA hb7; have e0 := ckeep d0 BX; have e1 := ckeep d1 BX; have e2 := ckeep c1 BX; have e3 := ckeep m1 BX; have e4 := ckeep m2 BX; have ZB := ZA.keep hb7; have z0 := ZB.cellAt 0; have z1 := ZB.cellAt 1; have y0 := ZB.frozenAt 0; have y1 := ZB.frozenAt 1; simp only [List.getElem?_cons_zero, List.getElem?_cons_succ] at z0 z1)
                  | (go_at_call 20; (with_reducible refine (HGW.out _ BX).mono ?_); rintro e w8 ⟨⟨X, cx, rfl, oX⟩, hb8⟩; have BX := bthen BX hb8; have e0 := ckeep d0 BX; have e1 := ckeep d1 BX; have e2 := ckeep c1 BX; have e3 := ckeep m1 BX; have e4 := ckeep m2 BX; have l1 := Nat.lt_of_lt_of_le lG BX.size; have l2 := Nat.lt_of_lt_of_le lG2 BX.size; have l3 := Nat.lt_of_lt_of_le lga BX.size; have a1 : ¬ G = w8.heap.size := (by omega); have a2 : ¬ w8.heap.size = G := (by omega); have a3 : ¬ G2 = w8.heap.size := (by omega); have a4 : ¬ w8.heap.size = G2 := (by omega); have a5 : ¬ ga = w8.heap.size := (by omega); have a6 : ¬ w8.heap.size = ga := (by omega); (try (have ZB := ZB.keep hb8; have z0 := ZB.cellAt 0; have z1 := ZB.cellAt 1; have y0 := ZB.frozenAt 0; have y1 := ZB.frozenAt 1; simp only [List.getElem?_cons_zero, List.getElem?_cons_succ] at z0 z1)))
                  | (go_at_call 20; (with_reducible refine (HGW.out _ BY).mono ?_); rintro e w8 ⟨⟨X, cx, rfl, oX⟩, hb8⟩; have BX := bthen BY hb8; have e0 := ckeep d0 BX; have e1 := ckeep d1 BX; have e2 := ckeep c1 BX; have e3 := ckeep m1 BX; have e4 := ckeep m2 BX; have ZB := ZY.keep hb8; have z0 := ZB.cellAt 0; have z1 := ZB.cellAt 1; have y0 := ZB.frozenAt 0; have y1 := ZB.frozenAt 1; simp only [List.getElem?_cons_zero, List.getElem?_cons_succ] at z0 z1))
              all_goals
                go_wp2_with fail
                go_meet
                first | exact ⟨rfl, gxbA BLW BX oX hmn⟩ | exact ⟨rfl, gxbB BLW BX oX ZB (Nat.le_refl _) hmn⟩ | exact ⟨rfl, gxbB BLW BX oX ZB hLe hmn⟩
            case rest =>
              obtain ⟨rfl, G4, X, cx, rfl, V7, B7⟩ := hcut
              have S7 := S6.on B7
              have U7 := U6.on B7
              clear S6 T6 U6 B7 BD BA ZA HGL HGW BLW lG lG2 lga n0 n1 n2 n3 n4 n5 c1 d0 d1 m1 m2
              have HGL : Hid (∀ wx, Below wc.heap.size wc wx → Calls Try.prog 23 #[.agg #[.int .i64 nd, .slice D mr.length cd], .int .i64 (La ls x'), .int .i64 (Lb ls x')] wx fun e w' => e = .returned (.int .i64 (iB : Nat)) ∧ Below wx.heap.size wx w') := fun wx hb => HGLB.out D cd wx (U7.on hb).rd
              have HGW : Hid (∀ wx, Below wc.heap.size wc wx → Calls Try.prog 20 #[.agg #[.int .i64 nd, .slice D mr.length cd], .int .i64 (iB : Nat)] wx (RG nd mn true wx)) := fun wx hb => HGWB.out D cd wx (U7.on hb).rd
              have BLW := S7.bl
              have c1 := S7.c1
              have d0 := U7.c0
              have d1 := U7.c1
              obtain ⟨ga', go', hA, hga, hcells⟩ := S7.rd (by omega)
              injection hA with hA
              injection hA with hA1 hA2
              subst hA1 hA2
              obtain ⟨m1, m2, -⟩ := hcells x' hx
              clear hcells hga
              have BD : Below wc.heap.size wc wc.drew := (Below.refl _ _).drew
              have BA : Below wc.heap.size wc (wc.alloc (.cells #[.int .i64 0, .slice none 0 0] 25)).drew := (bnew _ _).drew
              have ZA : Blk (wc.alloc (.cells #[.int .i64 0, .slice none 0 0] 25)).drew wc.heap.size 25 [.int .i64 0, .slice none 0 0] := Blk.new wc #[.int .i64 0, .slice none 0 0] 25
              have lG : G < wc.heap.size := World.block_lt_of_cell? wc _ c1
              have lG2 : GD < wc.heap.size := World.block_lt_of_cell? wc _ d0
              have lga : ga < wc.heap.size := World.block_lt_of_cell? wc _ m1
              have n0 : ¬ G = wc.heap.size := by omega
              have n1 : ¬ wc.heap.size = G := by omega
              have n2 : ¬ GD = wc.heap.size := by omega
              have n3 : ¬ wc.heap.size = GD := by omega
              have n4 : ¬ ga = wc.heap.size := by omega
              have n5 : ¬ wc.heap.size = ga := by omega
              go_upto_region 13 with fail
              go_cut [16, 17] from 18 (fun s s2 wx => s2 = .bool true ∧ GXb w wc nd mn s wx)
              case first =>
                go_region_held3 (fun w' => w'.cell? ⟨GD, 0, none⟩ = some (.int .i64 nd) ∧ w'.cell? ⟨GD, 1, none⟩ = some (.slice D mr.length cd) ∧ w'.cell? ⟨G, 1, none⟩ = some (.slice (some ⟨ga, go, none⟩) ls.length cp2) ∧ w'.cell? ⟨ga, go + x' * 3, none⟩ = some (.int .i64 (La ls x')) ∧ w'.cell? ⟨ga, go + x' * 3 + 1, none⟩ = some (.int .i64 (Lb ls x'))) (go_keep)
                  (first
                    | (go_at_call 23; (with_reducible refine (HGL.out _ BD).mono ?_); rintro e w7 ⟨rfl, hb7⟩; have BX := bthen BD hb7; have e0 := ckeep d0 BX; have e1 := ckeep d1 BX; have e2 := ckeep c1 BX; have e3 := ckeep m1 BX; have e4 := ckeep m2 BX; have l1 := Nat.lt_of_lt_of_le lG BX.size; have l2 := Nat.lt_of_lt_of_le lG2 BX.size; have l3 := Nat.lt_of_lt_of_le lga BX.size; have a1 : ¬ G = w7.heap.size := (by omega); have a2 : ¬ w7.heap.size = G := (by omega); have a3 : ¬ GD = w7.heap.size := (by omega); have a4 : ¬ w7.heap.size = GD := (by omega); have a5 : ¬ ga = w7.heap.size := (by omega); have a6 : ¬ w7.heap.size = ga := (by omega); have hLe := BX.size; have BY := bthen BX (bnew w7 (.cells #[.int .i64 0, .slice none 0 0] 25)); have ZY : Blk (w7.alloc (.cells #[.int .i64 0, .slice none 0 0] 25)) w7.heap.size 25 [.int .i64 0, .slice none 0 0] := Blk.new w7 #[.int .i64 0, .slice none 0 0] 25)
                    | (go_at_call 23; (with_reducible refine (HGL.out _ BA).mono ?_); rintro e w7 ⟨rfl, hb7⟩; have BX := bthen BA hb7; have e0 := ckeep d0 BX; have e1 := ckeep d1 BX; have e2 := ckeep c1 BX; have e3 := ckeep m1 BX; have e4 := ckeep m2 BX; have ZB := ZA.keep hb7; have z0 := ZB.cellAt 0; have z1 := ZB.cellAt 1; have y0 := ZB.frozenAt 0; have y1 := ZB.frozenAt 1; simp only [List.getElem?_cons_zero, List.getElem?_cons_succ] at z0 z1)
                    | (go_at_call 20; (with_reducible refine (HGW.out _ BX).mono ?_); rintro e w8 ⟨⟨X, cx, rfl, oX⟩, hb8⟩; have BX := bthen BX hb8; have e0 := ckeep d0 BX; have e1 := ckeep d1 BX; have e2 := ckeep c1 BX; have e3 := ckeep m1 BX; have e4 := ckeep m2 BX; have l1 := Nat.lt_of_lt_of_le lG BX.size; have l2 := Nat.lt_of_lt_of_le lG2 BX.size; have l3 := Nat.lt_of_lt_of_le lga BX.size; have a1 : ¬ G = w8.heap.size := (by omega); have a2 : ¬ w8.heap.size = G := (by omega); have a3 : ¬ GD = w8.heap.size := (by omega); have a4 : ¬ w8.heap.size = GD := (by omega); have a5 : ¬ ga = w8.heap.size := (by omega); have a6 : ¬ w8.heap.size = ga := (by omega); (try (have ZB := ZB.keep hb8; have z0 := ZB.cellAt 0; have z1 := ZB.cellAt 1; have y0 := ZB.frozenAt 0; have y1 := ZB.frozenAt 1; simp only [List.getElem?_cons_zero, List.getElem?_cons_succ] at z0 z1)))
                    | (go_at_call 20; (with_reducible refine (HGW.out _ BY).mono ?_); rintro e w8 ⟨⟨X, cx, rfl, oX⟩, hb8⟩; have BX := bthen BY hb8; have e0 := ckeep d0 BX; have e1 := ckeep d1 BX; have e2 := ckeep c1 BX; have e3 := ckeep m1 BX; have e4 := ckeep m2 BX; have ZB := ZY.keep hb8; have z0 := ZB.cellAt 0; have z1 := ZB.cellAt 1; have y0 := ZB.frozenAt 0; have y1 := ZB.frozenAt 1; simp only [List.getElem?_cons_zero, List.getElem?_cons_succ] at z0 z1))
                all_goals
                  go_wp2_with fail
                  go_meet
                  first | exact ⟨rfl, gxbA BLW BX oX hmn⟩ | exact ⟨rfl, gxbB BLW BX oX ZB (Nat.le_refl _) hmn⟩ | exact ⟨rfl, gxbB BLW BX oX ZB hLe hmn⟩
              case rest =>
                obtain ⟨rfl, G5, Y, cy, rfl, Q8, B8⟩ := hcut
                have V8 := V7.on B8
                clear S7 U7 V7 B8 BD BA ZA HGL HGW BLW lG lG2 lga n0 n1 n2 n3 n4 n5 c1 d0 d1 m1 m2
                have v0 := V8.c0
                have v1 := V8.c1
                have q0 := Q8.c0
                have q1 := Q8.c1
                go_wp2_with fail
                refine (same_yes nd X Y cx cy _ _ (by omega) V8.rd Q8.rd).mono ?_
                rintro e w9 ⟨rfl, hb9⟩
                go_wp2_with fail
                go_ret
                exact ⟨rfl, (V8.on hb9).bl⟩
      · go_wp2_with fail
        refine (gWithout_no h A2 cp2 _ (by omega) S.rd).mono ?_
        rintro e w2 ⟨⟨B, cb, rfl, ho2⟩, hb2⟩
        have S2 := S.on hb2
        have c0 := S2.c0
        have c1 := S2.c1
        have l2 := World.block_lt_of_cell? w2 _ c0
        have r2 := ho2.rd.on (bnew w2 (.cells #[.int .i64 0, .slice B 0 cb] 25))
        have S2' := S2.on (bnew w2 (.cells #[.int .i64 0, .slice B 0 cb] 25))
        have T2 : LS w (w2.alloc (.cells #[.int .i64 0, .slice B 0 cb] 25)) w2.heap.size 0 B cb [] := ⟨by go_simp, by go_simp, r2, S2'.bl, by simp⟩
        clear S hb2 ho2
        go_wp2_with fail
        refine (sgWithout_no h A2 cp2 _ (by omega) S2'.rd).mono ?_
        rintro e w3 ⟨⟨C, cc, rfl, ho3⟩, hb3⟩
        have T3 := T2.on hb3
        have q3 := ho3.rd.on (bnew w3 (.cells #[.int .i64 0, .slice C 0 cc] 25))
        clear S2 S2' T2 hb3 c0 c1 ho3 r2 l2
        have d0 : w3.cell? ⟨w2.heap.size, 0, none⟩ = some (.int .i64 0) := T3.c0
        have d1 : w3.cell? ⟨w2.heap.size, 1, none⟩ = some (.slice B 0 cb) := T3.c1
        have l4 := World.block_lt_of_cell? w3 _ d0
        have T4 := T3.on (bnew w3 (.cells #[.int .i64 0, .slice C 0 cc] 25))
        go_wp2_with fail
        refine (same_yes 0 B C cb cc [] _ (by simp) T4.rd q3).mono ?_
        rintro e w5 ⟨rfl, hb5⟩
        have T5 := T4.on hb5
        have q5 := q3.on hb5
        have k0 : w5.cell? ⟨w3.heap.size, 0, none⟩ = some (.int .i64 0) := ckeep (by go_simp) hb5
        have k1 : w5.cell? ⟨w3.heap.size, 1, none⟩ = some (.slice C 0 cc) := ckeep (by go_simp) hb5
        clear T3 T4 d0 d1 l4 hb5 q3
        have d0 : w5.cell? ⟨w2.heap.size, 0, none⟩ = some (.int .i64 0) := T5.c0
        have d1 : w5.cell? ⟨w2.heap.size, 1, none⟩ = some (.slice B 0 cb) := T5.c1
        go_wp2_with fail
        refine (same_yes 0 B C cb cc [] _ (by simp) T5.rd q5).mono ?_
        rintro e w6 ⟨rfl, hb6⟩
        go_wp2_with fail
        go_ret
        exact ⟨rfl, (T5.on hb6).bl⟩
    · have m20' : (1048576 : Int) < (bs1.length : Int) := by omega
      go_enter Try.func3, Try.ntmps3
      go_wp2_with fail
      go_ret
      exact ⟨rfl, Below.refl _ _⟩
  · have h20' : (1048576 : Int) < (bs.length : Int) := by omega
    go_enter Try.func3, Try.ntmps3
    go_wp2_with fail
    go_ret
    exact ⟨rfl, Below.refl _ _⟩

end Go.Proofs.Ytmkjndfhfhfggaa.fnWithoutTwo
