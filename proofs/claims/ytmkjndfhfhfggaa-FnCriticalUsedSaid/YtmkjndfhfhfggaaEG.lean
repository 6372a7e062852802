/-
  The walks of both Critical.
-/
import Derived.Test.YtmkjndfhfhfggaaEB
import Derived.Test.YtmkjndfhfhfggaaWU
import Derived.Deep.RegionHeld3
namespace Go.Proofs.Ytmkjndfhfhfggaa
open Go.RowKit
set_option maxRecDepth 100000

/-- what Critical lists -/
noncomputable def critO (nd : Int) (ls : List Lk) : List Int := if bl (Valid nd ls) then crit nd ls else []
theorem critO_yes {nd : Int} {ls : List Lk} (h : Valid nd ls) : critO nd ls = crit nd ls := by unfold critO; rw [bl_true h, if_pos rfl]
theorem critO_no {nd : Int} {ls : List Lk} (h : ¬ Valid nd ls) : critO nd ls = [] := by unfold critO; rw [bl_false h]; rfl
theorem critO_len {nd : Int} {ls : List Lk} : (critO nd ls).length ≤ 14 := by
  by_cases h : Valid nd ls
  · rw [critO_yes h]; have := upTo_le (critB nd ls) ls.length; have := h.2.2.1; unfold crit; omega
  · rw [critO_no h]; simp
theorem RdF.none_ (w : World) (B : Option Addr) : RdF w none [] B := fun h => by simp at h

set_option maxRecDepth 100000 in
set_option maxHeartbeats 4000000 in
theorem gCrit_any (nd : Int) (A : Option Addr) (cp : Nat) (ls : List Lk) (w : World) (hlen : ls.length ≤ 9223372036854775806) (hr : RdL w w.heap.size A ls) :
    Calls Try.prog 25 #[.agg #[.int .i64 nd, .slice A ls.length cp]] w (RI (critO nd ls) w) := by
  have E0 := emptyOut w (.cells #[.int .i64 nd, .slice A ls.length cp] 25)
  have BX0 := (Blk.new w #[.int .i64 nd, .slice A ls.length cp] 25).keep (bnew _ (.cells #[] 3))
  have BB0 : Below w.heap.size w ((w.alloc (.cells #[.int .i64 nd, .slice A ls.length cp] 25)).alloc (.cells #[] 3)) := b2 _ _ _
  by_cases hv : Valid nd ls
  · rw [critO_yes hv]
    have h14 := hv.2.2.1
    have h1 := hv.1
    have HLE := Lib.hid (fun k : Nat => upTo_le (critB nd ls) k)
    obtain ⟨i0, hi, hz0, hz1, hz2⟩ := info_parts Try.infoIn
    go_enter Try.func25, Try.ntmps25
    go_wp2_with fail
    refine (gv_yes hv A cp _ (hr.on BB0)).mono ?_
    rintro e w1 ⟨rfl, hb1⟩
    have T : UT w w1 nd A cp ls (some ⟨w.heap.size + 1, 0, none⟩) 0 [] none [] := ⟨E0.keep hb1, RdF.none_ _ _, BX0.keep hb1, bthen BB0 hb1⟩
    have c1 : w1.cell? ⟨w.heap.size, 1, none⟩ = some (.slice A ls.length cp) := T.bx.cellAt 1
    clear E0 BX0 BB0 hb1
    go_wp2_with fail
    go_loopw [3, 16] (fun o i wr => ∃ (k : Nat) (B : Option Addr) (cq : Nat), k ≤ ls.length ∧ i = .int .i64 k ∧ o = .slice B (upTo (critB nd ls) k).length cq ∧ UT w wr nd A cp ls B cq (upTo (critB nd ls) k) none []) (fun _ i _ => ls.length - (intOf i).toNat)
    case atStart => exact ⟨0, _, _, Nat.zero_le _, rfl, rfl, T⟩
    case round =>
      obtain ⟨k, B, cq, hk, rfl, rfl, T1⟩ := hrel
      clear T c1
      by_cases hlt : k < ls.length
      · obtain ⟨ga, go, hA, hga, hc⟩ := hr (by omega)
        obtain rfl := hA
        obtain ⟨d1, d2, d3⟩ := hc k hlt
        obtain ⟨ea, eb, _⟩ := ends_nd hv hlt
        have hkL : Lnk ls (k : Int) := ⟨by omega, by omega⟩
        have hv2 := hv.lsW k
        have HP : Hid (critB nd ls k = decide (D nd (lsW ls k) (La ls k) (Lb ls k) < 0)) := rfl
        obtain ⟨i, hi'⟩ := Int.eq_ofNat_of_zero_le ea.1
        obtain ⟨j, hj'⟩ := Int.eq_ofNat_of_zero_le eb.1
        rw [hi'] at d1 ea HP
        rw [hj'] at d2 eb HP
        clear hi' hj' hc
        have hjn := eb.2
        have d1' := (T1.bl.cell (by exact hga)).trans d1
        have d2' := (T1.bl.cell (by exact hga)).trans d2
        have d3' := (T1.bl.cell (by exact hga)).trans d3
        clear d1 d2 d3
        generalize Lc ls k = c at *
        have c0 : wr.cell? ⟨w.heap.size, 0, none⟩ = some (.int .i64 nd) := T1.bx.cellAt 0
        have c1 : wr.cell? ⟨w.heap.size, 1, none⟩ = some (.slice (some ⟨ga, go, none⟩) ls.length cp) := T1.bx.cellAt 1
        have l0 := T1.bx.lt
        have q0 : (0 : Int) ≤ (k : Int) := by omega
        have q1 : (k : Int) < (ls.length : Int) := by omega
        have rW : RdL (wr.alloc (.cells #[.int .i64 i, .int .i64 j, .int .i64 c] 33)) (wr.alloc (.cells #[.int .i64 i, .int .i64 j, .int .i64 c] 33)).heap.size (some ⟨ga, go, none⟩) ls := (hr.keep (bthen T1.bl (bnew _ _))).more (bthen T1.bl (bnew _ _)).size
        have HC := gWithout_yes hv hkL (some ⟨ga, go, none⟩) cp _ rW
        rw [Int.toNat_natCast] at HC
        have HC := Lib.hid HC
        have lk0 := Blk.new wr #[.int .i64 i, .int .i64 j, .int .i64 c] 33
        go_wp2_with fail
        refine HC.out.mono ?_
        rintro e w2 ⟨⟨X, cx, rfl, oX⟩, hb2⟩
        have T2 := (T1.on (bnew wr (.cells #[.int .i64 i, .int .i64 j, .int .i64 c] 33))).on hb2
        have lk2 := lk0.keep hb2
        have T3 := T2.on ((bnew w2 (.cells #[.int .i64 nd, .slice X (lsW ls k).length cx] 25)).drew)
        have rX := oX.rd.on ((bnew w2 (.cells #[.int .i64 nd, .slice X (lsW ls k).length cx] 25)).drew)
        have lk3 := lk2.keep ((bnew w2 (.cells #[.int .i64 nd, .slice X (lsW ls k).length cx] 25)).drew)
        have gx3 : Blk (w2.alloc (.cells #[.int .i64 nd, .slice X (lsW ls k).length cx] 25)).drew w2.heap.size 25 [.int .i64 nd, .slice X (lsW ls k).length cx] := Blk.new _ _ _
        have l2 := lk2.lt
        have m0 := lk3.cellAt 0
        have m1 := lk3.cellAt 1
        have m2 := gx3.cellAt 0
        have m3 := gx3.cellAt 1
        simp only [List.getElem?_cons_zero, List.getElem?_cons_succ] at m0 m1 m2 m3
        have HD := Lib.hid (dist_any hv2 ea X cx _ rX)
        have HL := Lib.hid (length_dists nd (lsW ls k) i)
        clear c0 c1 d1' d2' d3' hb2 oX rX T1 T2 lk0 lk2 lk3 gx3 HC rW
        go_wp2_with fail
        have W3 : Hid (∀ w3 : World, Below (w2.alloc (.cells #[.int .i64 nd, .slice X (lsW ls k).length cx] 25)).drew.heap.size (w2.alloc (.cells #[.int .i64 nd, .slice X (lsW ls k).length cx] 25)).drew w3 → w3.cell? ⟨wr.heap.size, 0, none⟩ = some (.int .i64 i) ∧ w3.cell? ⟨wr.heap.size, 1, none⟩ = some (.int .i64 j)) := fun w3 hb => ⟨ckeep m0 hb, ckeep m1 hb⟩
        go_region_with (go_at_call 64; refine HD.out.mono ?_; rintro e w3 ⟨⟨DD, dc, rfl, oD⟩, hb3⟩; obtain ⟨e2, e3⟩ := W3.out w3 hb3; obtain ⟨dg, dof, hDD, hdg, hdc⟩ := oD.rd (by rw [HL.out]; omega); obtain rfl := hDD; have x1 := hdc j (by rw [HL.out]; omega); rw [show Ix (dists nd (lsW ls k) i) j = D nd (lsW ls k) i j from (by unfold D; rw [Int.toNat_natCast])] at x1; have j0 : (0 : Int) ≤ (j : Int) := (by omega); have j1 : (j : Int) < ((dists nd (lsW ls k) i).length : Int) := (by rw [HL.out]; omega); have T4 := T3.on hb3; clear hdc oD hb3)
        all_goals
          clear m0 m1 m2 m3 T3 HD
          generalize D nd (lsW ls k) i j = x at *
          cases t : decide (x < 0)
          · rw [t] at HP
            have HPu := Lib.hid (upTo_no HP.out)
            go_wp2_with fail
            go_roundw
            case rel => exact ⟨k + 1, B, cq, by omega, by go_num, by rw [HPu.out], by rw [HPu.out]; exact T4⟩
            case measure => simp [intOf]; omega
          · rw [t] at HP
            have HPu := Lib.hid (upTo_yes HP.out)
            have hkl := HLE.out k
            go_wp2_with (at_builtin; refine wpList_appJ _ rfl (.tmp 36) (.tmp 38) 36 rfl i0 Try.underlying36 hi hz0 hz1 hz2 rfl rfl (T4.ho.keep (bnew _ _)) k rfl (by go_simp) (by omega) (by have := T4.bl.size; simp; omega) ?_; intro A5 cp5 n5 w5 HN5 O5 G5 hat5)
            have T5 := (T4.on (bnew w3 (.cells #[.int .i64 k] 3))).app O5 G5 hat5
            go_roundw
            case rel => exact ⟨k + 1, A5, cp5, by omega, by go_num, by rw [HN5.out, HPu.out], by rw [HPu.out]; exact T5⟩
            case measure => simp [intOf]; omega
      · have HE : Hid (upTo (critB nd ls) k = crit nd ls) := by show _ = _; unfold crit; rw [show k = ls.length from by omega]
        go_wp2_with fail
        go_ret
        exact ⟨⟨B, cq, by rw [← HE.out]; rfl, by rw [← HE.out]; exact T1.ho⟩, T1.bl⟩
  · rw [critO_no hv]
    go_enter Try.func25, Try.ntmps25
    go_wp2_with fail
    refine (gv_no hv A cp _ (by omega) (hr.on BB0)).mono ?_
    rintro e w1 ⟨rfl, hb1⟩
    have E1 := E0.keep hb1
    have B1 := bthen BB0 hb1
    go_wp2_with fail
    go_ret
    exact ⟨⟨_, _, rfl, E1⟩, B1⟩

set_option maxRecDepth 100000 in
set_option maxHeartbeats 4000000 in
theorem sgCrit_any (nd : Int) (A : Option Addr) (cp : Nat) (ls : List Lk) (w : World) (hlen : ls.length ≤ 1048576) (hcap : ls.length ≤ cp) (hr : RdL w w.heap.size A ls) :
    Calls Try.prog 26 #[.agg #[.int .i64 nd, .slice A ls.length cp]] w (RI (critO nd ls) w) := by
  have E0 := emptyOut w (.cells #[.int .i64 nd, .slice A ls.length cp] 25)
  have BX0 := (Blk.new w #[.int .i64 nd, .slice A ls.length cp] 25).keep (bnew _ (.cells #[] 3))
  have BB0 : Below w.heap.size w ((w.alloc (.cells #[.int .i64 nd, .slice A ls.length cp] 25)).alloc (.cells #[] 3)) := b2 _ _ _
  have T : UT w ((w.alloc (.cells #[.int .i64 nd, .slice A ls.length cp] 25)).alloc (.cells #[] 3)) nd A cp ls (some ⟨w.heap.size + 1, 0, none⟩) 0 [] none [] := ⟨E0, RdF.none_ _ _, BX0, BB0⟩
  clear E0 BX0
  by_cases hv : Valid nd ls
  · rw [critO_yes hv]
    have h14 := hv.2.2.1
    have h1 := hv.1
    have HLE := Lib.hid (fun k : Nat => upTo_le (critB nd ls) k)
    obtain ⟨i0, hi, hz0, hz1, hz2⟩ := info_parts Try.infoIn
    go_enter Try.func26, Try.ntmps26
    go_wp2_with fail
    go_loopw [3, 4] (fun o i wr => ∃ (k : Nat) (B : Option Addr) (cq : Nat), k ≤ ls.length ∧ i = .int .i64 k ∧ o = .slice B (upTo (critB nd ls) k).length cq ∧ UT w wr nd A cp ls B cq (upTo (critB nd ls) k) none []) (fun _ i _ => ls.length - (intOf i).toNat)
    case atStart => exact ⟨0, _, _, Nat.zero_le _, rfl, rfl, T⟩
    case round =>
      obtain ⟨k, B, cq, hk, rfl, rfl, T0⟩ := hrel
      clear T BB0
      have c0 : wr.cell? ⟨w.heap.size, 0, none⟩ = some (.int .i64 nd) := T0.bx.cellAt 0
      have c1 : wr.cell? ⟨w.heap.size, 1, none⟩ = some (.slice A ls.length cp) := T0.bx.cellAt 1
      by_cases hlt : k < ls.length
      · go_wp2_with fail
        refine (sgv_yes hv A cp _ ((hr.keep T0.bl).more T0.bl.size)).mono ?_
        rintro e w1 ⟨rfl, hb1⟩
        have T1 := T0.on hb1
        clear T0 c0 c1 hb1
        obtain ⟨ga, go, hA, hga, hc⟩ := hr (by omega)
        obtain rfl := hA
        obtain ⟨d1, d2, d3⟩ := hc k hlt
        obtain ⟨ea, eb, _⟩ := ends_nd hv hlt
        have hv2 := hv.lsW k
        have HP : Hid (critB nd ls k = decide (D nd (lsW ls k) (La ls k) (Lb ls k) < 0)) := rfl
        obtain ⟨i, hi'⟩ := Int.eq_ofNat_of_zero_le ea.1
        obtain ⟨j, hj'⟩ := Int.eq_ofNat_of_zero_le eb.1
        rw [hi'] at d1 ea HP
        rw [hj'] at d2 eb HP
        clear hi' hj' hc d3
        have hjn := eb.2
        have T3 := T1.on ((Below.refl _ _).drew)
        have m0 := (T3.bl.cell (by exact hga)).trans d1
        have m1 := (T3.bl.cell (by exact hga)).trans d2
        have m2 : w1.drew.cell? ⟨w.heap.size, 0, none⟩ = some (.int .i64 nd) := T3.bx.cellAt 0
        have m3 : w1.drew.cell? ⟨w.heap.size, 1, none⟩ = some (.slice (some ⟨ga, go, none⟩) ls.length cp) := T3.bx.cellAt 1
        have q0 : (0 : Int) ≤ (k : Int) := by omega
        have q1 : (k : Int) < (ls.length : Int) := by omega
        have HC := Lib.hid (l1Without_any nd (some ⟨ga, go, none⟩) cp ls k w1.drew h14 hcap hlt ((hr.keep T3.bl).more T3.bl.size))
        have HL := Lib.hid (length_dists nd (lsW ls k) i)
        clear d1 d2 T1
        go_upto_region 5 with fail
        go_cut [35] from 6 to 39 (fun s wx => s = .bool (decide (D nd (lsW ls k) i j < 0)) ∧ UT w wx nd (some ⟨ga, go, none⟩) cp ls B cq (upTo (critB nd ls) k) none [])
        case first =>
          refine wp_region_held_drew (S := fun w' => w'.cell? ⟨w.heap.size, 0, none⟩ = some (.int .i64 nd) ∧ w'.cell? ⟨w.heap.size, 1, none⟩ = some (.slice (some ⟨ga, go, none⟩) ls.length cp) ∧ w'.cell? ⟨ga, go + k * 3, none⟩ = some (.int .i64 i) ∧ w'.cell? ⟨ga, go + k * 3 + 1, none⟩ = some (.int .i64 j)) (by kernel_rfl) ?_ (fun hHeld0 => ?_)
          · exact ⟨m2, m3, m0, m1⟩
          refine wpAnyH_take (i := 0) (v := ?v0) rfl (by kernel_rfl) (by kernel_rfl) (by kernel_rfl) (fun _ _ _ h => h) (Or.inl ⟨by rfl, ?y0⟩) (by assumption) ?r0
          case y0 => intro w hSw; (try dsimp only at hSw); go_simp; (try with_reducible rfl)
          try simp only [Act.put, List.setIfInBounds_toArray]
          refine wpAnyH_take (i := 1) (v := ?v1) rfl (by kernel_rfl) (by kernel_rfl) (by kernel_rfl) (fun _ _ _ h => h) (Or.inl ⟨by rfl, ?y1⟩) (by assumption) ?r1
          case y1 => intro w hSw; (try dsimp only at hSw); go_simp; (try with_reducible rfl)
          try simp only [Act.put]
          refine wpAnyH_take (i := 3) (v := ?v3) rfl (by kernel_rfl) (by kernel_rfl) (by kernel_rfl) (fun _ _ _ h => h) (Or.inl ⟨by rfl, ?y3⟩) (by assumption) ?r3
          case y3 => intro w hSw; (try dsimp only at hSw); go_simp; (try with_reducible rfl)
          try simp only [Act.put]
          refine wpAnyH_take (i := 4) (v := ?v4) rfl (by kernel_rfl) (by kernel_rfl) (by kernel_rfl) (fun _ _ _ h => h) (Or.inl ⟨by rfl, ?y4⟩) (by assumption) ?r4
          case y4 => intro w hSw; (try dsimp only at hSw); go_simp; (try with_reducible rfl)
          try simp only [Act.put]
          refine wpAnyH_take (i := 5) (v := ?v5) rfl (by kernel_rfl) (by kernel_rfl) (by kernel_rfl) (fun _ _ _ h => h) (Or.inl ⟨by rfl, ?y5⟩) (by assumption) ?r5
          case y5 => intro w hSw; (try dsimp only at hSw); go_simp; (try with_reducible rfl)
          try simp only [Act.put]
          refine wpAnyH_take (i := 6) (v := ?v6) rfl (by kernel_rfl) (by kernel_rfl) (by kernel_rfl) (fun _ _ _ h => h) (Or.inl ⟨by rfl, ?y6⟩) (by assumption) ?r6
          case y6 => intro w hSw; (try dsimp only at hSw); go_simp; (try with_reducible rfl)
          try simp only [Act.put]
          refine wpAnyH_take (i := 7) (v := ?v7) rfl (by kernel_rfl) (by kernel_rfl) (by kernel_rfl) (fun _ _ _ h => h) (Or.inl ⟨by rfl, ?y7⟩) (by assumption) ?r7
          case y7 => intro w hSw; (try dsimp only at hSw); go_simp; (try with_reducible rfl)
          try simp only [Act.put]
          refine wpAnyH_take (i := 8) (v := ?v8) rfl (by kernel_rfl) (by kernel_rfl) (by kernel_rfl) (fun _ _ _ h => h) (Or.inl ⟨by rfl, ?y8⟩) (by assumption) ?r8
          case y8 => intro w hSw; (try dsimp only at hSw); go_simp; (try with_reducible rfl)
          try simp only [Act.put]
          refine wpAnyH_take (i := 10) (v := ?v10) rfl (by kernel_rfl) (by kernel_rfl) (by kernel_rfl) (fun _ _ _ h => h) (Or.inl ⟨by rfl, ?y10⟩) (by assumption) ?r10
          case y10 => intro w hSw; (try dsimp only at hSw); go_simp; (try with_reducible rfl)
          try simp only [Act.put]
          refine wpAnyH_take (i := 11) (v := ?v11) rfl (by kernel_rfl) (by kernel_rfl) (by kernel_rfl) (fun _ _ _ h => h) (Or.inl ⟨by rfl, ?y11⟩) (by assumption) ?r11
          case y11 => intro w hSw; (try dsimp only at hSw); go_simp; (try with_reducible rfl)
          try simp only [Act.put]
          refine wpAnyH_take (i := 12) (v := ?v12) rfl (by kernel_rfl) (by kernel_rfl) (by kernel_rfl) (fun _ _ _ h => h) (Or.inl ⟨by rfl, ?y12⟩) (by assumption) ?r12
          case y12 => intro w hSw; (try dsimp only at hSw); go_simp; (try with_reducible rfl)
          try simp only [Act.put]
          refine wpAnyH_take (i := 13) (v := ?v13) rfl (by kernel_rfl) (by kernel_rfl) (by kernel_rfl) (fun _ _ _ h => h) (Or.inl ⟨by rfl, ?y13⟩) (by assumption) ?r13
          case y13 => intro w hSw; (try dsimp only at hSw); go_simp; (try with_reducible rfl)
          try simp only [Act.put]
          refine wpAnyH_take (i := 14) (v := ?v14) rfl (by kernel_rfl) (by kernel_rfl) (by kernel_rfl) (fun _ _ _ h => h) (Or.inl ⟨by rfl, ?y14⟩) (by assumption) ?r14
          case y14 => intro w hSw; (try dsimp only at hSw); go_simp; (try with_reducible rfl)
          try simp only [Act.put]
          refine wpAnyH_take (i := 15) (v := ?v15) rfl (by kernel_rfl) (by kernel_rfl) (by kernel_rfl) (fun _ _ _ h => h) (Or.inl ⟨by rfl, ?y15⟩) (by assumption) ?r15
          case y15 => intro w hSw; (try dsimp only at hSw); go_simp; (try with_reducible rfl)
          try simp only [Act.put]
          refine wpAnyH_ready (rs := [2]) (by kernel_rfl) (by simp) ?_
          refine AllReadyH.cons rfl (fun K hK => ?_) AllReadyH.nil
          go_simp
          (go_at_call 61; refine HC.out.mono ?_; rintro e w2 ⟨⟨X, cx, rfl, oX⟩, hb2⟩; have e1 := ckeep m3 hb2; have e2 := ckeep m0 hb2; have e3 := ckeep m1 hb2; have e4 := ckeep m2 hb2; have T4 := T3.on hb2)
          go_wp2_with fail
          refine hK.out _ _ ?_ (fun hHeld1 => ?_)
          · exact ⟨e4, e1, e2, e3⟩
          clear hK K
          try simp only [Act.put, List.setIfInBounds_toArray]
          refine wpAnyH_ready (rs := [9]) (by kernel_rfl) (by simp) ?_
          refine AllReadyH.cons rfl (fun K hK => ?_) AllReadyH.nil
          go_simp
          (go_at_call 65; refine (sdist_any hv2 ea X cx _ oX.rd).mono ?_; rintro e w3 ⟨⟨DD, dc, rfl, oD⟩, hb3⟩; have y1 := ckeep e1 hb3; have y2 := ckeep e2 hb3; have y3 := ckeep e3 hb3; have y4 := ckeep e4 hb3; obtain ⟨dg, dof, hDD, hdg, hdc⟩ := oD.rd (by rw [HL.out]; omega); obtain rfl := hDD; have x1 := hdc j (by rw [HL.out]; omega); rw [show Ix (dists nd (lsW ls k) i) j = D nd (lsW ls k) i j from (by unfold D; rw [Int.toNat_natCast])] at x1; have j0 : (0 : Int) ≤ (j : Int) := (by omega); have j1 : (j : Int) < ((dists nd (lsW ls k) i).length : Int) := (by rw [HL.out]; omega); have T5 := T4.on hb3; clear hdc oD hb3)
          go_wp2_with fail
          refine hK.out _ _ ?_ (fun hHeld2 => ?_)
          · exact ⟨y4, y1, y2, y3⟩
          clear hK K
          try simp only [Act.put, List.setIfInBounds_toArray]
          refine wpAnyH_take (i := 16) (v := ?v16) rfl (by kernel_rfl) (by kernel_rfl) (by kernel_rfl) (fun _ _ _ h => h) (Or.inl ⟨by rfl, ?y16⟩) (by assumption) ?r16
          case y16 => intro w hSw; (try dsimp only at hSw); go_simp; (try with_reducible rfl)
          try simp only [Act.put]
          refine wpAnyH_ready (rs := [17]) (by kernel_rfl) (by simp) ?_
          refine AllReadyH.cons rfl (fun K hK => ?_) AllReadyH.nil
          go_simp
          refine hK.out _ _ ?_ (fun hHeld3 => ?_)
          · exact ⟨y4, y1, y2, y3⟩
          clear hK K
          try simp only [Act.put, List.setIfInBounds_toArray]
          refine wpAnyH_take (i := 18) (v := ?v18) rfl (by kernel_rfl) (by kernel_rfl) (by kernel_rfl) (fun _ _ _ h => h) (Or.inl ⟨by rfl, ?y18⟩) (by assumption) ?r18
          case y18 => intro w hSw; (try dsimp only at hSw); go_simp; (try with_reducible rfl)
          simp only [Act.put, List.getElem_toArray, List.getElem_cons_succ, List.getElem_cons_zero, List.setIfInBounds_toArray, List.set_cons_zero, List.set_cons_succ]
          refine wpAnyH_done (by kernel_rfl) ?_ _
          go_wp2_with fail
          go_meet
          exact ⟨rfl, T5⟩
        case rest =>
          obtain ⟨rfl, T5⟩ := hcut
          clear m0 m1 m2 m3 T3 HC
          generalize D nd (lsW ls k) i j = x at *
          cases t : decide (x < 0)
          · rw [t] at HP
            have HPu := Lib.hid (upTo_no HP.out)
            go_wp2_with fail
            go_roundw
            case rel => exact ⟨k + 1, B, cq, by omega, by go_num, by rw [HPu.out], by rw [HPu.out]; exact T5⟩
            case measure => simp [intOf]; omega
          · rw [t] at HP
            have HPu := Lib.hid (upTo_yes HP.out)
            have hkl := HLE.out k
            go_wp2_with (at_builtin; refine wpList_appJ _ rfl (.tmp 36) (.tmp 38) 36 rfl i0 Try.underlying36 hi hz0 hz1 hz2 rfl rfl (T5.ho.keep (bnew _ _)) k rfl (by go_simp) (by omega) (by have := T5.bl.size; simp; omega) ?_; intro A5 cp5 n5 w5 HN5 O5 G5 hat5)
            have T6 := (T5.on (bnew wc (.cells #[.int .i64 k] 3))).app O5 G5 hat5
            go_roundw
            case rel => exact ⟨k + 1, A5, cp5, by omega, by go_num, by rw [HN5.out, HPu.out], by rw [HPu.out]; exact T6⟩
            case measure => simp [intOf]; omega
      · have HE : Hid (upTo (critB nd ls) k = crit nd ls) := by show _ = _; unfold crit; rw [show k = ls.length from by omega]
        go_wp2_with fail
        go_ret
        exact ⟨⟨B, cq, by rw [← HE.out]; rfl, by rw [← HE.out]; exact T0.ho⟩, T0.bl⟩
  · rw [critO_no hv]
    go_enter Try.func26, Try.ntmps26
    go_wp2_with fail
    go_loopw [3, 4] (fun o i wr => i = .int .i64 0 ∧ o = .slice (some ⟨w.heap.size + 1, 0, none⟩) 0 0 ∧ UT w wr nd A cp ls (some ⟨w.heap.size + 1, 0, none⟩) 0 [] none []) (fun _ i _ => 0)
    case atStart => exact ⟨rfl, rfl, T⟩
    case round =>
      obtain ⟨rfl, rfl, T0⟩ := hrel
      have c0 : wr.cell? ⟨w.heap.size, 0, none⟩ = some (.int .i64 nd) := T0.bx.cellAt 0
      have c1 : wr.cell? ⟨w.heap.size, 1, none⟩ = some (.slice A ls.length cp) := T0.bx.cellAt 1
      by_cases h0 : 0 < ls.length
      · go_wp2_with fail
        refine (sgv_no hv A cp _ (by omega) ((hr.keep T0.bl).more T0.bl.size)).mono ?_
        rintro e w1 ⟨rfl, hb1⟩
        have T1 := T0.on hb1
        go_wp2_with fail
        go_ret
        exact ⟨⟨_, _, rfl, T1.ho⟩, T1.bl⟩
      · go_wp2_with fail
        go_ret
        exact ⟨⟨_, _, rfl, T0.ho⟩, T0.bl⟩

end Go.Proofs.Ytmkjndfhfhfggaa
