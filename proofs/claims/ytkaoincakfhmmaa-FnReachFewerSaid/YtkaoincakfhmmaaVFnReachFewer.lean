/-
  The walk of the law FnReachFewer: without a link no more nodes are reached.
-/
import Derived.Test.YtkaoincakfhmmaaEB
import Derived.Test.YtkaoincakfhmmaaWO
import Derived.Test.YtkaoincakfhmmaaEE
import Derived.Test.YtkaoincakfhmmaaPF
import Derived.Deep.RegionHeld3
namespace Go.Proofs.Ytkaoincakfhmmaa.fnReachFewer
open Go.RowKit

set_option maxRecDepth 100000 in
set_option maxHeartbeats 4000000 in
theorem walk (A : Option Addr) (cp : Nat) (bs : List Int) (A1 : Option Addr) (cp1 : Nat) (bs1 : List Int) (w : World) (hr : RdB w w.heap.size A bs) (hl : bs.length ≤ 9223372036854775807 ∧ bs.length ≤ cp) (_ : RdB w w.heap.size A1 bs1) (hl1 : bs1.length ≤ 9223372036854775807 ∧ bs1.length ≤ cp1) :
    Calls Try.prog 15 #[.slice A bs.length cp, .slice A1 bs1.length cp1] w fun e w' => e = .returned (.bool true) ∧ Below w.heap.size w w' := by
  obtain ⟨hl, hcp⟩ := hl
  obtain ⟨hl1, -⟩ := hl1
  by_cases h20 : bs.length ≤ 1048576
  · by_cases m20 : bs1.length ≤ 1048576
    · go_enter Try.func15, Try.ntmps15
      go_wp2_with fail
      refine (drawGraphReach_any A cp bs _ hr hl hcp).mono ?_
      rintro e w1 ⟨nd, A2, cp2, ls, x, rfl, hg⟩
      have S := LS.of_drawn (nd := nd) hg
      have oG := hg.1
      have hlen := S.len
      clear hr hg
      go_wp2_with fail
      refine (gReach_any nd A2 cp2 ls x _ (by omega) S.rd).mono ?_
      rintro e w2 ⟨⟨B, cb, rfl, ho2⟩, hb2⟩
      have S2 := S.on hb2
      have r2 := ho2.rd
      have c0 := S2.c0
      have c1 := S2.c1
      clear S hb2 ho2
      go_wp2_with fail
      refine (sgReach_any nd A2 cp2 ls x _ (by omega) S2.rd).mono ?_
      rintro e w3 ⟨⟨C, cc, rfl, ho3⟩, hb3⟩
      have S3 := S2.on hb3
      have r3 := r2.on hb3
      have q3 := ho3.rd
      clear S2 hb3 c0 c1 ho3 r2
      have c0 := S3.c0
      have c1 := S3.c1
      have hdl : (rchO nd ls x).length ≤ 8 := by
        by_cases h : Valid nd ls ∧ Nd nd x
        · exact by rw [rchO_yes h]; have := upTo_le (rchB nd ls x) nd.toNat; have := h.1.2.1; unfold rch; omega
        · rw [rchO_no h]; simp
      go_wp2_with fail
      refine (sameI_yes B C cb cc _ _ (by omega) r3 q3).mono ?_
      rintro e w4 ⟨rfl, hb4⟩
      have S4 := S3.on hb4
      have r4 := r3.on hb4
      have q4 := q3.on hb4
      clear S3 hb4 c0 c1 r3 q3
      have c0 := S4.c0
      have c1 := S4.c1
      by_cases h : Valid nd ls ∧ Nd nd x
      · rw [rchO_yes h] at r4 q4 hdl ⊢
        have hn1 := h.1.1
        have hx0 : x ∈ rch nd ls x := rch_mem.2 ⟨h.2.1, h.2.2, by rw [D_self h.1 h.2]; omega⟩
        have hd0 : 1 ≤ (rch nd ls x).length := List.length_pos_of_mem hx0
        have ne0 : (((rch nd ls x).length : Int) == 0) = false := by rw [beq_eq_false_iff_ne]; omega
        clear hx0
        by_cases hls : ls.length = 0
        · have t0 : ((ls.length : Int) == 0) = true := by rw [beq_iff_eq]; omega
          clear hls
          go_wp2_with fail
          refine (sameI_yes B C cb cc _ _ (by omega) r4 q4).mono ?_
          rintro e w5 ⟨rfl, hb5⟩
          go_wp2_with fail
          go_ret
          exact ⟨rfl, (S4.on hb5).bl⟩
        · have t0 : ((ls.length : Int) == 0) = false := by rw [beq_eq_false_iff_ne]; omega
          obtain ⟨r, hr1, hr2⟩ : ∃ r : Nat, (bs1.length : Int) % (ls.length : Int) = (r : Int) ∧ r < ls.length := ⟨bs1.length % ls.length, by omega, Nat.mod_lt _ (by omega)⟩
          have qt : Int.tmod (bs1.length : Int) (ls.length : Int) = (r : Int) := by rw [Int.tmod_eq_emod_of_nonneg (by omega), hr1]
          have l1 : (1 : Int) ≤ (ls.length : Int) := by omega
          have rne : ¬ ls = [] := by intro e; rw [e] at hls; simp at hls
          have hk : Lnk ls (r : Int) := ⟨by omega, by omega⟩
          have hlw : (lsW ls r).length ≤ 16 := by rw [length_lsW hr2]; omega
          have BD : Below w4.heap.size w4 w4.drew := (Below.refl _ _).drew
          have BA : Below w4.heap.size w4 (w4.alloc (.cells #[.int .i64 0, .slice none 0 0] 25)).drew := (bnew _ _).drew
          have ZA : Blk (w4.alloc (.cells #[.int .i64 0, .slice none 0 0] 25)).drew w4.heap.size 25 [.int .i64 0, .slice none 0 0] := Blk.new w4 #[.int .i64 0, .slice none 0 0] 25
          have HC0 := gWithout_yes h.1 hk A2 cp2 w4.drew (S4.on BD).rd
          have HCa := gWithout_yes h.1 hk A2 cp2 (w4.alloc (.cells #[.int .i64 0, .slice none 0 0] 25)).drew (S4.on BA).rd
          rw [Int.toNat_natCast] at HC0 HCa
          have HC0 := Lib.hid HC0
          have HCa := Lib.hid HCa
          have hv2 := h.1.lsW r
          have lG : w1.heap.size < w4.heap.size := World.block_lt_of_cell? w4 _ c0
          have neG1 : ¬ w1.heap.size = w4.heap.size := by omega
          have neG2 : ¬ w4.heap.size = w1.heap.size := by omega
          clear hr1 q4 hls
          generalize w1.heap.size = G at *
          go_upto_region 8 with fail
          go_cut [9] from 13 (fun s wx => GX w G nd A2 cp2 ls B (rch nd ls x) nd (lsW ls r) s wx)
          case first =>
            go_region_held3 (fun w' => w'.cell? ⟨G, 0, none⟩ = some (.int .i64 nd) ∧ w'.cell? ⟨G, 1, none⟩ = some (.slice A2 ls.length cp2)) (go_keep)
              (first
                | (go_at_call 38; refine HC0.out.mono ?_; rintro e w5 ⟨⟨X, cx, rfl, oX⟩, hb5⟩; have hb6 := bthen BD hb5; have e0 := ckeep c0 hb6; have e1 := ckeep c1 hb6; have l5 := Nat.lt_of_lt_of_le lG hb6.size)
                | (go_at_call 38; refine HCa.out.mono ?_; rintro e w5 ⟨⟨X, cx, rfl, oX⟩, hb5⟩; have hb6 := bthen BA hb5; have e0 := ckeep c0 hb6; have e1 := ckeep c1 hb6; have l5 := Nat.lt_of_lt_of_le lG hb6.size; have ZB := ZA.keep hb5; have z0 := ZB.cellAt 0; have z1 := ZB.cellAt 1; have y0 := ZB.frozenAt 0; have y1 := ZB.frozenAt 1; simp only [List.getElem?_cons_zero, List.getElem?_cons_succ] at z0 z1))
            all_goals
              go_wp2_with fail
              go_meet
              first | exact gxA S4 r4 hb6 oX hlw | exact gxB S4 r4 hb6 oX ZB hlw
          case rest =>
            obtain ⟨G2, X, cx, rfl, T5, S5, r5⟩ := hcut
            clear S4 r4 c0 c1 lG neG1 neG2 HC0 HCa BD BA ZA
            have d0 := T5.c0
            have d1 := T5.c1
            have HC := gReach_any nd X cx (lsW ls r) x wc (by omega) T5.rd
            rw [rchO_yes ⟨hv2, h.2⟩] at HC
            have HC := Lib.hid HC
            have h8 := h.1.2.1
            have hle : (rch nd (lsW ls r) x).length ≤ 8 := by have := upTo_le (rchB nd (lsW ls r) x) nd.toNat; unfold rch; omega
            have hx1 : x ∈ rch nd (lsW ls r) x := rch_mem.2 ⟨h.2.1, h.2.2, by rw [D_self hv2 h.2]; omega⟩
            have hd1 : 1 ≤ (rch nd (lsW ls r) x).length := List.length_pos_of_mem hx1
            have HM : Hid (∀ k, k < (rch nd (lsW ls r) x).length → decide (Ix (rch nd (lsW ls r) x) k ∈ rch nd ls x) = true) := fun k hk => by
              have hm : Ix (rch nd (lsW ls r) x) k ∈ rch nd (lsW ls r) x := by unfold Ix; simp [hk]
              have := rch_mem.1 hm
              simp only [decide_eq_true_eq]
              exact rch_mem.2 ⟨this.1, this.2.1, (D_lsW_more h.1 h.2 ⟨this.1, this.2.1⟩ this.2.2).1⟩
            clear hx1
            go_wp2_with fail
            refine HC.out.mono ?_
            rintro e w6 ⟨⟨E, ce, rfl, oE⟩, hb6⟩
            have B6 := (S5.on hb6).bl
            have r6 := r5.on hb6
            have e6 := oE.rd
            clear S5 r5 T5 d0 d1 hb6 oE HC
            generalize rch nd (lsW ls r) x = R2 at *
            generalize rch nd ls x = R at *
            go_wp2_with fail
            go_loopw [12] (fun i wr => ∃ k : Nat, k ≤ R2.length ∧ i = .int .i64 k ∧ Below w.heap.size w wr ∧ RdI wr wr.heap.size B R ∧ RdI wr wr.heap.size E R2) (fun i _ => R2.length - (intOf i).toNat)
            case atStart => exact ⟨0, Nat.zero_le _, rfl, B6, r6, e6⟩
            case round =>
              obtain ⟨k, hk, rfl, T, rd, re⟩ := hrel
              by_cases hlt : k < R2.length
              · obtain ⟨eg, eo, hE, heg, hce⟩ := re (by omega)
                obtain rfl := hE
                have m2 := hce k hlt
                have j0 : (0 : Int) ≤ (k : Int) := by omega
                have HK := Lib.hid (HM.out k hlt)
                have HH := Lib.hid (hasI_any B cb R (Ix R2 k) wr (by omega) rd)
                clear hce
                generalize Ix R2 k = y at *
                go_wp2_with fail
                refine HH.out.mono ?_
                rintro e w7 ⟨rfl, hb7⟩
                rw [HK.out]
                go_wp2_with fail
                go_roundw
                case rel => exact ⟨k + 1, by omega, by go_num, bthen T hb7, rd.on hb7, re.on hb7⟩
                case measure => simp [intOf]; omega
              · have t6 : decide (0 < R2.length) = true := by simp; omega
                go_wp2_with fail
                go_ret
                exact ⟨rfl, T⟩
      · rw [rchO_no h] at r4 q4 ⊢
        clear hdl
        go_wp2_with fail
        refine (sameI_yes B C cb cc [] _ (by simp) r4 q4).mono ?_
        rintro e w5 ⟨rfl, hb5⟩
        go_wp2_with fail
        go_ret
        exact ⟨rfl, (S4.on hb5).bl⟩
    · have m20' : (1048576 : Int) < (bs1.length : Int) := by omega
      go_enter Try.func15, Try.ntmps15
      go_wp2_with fail
      go_ret
      exact ⟨rfl, Below.refl _ _⟩
  · have h20' : (1048576 : Int) < (bs.length : Int) := by omega
    go_enter Try.func15, Try.ntmps15
    go_wp2_with fail
    go_ret
    exact ⟨rfl, Below.refl _ _⟩

end Go.Proofs.Ytkaoincakfhmmaa.fnReachFewer
