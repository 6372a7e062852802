/-
  The walk of the law FnCriticalLess: critical links stay critical.
-/
import Derived.Test.YtmkjndfhfhfggaaEG
import Derived.Test.YtmkjndfhfhfggaaDK
import Derived.Test.YtmkjndfhfhfggaaWO
import Derived.Test.YtmkjndfhfhfggaaPG
import Derived.Test.YtmkjndfhfhfggaaEE
import Derived.Test.YtmkjndfhfhfggaaWS
namespace Go.Proofs.Ytmkjndfhfhfggaa.fnCriticalLess
open Go.RowKit

set_option maxRecDepth 100000 in
set_option maxHeartbeats 4000000 in
theorem walk (A : Option Addr) (cp : Nat) (bs : List Int) (A1 : Option Addr) (cp1 : Nat) (bs1 : List Int) (w : World) (hr : RdB w w.heap.size A bs) (hl : bs.length ≤ 9223372036854775807 ∧ bs.length ≤ cp) (_ : RdB w w.heap.size A1 bs1) (hl1 : bs1.length ≤ 9223372036854775807 ∧ bs1.length ≤ cp1) :
    Calls Try.prog 5 #[.slice A bs.length cp, .slice A1 bs1.length cp1] w fun e w' => e = .returned (.bool true) ∧ Below w.heap.size w w' := by
  obtain ⟨hl, hcp⟩ := hl
  obtain ⟨hl1, -⟩ := hl1
  by_cases h20 : bs.length ≤ 1048576
  · by_cases m20 : bs1.length ≤ 1048576
    · go_enter Try.func5, Try.ntmps5
      go_wp2_with fail
      refine (drawCritical_any A cp bs _ hr hl hcp).mono ?_
      rintro e w1 ⟨nd, A2, cp2, ls, rfl, hg⟩
      have S := LS.of_drawn (nd := nd) hg
      have hcap := own_cap hg.1
      have hlen := S.len
      have hdl : (critO nd ls).length ≤ 14 := critO_len
      clear hr hg
      go_wp2_with fail
      refine (gCrit_any nd A2 cp2 ls _ (by omega) S.rd).mono ?_
      rintro e w2 ⟨⟨B, cb, rfl, ho2⟩, hb2⟩
      have S2 := S.on hb2
      have r2 := ho2.rd
      have c0 := S2.c0
      have c1 := S2.c1
      clear S hb2 ho2
      go_wp2_with fail
      refine (sgCrit_any nd A2 cp2 ls _ (by omega) hcap S2.rd).mono ?_
      rintro e w3 ⟨⟨C, cc, rfl, ho3⟩, hb3⟩
      have S3 := S2.on hb3
      have r3 := r2.on hb3
      have q3 := ho3.rd
      clear S2 hb3 c0 c1 ho3 r2
      have c0 := S3.c0
      have c1 := S3.c1
      go_wp2_with fail
      refine (sameI_yes B C cb cc _ _ (by omega) r3 q3).mono ?_
      rintro e w4 ⟨rfl, hb4⟩
      have S4 := S3.on hb4
      have r4 := r3.on hb4
      have q4 := q3.on hb4
      clear S3 hb4 c0 c1 r3 q3
      have c0 := S4.c0
      have c1 := S4.c1
      by_cases h : Valid nd ls ∧ 0 < (crit nd ls).length
      · obtain ⟨hv, hpos⟩ := h
        rw [critO_yes hv] at r4 q4 hdl ⊢
        have h14 := hv.2.2.1
        have hcl : (crit nd ls).length ≤ ls.length := upTo_le _ _
        have ne0 : (((crit nd ls).length : Int) == 0) = false := by rw [beq_eq_false_iff_ne]; omega
        obtain ⟨r, hr1, hr2⟩ : ∃ r : Nat, (bs1.length : Int) % (ls.length : Int) = (r : Int) ∧ r < ls.length := ⟨bs1.length % ls.length, by omega, Nat.mod_lt _ (by omega)⟩
        have HR := Lib.hid hr1
        have hkL : Lnk ls (r : Int) := ⟨by omega, by omega⟩
        have hv2 := hv.lsW r
        have HC := gWithout_yes hv hkL A2 cp2 w4 S4.rd
        rw [Int.toNat_natCast] at HC
        have HC := Lib.hid HC
        have HLW : Hid ((lsW ls r).length ≤ 14) := by show _ ≤ _; rw [length_lsW hr2]; omega
        have HK : Hid (∀ X cx wr, RdL wr wr.heap.size X (lsW ls r) → Calls Try.prog 25 #[.agg #[.int .i64 nd, .slice X (lsW ls r).length cx]] wr (RI (crit nd (lsW ls r)) wr)) := fun X cx wr hr => by
          have := gCrit_any nd X cx (lsW ls r) wr (by have := HLW.out; omega) hr
          rwa [critO_yes hv2] at this
        have HG : Hid (∀ X cx wr a b, RdL wr wr.heap.size X (lsW ls r) → Calls Try.prog 23 #[.agg #[.int .i64 nd, .slice X (lsW ls r).length cx], .int .i64 a, .int .i64 b] wr fun e w' => e = .returned (.int .i64 (lkIx (lsW ls r) a b)) ∧ Below wr.heap.size wr w') := fun X cx wr a b hr => gLink_yes hv2 X cx a b wr hr
        have HM : Hid (∀ j : Nat, j < (crit nd ls).length → ∃ m : Nat, Ix (crit nd ls) j = m ∧ m < ls.length ∧ (m ≠ r → decide (lkIx (lsW ls r) (La ls m) (Lb ls m) ∈ crit nd (lsW ls r)) = true)) := fun j hj => by
          obtain ⟨m, hm, hp, e⟩ := upTo_get (show j < (upTo (critB nd ls) ls.length).length from hj)
          refine ⟨m, e, hm, fun hne => ?_⟩
          rw [decide_eq_true_eq, lkIx_lsW hv hr2 hm, if_neg hne]
          unfold crit
          exact mem_upTo.2 ⟨shf r m, shf_lt hr2 hm hne, crit_less hv hr2 hm hne hp, rfl⟩
        have h20c : (crit nd (lsW ls r)).length ≤ 14 := Nat.le_trans (upTo_le _ _) HLW.out
        clear hr1 q4 hpos hcl
        generalize crit nd ls = R at *
        generalize crit nd (lsW ls r) = Q at *
        go_upto_block 9 with fail
        rw [HR.out]
        go_wp2_with fail
        refine HC.out.mono ?_
        rintro e w5 ⟨⟨X, cx, rfl, oX⟩, hb5⟩
        have S5 := (S4.on hb5).on (bnew w5 (.cells #[.int .i64 nd, .slice X (lsW ls r).length cx] 25))
        have r5 := (r4.on hb5).on (bnew w5 (.cells #[.int .i64 nd, .slice X (lsW ls r).length cx] 25))
        have T5 : LS w (w5.alloc (.cells #[.int .i64 nd, .slice X (lsW ls r).length cx] 25)) w5.heap.size nd X cx (lsW ls r) := ⟨(Blk.new _ _ _).cellAt 0, (Blk.new _ _ _).cellAt 1, oX.rd.on (bnew _ _), S5.bl, by have := HLW.out; omega⟩
        clear S4 r4 c0 c1 hb5 oX HC
        go_wp2_with fail
        refine (HK.out X cx _ T5.rd).mono ?_
        rintro e w6 ⟨⟨E, ce, rfl, oE⟩, hb6⟩
        have S6 := S5.on hb6
        have r6 := r5.on hb6
        have T6 := T5.on hb6
        have e6 := oE.rd
        clear S5 r5 T5 hb6 oE HK
        generalize w5.heap.size = GX at *
        generalize w1.heap.size = G at *
        generalize lsW ls r = ms at *
        go_wp2_with fail
        go_loopw [12] (fun i wr => ∃ j : Nat, j ≤ R.length ∧ i = .int .i64 j ∧ LS w wr G nd A2 cp2 ls ∧ RdI wr wr.heap.size B R ∧ LS w wr GX nd X cx ms ∧ RdI wr wr.heap.size E Q) (fun i _ => R.length - (intOf i).toNat)
        case atStart => exact ⟨0, by omega, rfl, S6, r6, T6, e6⟩
        case round =>
          obtain ⟨j, hj, rfl, S, rd, T, re⟩ := hrel
          clear S6 r6 T6 e6
          have c0 := S.c0
          have c1 := S.c1
          have x0 := T.c0
          have x1 := T.c1
          by_cases hlt : j < R.length
          · obtain ⟨m, hm, hml, hmc⟩ := HM.out j hlt
            obtain ⟨bg, bo, hB, hbg, hbc⟩ := rd (by omega)
            obtain rfl := hB
            have m1 := hbc j hlt
            rw [hm] at m1
            obtain ⟨ga, go, hA, hga, hcells⟩ := S.rd (by omega)
            obtain rfl := hA
            obtain ⟨d1, d2, d3⟩ := hcells m hml
            have k0 : (0 : Int) ≤ (j : Int) := by omega
            have k1 : (j : Int) < (R.length : Int) := by omega
            have k2 : (0 : Int) ≤ (m : Int) := by omega
            have k3 : (m : Int) < (ls.length : Int) := by omega
            have lG : G < wr.heap.size := World.block_lt_of_cell? wr _ c0
            have lX : GX < wr.heap.size := World.block_lt_of_cell? wr _ x0
            have n1 : ¬ G = wr.heap.size := by omega
            have n2 : ¬ wr.heap.size = G := by omega
            have n3 : ¬ GX = wr.heap.size := by omega
            have n4 : ¬ wr.heap.size = GX := by omega
            have n5 : ¬ bg = wr.heap.size := by omega
            have n6 : ¬ wr.heap.size = bg := by omega
            have n7 : ¬ ga = wr.heap.size := by omega
            have n8 : ¬ wr.heap.size = ga := by omega
            clear hm hcells hbc
            go_wp2_with fail
            go_region_held3 (fun w' => w'.cell? ⟨G, 1, none⟩ = some (.slice (some ⟨ga, go, none⟩) ls.length cp2) ∧ w'.cell? ⟨bg, bo + j, none⟩ = some (.int .i64 m) ∧ w'.cell? ⟨ga, go + m * 3, none⟩ = some (.int .i64 (La ls m)) ∧ w'.cell? ⟨ga, go + m * 3 + 1, none⟩ = some (.int .i64 (Lb ls m)) ∧ w'.cell? ⟨ga, go + m * 3 + 2, none⟩ = some (.int .i64 (Lc ls m))) (go_keep) (fail)
            all_goals
              have BL : Below wr.heap.size wr (wr.alloc (.cells #[.int .i64 (La ls m), .int .i64 (Lb ls m), .int .i64 (Lc ls m)] 33)).drew := (bnew _ _).drew
              have HMC := Lib.hid hmc
              clear hmc
              by_cases hmr : m = r
              · have tA : ((m : Int) != (r : Int)) = false := by rw [hmr]; simp
                have tB : (m != r) = false := by rw [hmr]; simp
                clear hmr
                go_wp2_with fail
                go_roundw
                case rel => exact ⟨j + 1, by omega, by go_num, S.on BL, rd.on BL, T.on BL, re.on BL⟩
                case measure => simp [intOf]; omega
              · have tA : ((m : Int) != (r : Int)) = true := by simp; omega
                have tB : (m != r) = true := by simp; omega
                have HI := Lib.hid (HMC.out hmr)
                have S7 := S.on BL
                have T7 := T.on BL
                have rd7 := rd.on BL
                have re7 := re.on BL
                clear hmr HMC
                generalize La ls m = a at *
                generalize Lb ls m = b at *
                generalize Lc ls m = c at *
                go_wp2_with fail
                refine (HG.out X cx _ a b T7.rd).mono ?_
                rintro e w7 ⟨rfl, hb7⟩
                have T8 := T7.on hb7
                have S8 := S7.on hb7
                have rd8 := rd7.on hb7
                have re8 := re7.on hb7
                clear S7 T7 rd7 re7 hb7
                go_wp2_with fail
                refine (hasI_any E ce Q (lkIx ms a b) _ (by omega) re8).mono ?_
                rintro e w8 ⟨rfl, hb8⟩
                rw [HI.out]
                go_wp2_with fail
                go_roundw
                case rel => exact ⟨j + 1, by omega, by go_num, S8.on hb8, rd8.on hb8, T8.on hb8, re8.on hb8⟩
                case measure => simp [intOf]; omega
          · go_wp2_with fail
            go_ret
            exact ⟨rfl, S.bl⟩
      · have e0 : critO nd ls = [] := by
          by_cases hv : Valid nd ls
          · rw [critO_yes hv]; exact List.eq_nil_of_length_eq_zero (by rcases Nat.eq_zero_or_pos (crit nd ls).length with h' | h'; exact h'; exact absurd ⟨hv, h'⟩ h)
          · exact critO_no hv
        rw [e0] at r4 q4 hdl ⊢
        clear e0
        go_wp2_with fail
        refine (sameI_yes B C cb cc _ _ (by omega) r4 q4).mono ?_
        rintro e w5 ⟨rfl, hb5⟩
        go_wp2_with fail
        go_ret
        exact ⟨rfl, (S4.on hb5).bl⟩
    · have m20' : (1048576 : Int) < (bs1.length : Int) := by omega
      go_enter Try.func5, Try.ntmps5
      go_wp2_with fail
      go_ret
      exact ⟨rfl, Below.refl _ _⟩
  · have h20' : (1048576 : Int) < (bs.length : Int) := by omega
    go_enter Try.func5, Try.ntmps5
    go_wp2_with fail
    go_ret
    exact ⟨rfl, Below.refl _ _⟩

end Go.Proofs.Ytmkjndfhfhfggaa.fnCriticalLess
