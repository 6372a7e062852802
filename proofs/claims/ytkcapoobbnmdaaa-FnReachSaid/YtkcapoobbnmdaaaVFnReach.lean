/-
  The walk of the law FnReach: reachable nodes are closed.
-/
import Derived.Test.YtkcapoobbnmdaaaEB
import Derived.Test.YtkcapoobbnmdaaaWO
import Derived.Test.YtkcapoobbnmdaaaFB
import Derived.Deep.RegionHeld3
namespace Go.Proofs.Ytkcapoobbnmdaaa.fnReach
open Go.RowKit

set_option maxRecDepth 100000 in
set_option maxHeartbeats 4000000 in
theorem walk (A : Option Addr) (cp : Nat) (bs : List Int) (w : World) (hr : RdB w w.heap.size A bs) (hl : bs.length ≤ 9223372036854775807 ∧ bs.length ≤ cp) :
    Calls Try.prog 11 #[.slice A bs.length cp] w fun e w' => e = .returned (.bool true) ∧ Below w.heap.size w w' := by
  obtain ⟨hl, hcp⟩ := hl
  by_cases h20 : bs.length ≤ 1048576
  · go_enter Try.func11, Try.ntmps11
    go_wp2_with fail
    refine (drawGraphReach_any A cp bs _ hr hl hcp).mono ?_
    rintro e w1 ⟨nd, A2, cp2, ls, x, rfl, hg⟩
    have S := LS.of_drawn (nd := nd) hg
    have hlen := S.len
    have hdl : (rchO nd ls x).length ≤ 14 := by (by_cases h : Valid nd ls ∧ Nd nd x; (rw [rchO_yes h]; have := upTo_le (rchB nd ls x) nd.toNat; have := h.1.2.1; unfold rch; omega); (rw [rchO_no h]; simp))
    clear hr hg
    go_wp2_with fail
    refine (gReach_any nd A2 cp2 ls x _ (by omega) S.rd).mono ?_
    rintro e w2 ⟨⟨B, cb, rfl, ho2⟩, hb2⟩
    have S2 := S.on hb2
    have r2 := ho2.rd
    have c0 := S2.c0
    have c1 := S2.c1
    clear S hb2 ho2
    go_wp2_with fail
    refine (sgReach_any nd A2 cp2 ls x _ (by omega) S2.rd).mono ?_
    rintro e w3 ⟨⟨C, cc, rfl, ho3⟩, hb3⟩
    have S3 := S2.on hb3
    have r3 := r2.on hb3
    have q3 := ho3.rd
    clear S2 hb3 c0 c1 ho3 r2
    have c0 := S3.c0
    have c1 := S3.c1
    go_wp2_with fail
    refine (sameI_yes B C cb cc _ _ (by omega) r3 q3).mono ?_
    rintro e w4 ⟨rfl, hb4⟩
    have S4 := S3.on hb4
    have r4 := r3.on hb4
    have q4 := q3.on hb4
    clear S3 hb4 c0 c1 r3 q3
    have c0 := S4.c0
    have c1 := S4.c1
    by_cases h : Valid nd ls ∧ Nd nd x
    · obtain ⟨hv, hx⟩ := h
      rw [rchO_yes ⟨hv, hx⟩] at r4 q4 hdl ⊢
      have hn8 := hv.2.1
      have hx0 : x ∈ rch nd ls x := rch_mem.2 ⟨hx.1, hx.2, by rw [D_self hv hx]; omega⟩
      have hd0 : 1 ≤ (rch nd ls x).length := List.length_pos_of_mem hx0
      have ne0 : (((rch nd ls x).length : Int) == 0) = false := by rw [beq_eq_false_iff_ne]; omega
      have HX : Hid (decide (x ∈ rch nd ls x) = true) := by show _ = _; simpa using hx0
      have HQ := Lib.hid (show (rch nd ls x).Pairwise (· < ·) from upTo_pw _ _)
      have HM : Hid (∀ j, j < (rch nd ls x).length → ∀ k, k < (nbr nd ls (Ix (rch nd ls x) j)).length → decide (Ix (nbr nd ls (Ix (rch nd ls x) j)) k ∈ rch nd ls x) = true) := fun j hj k hk => by
        have h1 := rch_mem.1 (show Ix (rch nd ls x) j ∈ rch nd ls x by unfold Ix; simp [hj])
        have h2 := nbr_facts hv (Ix_mem hk)
        have h3 := D_link hv hx h2.2.2.2.2.2.1 h1.2.2
        rw [decide_eq_true_eq]
        exact rch_mem.2 ⟨h2.2.1.1, h2.2.1.2, h3.1⟩
      have HG : Hid (∀ m wx, RdL wx wx.heap.size A2 ls → Calls Try.prog 36 #[.agg #[.int .i64 nd, .slice A2 ls.length cp2], .int .i64 m] wx (RI (nbr nd ls m) wx)) := fun m wx hr => by
        have := gNbr_any nd A2 cp2 ls m wx (by omega) hr
        rwa [nbrO_yes hv] at this
      have HL : Hid (∀ m, (nbr nd ls m).length ≤ 8) := fun m => by have := nbr_le nd ls m; omega
      clear hx0 q4
      generalize rch nd ls x = R at *
      generalize w1.heap.size = G at *
      go_wp2_with fail
      go_loopw [7] (fun i wr => ∃ j : Nat, j ≤ R.length ∧ i = .int .i64 j ∧ LS w wr G nd A2 cp2 ls ∧ RdI wr wr.heap.size B R) (fun i _ => R.length - (intOf i).toNat)
      case atStart => exact ⟨0, by omega, rfl, S4, r4⟩
      case round =>
        obtain ⟨j, hj, rfl, S, rd⟩ := hrel
        clear S4 r4 c0 c1
        have c0 := S.c0
        have c1 := S.c1
        by_cases hlt : j < R.length
        · obtain ⟨bg, bo, hB, hbg, hbc⟩ := rd (by omega)
          obtain rfl := hB
          have m1 := hbc j hlt
          have HMj := Lib.hid (HM.out j hlt)
          have BD : Below wr.heap.size wr wr.drew := (Below.refl _ _).drew
          have HGj := Lib.hid (HG.out (Ix R j) wr.drew (S.on BD).rd)
          have hl8 := HL.out (Ix R j)
          have k0 : (0 : Int) ≤ (j : Int) := by omega
          have k1 : (j : Int) < (R.length : Int) := by omega
          clear hbc
          generalize nbr nd ls (Ix R j) = NB at *
          generalize Ix R j = m at *
          go_wp2_with fail
          go_region_held3 (fun w' => w'.cell? ⟨G, 0, none⟩ = some (.int .i64 nd) ∧ w'.cell? ⟨G, 1, none⟩ = some (.slice A2 ls.length cp2) ∧ w'.cell? ⟨bg, bo + j, none⟩ = some (.int .i64 m)) (go_keep)
            ((go_at_call 36; refine HGj.out.mono ?_; rintro e w5 ⟨⟨E, ce, rfl, oE⟩, hb5⟩; have BX := bthen BD hb5; have e0 := ckeep c0 BX; have e1 := ckeep c1 BX; have e2 := ckeep m1 BX))
          all_goals
            have S5 := S.on BX
            have rd5 := rd.on BX
            have e5 := oE.rd
            clear S rd c0 c1 m1 e0 e1 e2 BX hb5 oE HGj BD
            go_wp2_with fail
            go_loopw [9] (fun i wq => ∃ k : Nat, k ≤ NB.length ∧ i = .int .i64 k ∧ LS w wq G nd A2 cp2 ls ∧ RdI wq wq.heap.size (some ⟨bg, bo, none⟩) R ∧ RdI wq wq.heap.size E NB) (fun i _ => NB.length - (intOf i).toNat)
            case atStart => exact ⟨0, by omega, rfl, S5, rd5, e5⟩
            case round =>
              obtain ⟨k, hk, rfl, S6, rd6, e6⟩ := hrel
              clear S5 rd5 e5
              by_cases hlk : k < NB.length
              · obtain ⟨eg, eo, hE, heg, hec⟩ := e6 (by omega)
                obtain rfl := hE
                have f1 := hec k hlk
                have HMk := Lib.hid (HMj.out k hlk)
                have q0 : (0 : Int) ≤ (k : Int) := by omega
                have q1 : (k : Int) < (NB.length : Int) := by omega
                clear hec
                generalize Ix NB k = t at *
                go_wp2_with fail
                refine (hasI_any (some ⟨bg, bo, none⟩) cb R t _ (by omega) rd6).mono ?_
                rintro e w7 ⟨rfl, hb7⟩
                rw [HMk.out]
                go_wp2_with fail
                go_roundw
                case rel => exact ⟨k + 1, by omega, by go_num, S6.on hb7, rd6.on hb7, e6.on hb7⟩
                case measure => simp [intOf]; omega
              · go_wp2_with fail
                go_roundw
                case rel => exact ⟨j + 1, by omega, by go_num, S6, rd6⟩
                case measure => simp [intOf]; omega
        · go_wp2_with fail
          refine (hasI_any B cb R x _ (by omega) rd).mono ?_
          rintro e w7 ⟨rfl, hb7⟩
          rw [HX.out]
          have rd7 := rd.on hb7
          have B7 := bthen S.bl hb7
          go_wp2_with fail
          refine (asc_any B cb R _ (by omega) HQ.out rd7).mono ?_
          rintro e w8 ⟨rfl, hb8⟩
          go_wp2_with fail
          go_ret
          exact ⟨rfl, bthen B7 hb8⟩
    · rw [rchO_no h] at r4 q4 hdl ⊢
      go_wp2_with fail
      refine (sameI_yes B C cb cc _ _ (by omega) r4 q4).mono ?_
      rintro e w5 ⟨rfl, hb5⟩
      go_wp2_with fail
      go_ret
      exact ⟨rfl, (S4.on hb5).bl⟩
  · have h20' : (1048576 : Int) < (bs.length : Int) := by omega
    go_enter Try.func11, Try.ntmps11
    go_wp2_with fail
    go_ret
    exact ⟨rfl, Below.refl _ _⟩

end Go.Proofs.Ytkcapoobbnmdaaa.fnReach
