/-
  The walk of the law FnReachSame: reachable nodes reach the same nodes.
-/
import Derived.Test.YtkaoincakfhmmaaEB
import Derived.Test.YtkaoincakfhmmaaWO
import Derived.Deep.RegionHeld3
namespace Go.Proofs.Ytkaoincakfhmmaa.fnReachSame
open Go.RowKit

set_option maxRecDepth 100000 in
set_option maxHeartbeats 4000000 in
theorem walk (A : Option Addr) (cp : Nat) (bs : List Int) (A1 : Option Addr) (cp1 : Nat) (bs1 : List Int) (w : World) (hr : RdB w w.heap.size A bs) (hl : bs.length ≤ 9223372036854775807 ∧ bs.length ≤ cp) (_ : RdB w w.heap.size A1 bs1) (hl1 : bs1.length ≤ 9223372036854775807 ∧ bs1.length ≤ cp1) :
    Calls Try.prog 7 #[.slice A bs.length cp, .slice A1 bs1.length cp1] w fun e w' => e = .returned (.bool true) ∧ Below w.heap.size w w' := by
  obtain ⟨hl, hcp⟩ := hl
  obtain ⟨hl1, -⟩ := hl1
  by_cases h20 : bs.length ≤ 1048576
  · by_cases m20 : bs1.length ≤ 1048576
    · go_enter Try.func7, Try.ntmps7
      go_wp2_with fail
      refine (drawGraphReach_any A cp bs _ hr hl hcp).mono ?_
      rintro e w1 ⟨nd, A2, cp2, ls, x, rfl, hg⟩
      have S := LS.of_drawn (nd := nd) hg
      have oG := hg.1
      have hlen := S.len
      clear hr hg
      go_wp2_with fail
      refine (gReach_any nd A2 cp2 ls x _ (by omega) S.rd).mono ?_
      rintro e w2 ⟨⟨B, cb, rfl, ho2⟩, hb2⟩
      have S2 := S.on hb2
      have r2 := ho2.rd
      have c0 := S2.c0
      have c1 := S2.c1
      clear S hb2 ho2
      go_wp2_with fail
      refine (sgReach_any nd A2 cp2 ls x _ (by omega) S2.rd).mono ?_
      rintro e w3 ⟨⟨C, cc, rfl, ho3⟩, hb3⟩
      have S3 := S2.on hb3
      have r3 := r2.on hb3
      have q3 := ho3.rd
      clear S2 hb3 c0 c1 ho3 r2
      have c0 := S3.c0
      have c1 := S3.c1
      have hdl : (rchO nd ls x).length ≤ 8 := by
        by_cases h : Valid nd ls ∧ Nd nd x
        · exact by rw [rchO_yes h]; have := upTo_le (rchB nd ls x) nd.toNat; have := h.1.2.1; unfold rch; omega
        · rw [rchO_no h]; simp
      go_wp2_with fail
      refine (sameI_yes B C cb cc _ _ (by omega) r3 q3).mono ?_
      rintro e w4 ⟨rfl, hb4⟩
      have S4 := S3.on hb4
      have r4 := r3.on hb4
      have q4 := q3.on hb4
      clear S3 hb4 c0 c1 r3 q3
      have c0 := S4.c0
      have c1 := S4.c1
      by_cases h : Valid nd ls ∧ Nd nd x
      · rw [rchO_yes h] at r4 q4 hdl ⊢
        have hn1 := h.1.1
        have hx0 : x ∈ rch nd ls x := rch_mem.2 ⟨h.2.1, h.2.2, by rw [D_self h.1 h.2]; omega⟩
        have hd0 : 1 ≤ (rch nd ls x).length := List.length_pos_of_mem hx0
        obtain ⟨r, hr1, hr2⟩ : ∃ r : Nat, (bs1.length : Int) % ((rch nd ls x).length : Int) = (r : Int) ∧ r < (rch nd ls x).length := ⟨bs1.length % (rch nd ls x).length, by omega, Nat.mod_lt _ (by omega)⟩
        have qt : Int.tmod (bs1.length : Int) ((rch nd ls x).length : Int) = (r : Int) := by rw [Int.tmod_eq_emod_of_nonneg (by omega), hr1]
        have l1 : (1 : Int) ≤ ((rch nd ls x).length : Int) := by omega
        have ne0 : (((rch nd ls x).length : Int) == 0) = false := by rw [beq_eq_false_iff_ne]; omega
        have rne : ¬ rch nd ls x = [] := by intro e; rw [e] at hd0; simp at hd0
        clear hr1 q4 hx0
        obtain ⟨bg, bo, hB, hbg, hcb⟩ := r4 (by omega)
        obtain rfl := hB
        have m1 := hcb r hr2
        have hmem : Ix (rch nd ls x) r ∈ rch nd ls x := by unfold Ix; simp [hr2]
        have hm2 := rch_mem.1 hmem
        have hmn : Nd nd (Ix (rch nd ls x) r) := ⟨hm2.1, hm2.2.1⟩
        have HC := gReach_any nd A2 cp2 ls (Ix (rch nd ls x) r) w4.drew (by omega) (S4.on (Below.refl _ _).drew).rd
        rw [rchO_yes ⟨h.1, hmn⟩, rch_same h.1 hmn h.2 hm2.2.2] at HC
        have HC := Lib.hid HC
        have i0 : (0 : Int) ≤ (r : Int) := by omega
        have i1 : (r : Int) < ((rch nd ls x).length : Int) := by omega
        clear hcb hmem hm2 hmn
        generalize Ix (rch nd ls x) r = y at *
        generalize rch nd ls x = R at *
        have r4d := r4.on (Below.refl _ _).drew
        go_upto_region 8 with fail
        go_region_held3 (fun w' => w'.cell? ⟨w1.heap.size, 0, none⟩ = some (.int .i64 nd) ∧ w'.cell? ⟨w1.heap.size, 1, none⟩ = some (.slice A2 ls.length cp2) ∧ w'.cell? ⟨bg, bo + r, none⟩ = some (.int .i64 y)) (go_keep)
          (first | (go_at_call 31; refine HC.out.mono ?_; rintro e w6 ⟨⟨E, ce, rfl, oE⟩, hb6⟩; have e0 := ckeepD c0 hb6; have e1 := ckeepD c1 hb6; have e2 := ckeepD m1 hb6; have B6 := bthen S4.bl ((Below.refl _ _).drew.trans hb6); have r6 := r4d.on hb6) | (go_at_call 20; refine (sameI_yes E _ ce cb R _ (by omega) oE.rd r6).mono ?_; rintro e w7 ⟨rfl, hb7⟩; have f0 := ckeep e0 hb7; have f1 := ckeep e1 hb7; have f2 := ckeep e2 hb7; have B7 := bthen B6 hb7))
        all_goals
          go_wp2_with fail
          go_ret
          exact ⟨rfl, B7⟩
      · rw [rchO_no h] at r4 q4 ⊢
        clear hdl
        go_wp2_with fail
        refine (sameI_yes B C cb cc [] _ (by simp) r4 q4).mono ?_
        rintro e w5 ⟨rfl, hb5⟩
        go_wp2_with fail
        go_ret
        exact ⟨rfl, (S4.on hb5).bl⟩
    · have m20' : (1048576 : Int) < (bs1.length : Int) := by omega
      go_enter Try.func7, Try.ntmps7
      go_wp2_with fail
      go_ret
      exact ⟨rfl, Below.refl _ _⟩
  · have h20' : (1048576 : Int) < (bs.length : Int) := by omega
    go_enter Try.func7, Try.ntmps7
    go_wp2_with fail
    go_ret
    exact ⟨rfl, Below.refl _ _⟩

end Go.Proofs.Ytkaoincakfhmmaa.fnReachSame
