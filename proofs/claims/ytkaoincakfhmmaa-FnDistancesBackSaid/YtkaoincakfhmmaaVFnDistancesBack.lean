/-
  The walk of the law FnDistancesBack: distances are symmetric.
-/
import Derived.Test.YtkaoincakfhmmaaDG
import Derived.Test.YtkaoincakfhmmaaWO
import Derived.Test.YtkaoincakfhmmaaEB
import Derived.Deep.RegionHeld3
namespace Go.Proofs.Ytkaoincakfhmmaa.fnDistancesBack
open Go.RowKit

set_option maxRecDepth 100000 in
set_option maxHeartbeats 4000000 in
theorem walk (A : Option Addr) (cp : Nat) (bs : List Int) (A1 : Option Addr) (cp1 : Nat) (bs1 : List Int) (w : World) (hr : RdB w w.heap.size A bs) (hl : bs.length ≤ 9223372036854775807 ∧ bs.length ≤ cp) (_ : RdB w w.heap.size A1 bs1) (hl1 : bs1.length ≤ 9223372036854775807 ∧ bs1.length ≤ cp1) :
    Calls Try.prog 3 #[.slice A bs.length cp, .slice A1 bs1.length cp1] w fun e w' => e = .returned (.bool true) ∧ Below w.heap.size w w' := by
  obtain ⟨hl, hcp⟩ := hl
  obtain ⟨hl1, -⟩ := hl1
  by_cases h20 : bs.length ≤ 1048576
  · by_cases m20 : bs1.length ≤ 1048576
    · go_enter Try.func3, Try.ntmps3
      go_wp2_with fail
      refine (drawDistances_any A cp bs _ hr hl hcp).mono ?_
      rintro e w1 ⟨nd, A2, cp2, ls, x, rfl, hg⟩
      have S := LS.of_drawn (nd := nd) hg
      have oG := hg.1
      have hlen := S.len
      clear hr hg
      go_wp2_with fail
      refine (gDist_any nd A2 cp2 ls x _ (by omega) S.rd).mono ?_
      rintro e w2 ⟨⟨B, cb, rfl, ho2⟩, hb2⟩
      have S2 := S.on hb2
      have r2 := ho2.rd
      have c0 := S2.c0
      have c1 := S2.c1
      clear S hb2 ho2
      go_wp2_with fail
      refine (sgDist_any nd A2 cp2 ls x _ (by omega) S2.rd).mono ?_
      rintro e w3 ⟨⟨C, cc, rfl, ho3⟩, hb3⟩
      have S3 := S2.on hb3
      have r3 := r2.on hb3
      have q3 := ho3.rd
      clear S2 hb3 c0 c1 ho3 r2
      have c0 := S3.c0
      have c1 := S3.c1
      have hdl : (distO nd ls x).length ≤ 8 := by
        by_cases h : Valid nd ls ∧ Nd nd x
        · exact by rw [distO_yes h, length_dists]; have := h.1.2.1; omega
        · rw [distO_no h]; simp
      go_wp2_with fail
      refine (sameI_yes B C cb cc _ _ (by omega) r3 q3).mono ?_
      rintro e w4 ⟨rfl, hb4⟩
      have S4 := S3.on hb4
      have r4 := r3.on hb4
      have q4 := q3.on hb4
      clear S3 hb4 c0 c1 r3 q3
      have c0 := S4.c0
      have c1 := S4.c1
      by_cases h : Valid nd ls ∧ Nd nd x
      · rw [distO_yes h] at r4 q4 hdl ⊢
        have hn1 := h.1.1
        obtain ⟨n, rfl⟩ := Int.eq_ofNat_of_zero_le (by omega : 0 ≤ nd)
        have hl4 := length_dists (n : Int) ls x
        have hd0 : 1 ≤ (dists (n : Int) ls x).length := by omega
        obtain ⟨r, hr1, hr2⟩ : ∃ r : Nat, (bs1.length : Int) % (n : Int) = (r : Int) ∧ r < n := ⟨bs1.length % n, by omega, Nat.mod_lt _ (by omega)⟩
        have HL := Lib.hid hl4
        have HR := Lib.hid hr1
        clear hl4 hr1
        go_upto_region 9 with fail
        rw [HR.out]
        obtain ⟨bg, bo, hB, hbg, hcb⟩ := r4 (by omega)
        obtain rfl := hB
        have m1 := hcb r (by have := HL.out; omega)
        rw [show Ix (dists (n : Int) ls x) r = D n ls x r from by unfold D; rw [Int.toNat_natCast]] at m1
        clear hcb r4 q4
        have i0 : (0 : Int) ≤ (r : Int) := by omega
        have i1 : (r : Int) < ((dists (n : Int) ls x).length : Int) := by have := HL.out; omega
        have hrn : Nd (n : Int) (r : Int) := ⟨by omega, by omega⟩
        have HC := Lib.hid (distL_any h.1 hrn h.2 A2 cp2 w4.drew (S4.on (Below.refl _ _).drew).rd)
        have HE := Lib.hid (D_symm h.1 hrn h.2)
        clear hdl
        go_region_held3 (fun w' => w'.cell? ⟨w1.heap.size, 0, none⟩ = some (.int .i64 n) ∧ w'.cell? ⟨w1.heap.size, 1, none⟩ = some (.slice A2 ls.length cp2) ∧ w'.cell? ⟨bg, bo + r, none⟩ = some (.int .i64 (D n ls x r))) (go_keep)
          (first | (go_at_call 21; refine HC.out.mono ?_; rintro e w6 ⟨rfl, hb6⟩; rw [HE.out]; have e0 := ckeepD c0 hb6; have e1 := ckeepD c1 hb6; have e2 := ckeepD m1 hb6; have B6 := bthen S4.bl ((Below.refl _ _).drew.trans hb6)))
        all_goals
          go_wp2_with fail
          go_ret
          exact ⟨rfl, B6⟩
      · rw [distO_no h] at r4 q4 ⊢
        clear hdl
        go_wp2_with fail
        refine (sameI_yes B C cb cc [] _ (by simp) r4 q4).mono ?_
        rintro e w5 ⟨rfl, hb5⟩
        go_wp2_with fail
        go_ret
        exact ⟨rfl, (S4.on hb5).bl⟩
    · have m20' : (1048576 : Int) < (bs1.length : Int) := by omega
      go_enter Try.func3, Try.ntmps3
      go_wp2_with fail
      go_ret
      exact ⟨rfl, Below.refl _ _⟩
  · have h20' : (1048576 : Int) < (bs.length : Int) := by omega
    go_enter Try.func3, Try.ntmps3
    go_wp2_with fail
    go_ret
    exact ⟨rfl, Below.refl _ _⟩

end Go.Proofs.Ytkaoincakfhmmaa.fnDistancesBack
