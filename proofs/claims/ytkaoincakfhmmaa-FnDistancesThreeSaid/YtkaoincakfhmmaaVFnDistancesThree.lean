/-
  The walk of the law FnDistancesThree: a detour is not shorter.
-/
import Derived.Test.YtkaoincakfhmmaaDG
import Derived.Test.YtkaoincakfhmmaaWO
import Derived.Test.YtkaoincakfhmmaaEB
import Derived.Deep.RegionHeld3
namespace Go.Proofs.Ytkaoincakfhmmaa.fnDistancesThree
open Go.RowKit

set_option maxRecDepth 100000 in
set_option maxHeartbeats 4000000 in
theorem walk (A : Option Addr) (cp : Nat) (bs : List Int) (A1 : Option Addr) (cp1 : Nat) (bs1 : List Int) (w : World) (hr : RdB w w.heap.size A bs) (hl : bs.length ≤ 9223372036854775807 ∧ bs.length ≤ cp) (_ : RdB w w.heap.size A1 bs1) (hl1 : bs1.length ≤ 9223372036854775807 ∧ bs1.length ≤ cp1) :
    Calls Try.prog 4 #[.slice A bs.length cp, .slice A1 bs1.length cp1] w fun e w' => e = .returned (.bool true) ∧ Below w.heap.size w w' := by
  obtain ⟨hl, hcp⟩ := hl
  obtain ⟨hl1, -⟩ := hl1
  by_cases h20 : bs.length ≤ 1048576
  · by_cases m20 : bs1.length ≤ 1048576
    · go_enter Try.func4, Try.ntmps4
      go_wp2_with fail
      refine (drawDistances_any A cp bs _ hr hl hcp).mono ?_
      rintro e w1 ⟨nd, A2, cp2, ls, x, rfl, hg⟩
      have S := LS.of_drawn (nd := nd) hg
      have oG := hg.1
      have hlen := S.len
      clear hr hg
      go_wp2_with fail
      refine (gDist_any nd A2 cp2 ls x _ (by omega) S.rd).mono ?_
      rintro e w2 ⟨⟨B, cb, rfl, ho2⟩, hb2⟩
      have S2 := S.on hb2
      have r2 := ho2.rd
      have c0 := S2.c0
      have c1 := S2.c1
      clear S hb2 ho2
      go_wp2_with fail
      refine (sgDist_any nd A2 cp2 ls x _ (by omega) S2.rd).mono ?_
      rintro e w3 ⟨⟨C, cc, rfl, ho3⟩, hb3⟩
      have S3 := S2.on hb3
      have r3 := r2.on hb3
      have q3 := ho3.rd
      clear S2 hb3 c0 c1 ho3 r2
      have c0 := S3.c0
      have c1 := S3.c1
      have hdl : (distO nd ls x).length ≤ 8 := by
        by_cases h : Valid nd ls ∧ Nd nd x
        · exact by rw [distO_yes h, length_dists]; have := h.1.2.1; omega
        · rw [distO_no h]; simp
      go_wp2_with fail
      refine (sameI_yes B C cb cc _ _ (by omega) r3 q3).mono ?_
      rintro e w4 ⟨rfl, hb4⟩
      have S4 := S3.on hb4
      have r4 := r3.on hb4
      have q4 := q3.on hb4
      clear S3 hb4 c0 c1 r3 q3
      have c0 := S4.c0
      have c1 := S4.c1
      by_cases h : Valid nd ls ∧ Nd nd x
      · rw [distO_yes h] at r4 q4 hdl ⊢
        have hn1 := h.1.1
        obtain ⟨n, rfl⟩ := Int.eq_ofNat_of_zero_le (by omega : 0 ≤ nd)
        have hl4 := length_dists (n : Int) ls x
        have hd0 : 1 ≤ (dists (n : Int) ls x).length := by omega
        have hn8 : n ≤ 8 := by omega
        have ne0 : (((dists (n : Int) ls x).length : Int) == 0) = false := by rw [beq_eq_false_iff_ne]; omega
        obtain ⟨r, hr1, hr2⟩ : ∃ r : Nat, (bs1.length : Int) % (n : Int) = (r : Int) ∧ r < n := ⟨bs1.length % n, by omega, Nat.mod_lt _ (by omega)⟩
        have HL := Lib.hid hl4
        have HR := Lib.hid hr1
        clear hl4 hr1 q4
        have hrn : Nd (n : Int) (r : Int) := ⟨by omega, by omega⟩
        go_wp2_with fail
        rw [HR.out]
        generalize w1.heap.size = G at *
        go_loopw [10] (fun i wr => ∃ k : Nat, k ≤ n ∧ i = .int .i64 k ∧ LS w wr G n A2 cp2 ls ∧ RdI wr wr.heap.size B (dists n ls x)) (fun i _ => n - (intOf i).toNat)
        case atStart => exact ⟨0, Nat.zero_le _, rfl, S4, r4⟩
        case round =>
          obtain ⟨k, hk, rfl, T, rd⟩ := hrel
          clear c0 c1
          have c0 := T.c0
          have c1 := T.c1
          by_cases hlt : k < n
          · have hkn : Nd (n : Int) (k : Int) := ⟨by omega, by omega⟩
            have HC := Lib.hid (distL_any h.1 hkn hrn A2 cp2 wr (T.rd))
            go_wp2_with fail
            refine HC.out.mono ?_
            rintro e w6 ⟨rfl, hb6⟩
            have T6 := T.on hb6
            have r6 := rd.on hb6
            obtain ⟨bg, bo, hB, hbg, hcb⟩ := r6 (by omega)
            obtain rfl := hB
            have m1 := hcb r (by have := HL.out; omega)
            have m2 := hcb k (by have := HL.out; omega)
            rw [show Ix (dists (n : Int) ls x) r = D n ls x r from by unfold D; rw [Int.toNat_natCast]] at m1
            rw [show Ix (dists (n : Int) ls x) k = D n ls x k from by unfold D; rw [Int.toNat_natCast]] at m2
            have i0 : (0 : Int) ≤ (r : Int) := by omega
            have i1 : (r : Int) < ((dists (n : Int) ls x).length : Int) := by have := HL.out; omega
            have j0 : (0 : Int) ≤ (k : Int) := by omega
            have j1 : (k : Int) < ((dists (n : Int) ls x).length : Int) := by have := HL.out; omega
            have tri := D_tri h.1 h.2 hkn hrn
            have b1 := D_bd h.1 x k
            have b2 := D_bd h.1 k r
            have b3 := D_bd h.1 x r
            clear HC hcb hb6 c0 c1 T rd
            generalize D (n : Int) ls x k = u at *
            generalize D (n : Int) ls k r = v at *
            generalize D (n : Int) ls x r = y at *
            cases t1 : decide (0 ≤ u)
            · clear tri
              go_wp2_with fail
              go_quiet (fail)
              go_wp2_with fail
              go_roundw
              case rel => exact ⟨k + 1, by omega, by go_num, T6.on (bdN (Below.refl _ _) _), r6.on (bdN (Below.refl _ _) _)⟩
              case measure => simp [intOf]; omega
            · cases t2 : decide (0 ≤ v)
              · clear tri
                go_wp2_with fail
                go_quiet (fail)
                go_wp2_with fail
                go_roundw
                case rel => exact ⟨k + 1, by omega, by go_num, T6.on (bdN (Below.refl _ _) _), r6.on (bdN (Below.refl _ _) _)⟩
                case measure => simp [intOf]; omega
              · have ht := tri (by simpa using t1) (by simpa using t2)
                have t3 : decide (y < 0) = false := by simp; omega
                have t4 : decide (u + v < y) = false := by simp; omega
                have q5 : IntKind.i64.wrap (u + v) = u + v := IntWalk.i64_in _ (by omega)
                clear tri ht
                go_wp2_with fail
                go_quiet (fail)
                go_wp2_with fail
                go_roundw
                case rel => exact ⟨k + 1, by omega, by go_num, T6.on (bdN (Below.refl _ _) _), r6.on (bdN (Below.refl _ _) _)⟩
                case measure => simp [intOf]; omega
          · go_wp2_with fail
            go_ret
            exact ⟨rfl, T.bl⟩
      · rw [distO_no h] at r4 q4 ⊢
        clear hdl
        go_wp2_with fail
        refine (sameI_yes B C cb cc [] _ (by simp) r4 q4).mono ?_
        rintro e w5 ⟨rfl, hb5⟩
        go_wp2_with fail
        go_ret
        exact ⟨rfl, (S4.on hb5).bl⟩
    · have m20' : (1048576 : Int) < (bs1.length : Int) := by omega
      go_enter Try.func4, Try.ntmps4
      go_wp2_with fail
      go_ret
      exact ⟨rfl, Below.refl _ _⟩
  · have h20' : (1048576 : Int) < (bs.length : Int) := by omega
    go_enter Try.func4, Try.ntmps4
    go_wp2_with fail
    go_ret
    exact ⟨rfl, Below.refl _ _⟩

end Go.Proofs.Ytkaoincakfhmmaa.fnDistancesThree
