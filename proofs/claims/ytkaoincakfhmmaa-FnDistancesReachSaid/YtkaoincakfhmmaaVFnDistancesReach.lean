/-
  The walk of the law FnDistancesReach: reached nodes have distances.
-/
import Derived.Test.YtkaoincakfhmmaaDG
import Derived.Test.YtkaoincakfhmmaaWO
import Derived.Test.YtkaoincakfhmmaaEB
import Derived.Deep.RegionHeld3
namespace Go.Proofs.Ytkaoincakfhmmaa.fnDistancesReach
open Go.RowKit

set_option maxRecDepth 100000 in
set_option maxHeartbeats 4000000 in
theorem walk (A : Option Addr) (cp : Nat) (bs : List Int) (w : World) (hr : RdB w w.heap.size A bs) (hl : bs.length ≤ 9223372036854775807 ∧ bs.length ≤ cp) :
    Calls Try.prog 13 #[.slice A bs.length cp] w fun e w' => e = .returned (.bool true) ∧ Below w.heap.size w w' := by
  obtain ⟨hl, hcp⟩ := hl
  by_cases h20 : bs.length ≤ 1048576
  · go_enter Try.func13, Try.ntmps13
    go_wp2_with fail
    refine (drawDistances_any A cp bs _ hr hl hcp).mono ?_
    rintro e w1 ⟨nd, A2, cp2, ls, x, rfl, hg⟩
    have S := LS.of_drawn (nd := nd) hg
    have oG := hg.1
    have hlen := S.len
    clear hr hg
    go_wp2_with fail
    refine (gDist_any nd A2 cp2 ls x _ (by omega) S.rd).mono ?_
    rintro e w2 ⟨⟨B, cb, rfl, ho2⟩, hb2⟩
    have S2 := S.on hb2
    have r2 := ho2.rd
    have c0 := S2.c0
    have c1 := S2.c1
    clear S hb2 ho2
    go_wp2_with fail
    refine (sgDist_any nd A2 cp2 ls x _ (by omega) S2.rd).mono ?_
    rintro e w3 ⟨⟨C, cc, rfl, ho3⟩, hb3⟩
    have S3 := S2.on hb3
    have r3 := r2.on hb3
    have q3 := ho3.rd
    clear S2 hb3 c0 c1 ho3 r2
    have c0 := S3.c0
    have c1 := S3.c1
    have hdl : (distO nd ls x).length ≤ 8 := by
      by_cases h : Valid nd ls ∧ Nd nd x
      · exact by rw [distO_yes h, length_dists]; have := h.1.2.1; omega
      · rw [distO_no h]; simp
    go_wp2_with fail
    refine (sameI_yes B C cb cc _ _ (by omega) r3 q3).mono ?_
    rintro e w4 ⟨rfl, hb4⟩
    have S4 := S3.on hb4
    have r4 := r3.on hb4
    have q4 := q3.on hb4
    clear S3 hb4 c0 c1 r3 q3
    have c0 := S4.c0
    have c1 := S4.c1
    by_cases h : Valid nd ls ∧ Nd nd x
    · rw [distO_yes h] at r4 q4 hdl ⊢
      have hn1 := h.1.1
      obtain ⟨n, rfl⟩ := Int.eq_ofNat_of_zero_le (by omega : 0 ≤ nd)
      have hl4 := length_dists (n : Int) ls x
      have hd0 : 1 ≤ (dists (n : Int) ls x).length := by omega
      have hn8 : n ≤ 8 := by omega
      have HL := Lib.hid hl4
      clear hl4 q4
      have HC := gReach_any (n : Int) A2 cp2 ls x w4 (by omega) S4.rd
      rw [rchO_yes h] at HC
      have HC := Lib.hid HC
      have hle := upTo_le (rchB n ls x) (n : Int).toNat
      go_wp2_with fail
      refine HC.out.mono ?_
      rintro e w5 ⟨⟨E, ce, rfl, oE⟩, hb5⟩
      have S5 := S4.on hb5
      have r5 := r4.on hb5
      have e5 := oE.rd
      clear S4 r4 hb5 oE HC c0 c1
      have hE : (rch (n : Int) ls x).length ≤ 8 := by unfold rch; omega
      have HM : Hid (∀ k : Nat, k < n → decide ((k : Int) ∈ rch (n : Int) ls x) = decide (0 ≤ D n ls x k)) := fun k hk => by
        rw [Bool.eq_iff_iff]
        simp only [decide_eq_true_eq]
        rw [rch_mem]
        constructor
        · exact fun hh => hh.2.2
        · exact fun hh => ⟨by omega, by omega, hh⟩
      clear hle
      have c0 := S5.c0
      generalize rch (n : Int) ls x = R at *
      generalize w1.heap.size = G at *
      go_wp2_with fail
      go_loopw [8] (fun i wr => ∃ k : Nat, k ≤ n ∧ i = .int .i64 k ∧ LS w wr G n A2 cp2 ls ∧ RdI wr wr.heap.size B (dists n ls x) ∧ RdI wr wr.heap.size E R) (fun i _ => n - (intOf i).toNat)
      case atStart => exact ⟨0, Nat.zero_le _, rfl, S5, r5, e5⟩
      case round =>
        obtain ⟨k, hk, rfl, T, rd, re⟩ := hrel
        clear c0
        have c0 := T.c0
        by_cases hlt : k < n
        · obtain ⟨bg, bo, hB, hbg, hcb⟩ := rd (by omega)
          obtain rfl := hB
          have m2 := hcb k (by have := HL.out; omega)
          rw [show Ix (dists (n : Int) ls x) k = D n ls x k from by unfold D; rw [Int.toNat_natCast]] at m2
          have j0 : (0 : Int) ≤ (k : Int) := by omega
          have j1 : (k : Int) < ((dists (n : Int) ls x).length : Int) := by have := HL.out; omega
          have HC := Lib.hid (hasI_any E ce R k wr.drew (by omega) (re.on (Below.refl _ _).drew))
          have HK := Lib.hid (HM.out k hlt)
          clear hcb
          generalize D (n : Int) ls x k = u at *
          go_wp2_with fail
          go_region_held3 (fun w' => w'.cell? ⟨bg, bo + k, none⟩ = some (.int .i64 u)) (go_keep)
            (first | (go_at_call 43; refine HC.out.mono ?_; rintro e w6 ⟨rfl, hb6⟩; rw [HK.out]; have e0 := ckeepD m2 hb6; have B6 := (Below.refl wr.heap.size wr).drew.trans hb6))
          all_goals
            have T6 := T.on B6
            have r6 := rd.on B6
            have s6 := re.on B6
            go_wp2_with fail
            go_roundw
            case rel => exact ⟨k + 1, by omega, by go_num, T6, r6, s6⟩
            case measure => simp [intOf]; omega
        · go_wp2_with fail
          go_ret
          exact ⟨rfl, T.bl⟩
    · rw [distO_no h] at r4 q4 ⊢
      clear hdl
      go_wp2_with fail
      refine (sameI_yes B C cb cc [] _ (by simp) r4 q4).mono ?_
      rintro e w5 ⟨rfl, hb5⟩
      go_wp2_with fail
      go_ret
      exact ⟨rfl, (S4.on hb5).bl⟩
  · have h20' : (1048576 : Int) < (bs.length : Int) := by omega
    go_enter Try.func13, Try.ntmps13
    go_wp2_with fail
    go_ret
    exact ⟨rfl, Below.refl _ _⟩

end Go.Proofs.Ytkaoincakfhmmaa.fnDistancesReach
