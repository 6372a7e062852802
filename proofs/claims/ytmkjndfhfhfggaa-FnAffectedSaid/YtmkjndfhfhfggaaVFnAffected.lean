/-
  The walk of the law FnAffected: affected nodes are those with other distances.
-/
import Derived.Test.YtmkjndfhfhfggaaEI
import Derived.Test.YtmkjndfhfhfggaaWO
import Derived.Test.YtmkjndfhfhfggaaPF
import Derived.Deep.RegionHeld3
namespace Go.Proofs.Ytmkjndfhfhfggaa.fnAffected
open Go.RowKit

set_option maxRecDepth 100000 in
set_option maxHeartbeats 4000000 in
theorem walk (A : Option Addr) (cp : Nat) (bs : List Int) (w : World) (hr : RdB w w.heap.size A bs) (hl : bs.length ≤ 9223372036854775807 ∧ bs.length ≤ cp) :
    Calls Try.prog 17 #[.slice A bs.length cp] w fun e w' => e = .returned (.bool true) ∧ Below w.heap.size w w' := by
  obtain ⟨hl, hcp⟩ := hl
  by_cases h20 : bs.length ≤ 1048576
  · go_enter Try.func17, Try.ntmps17
    go_wp2_with fail
    refine (drawAffected_any A cp bs _ hr hl hcp).mono ?_
    rintro e w1 ⟨nd, A2, cp2, ls, x, y, z, rfl, hg⟩
    have S := LS.of_drawn (nd := nd) hg
    have hlen := S.len
    have hdl : (affO nd ls x y z).length ≤ 14 := Nat.le_trans (affO_8 _ _ _ _ _) (by omega)
    clear hr hg
    go_wp2_with fail
    refine (gAff_any nd A2 cp2 ls x y z _ (by omega) S.rd).mono ?_
    rintro e w2 ⟨⟨B, cb, rfl, ho2⟩, hb2⟩
    have S2 := S.on hb2
    have r2 := ho2.rd
    have c0 := S2.c0
    have c1 := S2.c1
    clear S hb2 ho2
    go_wp2_with fail
    refine (sgAff_any nd A2 cp2 ls x y z _ (by omega) S2.rd).mono ?_
    rintro e w3 ⟨⟨C, cc, rfl, ho3⟩, hb3⟩
    have S3 := S2.on hb3
    have r3 := r2.on hb3
    have q3 := ho3.rd
    clear S2 hb3 c0 c1 ho3 r2
    have c0 := S3.c0
    have c1 := S3.c1
    go_wp2_with fail
    refine (sameI_yes B C cb cc _ _ (by omega) r3 q3).mono ?_
    rintro e w4 ⟨rfl, hb4⟩
    have S4 := S3.on hb4
    have r4 := r3.on hb4
    have q4 := q3.on hb4
    clear S3 hb4 c0 c1 r3 q3
    have c0 := S4.c0
    have c1 := S4.c1
    have HS : Hid (affO nd ls x y z = upTo (difB (distO nd ls x) (afterO nd ls x y z)) (afterO nd ls x y z).length) := rfl
    have hl1 := after_len nd ls x y z
    have hl8 := afterO_8 nd ls x y z
    rw [HS.out] at r4 q4 hdl ⊢
    clear HS
    go_wp2_with fail
    have HG := Lib.hid (fun wr h => gDist_any nd A2 cp2 ls x wr (by omega) h)
    have HA := Lib.hid (fun wr h => gAfter_any nd A2 cp2 ls x y z wr (by omega) h)
    generalize distO nd ls x = L1 at *
    generalize afterO nd ls x y z = L2 at *
    refine (HA.out _ S4.rd).mono ?_
    rintro e w5 ⟨⟨E, ce, rfl, oE⟩, hb5⟩
    have S5 := S4.on hb5
    have r5 := r4.on hb5
    have e5 := oE.rd
    clear S4 r4 q4 c0 c1 hb5 oE HA
    have c0 := S5.c0
    have c1 := S5.c1
    go_wp2_with fail
    refine (HG.out _ S5.rd).mono ?_
    rintro e w6 ⟨⟨F, cf, rfl, oF⟩, hb6⟩
    have B6 := (S5.on hb6).bl
    have r6 := r5.on hb6
    have e6 := e5.on hb6
    have f6 := oF.rd
    clear S5 r5 e5 c0 c1 hb6 oF HG
    have HM : Hid (∀ j : Nat, j < L2.length → decide ((j : Int) ∈ upTo (difB L1 L2) L2.length) = (Ix L2 j != Ix L1 j)) := fun j hj => by
      rw [Bool.eq_iff_iff, decide_eq_true_eq, mem_upTo' (by omega)]
      unfold difB
      rw [Int.toNat_natCast]
      simp only [decide_eq_true_eq, bne_iff_ne]
      exact ⟨fun h => h.2, fun h => ⟨by omega, h⟩⟩
    have HQ := Lib.hid (upTo_pw (difB L1 L2) L2.length)
    have HN : Hid (L2.length = 0 → (upTo (difB L1 L2) L2.length).length = 0) := fun h => by rw [h]; rfl
    generalize upTo (difB L1 L2) L2.length = R at *
    generalize w1.heap.size = G at *
    go_wp2_with fail
    go_loopw [11] (fun i wr => ∃ j : Nat, j ≤ L2.length ∧ i = .int .i64 j ∧ Below w.heap.size w wr ∧ RdI wr wr.heap.size B R ∧ RdI wr wr.heap.size E L2 ∧ RdI wr wr.heap.size F L1) (fun i _ => L2.length - (intOf i).toNat)
    case atStart => exact ⟨0, Nat.zero_le _, rfl, B6, r6, e6, f6⟩
    case round =>
      obtain ⟨j, hj, rfl, T, rd, re, rf⟩ := hrel
      clear B6 r6 e6 f6
      by_cases hlt : j < L2.length
      · obtain ⟨eg, eo, hE, heg, hec⟩ := re (by omega)
        obtain rfl := hE
        obtain ⟨fg, fo, hF, hfg, hfc⟩ := rf (by omega)
        obtain rfl := hF
        have m1 := hec j hlt
        have m2 := hfc j (by omega)
        have j0 : (0 : Int) ≤ (j : Int) := by omega
        have i1 : (j : Int) < (L1.length : Int) := by omega
        have i2 : (j : Int) < (L2.length : Int) := by omega
        have HMj := Lib.hid (HM.out j hlt)
        have HH : Hid (∀ wr : World, RdI wr wr.heap.size B R → Calls Try.prog 29 #[.slice B R.length cb, .int .i64 j] wr fun e w' => e = .returned (.bool (Ix L2 j != Ix L1 j)) ∧ Below wr.heap.size wr w') := fun wr h => by
          rw [← HMj.out]; exact hasI_any B cb R j wr (by omega) h
        have BD : Below wr.heap.size wr wr.drew := (Below.refl _ _).drew
        have HH0 := Lib.hid (HH.out wr.drew (rd.on BD))
        clear hec hfc HMj HH
        generalize Ix L2 j = p at *
        generalize Ix L1 j = q at *
        have tb : ((p != q) != (p != q)) = false := by simp
        go_wp2_with fail
        go_region_held3 (fun w' => w'.cell? ⟨eg, eo + j, none⟩ = some (.int .i64 p) ∧ w'.cell? ⟨fg, fo + j, none⟩ = some (.int .i64 q)) (go_keep)
          ((go_at_call 29; refine HH0.out.mono ?_; rintro e w7 ⟨rfl, hb7⟩; have hb8 := bthen BD hb7; have n1 := ckeep m1 hb8; have n2 := ckeep m2 hb8))
        all_goals
          go_wp2_with fail
          go_roundw
          case rel => exact ⟨j + 1, by omega, by go_num, bthen T hb8, rd.on hb8, re.on hb8, rf.on hb8⟩
          case measure => simp [intOf]; omega
      · by_cases h0 : L2.length = 0
        · have h0' := HN.out h0
          have t1 : decide (0 < L2.length) = false := by rw [decide_eq_false_iff_not]; omega
          have t2 : ((R.length : Int) == 0) = true := by rw [beq_iff_eq]; omega
          clear h0 h0'
          go_wp2_with fail
          refine (asc_any B cb R _ (by omega) HQ.out rd).mono ?_
          rintro e w7 ⟨rfl, hb7⟩
          go_wp2_with fail
          go_ret
          exact ⟨rfl, bthen T hb7⟩
        · have t1 : decide (0 < L2.length) = true := by rw [decide_eq_true_eq]; omega
          go_wp2_with fail
          refine (asc_any B cb R _ (by omega) HQ.out rd).mono ?_
          rintro e w7 ⟨rfl, hb7⟩
          go_wp2_with fail
          go_ret
          exact ⟨rfl, bthen T hb7⟩
  · have h20' : (1048576 : Int) < (bs.length : Int) := by omega
    go_enter Try.func17, Try.ntmps17
    go_wp2_with fail
    go_ret
    exact ⟨rfl, Below.refl _ _⟩

end Go.Proofs.Ytmkjndfhfhfggaa.fnAffected
