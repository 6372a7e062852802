/-
  The walk of the law FnAffectedBack: both ends of a path are affected.
-/
import Derived.Test.YtmkjndfhfhfggaaEI
import Derived.Test.YtmkjndfhfhfggaaWO
import Derived.Test.YtmkjndfhfhfggaaEK
import Derived.Deep.RegionHeld3
namespace Go.Proofs.Ytmkjndfhfhfggaa.fnAffectedBack
open Go.RowKit

set_option maxRecDepth 100000 in
set_option maxHeartbeats 4000000 in
theorem walk (A : Option Addr) (cp : Nat) (bs : List Int) (A1 : Option Addr) (cp1 : Nat) (bs1 : List Int) (w : World) (hr : RdB w w.heap.size A bs) (hl : bs.length ≤ 9223372036854775807 ∧ bs.length ≤ cp) (_ : RdB w w.heap.size A1 bs1) (hl1 : bs1.length ≤ 9223372036854775807 ∧ bs1.length ≤ cp1) :
    Calls Try.prog 14 #[.slice A bs.length cp, .slice A1 bs1.length cp1] w fun e w' => e = .returned (.bool true) ∧ Below w.heap.size w w' := by
  obtain ⟨hl, hcp⟩ := hl
  obtain ⟨hl1, -⟩ := hl1
  by_cases h20 : bs.length ≤ 1048576
  · by_cases m20 : bs1.length ≤ 1048576
    · go_enter Try.func14, Try.ntmps14
      go_wp2_with fail
      refine (drawAffected_any A cp bs _ hr hl hcp).mono ?_
      rintro e w1 ⟨nd, A2, cp2, ls, x, y, z, rfl, hg⟩
      have S := LS.of_drawn (nd := nd) hg
      have hlen := S.len
      have hdl : (affO nd ls x y z).length ≤ 14 := Nat.le_trans (affO_8 _ _ _ _ _) (by omega)
      clear hr hg
      go_wp2_with fail
      refine (gAff_any nd A2 cp2 ls x y z _ (by omega) S.rd).mono ?_
      rintro e w2 ⟨⟨B, cb, rfl, ho2⟩, hb2⟩
      have S2 := S.on hb2
      have r2 := ho2.rd
      have c0 := S2.c0
      have c1 := S2.c1
      clear S hb2 ho2
      go_wp2_with fail
      refine (sgAff_any nd A2 cp2 ls x y z _ (by omega) S2.rd).mono ?_
      rintro e w3 ⟨⟨C, cc, rfl, ho3⟩, hb3⟩
      have S3 := S2.on hb3
      have r3 := r2.on hb3
      have q3 := ho3.rd
      clear S2 hb3 c0 c1 ho3 r2
      have c0 := S3.c0
      have c1 := S3.c1
      go_wp2_with fail
      refine (sameI_yes B C cb cc _ _ (by omega) r3 q3).mono ?_
      rintro e w4 ⟨rfl, hb4⟩
      have S4 := S3.on hb4
      have r4 := r3.on hb4
      have q4 := q3.on hb4
      clear S3 hb4 c0 c1 r3 q3
      have c0 := S4.c0
      have c1 := S4.c1
      by_cases hv : Valid nd ls
      · by_cases hx : Nd nd x
        · have hn1 := hv.1
          have hn8 := hv.2.1
          obtain ⟨n, rfl⟩ := Int.eq_ofNat_of_zero_le (by omega : 0 ≤ nd)
          obtain ⟨r, hr1, hr2⟩ : ∃ r : Nat, (bs1.length : Int) % (n : Int) = (r : Int) ∧ r < n := ⟨bs1.length % n, by omega, Nat.mod_lt _ (by omega)⟩
          have HR := Lib.hid hr1
          clear hr1
          have x0 := hx.1
          have x1 := hx.2
          have t1 : decide (x < 0) = false := by rw [decide_eq_false_iff_not]; omega
          have t2 : decide ((n : Int) ≤ x) = false := by rw [decide_eq_false_iff_not]; omega
          go_wp2_with fail
          refine (sgv_yes hv A2 cp2 _ S4.rd).mono ?_
          rintro e w5 ⟨rfl, hb5⟩
          have S5 := S4.on hb5
          have r5 := r4.on hb5
          clear S4 r4 q4 c0 c1 hb5
          have c0 := S5.c0
          have c1 := S5.c1
          have BX : Below w5.heap.size w5 w5.drew := (Below.refl _ _).drew
          have h8 := affO_8 n ls r y z
          have HA : Hid (∀ wr, Below w5.heap.size w5 wr → Calls Try.prog 47 #[.agg #[.int .i64 n, .slice A2 ls.length cp2], .int .i64 r, .int .i64 y, .int .i64 z] wr (RI (affO n ls r y z) wr)) := fun wr hb => gAff_any n A2 cp2 ls r y z wr (by omega) (S5.on hb).rd
          have HH : Hid (∀ wr, Below w5.heap.size w5 wr → Calls Try.prog 29 #[.slice B (affO n ls x y z).length cb, .int .i64 r] wr fun e w' => e = .returned (.bool (decide (x ∈ affO n ls r y z))) ∧ Below wr.heap.size wr w') := fun wr hb => by
            rw [← aff_back]; exact hasI_any B cb (affO n ls x y z) r wr (by omega) (r5.on hb)
          have HC : Hid (∀ E ce wr, RdI wr wr.heap.size E (affO n ls r y z) → Calls Try.prog 29 #[.slice E (affO n ls r y z).length ce, .int .i64 x] wr fun e w' => e = .returned (.bool (decide (x ∈ affO n ls r y z))) ∧ Below wr.heap.size wr w') := fun E ce wr hr => hasI_any E ce (affO n ls r y z) x wr (by omega) hr
          have BL := S5.bl
          generalize decide (x ∈ affO n ls r y z) = b at *
          generalize affO n ls r y z = Q at *
          generalize affO n ls x y z = R at *
          generalize w1.heap.size = G at *
          have tb : (b == b) = true := by simp
          go_upto_region 9 with fail
          rw [HR.out]
          go_region_held3 (fun w' => w'.cell? ⟨G, 0, none⟩ = some (.int .i64 n) ∧ w'.cell? ⟨G, 1, none⟩ = some (.slice A2 ls.length cp2)) (go_keep)
            (first
              | (go_at_call_of 29 (Value.int IntKind.i64 (r : Int)); refine (HH.out _ BX).mono ?_; rintro e w6 ⟨rfl, hb6⟩; have BX := bthen BX hb6; have e0 := ckeep c0 BX; have e1 := ckeep c1 BX; (try (have rE := rE.on hb6)))
              | (go_at_call 47; refine (HA.out _ BX).mono ?_; rintro e w7 ⟨⟨E, ce, rfl, oE⟩, hb7⟩; have BX := bthen BX hb7; have e0 := ckeep c0 BX; have e1 := ckeep c1 BX; have rE := oE.rd)
              | (go_at_call_of 29 (Value.int IntKind.i64 x); refine (HC.out _ _ _ rE).mono ?_; rintro e w8 ⟨rfl, hb8⟩; have BX := bthen BX hb8; have e0 := ckeep c0 BX; have e1 := ckeep c1 BX))
          all_goals
            go_wp2_with fail
            go_ret
            exact ⟨rfl, bthen BL BX⟩
        · go_wp2_with fail
          refine (sgv_yes hv A2 cp2 _ S4.rd).mono ?_
          rintro e w5 ⟨rfl, hb5⟩
          have S5 := S4.on hb5
          have r5 := r4.on hb5
          have q5 := q4.on hb5
          clear S4 r4 q4 c0 c1 hb5
          have c0 := S5.c0
          have c1 := S5.c1
          by_cases h0 : x < 0
          · have t1 : decide (x < 0) = true := by simpa using h0
            clear h0
            go_wp2_with fail
            refine (sameI_yes B C cb cc _ _ (by omega) r5 q5).mono ?_
            rintro e w6 ⟨rfl, hb6⟩
            go_wp2_with fail
            go_ret
            exact ⟨rfl, (S5.on hb6).bl⟩
          · have t1 : decide (x < 0) = false := by simpa using h0
            have t2 : decide (nd ≤ x) = true := by
              rw [decide_eq_true_eq]
              by_cases h : x < nd
              · exact absurd ⟨by omega, h⟩ hx
              · omega
            clear h0
            go_wp2_with fail
            refine (sameI_yes B C cb cc _ _ (by omega) r5 q5).mono ?_
            rintro e w6 ⟨rfl, hb6⟩
            go_wp2_with fail
            go_ret
            exact ⟨rfl, (S5.on hb6).bl⟩
      · go_wp2_with fail
        refine (sgv_no hv A2 cp2 _ (by omega) S4.rd).mono ?_
        rintro e w5 ⟨rfl, hb5⟩
        have S5 := S4.on hb5
        have r5 := r4.on hb5
        have q5 := q4.on hb5
        clear S4 r4 q4 c0 c1 hb5
        go_wp2_with fail
        refine (sameI_yes B C cb cc _ _ (by omega) r5 q5).mono ?_
        rintro e w6 ⟨rfl, hb6⟩
        go_wp2_with fail
        go_ret
        exact ⟨rfl, (S5.on hb6).bl⟩
    · have m20' : (1048576 : Int) < (bs1.length : Int) := by omega
      go_enter Try.func14, Try.ntmps14
      go_wp2_with fail
      go_ret
      exact ⟨rfl, Below.refl _ _⟩
  · have h20' : (1048576 : Int) < (bs.length : Int) := by omega
    go_enter Try.func14, Try.ntmps14
    go_wp2_with fail
    go_ret
    exact ⟨rfl, Below.refl _ _⟩

end Go.Proofs.Ytmkjndfhfhfggaa.fnAffectedBack
