/-
  The walk of the law FnNextHopsNone: only an unreached node, or the node itself, has no next hops.
-/
import Derived.Test.YtkcapoobbnmdaaaFC
import Derived.Test.YtkcapoobbnmdaaaWO
import Derived.Test.YtkcapoobbnmdaaaEB
namespace Go.Proofs.Ytkcapoobbnmdaaa.fnNextHopsNone
open Go.RowKit

set_option maxRecDepth 100000 in
set_option maxHeartbeats 4000000 in
theorem walk (A : Option Addr) (cp : Nat) (bs : List Int) (w : World) (hr : RdB w w.heap.size A bs) (hl : bs.length ≤ 9223372036854775807 ∧ bs.length ≤ cp) :
    Calls Try.prog 13 #[.slice A bs.length cp] w fun e w' => e = .returned (.bool true) ∧ Below w.heap.size w w' := by
  obtain ⟨hl, hcp⟩ := hl
  by_cases h20 : bs.length ≤ 1048576
  · go_enter Try.func13, Try.ntmps13
    go_wp2_with fail
    refine (drawNextHops_any A cp bs _ hr hl hcp).mono ?_
    rintro e w1 ⟨nd, A2, cp2, ls, x, y, rfl, hg⟩
    have S := LS.of_drawn (nd := nd) hg
    have hlen := S.len
    have hdl : (hopsO nd ls x y).length ≤ 14 := Nat.le_trans (hopsO_8 _ _ _ _) (by omega)
    clear hr hg
    go_wp2_with fail
    refine (gHops_any nd A2 cp2 ls x y _ (by omega) S.rd).mono ?_
    rintro e w2 ⟨⟨B, cb, rfl, ho2⟩, hb2⟩
    have S2 := S.on hb2
    have r2 := ho2.rd
    have c0 := S2.c0
    have c1 := S2.c1
    clear S hb2 ho2
    go_wp2_with fail
    refine (sgHops_any nd A2 cp2 ls x y _ (by omega) S2.rd).mono ?_
    rintro e w3 ⟨⟨C, cc, rfl, ho3⟩, hb3⟩
    have S3 := S2.on hb3
    have r3 := r2.on hb3
    have q3 := ho3.rd
    clear S2 hb3 c0 c1 ho3 r2
    have c0 := S3.c0
    have c1 := S3.c1
    go_wp2_with fail
    refine (sameI_yes B C cb cc _ _ (by omega) r3 q3).mono ?_
    rintro e w4 ⟨rfl, hb4⟩
    have S4 := S3.on hb4
    have r4 := r3.on hb4
    have q4 := q3.on hb4
    clear S3 hb4 c0 c1 r3 q3
    have c0 := S4.c0
    have c1 := S4.c1
    by_cases hv : Valid nd ls
    · by_cases hx : Nd nd x
      · by_cases hy : Nd nd y
        · have tx1 : decide (x < 0) = false := by rw [decide_eq_false_iff_not]; have := hx.1; omega
          have tx2 : decide (nd ≤ x) = false := by rw [decide_eq_false_iff_not]; have := hx.2; omega
          have ty1 : decide (y < 0) = false := by rw [decide_eq_false_iff_not]; have := hy.1; omega
          have ty2 : decide (nd ≤ y) = false := by rw [decide_eq_false_iff_not]; have := hy.2; omega
          go_wp2_with fail
          refine (sgv_yes hv A2 cp2 _ S4.rd).mono ?_
          rintro e w5 ⟨rfl, hb5⟩
          have S5 := S4.on hb5
          have r5 := r4.on hb5
          have q5 := q4.on hb5
          clear S4 r4 q4 c0 c1 hb5
          have c0 := S5.c0
          have c1 := S5.c1
          rw [hopsO_yes ⟨hv, hx, hy⟩] at r5 q5 hdl ⊢
          by_cases hxy : x = y
          · have te : (x == y) = true := by rw [beq_iff_eq]; exact hxy
            have tn : (((hops nd ls x y).length : Int) == 0) = true := by rw [hxy, hops_self hv hy]; rfl
            clear hxy
            go_wp2_with fail
            go_ret
            exact ⟨rfl, S5.bl⟩
          · have te : (x == y) = false := by rw [beq_eq_false_iff_ne]; exact hxy
            have hsym := D_symm hv hx hy
            by_cases hd : 0 ≤ D nd ls y x
            · have hp := hops_some hv hx hy hxy hd
              have tn : (((hops nd ls x y).length : Int) == 0) = false := by rw [beq_eq_false_iff_ne]; omega
              have td : decide (D nd ls x y < 0) = false := by rw [decide_eq_false_iff_not]; omega
              clear hp hd hsym hxy
              go_wp2_with fail
              refine (distL_any hv hx hy A2 cp2 _ S5.rd).mono ?_
              rintro e w6 ⟨rfl, hb6⟩
              go_wp2_with fail
              go_ret
              exact ⟨rfl, (S5.on hb6).bl⟩
            · have tn : (((hops nd ls x y).length : Int) == 0) = true := by rw [hops_far hv (by omega)]; rfl
              have td : decide (D nd ls x y < 0) = true := by rw [decide_eq_true_eq]; omega
              clear hd hsym hxy
              go_wp2_with fail
              refine (distL_any hv hx hy A2 cp2 _ S5.rd).mono ?_
              rintro e w6 ⟨rfl, hb6⟩
              go_wp2_with fail
              go_ret
              exact ⟨rfl, (S5.on hb6).bl⟩
        · have tx1 : decide (x < 0) = false := by rw [decide_eq_false_iff_not]; have := hx.1; omega
          have tx2 : decide (nd ≤ x) = false := by rw [decide_eq_false_iff_not]; have := hx.2; omega
          go_wp2_with fail
          refine (sgv_yes hv A2 cp2 _ S4.rd).mono ?_
          rintro e w5 ⟨rfl, hb5⟩
          have S5 := S4.on hb5
          have r5 := r4.on hb5
          have q5 := q4.on hb5
          clear S4 r4 q4 c0 c1 hb5
          have c0 := S5.c0
          have c1 := S5.c1
          by_cases h0 : y < 0
          · have t1 : decide (y < 0) = true := by rw [decide_eq_true_eq]; exact h0
            clear h0
            go_wp2_with fail
            refine (sameI_yes B C cb cc _ _ (by omega) r5 q5).mono ?_
            rintro e w6 ⟨rfl, hb6⟩
            go_wp2_with fail
            go_ret
            exact ⟨rfl, (S5.on hb6).bl⟩
          · have t1 : decide (y < 0) = false := by rw [decide_eq_false_iff_not]; exact h0
            have t2 : decide (nd ≤ y) = true := by
              rw [decide_eq_true_eq]
              by_cases h : y < nd
              · exact absurd ⟨by omega, h⟩ hy
              · omega
            clear h0
            go_wp2_with fail
            refine (sameI_yes B C cb cc _ _ (by omega) r5 q5).mono ?_
            rintro e w6 ⟨rfl, hb6⟩
            go_wp2_with fail
            go_ret
            exact ⟨rfl, (S5.on hb6).bl⟩
      · go_wp2_with fail
        refine (sgv_yes hv A2 cp2 _ S4.rd).mono ?_
        rintro e w5 ⟨rfl, hb5⟩
        have S5 := S4.on hb5
        have r5 := r4.on hb5
        have q5 := q4.on hb5
        clear S4 r4 q4 c0 c1 hb5
        have c0 := S5.c0
        have c1 := S5.c1
        by_cases h0 : x < 0
        · have t1 : decide (x < 0) = true := by rw [decide_eq_true_eq]; exact h0
          clear h0
          go_wp2_with fail
          refine (sameI_yes B C cb cc _ _ (by omega) r5 q5).mono ?_
          rintro e w6 ⟨rfl, hb6⟩
          go_wp2_with fail
          go_ret
          exact ⟨rfl, (S5.on hb6).bl⟩
        · have t1 : decide (x < 0) = false := by rw [decide_eq_false_iff_not]; exact h0
          have t2 : decide (nd ≤ x) = true := by
            rw [decide_eq_true_eq]
            by_cases h : x < nd
            · exact absurd ⟨by omega, h⟩ hx
            · omega
          clear h0
          go_wp2_with fail
          refine (sameI_yes B C cb cc _ _ (by omega) r5 q5).mono ?_
          rintro e w6 ⟨rfl, hb6⟩
          go_wp2_with fail
          go_ret
          exact ⟨rfl, (S5.on hb6).bl⟩
    · go_wp2_with fail
      refine (sgv_no hv A2 cp2 _ (by omega) S4.rd).mono ?_
      rintro e w5 ⟨rfl, hb5⟩
      have S5 := S4.on hb5
      have r5 := r4.on hb5
      have q5 := q4.on hb5
      clear S4 r4 q4 c0 c1 hb5
      go_wp2_with fail
      refine (sameI_yes B C cb cc _ _ (by omega) r5 q5).mono ?_
      rintro e w6 ⟨rfl, hb6⟩
      go_wp2_with fail
      go_ret
      exact ⟨rfl, (S5.on hb6).bl⟩
  · have h20' : (1048576 : Int) < (bs.length : Int) := by omega
    go_enter Try.func13, Try.ntmps13
    go_wp2_with fail
    go_ret
    exact ⟨rfl, Below.refl _ _⟩

end Go.Proofs.Ytkcapoobbnmdaaa.fnNextHopsNone
