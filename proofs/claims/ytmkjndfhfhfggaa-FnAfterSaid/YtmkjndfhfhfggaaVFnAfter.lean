/-
  The walk of the law FnAfter: a changed cost changes distances as in the changed graph.
-/
import Derived.Test.YtmkjndfhfhfggaaEI
import Derived.Test.YtmkjndfhfhfggaaWO
namespace Go.Proofs.Ytmkjndfhfhfggaa.fnAfter
open Go.RowKit

set_option maxRecDepth 100000 in
set_option maxHeartbeats 4000000 in
theorem walk (A : Option Addr) (cp : Nat) (bs : List Int) (w : World) (hr : RdB w w.heap.size A bs) (hl : bs.length ≤ 9223372036854775807 ∧ bs.length ≤ cp) :
    Calls Try.prog 9 #[.slice A bs.length cp] w fun e w' => e = .returned (.bool true) ∧ Below w.heap.size w w' := by
  obtain ⟨hl, hcp⟩ := hl
  by_cases h20 : bs.length ≤ 1048576
  · go_enter Try.func9, Try.ntmps9
    go_wp2_with fail
    refine (drawDistancesAfter_any A cp bs _ hr hl hcp).mono ?_
    rintro e w1 ⟨nd, A2, cp2, ls, x, y, z, rfl, hg⟩
    have S := LS.of_drawn (nd := nd) hg
    have hlen := S.len
    have hdl : (afterO nd ls x y z).length ≤ 14 := Nat.le_trans (afterO_8 _ _ _ _ _) (by omega)
    clear hr hg
    go_wp2_with fail
    refine (gAfter_any nd A2 cp2 ls x y z _ (by omega) S.rd).mono ?_
    rintro e w2 ⟨⟨B, cb, rfl, ho2⟩, hb2⟩
    have S2 := S.on hb2
    have r2 := ho2.rd
    have c0 := S2.c0
    have c1 := S2.c1
    clear S hb2 ho2
    go_wp2_with fail
    refine (sgAfter_any nd A2 cp2 ls x y z _ (by omega) S2.rd).mono ?_
    rintro e w3 ⟨⟨C, cc, rfl, ho3⟩, hb3⟩
    have S3 := S2.on hb3
    have r3 := r2.on hb3
    have q3 := ho3.rd
    clear S2 hb3 c0 c1 ho3 r2
    have c0 := S3.c0
    have c1 := S3.c1
    go_wp2_with fail
    refine (sameI_yes B C cb cc _ _ (by omega) r3 q3).mono ?_
    rintro e w4 ⟨rfl, hb4⟩
    have S4 := S3.on hb4
    have r4 := r3.on hb4
    have q4 := q3.on hb4
    clear S3 hb4 c0 c1 r3 q3
    have c0 := S4.c0
    have c1 := S4.c1
    by_cases h : (Valid nd ls ∧ Lnk ls y ∧ Cst z) ∧ Nd nd x
    · obtain ⟨⟨hv, hk, hc⟩, hx⟩ := h
      rw [afterO_full ⟨hv, hk, hc⟩ hx] at r4 q4 hdl ⊢
      have hn1 := hv.1
      have hv2 := hv.lsC (k := y.toNat) hc.1 hc.2
      have hld := length_dists nd (lsC ls y.toNat z) x
      have ne0 : (((dists nd (lsC ls y.toNat z) x).length : Int) == 0) = false := by rw [beq_eq_false_iff_ne]; omega
      have HD : Hid (∀ X cx wr, RdL wr wr.heap.size X (lsC ls y.toNat z) → Calls Try.prog 45 #[.agg #[.int .i64 nd, .slice X (lsC ls y.toNat z).length cx], .int .i64 x] wr (RI (dists nd (lsC ls y.toNat z) x) wr)) := fun X cx wr hr => by
        have := gDist_any nd X cx (lsC ls y.toNat z) x wr (by rw [length_lsC]; omega) hr
        rwa [distO_yes ⟨hv2, hx⟩] at this
      clear hld
      generalize dists nd (lsC ls y.toNat z) x = R at *
      go_wp2_with fail
      refine (gCost_yes hv hk hc.1 hc.2 A2 cp2 _ S4.rd).mono ?_
      rintro e w5 ⟨⟨X, cx, rfl, oX⟩, hb5⟩
      have S5 := (S4.on hb5).on (bnew w5 (.cells #[.int .i64 nd, .slice X (lsC ls y.toNat z).length cx] 25))
      have r5 := (r4.on hb5).on (bnew w5 (.cells #[.int .i64 nd, .slice X (lsC ls y.toNat z).length cx] 25))
      have rX := oX.rd.on (bnew w5 (.cells #[.int .i64 nd, .slice X (lsC ls y.toNat z).length cx] 25))
      clear S4 r4 q4 c0 c1 hb5 oX
      go_wp2_with fail
      refine (HD.out X cx _ rX).mono ?_
      rintro e w6 ⟨⟨E, ce, rfl, oE⟩, hb6⟩
      have S6 := S5.on hb6
      have r6 := r5.on hb6
      clear S5 r5 rX hb6
      go_wp2_with fail
      refine (sameI_yes E B ce cb _ _ (by omega) oE.rd r6).mono ?_
      rintro e w7 ⟨rfl, hb7⟩
      go_wp2_with fail
      go_ret
      exact ⟨rfl, (S6.on hb7).bl⟩
    · have e0 : afterO nd ls x y z = [] := by
        by_cases h' : Valid nd ls ∧ Lnk ls y ∧ Cst z
        · exact afterO_out (fun hf => h ⟨h', hf⟩)
        · exact afterO_no h'
      rw [e0] at r4 q4 hdl ⊢
      clear e0
      go_wp2_with fail
      refine (sameI_yes B C cb cc _ _ (by omega) r4 q4).mono ?_
      rintro e w5 ⟨rfl, hb5⟩
      go_wp2_with fail
      go_ret
      exact ⟨rfl, (S4.on hb5).bl⟩
  · have h20' : (1048576 : Int) < (bs.length : Int) := by omega
    go_enter Try.func9, Try.ntmps9
    go_wp2_with fail
    go_ret
    exact ⟨rfl, Below.refl _ _⟩

end Go.Proofs.Ytmkjndfhfhfggaa.fnAfter
