/-
  The walk of the law FnCriticalFew: there are fewer critical links than nodes.
-/
import Derived.Test.YtmkjndfhfhfggaaEG
import Derived.Test.YtmkjndfhfhfggaaDK
import Derived.Test.YtmkjndfhfhfggaaPG
namespace Go.Proofs.Ytmkjndfhfhfggaa.fnCriticalFew
open Go.RowKit

set_option maxRecDepth 100000 in
set_option maxHeartbeats 4000000 in
theorem walk (A : Option Addr) (cp : Nat) (bs : List Int) (w : World) (hr : RdB w w.heap.size A bs) (hl : bs.length ≤ 9223372036854775807 ∧ bs.length ≤ cp) :
    Calls Try.prog 4 #[.slice A bs.length cp] w fun e w' => e = .returned (.bool true) ∧ Below w.heap.size w w' := by
  obtain ⟨hl, hcp⟩ := hl
  by_cases h20 : bs.length ≤ 1048576
  · go_enter Try.func4, Try.ntmps4
    go_wp2_with fail
    refine (drawCritical_any A cp bs _ hr hl hcp).mono ?_
    rintro e w1 ⟨nd, A2, cp2, ls, rfl, hg⟩
    have S := LS.of_drawn (nd := nd) hg
    have hcap := own_cap hg.1
    have hlen := S.len
    have hcl := critO_len (nd := nd) (ls := ls)
    clear hr hg
    go_wp2_with fail
    refine (gCrit_any nd A2 cp2 ls _ (by omega) S.rd).mono ?_
    rintro e w2 ⟨⟨B, cb, rfl, ho2⟩, hb2⟩
    have S2 := S.on hb2
    have r2 := ho2.rd
    have c0 := S2.c0
    have c1 := S2.c1
    clear S hb2 ho2
    go_wp2_with fail
    refine (sgCrit_any nd A2 cp2 ls _ (by omega) hcap S2.rd).mono ?_
    rintro e w3 ⟨⟨C, cc, rfl, ho3⟩, hb3⟩
    have S3 := S2.on hb3
    have r3 := r2.on hb3
    have q3 := ho3.rd
    clear S2 hb3 c0 c1 ho3 r2
    have c0 := S3.c0
    have c1 := S3.c1
    go_wp2_with fail
    refine (sameI_yes B C cb cc _ _ (by omega) r3 q3).mono ?_
    rintro e w4 ⟨rfl, hb4⟩
    have S4 := S3.on hb4
    have r4 := r3.on hb4
    have q4 := q3.on hb4
    clear S3 hb4 c0 c1 r3 q3
    have c0 := S4.c0
    have c1 := S4.c1
    by_cases hv : Valid nd ls
    · have hf := crit_few hv
      rw [← critO_yes hv] at hf
      have t : decide (((critO nd ls).length : Int) < nd) = true := by simpa using hf
      go_wp2_with fail
      refine (sgv_yes hv A2 cp2 _ S4.rd).mono ?_
      rintro e w5 ⟨rfl, hb5⟩
      have S5 := S4.on hb5
      clear S4 hb5 c0 c1
      have c0 := S5.c0
      generalize (critO nd ls).length = m at *
      go_wp2_with fail
      go_ret
      exact ⟨rfl, S5.bl⟩
    · go_wp2_with fail
      refine (sgv_no hv A2 cp2 _ (by omega) S4.rd).mono ?_
      rintro e w5 ⟨rfl, hb5⟩
      have S5 := S4.on hb5
      have r5 := r4.on hb5
      have q5 := q4.on hb5
      go_wp2_with fail
      refine (sameI_yes B C cb cc _ _ (by omega) r5 q5).mono ?_
      rintro e w6 ⟨rfl, hb6⟩
      go_wp2_with fail
      go_ret
      exact ⟨rfl, (S5.on hb6).bl⟩
  · go_enter Try.func4, Try.ntmps4
    go_wp2_with fail
    go_ret
    exact ⟨rfl, Below.refl _ _⟩

end Go.Proofs.Ytmkjndfhfhfggaa.fnCriticalFew
