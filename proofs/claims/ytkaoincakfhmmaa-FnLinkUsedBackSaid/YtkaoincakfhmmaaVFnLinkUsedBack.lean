/-
  The walk of the law FnLinkUsedBack: a link is used in both directions.
-/
import Derived.Test.YtkaoincakfhmmaaEC
import Derived.Test.YtkaoincakfhmmaaWO
namespace Go.Proofs.Ytkaoincakfhmmaa.fnLinkUsedBack
open Go.RowKit

theorem luO_back (nd : Int) (ls : List Lk) (f t k : Int) : luO nd ls t f k = luO nd ls f t k := by
  by_cases h : Valid nd ls ∧ Nd nd f ∧ Nd nd t ∧ Lnk ls k
  · obtain ⟨hv, hf, ht, hk⟩ := h
    rw [luO_yes ⟨hv, hf, ht, hk⟩, luO_yes ⟨hv, ht, hf, hk⟩]
    have := hk.1
    have := hk.2
    exact used_back hv (by omega) ht hf
  · rw [luO_no h, luO_no (fun ⟨a, b, c, d⟩ => h ⟨a, c, b, d⟩)]

set_option maxRecDepth 100000 in
set_option maxHeartbeats 4000000 in
theorem walk (A : Option Addr) (cp : Nat) (bs : List Int) (w : World) (hr : RdB w w.heap.size A bs) (hl : bs.length ≤ 9223372036854775807 ∧ bs.length ≤ cp) :
    Calls Try.prog 9 #[.slice A bs.length cp] w fun e w' => e = .returned (.bool true) ∧ Below w.heap.size w w' := by
  obtain ⟨hl, hcp⟩ := hl
  by_cases h20 : bs.length ≤ 1048576
  · go_enter Try.func9, Try.ntmps9
    go_wp2_with fail
    refine (drawLinkUsed_any A cp bs _ hr hl hcp).mono ?_
    rintro e w1 ⟨nd, A2, cp2, ls, f, t, k, rfl, hg⟩
    have S := LS.of_drawn (nd := nd) hg
    have hlen := S.len
    clear hr hg
    have HI := gLinkUsed_any nd A2 cp2 ls f t k
    have HS := sgLinkUsed_any nd A2 cp2 ls f t k
    have HB := gLinkUsed_any nd A2 cp2 ls t f k
    rw [luO_back] at HB
    have HI := Lib.hid HI
    have HS := Lib.hid HS
    have HB := Lib.hid HB
    generalize luO nd ls f t k = b at *
    go_wp2_with fail
    refine (HI.out _ (by omega) S.rd).mono ?_
    rintro e w2 ⟨rfl, hb2⟩
    have S2 := S.on hb2
    have c0 := S2.c0
    have c1 := S2.c1
    clear S hb2
    go_wp2_with fail
    refine (HS.out _ (by omega) S2.rd).mono ?_
    rintro e w3 ⟨rfl, hb3⟩
    have S3 := S2.on hb3
    clear S2 hb3 c0 c1 HI HS
    have c0 := S3.c0
    have c1 := S3.c1
    cases b
    · go_wp2_with fail
      refine (HB.out _ (by omega) S3.rd).mono ?_
      rintro e w4 ⟨rfl, hb4⟩
      have S4 := S3.on hb4
      go_wp2_with fail
      go_ret
      exact ⟨rfl, S4.bl⟩
    · go_wp2_with fail
      refine (HB.out _ (by omega) S3.rd).mono ?_
      rintro e w4 ⟨rfl, hb4⟩
      have S4 := S3.on hb4
      go_wp2_with fail
      go_ret
      exact ⟨rfl, S4.bl⟩
  · go_enter Try.func9, Try.ntmps9
    go_wp2_with fail
    go_ret
    exact ⟨rfl, Below.refl _ _⟩

end Go.Proofs.Ytkaoincakfhmmaa.fnLinkUsedBack
