/-
  The walk of the law FnNodeUsed: a used node divides the distance.
-/
import Derived.Test.YtkaoincakfhmmaaDH
import Derived.Test.YtkaoincakfhmmaaEB
import Derived.Test.YtkaoincakfhmmaaWO
import Derived.Deep.RegionHeld3
namespace Go.Proofs.Ytkaoincakfhmmaa.fnNodeUsed
open Go.RowKit

set_option maxRecDepth 100000 in
set_option maxHeartbeats 4000000 in
theorem walk (A : Option Addr) (cp : Nat) (bs : List Int) (w : World) (hr : RdB w w.heap.size A bs) (hl : bs.length ≤ 9223372036854775807 ∧ bs.length ≤ cp) :
    Calls Try.prog 5 #[.slice A bs.length cp] w fun e w' => e = .returned (.bool true) ∧ Below w.heap.size w w' := by
  obtain ⟨hl, hcp⟩ := hl
  by_cases h20 : bs.length ≤ 1048576
  · go_enter Try.func5, Try.ntmps5
    go_wp2_with fail
    refine (drawNodeUsed_any A cp bs _ hr hl hcp).mono ?_
    rintro e w1 ⟨nd, A2, cp2, ls, f, t, n, rfl, hg⟩
    have S := LS.of_drawn (nd := nd) hg
    have hlen := S.len
    clear hr hg
    have HI := nodeUsed_any nd A2 cp2 ls f t n
    have HS := snodeUsed_any nd A2 cp2 ls f t n
    by_cases h : nuO nd ls f t n = true
    · have hv : Valid nd ls ∧ Nd nd f ∧ Nd nd t ∧ Nd nd n := by
        by_cases hv : Valid nd ls ∧ Nd nd f ∧ Nd nd t ∧ Nd nd n
        · exact hv
        · rw [nuO_no hv] at h; cases h
      have hu := (nusedB_iff (nd := nd) (ls := ls)).1 (by rw [← nuO_yes hv]; exact h)
      rw [h] at HI HS
      have HI := Lib.hid HI
      have HS := Lib.hid HS
      clear h
      go_wp2_with fail
      refine (HI.out _ (by omega) S.rd).mono ?_
      rintro e w2 ⟨rfl, hb2⟩
      have S2 := S.on hb2
      have c0 := S2.c0
      have c1 := S2.c1
      clear S hb2
      go_wp2_with fail
      refine (HS.out _ (by omega) S2.rd).mono ?_
      rintro e w3 ⟨rfl, hb3⟩
      have S3 := S2.on hb3
      clear S2 hb3 c0 c1 HI HS
      obtain ⟨hv, hf, ht, hn⟩ := hv
      have hsym := D_symm hv ht hn
      have b1 := D_bd hv f n
      have b2 := D_bd hv n t
      have b3 := D_bd hv f t
      have S4 := S3.on (Below.refl _ _).drew
      have c0 : w3.drew.cell? ⟨w1.heap.size, 0, none⟩ = some (.int .i64 nd) := S4.c0
      have c1 : w3.drew.cell? ⟨w1.heap.size, 1, none⟩ = some (.slice A2 ls.length cp2) := S4.c1
      have H1 : Hid (∀ wr : World, Below w3.drew.heap.size w3.drew wr → Calls Try.prog 21 #[.agg #[.int .i64 nd, .slice A2 ls.length cp2], .int .i64 f, .int .i64 n] wr fun e w' => e = .returned (.int .i64 (D nd ls f n)) ∧ Below wr.heap.size wr w') := fun wr hb => distL_any hv hf hn A2 cp2 wr (S4.on hb).rd
      have H2 : Hid (∀ wr : World, Below w3.drew.heap.size w3.drew wr → Calls Try.prog 21 #[.agg #[.int .i64 nd, .slice A2 ls.length cp2], .int .i64 n, .int .i64 t] wr fun e w' => e = .returned (.int .i64 (D nd ls n t)) ∧ Below wr.heap.size wr w') := fun wr hb => distL_any hv hn ht A2 cp2 wr (S4.on hb).rd
      have H3 : Hid (∀ wr : World, Below w3.drew.heap.size w3.drew wr → Calls Try.prog 21 #[.agg #[.int .i64 nd, .slice A2 ls.length cp2], .int .i64 f, .int .i64 t] wr fun e w' => e = .returned (.int .i64 (D nd ls f t)) ∧ Below wr.heap.size wr w') := fun wr hb => distL_any hv hf ht A2 cp2 wr (S4.on hb).rd
      have hBL := S4.bl
      clear S3 S4
      generalize D nd ls f n = x at *
      generalize D nd ls n t = y at *
      generalize D nd ls f t = z at *
      generalize D nd ls t n = y2 at *
      have q5 : IntKind.i64.wrap (x + y) = x + y := IntWalk.i64_in _ (by omega)
      have t1 : (x + y == z) = true := by simp; omega
      have t2 : decide (0 ≤ x) = true := by simp; omega
      have t3 : decide (0 ≤ y) = true := by simp; omega
      have B0 : Below w3.drew.heap.size w3.drew w3.drew := Below.refl _ _
      go_upto_region 8 with fail
      generalize w1.heap.size = G at *
      generalize hW : w3.drew = W at *
      clear hsym b1 b2 b3 hu
      go_region_held3 (fun w' => w'.cell? ⟨G, 0, none⟩ = some (.int .i64 nd) ∧ w'.cell? ⟨G, 1, none⟩ = some (.slice A2 ls.length cp2) ∧ Below W.heap.size W w') (first | go_keep | (go_split_ands; refine ⟨by assumption, by assumption, by assumption⟩))
        (first
          | (go_at_call_of 21 (Value.int IntKind.i64 f); go_at_call_of 21 (Value.int IntKind.i64 n); (with_reducible refine (H1.out _ (by assumption)).mono ?_); rintro e w6 ⟨rfl, hb6⟩; have B6 : Below W.heap.size W w6 := bthen (by assumption) hb6; have e0 := ckeep c0 B6; have e1 := ckeep c1 B6)
          | (go_at_call_of 21 (Value.int IntKind.i64 n); go_at_call_of 21 (Value.int IntKind.i64 t); (with_reducible refine (H2.out _ (by assumption)).mono ?_); rintro e w6 ⟨rfl, hb6⟩; have B6 : Below W.heap.size W w6 := bthen (by assumption) hb6; have e0 := ckeep c0 B6; have e1 := ckeep c1 B6)
          | (go_at_call_of 21 (Value.int IntKind.i64 f); go_at_call_of 21 (Value.int IntKind.i64 t); (with_reducible refine (H3.out _ (by assumption)).mono ?_); rintro e w6 ⟨rfl, hb6⟩; have B6 : Below W.heap.size W w6 := bthen (by assumption) hb6; have e0 := ckeep c0 B6; have e1 := ckeep c1 B6))
      all_goals
        go_wp2_with fail
        go_ret
        exact ⟨rfl, bthen hBL (by assumption)⟩
    · have h' : nuO nd ls f t n = false := by simpa using h
      rw [h'] at HI HS
      have HI := Lib.hid HI
      have HS := Lib.hid HS
      clear h h'
      go_wp2_with fail
      refine (HI.out _ (by omega) S.rd).mono ?_
      rintro e w2 ⟨rfl, hb2⟩
      have S2 := S.on hb2
      have c0 := S2.c0
      have c1 := S2.c1
      clear S hb2
      go_wp2_with fail
      refine (HS.out _ (by omega) S2.rd).mono ?_
      rintro e w3 ⟨rfl, hb3⟩
      have S3 := S2.on hb3
      go_wp2_with fail
      go_ret
      exact ⟨rfl, S3.bl⟩
  · go_enter Try.func5, Try.ntmps5
    go_wp2_with fail
    go_ret
    exact ⟨rfl, Below.refl _ _⟩

end Go.Proofs.Ytkaoincakfhmmaa.fnNodeUsed
