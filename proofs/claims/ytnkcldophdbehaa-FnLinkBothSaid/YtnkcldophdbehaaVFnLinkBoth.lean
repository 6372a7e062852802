/-
  The walk of the law FnLinkBoth: the link between two nodes is found from either end, and its ends are these nodes.
-/
import Derived.Test.YtnkcldophdbehaaWO
namespace Go.Proofs.Ytnkcldophdbehaa.fnLinkBoth
open Go.RowKit

set_option maxRecDepth 100000 in
set_option maxHeartbeats 2000000 in
theorem walk (A : Option Addr) (cp : Nat) (bs : List Int) (w : World) (hr : RdB w w.heap.size A bs) (hl : bs.length ≤ 9223372036854775807 ∧ bs.length ≤ cp) :
    Calls Try.prog 6 #[.slice A bs.length cp] w fun e w' => e = .returned (.bool true) ∧ Below w.heap.size w w' := by
  obtain ⟨hl, hcp⟩ := hl
  by_cases h20 : bs.length ≤ 1048576
  · go_enter Try.func6, Try.ntmps6
    go_wp2_with fail
    refine (drawGraphLink_any A cp bs _ hr hl hcp).mono ?_
    rintro e w1 ⟨nd, A2, cp2, ls, x, y, rfl, hg⟩
    have S := LS.of_drawn (nd := nd) hg
    have hlen := S.len
    clear hr hg
    go_wp2_with fail
    refine (gLink_any nd A2 cp2 ls x y _ (by omega) S.rd).mono ?_
    rintro e w2 ⟨rfl, hb2⟩
    have S2 := S.on hb2
    have c0 := S2.c0
    have c1 := S2.c1
    clear S hb2
    go_wp2_with fail
    refine (sgLink_any nd A2 cp2 ls x y _ (by omega) S2.rd).mono ?_
    rintro e w3 ⟨rfl, hb3⟩
    have S3 := S2.on hb3
    clear S2 hb3 c0 c1
    have c0 := S3.c0
    have c1 := S3.c1
    have gr := gix_range nd ls x y
    by_cases hneg : gix nd ls x y < 0
    · go_wp2_with fail
      refine (gLink_comm nd A2 cp2 ls y x _ (by omega) S3.rd).mono ?_
      rintro e w4 ⟨rfl, hb4⟩
      go_wp2_with fail
      go_ret
      exact ⟨rfl, (S3.on hb4).bl⟩
    · have hv := gix_valid (by omega : 0 ≤ gix nd ls x y)
      have hh := lkIx_hit (ls := ls) (a := x) (b := y) (by rw [← gix_yes hv]; omega)
      rw [← gix_yes hv] at hh
      obtain ⟨hk, hh⟩ := hh
      have ho := hv.ok hk
      unfold LkOk at ho
      unfold Hit at hh
      generalize hz : gix nd ls x y = z at *
      obtain ⟨n, rfl⟩ := Int.eq_ofNat_of_zero_le (by omega : 0 ≤ z)
      have HZ := Lib.hid hz
      clear hz
      simp only [Int.toNat_natCast] at hk hh ho
      go_wp2_with fail
      have := (gLink_comm nd A2 cp2 ls y x _ (by omega) S3.rd)
      rw [HZ.out] at this
      refine this.mono ?_
      rintro e w4 ⟨rfl, hb4⟩
      have S4 := S3.on hb4
      clear S3 hb4 c0 c1 this
      have c0 := S4.c0
      have c1 := S4.c1
      obtain ⟨g, o, hA, hg, hc⟩ := S4.rd (by omega)
      obtain rfl := hA
      obtain ⟨d1, d2, d3⟩ := hc n hk
      clear hc
      have q0 : (0 : Int) ≤ (n : Int) := by omega
      by_cases hxy : x < y
      · have t1 : (La ls n == x) = true := by rw [beq_iff_eq]; omega
        have t2 : (Lb ls n == y) = true := by rw [beq_iff_eq]; omega
        have B4 := S4.bl
        clear hh ho S4
        go_wp2_with fail
        go_ret
        exact ⟨rfl, B4⟩
      · have hyx : y < x := by omega
        have t1 : (La ls n == y) = true := by rw [beq_iff_eq]; omega
        have t2 : (Lb ls n == x) = true := by rw [beq_iff_eq]; omega
        have B4 := S4.bl
        clear hh ho S4
        go_wp2_with fail
        go_ret
        exact ⟨rfl, B4⟩
  · go_enter Try.func6, Try.ntmps6
    go_wp2_with fail
    go_ret
    exact ⟨rfl, Below.refl _ _⟩

end Go.Proofs.Ytnkcldophdbehaa.fnLinkBoth
