/-
  The walk of the law FnPathRest: the rest of a shortest path is a shortest path.
-/
import Derived.Test.YtnndnpckkcgfiaaFD
import Derived.Test.YtnndnpckkcgfiaaWO
import Derived.Test.YtnndnpckkcgfiaaDK
import Derived.Deep.RegionHeld3
namespace Go.Proofs.Ytnndnpckkcgfiaa.fnPathRest
open Go.RowKit

theorem own_capI {w : World} {base : Nat} {A : Option Addr} {cp : Nat} {xs : List Int} (h : OwI w base A cp xs) : xs.length ≤ cp := by
  rcases h.2 with ⟨hv, h0⟩ | ⟨g, cap, cur, hv, _, _, hn, _⟩
  · omega
  · simp only [Value.slice.injEq] at hv
    obtain ⟨_, _, rfl⟩ := hv
    exact hn

set_option maxRecDepth 100000 in
set_option maxHeartbeats 4000000 in
theorem walk (A : Option Addr) (cp : Nat) (bs : List Int) (A1 : Option Addr) (cp1 : Nat) (bs1 : List Int) (w : World) (hr : RdB w w.heap.size A bs) (hl : bs.length ≤ 9223372036854775807 ∧ bs.length ≤ cp) (_ : RdB w w.heap.size A1 bs1) (hl1 : bs1.length ≤ 9223372036854775807 ∧ bs1.length ≤ cp1) :
    Calls Try.prog 5 #[.slice A bs.length cp, .slice A1 bs1.length cp1] w fun e w' => e = .returned (.bool true) ∧ Below w.heap.size w w' := by
  obtain ⟨hl, hcp⟩ := hl
  obtain ⟨hl1, -⟩ := hl1
  by_cases h20 : bs.length ≤ 1048576
  · by_cases m20 : bs1.length ≤ 1048576
    · go_enter Try.func5, Try.ntmps5
      go_wp2_with fail
      refine (drawShortestPath_any A cp bs _ hr hl hcp).mono ?_
      rintro e w1 ⟨nd, A2, cp2, ls, x, y, rfl, hg⟩
      have S := LS.of_drawn (nd := nd) hg
      have hlen := S.len
      have hdl : (pathO nd ls x y).length ≤ 4481 := pathO_len _ _ _ _
      clear hr hg
      go_wp2_with fail
      refine (gPath_any nd A2 cp2 ls x y _ (by omega) S.rd).mono ?_
      rintro e w2 ⟨⟨B, cb, rfl, ho2⟩, hb2⟩
      have hcb := own_capI ho2
      have S2 := S.on hb2
      have r2 := ho2.rd
      have c0 := S2.c0
      have c1 := S2.c1
      clear S hb2 ho2
      go_wp2_with fail
      refine (sgPath_any nd A2 cp2 ls x y _ (by omega) S2.rd).mono ?_
      rintro e w3 ⟨⟨C, cc, rfl, ho3⟩, hb3⟩
      have S3 := S2.on hb3
      have r3 := r2.on hb3
      have q3 := ho3.rd
      clear S2 hb3 c0 c1 ho3 r2
      have c0 := S3.c0
      have c1 := S3.c1
      go_wp2_with fail
      refine (sameI_yes B C cb cc _ _ (by omega) r3 q3).mono ?_
      rintro e w4 ⟨rfl, hb4⟩
      have S4 := S3.on hb4
      have r4 := r3.on hb4
      have q4 := q3.on hb4
      clear S3 hb4 c0 c1 r3 q3
      have c0 := S4.c0
      have c1 := S4.c1
      by_cases h : (Valid nd ls ∧ Nd nd x ∧ Nd nd y) ∧ 0 ≤ D nd ls y x
      · obtain ⟨⟨hv, hx, hy⟩, hd⟩ := h
        rw [pathO_yes ⟨hv, hx, hy⟩, pathP_yes hd] at r4 q4 hdl hcb ⊢
        have hpos := path_pos hv hx hy hd
        have ne0 : (((path nd ls x y).length : Int) == 0) = false := by rw [beq_eq_false_iff_ne]; omega
        have hrest := path_at hv hx hy hd
        have HP : Hid (∀ r, r < (path nd ls x y).length → ∀ wx, RdL wx wx.heap.size A2 ls → Calls Try.prog 26 #[.agg #[.int .i64 nd, .slice A2 ls.length cp2], .int .i64 (Ix (path nd ls x y) r), .int .i64 y] wx (RI ((path nd ls x y).drop r) wx)) := fun r hr wx hrd => by
          have hP := hrest r hr
          have := gPath_any nd A2 cp2 ls (Ix (path nd ls x y) r) y wx (by omega) hrd
          rwa [pathO_yes ⟨hv, hP.nd', hy⟩, pathP_yes hP.far, hP.rest] at this
        clear q4 hd hrest
        generalize path nd ls x y = R at *
        generalize w1.heap.size = G at *
        obtain ⟨r, hr1, hr2⟩ : ∃ r : Nat, (bs1.length : Int) % (R.length : Int) = (r : Int) ∧ r < R.length := ⟨bs1.length % R.length, by omega, Nat.mod_lt _ hpos⟩
        have HR := Lib.hid hr1
        clear hr1
        go_upto_region 9 with fail
        rw [HR.out]
        obtain ⟨bg, bo, hB, hbg, hcb'⟩ := r4 (by omega)
        obtain rfl := hB
        have m1 := hcb' r hr2
        have RD : RdI w4 w4.heap.size (some ⟨bg, bo + r, none⟩) (R.drop r) := fun _ => ⟨bg, bo + r, rfl, hbg, fun j hj => by
          rw [List.length_drop] at hj
          have := hcb' (r + j) (by omega)
          rw [Ix_drop', Nat.add_assoc]
          exact this⟩
        have HPr := Lib.hid (HP.out r hr2)
        have hlenD : (R.drop r).length = R.length - r := List.length_drop
        clear hcb'
        generalize Ix R r = a at *
        have i0 : (0 : Int) ≤ (r : Int) := by omega
        have i1 : (r : Int) < (R.length : Int) := by omega
        have i2 : (r : Int) ≤ (R.length : Int) := by omega
        have BX : Below w4.heap.size w4 w4.drew := (Below.refl _ _).drew
        go_region_held3 (fun w' => w'.cell? ⟨G, 0, none⟩ = some (.int .i64 nd) ∧ w'.cell? ⟨G, 1, none⟩ = some (.slice A2 ls.length cp2) ∧ w'.cell? ⟨bg, bo + r, none⟩ = some (.int .i64 a)) (go_keep)
          (first
            | (go_at_call 26; refine (HPr.out _ (S4.on BX).rd).mono ?_; rintro e w6 ⟨⟨E, ce, rfl, oE⟩, hb6⟩; have BX := bthen BX hb6; have e0 := ckeep c0 BX; have e1 := ckeep c1 BX; have e2 := ckeep m1 BX)
            | (go_at_call 28; rw [← hlenD]; refine (sameI_yes E _ ce _ (R.drop r) _ (by omega) oE.rd (RD.on BX)).mono ?_; rintro e w7 ⟨rfl, hb7⟩; have BX := bthen BX hb7; have e0 := ckeep c0 BX; have e1 := ckeep c1 BX; have e2 := ckeep m1 BX))
        all_goals
          go_wp2_with fail
          go_ret
          exact ⟨rfl, bthen S4.bl BX⟩
      · have e0 : pathO nd ls x y = [] := by
          by_cases h' : Valid nd ls ∧ Nd nd x ∧ Nd nd y
          · rw [pathO_yes h']; exact pathP_no (fun hd => h ⟨h', hd⟩)
          · exact pathO_no h'
        rw [e0] at r4 q4 hdl ⊢
        clear e0
        go_wp2_with fail
        refine (sameI_yes B C cb cc _ _ (by omega) r4 q4).mono ?_
        rintro e w5 ⟨rfl, hb5⟩
        go_wp2_with fail
        go_ret
        exact ⟨rfl, (S4.on hb5).bl⟩
    · have m20' : (1048576 : Int) < (bs1.length : Int) := by omega
      go_enter Try.func5, Try.ntmps5
      go_wp2_with fail
      go_ret
      exact ⟨rfl, Below.refl _ _⟩
  · have h20' : (1048576 : Int) < (bs.length : Int) := by omega
    go_enter Try.func5, Try.ntmps5
    go_wp2_with fail
    go_ret
    exact ⟨rfl, Below.refl _ _⟩

end Go.Proofs.Ytnndnpckkcgfiaa.fnPathRest
