/-
  The walk of the law FnLinkUsedEnds: a link is used between its ends if no detour is shorter.
-/
import Derived.Test.YtkaoincakfhmmaaDG
import Derived.Test.YtkaoincakfhmmaaWO
import Derived.Test.YtkaoincakfhmmaaEB
import Derived.Test.YtkaoincakfhmmaaEC
import Derived.Test.YtkaoincakfhmmaaPF
import Derived.Deep.RegionHeld3
namespace Go.Proofs.Ytkaoincakfhmmaa.fnLinkUsedEnds
open Go.RowKit

set_option maxRecDepth 100000 in
set_option maxHeartbeats 4000000 in
theorem walk (A : Option Addr) (cp : Nat) (bs : List Int) (A1 : Option Addr) (cp1 : Nat) (bs1 : List Int) (w : World) (hr : RdB w w.heap.size A bs) (hl : bs.length ≤ 9223372036854775807 ∧ bs.length ≤ cp) (_ : RdB w w.heap.size A1 bs1) (hl1 : bs1.length ≤ 9223372036854775807 ∧ bs1.length ≤ cp1) :
    Calls Try.prog 11 #[.slice A bs.length cp, .slice A1 bs1.length cp1] w fun e w' => e = .returned (.bool true) ∧ Below w.heap.size w w' := by
  obtain ⟨hl, hcp⟩ := hl
  obtain ⟨hl1, -⟩ := hl1
  by_cases h20 : bs.length ≤ 1048576
  · by_cases m20 : bs1.length ≤ 1048576
    · go_enter Try.func11, Try.ntmps11
      go_wp2_with fail
      refine (drawDistances_any A cp bs _ hr hl hcp).mono ?_
      rintro e w1 ⟨nd, A2, cp2, ls, x, rfl, hg⟩
      have S := LS.of_drawn (nd := nd) hg
      have oG := hg.1
      have hlen := S.len
      clear hr hg
      go_wp2_with fail
      refine (gDist_any nd A2 cp2 ls x _ (by omega) S.rd).mono ?_
      rintro e w2 ⟨⟨B, cb, rfl, ho2⟩, hb2⟩
      have S2 := S.on hb2
      have r2 := ho2.rd
      have c0 := S2.c0
      have c1 := S2.c1
      clear S hb2 ho2
      go_wp2_with fail
      refine (sgDist_any nd A2 cp2 ls x _ (by omega) S2.rd).mono ?_
      rintro e w3 ⟨⟨C, cc, rfl, ho3⟩, hb3⟩
      have S3 := S2.on hb3
      have r3 := r2.on hb3
      have q3 := ho3.rd
      clear S2 hb3 c0 c1 ho3 r2
      have c0 := S3.c0
      have c1 := S3.c1
      have hdl : (distO nd ls x).length ≤ 8 := by
        by_cases h : Valid nd ls ∧ Nd nd x
        · exact by rw [distO_yes h, length_dists]; have := h.1.2.1; omega
        · rw [distO_no h]; simp
      go_wp2_with fail
      refine (sameI_yes B C cb cc _ _ (by omega) r3 q3).mono ?_
      rintro e w4 ⟨rfl, hb4⟩
      have S4 := S3.on hb4
      have r4 := r3.on hb4
      have q4 := q3.on hb4
      clear S3 hb4 c0 c1 r3 q3
      have c0 := S4.c0
      have c1 := S4.c1
      by_cases h : Valid nd ls ∧ Nd nd x
      · rw [distO_yes h] at r4 q4 hdl ⊢
        have hn1 := h.1.1
        have hn8 := h.1.2.1
        have hl4 := length_dists nd ls x
        have hd0 : 1 ≤ (dists nd ls x).length := by omega
        have ne0 : (((dists nd ls x).length : Int) == 0) = false := by rw [beq_eq_false_iff_ne]; omega
        by_cases hz : ls.length = 0
        · have ne1 : ((ls.length : Int) == 0) = true := by simp [hz]
          have HL4 := Lib.hid hl4
          clear hz hl4
          go_wp2_with fail
          refine (sameI_yes B C cb cc _ _ (by omega) r4 q4).mono ?_
          rintro e w5 ⟨rfl, hb5⟩
          go_wp2_with fail
          go_ret
          exact ⟨rfl, (S4.on hb5).bl⟩
        have hz1 : (ls.length == 0) = false := by rw [beq_eq_false_iff_ne]; exact hz
        have ne1 : (((ls).length : Int) == 0) = false := by rw [beq_eq_false_iff_ne]; omega
        obtain ⟨k, hr1, hr3, hr2⟩ : ∃ k : Nat, (bs1.length : Int) % (ls.length : Int) = (k : Int) ∧ bs1.length % ls.length = k ∧ k < ls.length := ⟨bs1.length % ls.length, by omega, rfl, Nat.mod_lt _ (by omega)⟩
        have HR := Lib.hid hr1
        have p0 : (0 : Int) ≤ (bs1.length : Int) % (ls.length : Int) := by omega
        have p1 : (bs1.length : Int) % (ls.length : Int) < (ls.length : Int) := by omega
        clear hr1 q4 hl4
        obtain ⟨ga, go, hA, hga, hcells⟩ := S4.rd (by omega)
        obtain rfl := hA
        obtain ⟨m1, m2, m3⟩ := hcells k hr2
        have m1' : w4.cell? ⟨ga, go + bs1.length % ls.length * 3, none⟩ = some (.int .i64 (La ls k)) := by rw [hr3]; exact m1
        have m2' : w4.cell? ⟨ga, go + bs1.length % ls.length * 3 + 1, none⟩ = some (.int .i64 (Lb ls k)) := by rw [hr3]; exact m2
        have m3' : w4.cell? ⟨ga, go + bs1.length % ls.length * 3 + 2, none⟩ = some (.int .i64 (Lc ls k)) := by rw [hr3]; exact m3
        clear hcells r4 hr3
        obtain ⟨ea, eb, -, -, -⟩ := ends_nd h.1 hr2
        have k0 : (0 : Int) ≤ (k : Int) := by omega
        have k1 : (k : Int) < (ls.length : Int) := by omega
        have HU : Hid (∀ wr : World, RdL wr wr.heap.size (some ⟨ga, go, none⟩) ls → Calls Try.prog 28 #[.agg #[.int .i64 nd, .slice (some ⟨ga, go, none⟩) ls.length cp2], .int .i64 (La ls k), .int .i64 (Lb ls k), .int .i64 k] wr fun e w' => e = .returned (.bool (D nd ls (La ls k) (Lb ls k) == Lc ls k)) ∧ Below wr.heap.size wr w') := fun wr hrd => by
          have := gLinkUsed_any nd (some ⟨ga, go, none⟩) cp2 ls (La ls k) (Lb ls k) k wr (by omega) hrd
          rw [luO_yes ⟨h.1, ea, eb, by omega, by omega⟩, Int.toNat_natCast] at this
          rw [show (D nd ls (La ls k) (Lb ls k) == Lc ls k) = usedB nd ls (La ls k) (Lb ls k) k from by rw [Bool.eq_iff_iff, used_ends h.1 hr2]; simp]
          exact this
        have HD : Hid (∀ wr : World, RdL wr wr.heap.size (some ⟨ga, go, none⟩) ls → Calls Try.prog 21 #[.agg #[.int .i64 nd, .slice (some ⟨ga, go, none⟩) ls.length cp2], .int .i64 (La ls k), .int .i64 (Lb ls k)] wr fun e w' => e = .returned (.int .i64 (D nd ls (La ls k) (Lb ls k))) ∧ Below wr.heap.size wr w') := fun wr hrd => distL_any h.1 ea eb _ cp2 wr hrd
        generalize La ls k = a at *
        generalize Lb ls k = b at *
        generalize Lc ls k = c at *
        generalize D nd ls a b = d at *
        go_upto_region 10 with fail
        rw [HR.out]
        clear m1' m2' m3' p0 p1 m1 m2 m3 c0 c1
        have S5 := S4.on (bnew w4 (.cells #[.int .i64 a, .int .i64 b, .int .i64 c] 50))
        have z0 : (w4.alloc (.cells #[.int .i64 a, .int .i64 b, .int .i64 c] 50)).cell? ⟨w4.heap.size, 0, none⟩ = some (.int .i64 a) := (Blk.new w4 #[.int .i64 a, .int .i64 b, .int .i64 c] 50).cellAt 0
        have z1 : (w4.alloc (.cells #[.int .i64 a, .int .i64 b, .int .i64 c] 50)).cell? ⟨w4.heap.size, 1, none⟩ = some (.int .i64 b) := (Blk.new w4 #[.int .i64 a, .int .i64 b, .int .i64 c] 50).cellAt 1
        have z2 : (w4.alloc (.cells #[.int .i64 a, .int .i64 b, .int .i64 c] 50)).cell? ⟨w4.heap.size, 2, none⟩ = some (.int .i64 c) := (Blk.new w4 #[.int .i64 a, .int .i64 b, .int .i64 c] 50).cellAt 2
        clear S4 hga
        generalize w4.alloc (.cells #[.int .i64 a, .int .i64 b, .int .i64 c] 50) = W at *
        generalize w4.heap.size = L at *
        have c0 := S5.c0
        have c1 := S5.c1
        have hBL := S5.bl
        have BD : Below W.heap.size W W.drew := (Below.refl _ _).drew
        have H1 : Hid (∀ wr : World, Below W.heap.size W wr → Calls Try.prog 28 #[.agg #[.int .i64 nd, .slice (some ⟨ga, go, none⟩) ls.length cp2], .int .i64 a, .int .i64 b, .int .i64 k] wr fun e w' => e = .returned (.bool (d == c)) ∧ Below wr.heap.size wr w') := fun wr hb => HU.out wr (S5.on hb).rd
        have H2 : Hid (∀ wr : World, Below W.heap.size W wr → Calls Try.prog 21 #[.agg #[.int .i64 nd, .slice (some ⟨ga, go, none⟩) ls.length cp2], .int .i64 a, .int .i64 b] wr fun e w' => e = .returned (.int .i64 d) ∧ Below wr.heap.size wr w') := fun wr hb => HD.out wr (S5.on hb).rd
        clear HU HD S5
        generalize w1.heap.size = G at *
        cases t : (d == c)
        all_goals
          rw [t] at H1
          go_region_held3 (fun w' => w'.cell? ⟨G, 0, none⟩ = some (.int .i64 nd) ∧ w'.cell? ⟨G, 1, none⟩ = some (.slice (some ⟨ga, go, none⟩) ls.length cp2) ∧ w'.cell? ⟨L, 0, none⟩ = some (.int .i64 a) ∧ w'.cell? ⟨L, 1, none⟩ = some (.int .i64 b) ∧ w'.cell? ⟨L, 2, none⟩ = some (.int .i64 c)) (go_keep)
            (first
              | (go_at_call 28; (with_reducible refine (H1.out _ BD).mono ?_); rintro e w6 ⟨rfl, hb6⟩; have B6 := bthen BD hb6; have x0 := ckeep c0 B6; have x1 := ckeep c1 B6; have x2 := ckeep z0 B6; have x3 := ckeep z1 B6; have x4 := ckeep z2 B6)
              | (go_at_call 21; (with_reducible refine (H2.out _ B6).mono ?_); rintro e w7 ⟨rfl, hb7⟩; have B7 := bthen B6 hb7; have x0 := ckeep c0 B7; have x1 := ckeep c1 B7; have x2 := ckeep z0 B7; have x3 := ckeep z1 B7; have x4 := ckeep z2 B7))
          all_goals
            go_wp2_with fail
            go_ret
            exact ⟨rfl, bthen hBL B7⟩
      · rw [distO_no h] at r4 q4 ⊢
        clear hdl
        go_wp2_with fail
        refine (sameI_yes B C cb cc [] _ (by simp) r4 q4).mono ?_
        rintro e w5 ⟨rfl, hb5⟩
        go_wp2_with fail
        go_ret
        exact ⟨rfl, (S4.on hb5).bl⟩
    · have m20' : (1048576 : Int) < (bs1.length : Int) := by omega
      go_enter Try.func11, Try.ntmps11
      go_wp2_with fail
      go_ret
      exact ⟨rfl, Below.refl _ _⟩
  · have h20' : (1048576 : Int) < (bs.length : Int) := by omega
    go_enter Try.func11, Try.ntmps11
    go_wp2_with fail
    go_ret
    exact ⟨rfl, Below.refl _ _⟩

end Go.Proofs.Ytkaoincakfhmmaa.fnLinkUsedEnds
