/-
  The walk of the draw of a graph: a slice of at most fourteen links that the call itself has made.
-/
import Derived.Test.YtnndnpckkcgfiaaWJ
import Derived.Deep.RegionHeld3
import Derived.Deep.DrawnRows
import Derived.Deep.RegionLaw
namespace Go.Proofs.Ytnndnpckkcgfiaa
open Go.RowKit

/-- a drawn graph -/
def Drawn (R M : Nat) (w : World) (e : Ending) (w' : World) : Prop :=
  ∃ nd A cp ls, e = .returned (.agg #[.int .i64 nd, .slice A ls.length cp]) ∧ OwL w' w.heap.size A cp ls ∧ ls.length ≤ 15 ∧ Rdr w' R M ∧ w.grownBy w' (some R)

theorem own_empty (w : World) (base : Nat) (hb : base ≤ w.heap.size) : OwL (w.alloc (.cells #[] 52)) base (some ⟨w.heap.size, 0, none⟩) 0 [] :=
  World.ownsRow_lit w #[] 0 hb (by unfold maxLen; omega) (by simp)

set_option maxRecDepth 100000 in
set_option maxHeartbeats 4000000 in
theorem l91Graph_any (R M : Nat) (w : World) (h : Rdr w R M) (hM : M ≤ 100000) :
    Calls Try.prog 79 #[.pointer (some ⟨R, 0, none⟩)] w (Drawn R (M + 1000) w) := by
  have hlt := h.lt
  go_enter Try.func79, Try.ntmps79
  go_wp2_with fail
  refine (pick_any R M 7 _ (h.keep (bnew _ _)) (by omega)).mono ?_
  rintro e w1 ⟨x, rfl, hx0, hx1, -, hr1, hg1⟩
  have hx := hx1 (by omega)
  have hw1 := hg1.size
  have S1 : GS w ((w1.alloc (.cells #[] 52)).alloc (.cells #[.int .i64 (2 + x), .slice (some ⟨w1.heap.size, 0, none⟩) 0 0] 25)) R (M + 1) (w1.heap.size + 1) (2 + x) (some ⟨w1.heap.size, 0, none⟩) 0 [] := by
    simp at hw1
    have hB := Blk.new (w1.alloc (.cells #[] 52)) #[.int .i64 (2 + x), .slice (some ⟨w1.heap.size, 0, none⟩) 0 0] 25
    rw [show (w1.alloc (.cells #[] 52)).heap.size = w1.heap.size + 1 from by simp] at hB
    refine ⟨hr1.keep (b2 _ _ _), hB, ?_, (own_empty w1 _ (by omega)).keep (bnew _ _), gtrans (gtrans (gbelow (bnew w _) _) hg1) (gbelow (b2 _ _ _) _), hlt, by omega⟩
    exact ((Blk.new w #[.int .i64 0, .slice none 0 0] 25).grown hg1 (by simp; omega)).keep (b2 _ _ _)
  clear hx1 hg1 hr1
  go_wp2_with fail
  refine (pick_any R (M + 1) 3 _ S1.rd (by omega)).mono ?_
  rintro e w2 ⟨y, rfl, hy0, hy1, -, hr2, hg2⟩
  have S2 := S1.pick hr2 hg2
  clear S1 hr2 hg2
  have k0 : w2.cell? ⟨w1.heap.size + 1, 0, none⟩ = some (.int .i64 (2 + x)) := S2.g.cellAt 0
  have f0 := S2.g.frozenAt 0
  simp at hw1
  go_upto_if 15 with fail
  go_cut [] from 8 to 22 (fun w3 => ∃ nd, 2 ≤ nd ∧ nd ≤ 10 ∧ GS w w3 R (M + 3) (w1.heap.size + 1) nd (some ⟨w1.heap.size, 0, none⟩) 0 [])
  case first =>
    go_wp2_with fail
    · refine (pick_any R (M + 2) 4 _ S2.rd (by omega)).mono ?_
      rintro e w3 ⟨z, rfl, hz0, hz1, -, hr3, hg3⟩
      have hz := hz1 (by omega)
      have S3 := S2.pick hr3 hg3
      have k1 : w3.cell? ⟨w1.heap.size + 1, 0, none⟩ = some (.int .i64 (2 + x)) := S3.g.cellAt 0
      have f1 := S3.g.frozenAt 0
      go_wp2_with fail
      go_meet
      exact ⟨4 + z, by omega, by omega, S3.nodes (4 + z)⟩
    · go_meet
      exact ⟨2 + x, by omega, by omega, S2.more (by omega)⟩
  case rest =>
    obtain ⟨nd, hn1, hn2, S3⟩ := hcut
    clear S2 k0 f0
    generalize w1.heap.size + 1 = G at *
    go_wp2_with fail
    refine (pick_any R (M + 3) 3 _ S3.rd (by omega)).mono ?_
    rintro e w4 ⟨de, rfl, hd0, hd1, -, hr4, hg4⟩
    have hd := hd1 (by omega)
    have S4 := S3.pick hr4 hg4
    clear S3 hr4 hg4 hd1
    go_wp2_with fail
    go_loopw [5] (fun i wr => ∃ (k : Nat) (A : Option Addr) (cp : Nat) (ls : List Lk), k ≤ 10 ∧ k ≤ nd ∧ i = .int .i64 k ∧ ls.length ≤ 14 ∧ GS w wr R (M + 10 + 60 * k) G nd A cp ls) (fun i _ => (20 - intOf i).toNat)
    case atStart => exact ⟨0, _, _, [], by omega, by omega, rfl, by simp, S4.more (by omega)⟩
    case round =>
      obtain ⟨k, A, cp, ls, hk10, hk, rfl, hls, S⟩ := hrel
      have k0 : wr.cell? ⟨G, 0, none⟩ = some (.int .i64 nd) := S.g.cellAt 0
      by_cases hlt' : (k : Int) < nd
      · obtain ⟨wo, hwo⟩ : ∃ wo : World, wo = wr := ⟨_, rfl⟩
        subst hwo
        go_wp2_with fail
        go_loopw [6] (fun i wr => ∃ (j : Nat) (A : Option Addr) (cp : Nat) (ls : List Lk), k + 1 ≤ j ∧ j ≤ nd ∧ i = .int .i64 j ∧ ls.length ≤ 14 ∧ GS w wr R (M + 10 + 60 * k + 5 * j) G nd A cp ls) (fun i _ => (20 - intOf i).toNat)
        case atStart => exact ⟨k + 1, A, cp, ls, by omega, by omega, by go_num, hls, S.more (by omega)⟩
        case round =>
          obtain ⟨j, A1, cp1, ls1, hj1, hj2, rfl, hls1, T⟩ := hrel
          have k1 : wr.cell? ⟨G, 0, none⟩ = some (.int .i64 nd) := T.g.cellAt 0
          have k2 : wr.cell? ⟨G, 1, none⟩ = some (.slice A1 ls1.length cp1) := T.g.cellAt 1
          clear k0 S
          by_cases hjn : (j : Int) < nd
          · go_upto_region 11 with fail
            go_cut [7] from 31 to 87 (fun s7 wx => (∃ b, s7 = .bool b) ∧ wx = wr)
            case first =>
              cases t1 : ((j : Int) == (k : Int) + 1)
              · have t1' : ((j : Int) = (k : Int) + 1) = False := by simpa using t1
                cases t2 : ((k : Int) == 0)
                · have t2' : ¬ k = 0 := by simpa using t2
                  go_wp2_with fail
                  go_meet
                  exact ⟨⟨_, rfl⟩, rfl⟩
                · have t2' : (k == 0) = true := by simpa using t2
                  cases t3 : ((j : Int) == nd - 1)
                  all_goals
                    go_wp2_with fail
                    go_meet
                    exact ⟨⟨_, rfl⟩, rfl⟩
              · go_wp2_with fail
                go_meet
                exact ⟨⟨_, rfl⟩, rfl⟩
            case rest =>
              obtain ⟨⟨near, rfl⟩, rfl⟩ := hcut
              go_upto_region 12 with fail
              go_cut [69] from 31 to 87 (fun s wx => ∃ b : Bool, s = .bool b ∧ (b = true → ls1.length < 14) ∧ GS w wx R (M + 10 + 60 * k + 5 * j + 2) G nd A1 cp1 ls1)
              case first =>
                by_cases h14 : ls1.length < 14
                · cases near
                  · go_wp2_with fail
                    refine (pick_any R (M + 10 + 60 * k + 5 * j) 6 _ T.rd (by omega)).mono ?_
                    rintro e w5 ⟨z, rfl, hz0, hz1, -, hr5, hg5⟩
                    have T5 := T.pick hr5 hg5
                    go_wp2_with fail
                    go_meet
                    exact ⟨_, rfl, fun _ => h14, T5.more (by omega)⟩
                  · go_wp2_with fail
                    refine (pick_any R (M + 10 + 60 * k + 5 * j) 8 _ T.rd (by omega)).mono ?_
                    rintro e w5 ⟨z, rfl, hz0, hz1, -, hr5, hg5⟩
                    have T5 := T.pick hr5 hg5
                    by_cases hz : 0 < z
                    · go_wp2_with fail
                      go_meet
                      exact ⟨_, rfl, fun _ => h14, T5.more (by omega)⟩
                    · go_wp2_with fail
                      refine (pick_any R (M + 10 + 60 * k + 5 * j + 1) 6 _ T5.rd (by omega)).mono ?_
                      rintro e w6 ⟨z', rfl, hz0', hz1', -, hr6, hg6⟩
                      have T6 := T5.pick hr6 hg6
                      go_wp2_with fail
                      go_meet
                      exact ⟨_, rfl, fun _ => h14, T6⟩
                · go_wp2_with fail
                  go_meet
                  exact ⟨_, rfl, (fun h => by cases h), T.more (by omega)⟩
              case rest =>
                obtain ⟨b, rfl, hb14, T2⟩ := hcut
                clear T k1 k2
                cases b
                · go_wp2_with fail
                  go_roundw
                  case rel => exact ⟨j + 1, A1, cp1, ls1, by omega, by omega, by go_num, hls1, T2.more (by omega)⟩
                  case measure => simp [intOf]; omega
                · have hl14 := hb14 rfl
                  clear hb14
                  obtain ⟨i0, hi, hz0, hz1, hz2⟩ := info_parts Try.infoLk
                  have k2 : wc.cell? ⟨G, 1, none⟩ = some (.slice A1 ls1.length cp1) := T2.g.cellAt 1
                  have T3 : GS w wc.drew R (M + 10 + 60 * k + 5 * j + 2) G nd A1 cp1 ls1 := T2.keep (Below.refl _ _).drew
                  go_wp2_with fail
                  go_region_law (first
                      | (go_simp; go_at_call_of 80 (Value.int IntKind.i64 3); refine (pick_any R _ 3 _ T3.rd (by omega)).mono ?_; rintro e w5 ⟨z5, rfl, a5, b5, -, r5, g5⟩; have T5 := T3.pick r5 g5; have c5 : w5.cell? ⟨G, 1, none⟩ = some (.slice A1 ls1.length cp1) := T5.g.cellAt 1; have b5' := b5 (by omega); clear b5)
                      | (go_simp; go_at_call_of 80 (Value.int IntKind.i64 4); refine (pick_any R _ 4 _ T5.rd (by omega)).mono ?_; rintro e w6 ⟨z6, rfl, a6, b6, -, r6, g6⟩; have T6 := T5.pick r6 g6; have c6 : w6.cell? ⟨G, 1, none⟩ = some (.slice A1 ls1.length cp1) := T6.g.cellAt 1; have b6' := b6 (by omega); clear b6)
                      | (go_simp; go_at_call_of 80 (Value.int IntKind.i64 8); refine (pick_any R _ 8 _ T6.rd (by omega)).mono ?_; rintro e w7 ⟨z7, rfl, a7, b7, -, r7, g7⟩; have T7 := T6.pick r7 g7; have c7 : w7.cell? ⟨G, 1, none⟩ = some (.slice A1 ls1.length cp1) := T7.g.cellAt 1; have b7' := b7 (by omega); have l7 := T7.g.lt; have s7 := T7.gr.size; have hfar := Ne.symm (own_ne T7.own T7.g (by decide)); have d7 : ∀ o, (w7.alloc o).cell? ⟨G, 1, none⟩ = some (.slice A1 ls1.length cp1) := fun o => ckeep c7 (bnew _ _); have e7 : ∀ o, (w7.alloc o).frozen? ⟨G, 1, none⟩ = false := fun o => fkeep (T7.g.frozenAt 1) l7 (bnew _ _); clear b7)
                      | (refine step_append_lies _ (by rfl) _ _ _ (by rfl) w.heap.size 52 i0 _ 3 24 Try.underlying23 hi hz0 hz1 hz2 rfl (by omega) _ ls1.length (cellsL ls1) (by rfl) (World.ownsRow.alloc T7.own _) ⟨w7.heap.size, 0, none⟩ 1 1 _ (by rfl) (by rfl) (World.news_of_block (heap_alloc_new w7 _)) (by simp [Value.oneCell']) (by omega) (by unfold maxLen; omega) (by omega) (by simp; omega) (w7.heap.size + 1) (by simp) ?_; intro g cap w8 hown hgrow hat hlt8; have f8 : w8.frozen? ⟨G, 1, none⟩ = false := (hgrow.frozen_far _ (by simp; omega) hfar).trans (e7 _); have c8 : w8.cell? ⟨G, 1, none⟩ = some (.slice A1 ls1.length cp1) := (hgrow.cell_far _ (by simp; omega) hfar).trans (d7 _); have TT := GS.push (T7.keep (bnew _ _)) hown hgrow; clear hown hgrow hat hlt8 T7 d7 e7 l7 s7 hfar))
                  all_goals
                    go_wp2_with fail
                    go_roundw
                    case rel => exact ⟨j + 1, _, _, _, by omega, by omega, by go_num, by simp; omega, TT.more (by omega)⟩
                    case measure => simp [intOf]; omega
          · go_wp2_with fail
            go_roundw
            case rel => exact ⟨k + 1, A1, cp1, ls1, by omega, by omega, by go_num, hls1, T.more (by omega)⟩
            case measure => simp [intOf]; omega
      · clear S4
        go_wp2_with fail
        refine (pick_any R (M + 10 + 60 * k) 24 _ S.rd (by omega)).mono ?_
        rintro e w5 ⟨z, rfl, hz0, hz1, -, hr5, hg5⟩
        have S5 := S.pick hr5 hg5
        have k1 : w5.cell? ⟨G, 0, none⟩ = some (.int .i64 nd) := S5.g.cellAt 0
        have k2 : w5.cell? ⟨G, 1, none⟩ = some (.slice A ls.length cp) := S5.g.cellAt 1
        have k3 : w5.cell? ⟨w.heap.size, 0, none⟩ = some (.int .i64 0) := S5.h.cellAt 0
        have k4 : w5.cell? ⟨w.heap.size, 1, none⟩ = some (.slice none 0 0) := S5.h.cellAt 1
        have f1 := S5.g.frozenAt 0
        have f2 := S5.g.frozenAt 1
        have f3 := S5.h.frozenAt 0
        have f4 := S5.h.frozenAt 1
        have hne := S5.hg
        have hl1 := S5.g.lt
        have hl2 := S5.h.lt
        clear k0 S
        by_cases hz : z = 0
        · have hzb : (z == 0) = true := by simpa using hz
          clear hz
          go_wp2_with fail
          refine bodyPost_ret (v := .agg #[.int .i64 1, .slice (some ⟨w5.heap.size, 0, none⟩) 0 0]) (by simp [results, Try.results79, go_sem, k3, k4, hl2]) rfl ?_
          have hX := own_empty ((((w5.setCell ⟨G, 0, none⟩ (.int .i64 1)).setCell ⟨G, 1, none⟩ (.slice (some ⟨w5.heap.size, 0, none⟩) 0 0)).setCell ⟨w.heap.size, 0, none⟩ (.int .i64 1)).setCell ⟨w.heap.size, 1, none⟩ (.slice (some ⟨w5.heap.size, 0, none⟩) 0 0)) w.heap.size (by simp; omega)
          have hK := (((((S5.kept.st (p := ⟨G, 0, none⟩) (by simp; omega) (by simp; omega) (.int .i64 1)).st (p := ⟨G, 1, none⟩) (by simp; omega) (by simp; omega) (.slice (some ⟨w5.heap.size, 0, none⟩) 0 0)).st (p := ⟨w.heap.size, 0, none⟩) (Nat.le_refl _) hlt (.int .i64 1)).st (p := ⟨w.heap.size, 1, none⟩) (Nat.le_refl _) hlt (.slice (some ⟨w5.heap.size, 0, none⟩) 0 0)).keep (bnew _ (.cells #[] 52)))
          have e5 : ((((w5.setCell ⟨G, 0, none⟩ (.int .i64 1)).setCell ⟨G, 1, none⟩ (.slice (some ⟨w5.heap.size, 0, none⟩) 0 0)).setCell ⟨w.heap.size, 0, none⟩ (.int .i64 1)).setCell ⟨w.heap.size, 1, none⟩ (.slice (some ⟨w5.heap.size, 0, none⟩) 0 0)).heap.size = w5.heap.size := by simp [World.setCell]
          rw [e5] at hX
          exact ⟨1, _, 0, [], rfl, hX, by simp, hK.1.more (by omega), hK.2⟩
        · have hzb : (z == 0) = false := by simpa using hz
          clear hz
          go_wp2_with fail
          refine bodyPost_ret (v := .agg #[.int .i64 nd, .slice A ls.length cp]) (by simp [results, Try.results79, go_sem, k3, k4]) rfl ?_
          have hK := ((S5.kept.st (p := ⟨w.heap.size, 0, none⟩) (Nat.le_refl _) hlt (.int .i64 nd)).st (p := ⟨w.heap.size, 1, none⟩) (Nat.le_refl _) hlt (.slice A ls.length cp))
          have hO := own_st (own_st S5.own S5.h (by decide) 0 (.int .i64 nd)) (S5.h.stored 0 (.int .i64 nd)) (by decide) 1 (.slice A ls.length cp)
          exact ⟨nd, A, cp, ls, rfl, hO, by omega, hK.1.more (by omega), hK.2⟩

end Go.Proofs.Ytnndnpckkcgfiaa
