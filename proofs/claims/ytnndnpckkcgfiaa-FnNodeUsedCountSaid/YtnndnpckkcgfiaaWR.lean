/-
  The walks of keep and its two closures, of GraphWithout and GraphIsolate of the program.
-/
import Derived.Test.YtnndnpckkcgfiaaWQ
namespace Go.Proofs.Ytnndnpckkcgfiaa
open Go.RowKit
set_option maxRecDepth 100000

set_option maxRecDepth 100000 in
set_option maxHeartbeats 2000000 in
theorem keep_any (nd : Int) (A : Option Addr) (cp : Nat) (ls : List Lk) (f b : Nat) (p : Nat → Bool) (w : World) (hlen : ls.length ≤ 14) (hr : RdL w w.heap.size A ls)
    (hcf : ∀ (args : Array Value) (w : World), (callFunc f args).run Try.prog w = .ok (.enter f args) w)
    (hcl : ∀ (k : Nat) (wr : World), k < ls.length → Below w.heap.size w wr → Calls Try.prog f #[.int .i64 k, .agg #[.int .i64 (La ls k), .int .i64 (Lb ls k), .int .i64 (Lc ls k)], .pointer (some ⟨b, 0, none⟩)] wr fun e w' => e = .returned (.bool (p k)) ∧ Below wr.heap.size wr w') :
    Calls Try.prog 57 #[.agg #[.int .i64 nd, .slice A ls.length cp], .func (.func f) #[] #[.pointer (some ⟨b, 0, none⟩)]] w (RG1 nd (keepTo ls p ls.length) w) := by
  have HCL := Lib.hid hcl; clear hcl
  go_enter Try.func57, Try.ntmps57
  go_wp2_with fail
  go_loopw [14] (fun i wr => ∃ (k : Nat) (B : Option Addr) (cq : Nat), k ≤ ls.length ∧ i = .int .i64 k ∧ KS w wr (w.heap.size + 1) (w.heap.size + 1 + 1) nd B cq (keepTo ls p k)) (fun i _ => ls.length - (intOf i).toNat)
  case atStart => exact ⟨0, none, 0, Nat.zero_le _, rfl, KS.start3 _ _ _⟩
  case round =>
    obtain ⟨k, B, cq, hk, rfl, S⟩ := hrel
    have hs := S.bl.size
    by_cases hlt : k < ls.length
    · obtain ⟨ad, o, hA, hbk, hc⟩ := hr (by omega)
      obtain ⟨c1, c2, c3⟩ := hc k hlt
      obtain rfl := hA
      have c1' := (S.bl.cell (by exact hbk)).trans c1
      have c2' := (S.bl.cell (by exact hbk)).trans c2
      have c3' := (S.bl.cell (by exact hbk)).trans c3
      clear c1 c2 c3 hc
      have hcall := HCL.out k (wr.alloc (.cells #[.int .i64 (La ls k), .int .i64 (Lb ls k), .int .i64 (Lc ls k)] 52)) hlt (bthen S.bl (bnew _ _))
      have S1 := S.keep (bnew wr (.cells #[.int .i64 (La ls k), .int .i64 (Lb ls k), .int .i64 (Lc ls k)] 52))
      cases hp : p k
      · rw [hp] at hcall
        have HE : Hid (keepTo ls p (k + 1) = keepTo ls p k) := keepTo_no hp
        have HK := Lib.hid hcall
        clear hp hcall
        go_wp2_with fail
        refine HK.out.mono ?_
        rintro e w5 ⟨rfl, hb5⟩
        have S5 := S1.keep hb5
        clear hb5 S1 S
        go_wp2_with fail
        go_roundw
        case rel => exact ⟨k + 1, B, cq, by omega, by go_num, by rw [HE.out]; exact S5⟩
        case measure => simp [intOf]; omega
      · rw [hp] at hcall
        have HE : Hid (keepTo ls p (k + 1) = keepTo ls p k ++ [lkAt ls k]) := keepTo_yes hp
        have HK := Lib.hid hcall
        clear hp hcall
        go_wp2_with fail
        refine HK.out.mono ?_
        rintro e w5 ⟨rfl, hb5⟩
        have S5 := S1.keep hb5
        have d1 : w5.cell? ⟨wr.heap.size, 0, none⟩ = some (.int .i64 (La ls k)) := ckeep (by go_simp) hb5
        have d2 : w5.cell? ⟨wr.heap.size, 1, none⟩ = some (.int .i64 (Lb ls k)) := ckeep (by go_simp) hb5
        have d3 : w5.cell? ⟨wr.heap.size, 2, none⟩ = some (.int .i64 (Lc ls k)) := ckeep (by go_simp) hb5
        have hw5 := hb5.size
        clear hb5 S1 S
        have m1 : w5.cell? ⟨w.heap.size + 1 + 1, 1, none⟩ = some (.slice B (keepTo ls p k).length cq) := S5.g.cellAt 1
        have lG := S5.g.lt
        have hkl := keepTo_le ls p k
        have hfar := Ne.symm (own_ne S5.own S5.g (by decide))
        have D7 : Hid (∀ o, (w5.alloc o).cell? ⟨w.heap.size + 1 + 1, 1, none⟩ = some (.slice B (keepTo ls p k).length cq)) := fun o => ckeep m1 (bnew _ _)
        have E7 : Hid (∀ o, (w5.alloc o).frozen? ⟨w.heap.size + 1 + 1, 1, none⟩ = false) := fun o => fkeep (S5.g.frozenAt 1) lG (bnew _ _)
        obtain ⟨i0, hi, hz0, hz1, hz2⟩ := info_parts Try.infoLk
        have s5 := S5.bl.size
        go_wp2_with (at_builtin; refine wpList_append_lies _ rfl _ _ _ rfl w.heap.size 52 i0 _ 3 24 Try.underlying23 hi hz0 hz1 hz2 rfl (by omega) _ (keepTo ls p k).length (cellsL (keepTo ls p k)) rfl (World.ownsRow.alloc S5.own _) ⟨w5.heap.size, 0, none⟩ 1 1 _ rfl rfl (World.news_of_block (heap_alloc_new w5 _)) (by simp [Value.oneCell']) (by omega) (by unfold maxLen; omega) (by omega) (by simp; omega) (w5.heap.size + 1) (by simp) ?_; intro g cap w8 hown hgrow hat hlt8; have f8 : w8.frozen? ⟨w.heap.size + 1 + 1, 1, none⟩ = false := (hgrow.frozen_far _ (by simp; omega) hfar).trans (E7.out _); have c8 : w8.cell? ⟨w.heap.size + 1 + 1, 1, none⟩ = some (.slice B (keepTo ls p k).length cq) := (hgrow.cell_far _ (by simp; omega) hfar).trans (D7.out _); have TT := KS.push (S5.keep (bnew _ _)) hown hgrow; clear hown hgrow hat hlt8)
        go_roundw
        case rel => exact ⟨k + 1, _, _, by omega, by go_num, by rw [HE.out]; exact TT⟩
        case measure => simp [intOf]; omega
    · have HX : Hid (k = ls.length) := by show k = ls.length; omega
      have k1 : wr.cell? ⟨w.heap.size + 1 + 1, 0, none⟩ = some (.int .i64 nd) := S.g.cellAt 0
      have k2 : wr.cell? ⟨w.heap.size + 1 + 1, 1, none⟩ = some (.slice B (keepTo ls p k).length cq) := S.g.cellAt 1
      have k3 : wr.cell? ⟨w.heap.size + 1, 0, none⟩ = some (.int .i64 0) := S.h.cellAt 0
      have k4 : wr.cell? ⟨w.heap.size + 1, 1, none⟩ = some (.slice none 0 0) := S.h.cellAt 1
      have f3 := S.h.frozenAt 0
      have f4 := S.h.frozenAt 1
      go_wp2_with fail
      refine bodyPost_ret (v := .agg #[.int .i64 nd, .slice B (keepTo ls p k).length cq]) (by simp [results, Try.results57, go_sem, k3, k4]) rfl ?_
      have hd := S.done (.int .i64 nd) (.slice B (keepTo ls p k).length cq)
      rw [HX.out] at hd ⊢
      exact ⟨⟨B, cq, rfl, hd.1⟩, hd.2⟩

set_option maxRecDepth 100000 in
set_option maxHeartbeats 1000000 in
theorem cloW_any (k m x y z : Int) (b : Nat) (w : World) (hb : w.cell? ⟨b, 0, none⟩ = some (.int .i64 m)) (h1 : b < w.heap.size) :
    Calls Try.prog 77 #[.int .i64 k, .agg #[.int .i64 x, .int .i64 y, .int .i64 z], .pointer (some ⟨b, 0, none⟩)] w fun e w' => e = .returned (.bool (k != m)) ∧ Below w.heap.size w w' := by
  go_enter Try.func77, Try.ntmps77
  go_wp2_with fail
  go_ret
  exact ⟨rfl, bnew _ _⟩

set_option maxRecDepth 100000 in
set_option maxHeartbeats 1000000 in
theorem cloI_any (k m x y z : Int) (b : Nat) (w : World) (hb : w.cell? ⟨b, 0, none⟩ = some (.int .i64 m)) (h1 : b < w.heap.size) :
    Calls Try.prog 58 #[.int .i64 k, .agg #[.int .i64 x, .int .i64 y, .int .i64 z], .pointer (some ⟨b, 0, none⟩)] w fun e w' => e = .returned (.bool (decide (x ≠ m ∧ y ≠ m))) ∧ Below w.heap.size w w' := by
  go_enter Try.func58, Try.ntmps58
  go_wp2_with fail
  all_goals go_ret
  all_goals exact ⟨ret_bool (by rw [Bool.eq_iff_iff]; simp; try grind), bnew _ _⟩

end Go.Proofs.Ytnndnpckkcgfiaa
