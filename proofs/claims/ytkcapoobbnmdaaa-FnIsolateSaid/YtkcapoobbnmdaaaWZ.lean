/-
  The walk of the reference's GraphIsolate at a valid graph and a node of it.
-/
import Derived.Test.YtkcapoobbnmdaaaWY
namespace Go.Proofs.Ytkcapoobbnmdaaa
open Go.RowKit
set_option maxRecDepth 100000

/-- behind an append of one link, and the store of what it gave -/
theorem KS.pushA {w wr w2 : World} {H G : Nat} {nd : Int} {A : Option Addr} {cp : Nat} {ls : List Lk} (h : KS w wr H G nd A cp ls) {A' : Option Addr} {cp' : Nat} {l : Lk}
    (ho : OwL w2 w.heap.size A' cp' (ls ++ [l])) (hgr : wr.grownBy w2 (Value.slice A ls.length cp).ownBlock) :
    KS w (w2.setCell ⟨G, 1, none⟩ (.slice A' (ls ++ [l]).length cp')) H G nd A' cp' (ls ++ [l]) := by
  have h1 := h.lh
  have h2 := h.hg
  have hl := World.ownsRow.lt h.own
  have hG : Blk w2 G 25 [.int .i64 nd, .slice A ls.length cp] := h.g.grown hgr (own_ne h.own h.g (by decide))
  have hH : Blk w2 H 25 [.int .i64 0, .slice none 0 0] := h.h.grown hgr (own_ne h.own h.h (by decide))
  exact ⟨hG.stored 1 _, hH.far (p := ⟨G, 1, none⟩) (by simp; omega) _, own_st ho hG (by decide) 1 _,
    (h.bl.grown hgr (by have := h.bl.size; omega) (fun k hk => (hl k hk).1)).setCell (p := ⟨G, 1, none⟩) (by simp; omega) _, h1, h2⟩

/-- one link in a new block reads as the list of it -/
theorem rd_one (w : World) (l : Lk) : RdL (w.alloc (.cells #[.int .i64 l.a, .int .i64 l.b, .int .i64 l.c] 48)) (w.alloc (.cells #[.int .i64 l.a, .int .i64 l.b, .int .i64 l.c] 48)).heap.size (some ⟨w.heap.size, 0, none⟩) [l] := fun _ => by
  refine ⟨w.heap.size, 0, rfl, by simp, fun k hk => ?_⟩
  have : k = 0 := by simp at hk; omega
  subst this
  exact ⟨by go_simp; simp [La], by go_simp; simp [Lb], by go_simp; simp [Lc]⟩

set_option maxRecDepth 100000 in
set_option maxHeartbeats 4000000 in
theorem sgIsolate_yes {nd : Int} {ls : List Lk} (hv : Valid nd ls) {n : Int} (hn : Nd nd n) (A : Option Addr) (cp : Nat) (w : World) (hr : RdL w w.heap.size A ls) :
    Calls Try.prog 42 #[.agg #[.int .i64 nd, .slice A ls.length cp], .int .i64 n] w (RG nd (lsI ls n) true w) := by
  have h14 : ls.length ≤ 14 := hv.2.2.1
  go_enter Try.func42, Try.ntmps42
  go_wp2_with fail
  refine (sgv_yes hv A cp _ (hr.on (b2 _ _ _))).mono ?_
  rintro e w0 ⟨rfl, hb0⟩
  have k0 : w0.cell? ⟨w.heap.size, 0, none⟩ = some (.int .i64 nd) := ckeep (by go_simp) hb0
  have k1 : w0.cell? ⟨w.heap.size, 1, none⟩ = some (.slice A ls.length cp) := ckeep (by go_simp) hb0
  go_wp2_with fail
  refine (l1Node_yes hv hn A ls.length cp _).mono ?_
  rintro e w1 ⟨rfl, hb1'⟩
  have hb1 := bthen hb0 hb1'
  have H1 : Blk w1 (w.heap.size + 1) 25 [.int .i64 0, .slice none 0 0] := by
    have h := Blk.new (w.alloc (.cells #[.int .i64 nd, .slice A ls.length cp] 25)) #[.int .i64 0, .slice none 0 0] 25
    rw [show (w.alloc (.cells #[.int .i64 nd, .slice A ls.length cp] 25)).heap.size = w.heap.size + 1 from by simp] at h
    exact h.keep hb1
  have H0 : Blk w1 w.heap.size 25 [.int .i64 nd, .slice A ls.length cp] := (Blk.new w #[.int .i64 nd, .slice A ls.length cp] 25).keep (bthen (bnew _ _) hb1)
  have B1 := bthen (b2 w (.cells #[.int .i64 nd, .slice A ls.length cp] 25) (.cells #[.int .i64 0, .slice none 0 0] 25)) hb1
  have z0 := H0.cellAt 0
  have z1 := H0.cellAt 1
  simp only [List.getElem?_cons_zero, List.getElem?_cons_succ] at z0 z1
  have s1 : w.heap.size + 2 ≤ w1.heap.size := by have := hb1.size; simp at this; omega
  clear hb1 hb1' hb0 k0 k1
  go_wp2_with fail
  go_loopw [7] (fun i wr => ∃ (k : Nat) (B : Option Addr) (cq : Nat), k ≤ ls.length ∧ i = .int .i64 k ∧ Blk wr w.heap.size 25 [.int .i64 nd, .slice A ls.length cp] ∧ KS w wr (w.heap.size + 1) (w1.heap.size + 1) nd B cq (keepTo ls (notOf ls n) k)) (fun i _ => ls.length - (intOf i).toNat)
  case atStart =>
    have h2 := Blk.new (w1.alloc (.cells #[] 48)) #[.int .i64 nd, .slice (some ⟨w1.heap.size, 0, none⟩) 0 0] 25
    rw [show (w1.alloc (.cells #[] 48)).heap.size = w1.heap.size + 1 from by simp] at h2
    exact ⟨0, some ⟨w1.heap.size, 0, none⟩, 0, Nat.zero_le _, rfl, H0.keep (b2 _ _ _), ⟨h2, H1.keep (b2 _ _ _), (own_empty' w1 w.heap.size w1.heap.size rfl (by omega)).keep (bnew _ _), bthen B1 (b2 _ _ _), by omega, by omega⟩⟩
  case round =>
    obtain ⟨k, B, cq, hk, rfl, T0, S⟩ := hrel
    have y0 := T0.cellAt 0
    have y1 := T0.cellAt 1
    simp only [List.getElem?_cons_zero, List.getElem?_cons_succ] at y0 y1
    by_cases hlt : k < ls.length
    · obtain ⟨ad, o, hA, hbk, hc⟩ := hr (by omega)
      obtain ⟨c1, c2, c3⟩ := hc k hlt
      obtain rfl := hA
      have c1' := (S.bl.cell (by exact hbk)).trans c1
      have c2' := (S.bl.cell (by exact hbk)).trans c2
      have c3' := (S.bl.cell (by exact hbk)).trans c3
      have hbs := S.bl.size
      have hbk' : ad < wr.heap.size := by omega
      clear c1 c2 c3 hc
      by_cases a1 : La ls k = n
      · have t1 : (La ls k != n) = false := by simp [a1]
        have HE : Hid (keepTo ls (notOf ls n) (k + 1) = keepTo ls (notOf ls n) k) := keepTo_no (by simp [notOf, a1])
        clear a1
        go_wp2_with fail
        go_roundw
        case rel => exact ⟨k + 1, B, cq, by omega, by go_num, T0, by rw [HE.out]; exact S⟩
        case measure => simp [intOf]; omega
      have t1 : (La ls k != n) = true := by simp [a1]
      by_cases a2 : Lb ls k = n
      · have t2 : (Lb ls k != n) = false := by simp [a2]
        have HE : Hid (keepTo ls (notOf ls n) (k + 1) = keepTo ls (notOf ls n) k) := keepTo_no (by simp [notOf, a2])
        clear a1 a2
        go_wp2_with fail
        go_roundw
        case rel => exact ⟨k + 1, B, cq, by omega, by go_num, T0, by rw [HE.out]; exact S⟩
        case measure => simp [intOf]; omega
      have t2 : (Lb ls k != n) = true := by simp [a2]
      have HE : Hid (keepTo ls (notOf ls n) (k + 1) = keepTo ls (notOf ls n) k ++ [lkAt ls k]) := keepTo_yes (by simp [notOf, a1, a2])
      clear a1 a2
      have hbd : Below wr.heap.size wr (wr.drew.alloc (.cells #[.int .i64 (La ls k), .int .i64 (Lb ls k), .int .i64 (Lc ls k)] 48)) := (Below.refl _ _).drew.alloc (Nat.le_refl _) _
      have S5 := S.keep hbd
      have T1 := T0.keep hbd
      have R5 := rd_one wr.drew (lkAt ls k)
      have hkl := keepTo_le ls (notOf ls n) k
      have hll : (keepTo ls (notOf ls n) k).length + [lkAt ls k].length ≤ 1048600 := by simp; omega
      have hbase : w.heap.size ≤ (wr.drew.alloc (.cells #[.int .i64 (La ls k), .int .i64 (Lb ls k), .int .i64 (Lc ls k)] 48)).heap.size := S5.bl.size
      obtain ⟨i0, hi, hz0, hz1, hz2⟩ := info_parts Try.infoLk
      have m1 : wr.cell? ⟨w1.heap.size + 1, 1, none⟩ = some (.slice B (keepTo ls (notOf ls n) k).length cq) := S.g.cellAt 1
      have lG := S.g.lt
      have HB := Lib.hid hbase
      have HL := Lib.hid hll
      clear hbase hll hkl
      go_wp2_with fail
      go_region_law (refine step_app _ (by rfl) (.tmp 48) (.tmp 54) _ (by rfl) i0 Try.underlying23 hi hz0 hz1 hz2 (by rfl) (by rfl) S5.own [lkAt ls k] (by rfl) (by rfl) R5 HL.out HB.out ?_; intro A5 cp5 n5 w5 HN5 O5 G5; have TT := S5.pushA O5 G5; have T5 := T1.grown G5 (own_ne S5.own T1 (by decide)); have V5 := S5.g.grown G5 (own_ne S5.own S5.g (by decide)); have l5 := V5.lt; have m5 : w5.cell? ⟨w1.heap.size + 1, 1, none⟩ = some (.slice B (keepTo ls (notOf ls n) k).length cq) := V5.cellAt 1; have f5 := V5.frozenAt 1)
      all_goals (
        go_wp2_with fail
        go_roundw
        case rel => exact ⟨k + 1, A5, cp5, by omega, by go_num, T5.far (p := ⟨w1.heap.size + 1, 1, none⟩) (by simp; omega) _, by rw [HE.out, HN5.out]; exact TT⟩
        case measure => simp [intOf]; omega)
    · have HX : Hid (k = ls.length) := by show k = ls.length; omega
      have k1 : wr.cell? ⟨w1.heap.size + 1, 0, none⟩ = some (.int .i64 nd) := S.g.cellAt 0
      have k2 : wr.cell? ⟨w1.heap.size + 1, 1, none⟩ = some (.slice B (keepTo ls (notOf ls n) k).length cq) := S.g.cellAt 1
      have k3 : wr.cell? ⟨w.heap.size + 1, 0, none⟩ = some (.int .i64 0) := S.h.cellAt 0
      have k4 : wr.cell? ⟨w.heap.size + 1, 1, none⟩ = some (.slice none 0 0) := S.h.cellAt 1
      have f3 := S.h.frozenAt 0
      have f4 := S.h.frozenAt 1
      go_wp2_with fail
      refine bodyPost_ret (v := .tuple #[.agg #[.int .i64 nd, .slice B (keepTo ls (notOf ls n) k).length cq], .bool true]) (by simp [results, Try.results42, go_sem, k3, k4]) rfl ?_
      have hd := S.done (.int .i64 nd) (.slice B (keepTo ls (notOf ls n) k).length cq)
      unfold lsI
      rw [HX.out] at hd ⊢
      exact ⟨⟨B, cq, rfl, hd.1⟩, hd.2⟩

end Go.Proofs.Ytkcapoobbnmdaaa
