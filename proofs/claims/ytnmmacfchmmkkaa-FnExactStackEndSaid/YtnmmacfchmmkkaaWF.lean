/-
  The walks of the laws' helpers on graphs: szGraph, toGraph, eqGraph.
-/
import Derived.Test.YtnmmacfchmmkkaaWE
import Derived.StillTailTactics
namespace Go.Proofs.Ytnmmacfchmmkkaa
open Go.RowKit

theorem szLinkS_any (A : Option Addr) (n cp : Nat) (left : Int) (w : World) (hn : n ≤ 1048576) (hl : left = 1048576) :
    Calls Try.prog 12 #[.slice A n cp, .int .i64 left] w fun e w' => e = .returned (.int .i64 (1048576 - n)) ∧ w = w' := by
  subst hl
  go_enter Try.func12, Try.ntmps12
  go_wp2
  go_ret
  exact ⟨rfl, rfl⟩
theorem szLinkS_big (A : Option Addr) (n cp : Nat) (left : Int) (w : World) (hn : 1048576 < n) (hm : n ≤ 9223372036854775807) (hl : left = 1048576) :
    Calls Try.prog 12 #[.slice A n cp, .int .i64 left] w fun e w' => e = .returned (.int .i64 (-1)) ∧ w = w' := by
  subst hl
  go_enter Try.func12, Try.ntmps12
  go_wp2
  go_ret
  exact ⟨rfl, rfl⟩
theorem szGraph_any (nd : Int) (A : Option Addr) (n cp : Nat) (left : Int) (w : World) (hn : n ≤ 1048576) (hl : left = 1048576) :
    Calls Try.prog 4 #[.agg #[.int .i64 nd, .slice A n cp], .int .i64 left] w fun e w' => e = .returned (.int .i64 (1048576 - n)) ∧ Below w.heap.size w w' := by
  have HL := Lib.hid hl; clear hl
  go_enter Try.func4, Try.ntmps4
  go_wp2_with (go_at_call 12; refine (szLinkS_any _ _ _ _ _ hn HL.out).mono ?_; rintro e w' ⟨rfl, rfl⟩)
  go_ret
  exact ⟨rfl, bnew _ _⟩
theorem szGraph_big (nd : Int) (A : Option Addr) (n cp : Nat) (left : Int) (w : World) (hn : 1048576 < n) (hm : n ≤ 9223372036854775807) (hl : left = 1048576) :
    Calls Try.prog 4 #[.agg #[.int .i64 nd, .slice A n cp], .int .i64 left] w fun e w' => e = .returned (.int .i64 (-1)) ∧ Below w.heap.size w w' := by
  have HL := Lib.hid hl; clear hl
  go_enter Try.func4, Try.ntmps4
  go_wp2_with (go_at_call 12; refine (szLinkS_big _ _ _ _ _ hn hm HL.out).mono ?_; rintro e w' ⟨rfl, rfl⟩)
  go_ret
  exact ⟨rfl, bnew _ _⟩

set_option maxRecDepth 100000 in
set_option maxHeartbeats 1000000 in
theorem toLink_any (x y z : Int) (w : World) :
    Calls Try.prog 22 #[.agg #[.int .i64 x, .int .i64 y, .int .i64 z]] w fun e w' => e = .returned (.agg #[.int .i64 x, .int .i64 y, .int .i64 z]) ∧ Below w.heap.size w w' := by
  go_enter Try.func22, Try.ntmps22
  go_wp2
  refine bodyPost_ret (v := .agg #[.int .i64 x, .int .i64 y, .int .i64 z]) (by simp [results, Try.results22, go_sem]) rfl ⟨rfl, ?_⟩
  exact b3 _ _ _ _

set_option maxRecDepth 100000 in
set_option maxHeartbeats 1000000 in
theorem eqLink_any (x y z : Int) (w : World) :
    Calls Try.prog 25 #[.agg #[.int .i64 x, .int .i64 y, .int .i64 z], .agg #[.int .i64 x, .int .i64 y, .int .i64 z]] w fun e w' => e = .returned (.bool true) ∧ Below w.heap.size w w' := by
  go_enter Try.func25, Try.ntmps25
  go_wp2
  go_ret
  exact ⟨rfl, b2 _ _ _⟩

set_option maxRecDepth 100000 in
set_option maxHeartbeats 1000000 in
theorem eqLinkS_any (A B : Option Addr) (ca cb : Nat) (ls : List Lk) (w : World) (hlen : ls.length ≤ 9223372036854775806) (hr : RdL w w.heap.size A ls) (hq : RdL w w.heap.size B ls) :
    Calls Try.prog 17 #[.slice A ls.length ca, .slice B ls.length cb] w fun e w' => e = .returned (.bool true) ∧ Below w.heap.size w w' := by
  go_enter Try.func17, Try.ntmps17
  go_wp2_with fail
  go_loopw [5] (fun i wr => ∃ k : Nat, k ≤ ls.length ∧ i = .int .i64 k ∧ Below w.heap.size w wr) (fun i _ => ls.length - (intOf i).toNat)
  case atStart => exact ⟨0, Nat.zero_le _, rfl, Below.refl _ _⟩
  case round =>
    obtain ⟨k, hk, rfl, hb⟩ := hrel
    by_cases hlt : k < ls.length
    · obtain ⟨ad, o, hA, hbk, hc⟩ := hr (by omega)
      obtain ⟨c1, c2, c3⟩ := hc k hlt
      obtain rfl := hA
      have c1' := (hb.cell (by exact hbk)).trans c1
      have c2' := (hb.cell (by exact hbk)).trans c2
      have c3' := (hb.cell (by exact hbk)).trans c3
      clear c1 c2 c3 hc
      obtain ⟨bd, p, hB, hbk', hc⟩ := hq (by omega)
      obtain ⟨c1, c2, c3⟩ := hc k hlt
      obtain rfl := hB
      have d1' := (hb.cell (by exact hbk')).trans c1
      have d2' := (hb.cell (by exact hbk')).trans c2
      have d3' := (hb.cell (by exact hbk')).trans c3
      have hs := hb.size
      clear c1 c2 c3 hc
      have q1 : (0 : Int) ≤ (k : Int) := by omega
      have q2 : (k : Int) < (ls.length : Int) := by omega
      go_wp2_with fail
      go_still_tail 8, (by kernel_rfl)
      change wpList _ _ _ _ _ wr.drew
      go_wp2_with (go_at_call 25; refine (eqLink_any _ _ _ _).mono ?_; rintro e w1 ⟨rfl, hb1⟩)
      go_roundw
      case rel => exact ⟨k + 1, by omega, by go_num, hb.drew.trans (hb1.mono hs)⟩
      case measure => simp [intOf]; omega
    · go_wp2_with fail
      go_ret
      exact ⟨rfl, hb⟩

set_option maxRecDepth 100000 in
set_option maxHeartbeats 1000000 in
theorem eqGraph_any (nd : Int) (A B : Option Addr) (ca cb : Nat) (ls : List Lk) (w : World) (hlen : ls.length ≤ 9223372036854775806) (hr : RdL w w.heap.size A ls) (hq : RdL w w.heap.size B ls) :
    Calls Try.prog 10 #[.agg #[.int .i64 nd, .slice A ls.length ca], .agg #[.int .i64 nd, .slice B ls.length cb]] w fun e w' => e = .returned (.bool true) ∧ Below w.heap.size w w' := by
  go_enter Try.func10, Try.ntmps10
  go_wp2_with fail
  refine (eqLinkS_any A B ca cb ls _ hlen (hr.on (b2 _ _ _)) (hq.on (b2 _ _ _))).mono ?_
  rintro e w1 ⟨rfl, hb1⟩
  go_wp2_with fail
  go_ret
  exact ⟨rfl, bthen (b2 _ _ _) hb1⟩

theorem Try.infoLk : (Try.prog.info? 54).map (fun i => (i.zero, i.size, i.bytes)) = some (some (.agg #[.int .i64 0, .int .i64 0, .int .i64 0]), 3, 24) := by kernel_rfl
theorem Try.infoIn : (Try.prog.info? 3).map (fun i => (i.zero, i.size, i.bytes)) = some (some (.int .i64 0), 1, 8) := by kernel_rfl

set_option maxRecDepth 100000 in
set_option maxHeartbeats 1000000 in
theorem toLinkS_any (A : Option Addr) (cp : Nat) (ls : List Lk) (w : World) (hlen : ls.length ≤ 1048576) (hr : RdL w w.heap.size A ls) :
    Calls Try.prog 14 #[.slice A ls.length cp] w fun e w' => (∃ B cq, e = .returned (.slice B ls.length cq) ∧ OwL w' w.heap.size B cq ls) ∧ Below w.heap.size w w' := by
  obtain ⟨i0, hi, hz0, hz1, hz2⟩ := info_parts Try.infoLk
  have hmk := run_mkL 30 54 i0 Try.underlying30 hi hz0 hz1 hz2 ls.length hlen
  clear hi hz0 hz1 hz2
  go_enter Try.func14, Try.ntmps14
  go_wp2_with fail
  go_loopw [4] (fun i wr => ∃ k : Nat, k ≤ ls.length ∧ i = .int .i64 k ∧ Below w.heap.size w wr ∧ Blk wr w.heap.size 54 (cellsL (partL ls k))) (fun i _ => ls.length - (intOf i).toNat)
  case atStart => exact ⟨0, Nat.zero_le _, rfl, bnew _ _, by rw [partL_zero]; exact Blk.new _ _ _⟩
  case round =>
    obtain ⟨k, hk, rfl, hb, hblk⟩ := hrel
    by_cases hlt : k < ls.length
    · obtain ⟨ad, o, hA, hbk, hc⟩ := hr (by omega)
      obtain ⟨c1, c2, c3⟩ := hc k hlt
      obtain rfl := hA
      have c1' := (hb.cell (by exact hbk)).trans c1
      have c2' := (hb.cell (by exact hbk)).trans c2
      have c3' := (hb.cell (by exact hbk)).trans c3
      have hs := hb.size
      clear c1 c2 c3 hc
      go_wp2_with fail
      refine (toLink_any _ _ _ _).mono ?_
      rintro e w1 ⟨rfl, hb1⟩
      have HB1 := hblk.keep hb1
      have hl3 : (cellsL (partL ls k)).length = ls.length * 3 := by rw [length_cellsL, partL_length _ _ (by omega)]
      have hl0 := Lib.hid hl3; clear hl3
      have e1 : ∃ v, w1.cell? ⟨w.heap.size, k * 3, none⟩ = some v := ⟨_, (HB1.cellAt _).trans (List.getElem?_eq_getElem (by rw [hl0.out]; omega))⟩
      have e2 : ∃ v, w1.cell? ⟨w.heap.size, k * 3 + 1, none⟩ = some v := ⟨_, (HB1.cellAt _).trans (List.getElem?_eq_getElem (by rw [hl0.out]; omega))⟩
      have e3 : ∃ v, w1.cell? ⟨w.heap.size, k * 3 + 2, none⟩ = some v := ⟨_, (HB1.cellAt _).trans (List.getElem?_eq_getElem (by rw [hl0.out]; omega))⟩
      obtain ⟨v1, e1⟩ := e1
      obtain ⟨v2, e2⟩ := e2
      obtain ⟨v3, e3⟩ := e3
      have f1 := HB1.frozenAt (k * 3)
      have f2 := HB1.frozenAt (k * 3 + 1)
      have f3 := HB1.frozenAt (k * 3 + 2)
      go_wp2_with fail
      go_roundw
      case rel => exact ⟨k + 1, by omega, by go_num, (((hb.trans (hb1.mono hs)).setCell (Nat.le_refl _) _).setCell (Nat.le_refl _) _).setCell (Nat.le_refl _) _,
        by rw [partL_succ _ _ hlt, cellsL_set _ _ _ (by rw [partL_length _ _ (by omega)]; exact hlt)]; exact ((HB1.stored _ _).stored _ _).stored _ _⟩
      case measure => simp [intOf]; omega
    · have HK : Hid (k = ls.length) := by show k = ls.length; omega
      go_wp2_with fail
      go_ret
      refine ⟨⟨_, _, rfl, ?_⟩, hb⟩
      rw [HK.out, partL_full] at hblk
      exact hblk.own (length_cellsL _) hlen (Nat.le_refl _)

set_option maxRecDepth 100000 in
set_option maxHeartbeats 1000000 in
theorem toGraph_any (nd : Int) (A : Option Addr) (cp : Nat) (ls : List Lk) (w : World) (hlen : ls.length ≤ 1048576) (hr : RdL w w.heap.size A ls) :
    Calls Try.prog 7 #[.agg #[.int .i64 nd, .slice A ls.length cp]] w fun e w' => (∃ B cq, e = .returned (.agg #[.int .i64 nd, .slice B ls.length cq]) ∧ OwL w' w.heap.size B cq ls) ∧ Below w.heap.size w w' := by
  go_enter Try.func7, Try.ntmps7
  go_wp2_with fail
  refine (toLinkS_any A cp ls _ hlen (hr.on (b3 _ _ _ _))).mono ?_
  rintro e w1 ⟨⟨B, cq, rfl, ho⟩, hb1⟩
  have k1 : w1.cell? ⟨w.heap.size + 1 + 1, 0, none⟩ = some (.int .i64 nd) := ckeep (by go_simp) hb1
  have k2 : w1.cell? ⟨w.heap.size + 1 + 1, 1, none⟩ = some (.slice none 0 0) := ckeep (by go_simp) hb1
  have k3 : w1.cell? ⟨w.heap.size + 1, 0, none⟩ = some (.int .i64 0) := ckeep (by go_simp) hb1
  have k4 : w1.cell? ⟨w.heap.size + 1, 1, none⟩ = some (.slice none 0 0) := ckeep (by go_simp) hb1
  have g1 : w1.frozen? ⟨w.heap.size + 1 + 1, 1, none⟩ = false := fkeep (by go_simp) (by simp) hb1
  have g2 : w1.frozen? ⟨w.heap.size + 1, 0, none⟩ = false := fkeep (by go_simp) (by simp) hb1
  have g3 : w1.frozen? ⟨w.heap.size + 1, 1, none⟩ = false := fkeep (by go_simp) (by simp) hb1
  go_wp2_with fail
  refine bodyPost_ret (v := .agg #[.int .i64 nd, .slice B ls.length cq]) (by simp [results, Try.results7, go_sem, k3, k4]) rfl ⟨⟨B, cq, rfl, ?_⟩, ?_⟩
  · refine ownsRow_base (base := (((w.alloc (.cells #[.int .i64 nd, .slice A ls.length cp] 24)).alloc (.cells #[.int .i64 0, .slice none 0 0] 32)).alloc (.cells #[.int .i64 nd, .slice none 0 0] 32)).heap.size) ?_ (by simp; omega)
    repeat (first | exact ho | refine ownsRow_setCell_below ?_ (by simp <;> omega) _)
  · repeat (first | exact bthen (b3 _ _ _ _) hb1 | refine Below.setCell ?_ (by simp <;> omega) _)
end Go.Proofs.Ytnmmacfchmmkkaa
