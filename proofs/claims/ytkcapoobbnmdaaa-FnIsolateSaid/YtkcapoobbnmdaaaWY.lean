/-
  The walk of the reference's GraphIsolate.
-/
import Derived.Test.YtkcapoobbnmdaaaWX
namespace Go.Proofs.Ytkcapoobbnmdaaa
open Go.RowKit
set_option maxRecDepth 100000

set_option maxRecDepth 100000 in
set_option maxHeartbeats 1000000 in
theorem sgIsolate_bad {nd : Int} {ls : List Lk} {n : Int} (h : ¬ Valid nd ls) (A : Option Addr) (cp : Nat) (w : World) (hlen : ls.length ≤ 9223372036854775806) (hr : RdL w w.heap.size A ls) :
    Calls Try.prog 42 #[.agg #[.int .i64 nd, .slice A ls.length cp], .int .i64 n] w (RG 0 [] false w) := by
  go_enter Try.func42, Try.ntmps42
  go_wp2_with fail
  refine (sgv_no h A cp _ hlen (hr.on (b2 _ _ _))).mono ?_
  rintro e w1 ⟨rfl, hb1⟩
  have H1 : Blk w1 (w.heap.size + 1) 25 [.int .i64 0, .slice none 0 0] := by
    have h := Blk.new (w.alloc (.cells #[.int .i64 nd, .slice A ls.length cp] 25)) #[.int .i64 0, .slice none 0 0] 25
    rw [show (w.alloc (.cells #[.int .i64 nd, .slice A ls.length cp] 25)).heap.size = w.heap.size + 1 from by simp] at h
    exact h.keep hb1
  have B1 := bthen (b2 w (.cells #[.int .i64 nd, .slice A ls.length cp] 25) (.cells #[.int .i64 0, .slice none 0 0] 25)) hb1
  have k3 : w1.cell? ⟨w.heap.size + 1, 0, none⟩ = some (.int .i64 0) := H1.cellAt 0
  have k4 : w1.cell? ⟨w.heap.size + 1, 1, none⟩ = some (.slice none 0 0) := H1.cellAt 1
  have f3 := H1.frozenAt 0
  have f4 := H1.frozenAt 1
  clear hb1
  go_wp2_with fail
  refine bodyPost_ret (v := .tuple #[.agg #[.int .i64 0, .slice none 0 0], .bool false]) (by simp [results, Try.results42, go_sem, k3, k4]) rfl ?_
  exact rg_no B1 (by omega)

set_option maxRecDepth 100000 in
set_option maxHeartbeats 1000000 in
theorem sgIsolate_out {nd : Int} {ls : List Lk} {n : Int} (hv : Valid nd ls) (hn : ¬ Nd nd n) (A : Option Addr) (cp : Nat) (w : World) (hr : RdL w w.heap.size A ls) :
    Calls Try.prog 42 #[.agg #[.int .i64 nd, .slice A ls.length cp], .int .i64 n] w (RG 0 [] false w) := by
  go_enter Try.func42, Try.ntmps42
  go_wp2_with fail
  refine (sgv_yes hv A cp _ (hr.on (b2 _ _ _))).mono ?_
  rintro e w0 ⟨rfl, hb0⟩
  have k0 : w0.cell? ⟨w.heap.size, 0, none⟩ = some (.int .i64 nd) := ckeep (by go_simp) hb0
  have k1 : w0.cell? ⟨w.heap.size, 1, none⟩ = some (.slice A ls.length cp) := ckeep (by go_simp) hb0
  go_wp2_with fail
  refine (l1Node_no hv hn A ls.length cp _).mono ?_
  rintro e w1 ⟨rfl, hb1'⟩
  have hb1 := bthen hb0 hb1'
  have H1 : Blk w1 (w.heap.size + 1) 25 [.int .i64 0, .slice none 0 0] := by
    have h := Blk.new (w.alloc (.cells #[.int .i64 nd, .slice A ls.length cp] 25)) #[.int .i64 0, .slice none 0 0] 25
    rw [show (w.alloc (.cells #[.int .i64 nd, .slice A ls.length cp] 25)).heap.size = w.heap.size + 1 from by simp] at h
    exact h.keep hb1
  have B1 := bthen (b2 w (.cells #[.int .i64 nd, .slice A ls.length cp] 25) (.cells #[.int .i64 0, .slice none 0 0] 25)) hb1
  have k3 : w1.cell? ⟨w.heap.size + 1, 0, none⟩ = some (.int .i64 0) := H1.cellAt 0
  have k4 : w1.cell? ⟨w.heap.size + 1, 1, none⟩ = some (.slice none 0 0) := H1.cellAt 1
  have f3 := H1.frozenAt 0
  have f4 := H1.frozenAt 1
  clear hb1 hb1' hb0 k0 k1
  go_wp2_with fail
  refine bodyPost_ret (v := .tuple #[.agg #[.int .i64 0, .slice none 0 0], .bool false]) (by simp [results, Try.results42, go_sem, k3, k4]) rfl ?_
  exact rg_no B1 (by omega)

end Go.Proofs.Ytkcapoobbnmdaaa
