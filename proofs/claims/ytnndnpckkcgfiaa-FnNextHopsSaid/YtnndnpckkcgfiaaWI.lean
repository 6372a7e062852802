/-
  The walks of the draws of a node, a link, a cost.
-/
import Derived.Test.YtnndnpckkcgfiaaWH
namespace Go.Proofs.Ytnndnpckkcgfiaa
open Go.RowKit

theorem gtrans {a b c : World} {row : Option Nat} (h : a.grownBy b row) (k : b.grownBy c row) : a.grownBy c row :=
  ⟨k.os.trans h.os, k.tape.trans h.tape, k.output.trans h.output, Nat.le_trans h.size k.size, fun i hi hne => (k.block i (Nat.lt_of_lt_of_le hi h.size) hne).trans (h.block i hi hne)⟩
theorem gbelow {a b : World} (h : Below a.heap.size a b) (row : Option Nat) : a.grownBy b row := ⟨h.os, h.tape, h.output, h.size, fun i hi _ => h.block i hi⟩
/-- what is new altogether, and what turned a block that is not old, turned nothing old -/
theorem belowg {a b : World} {R B : Nat} (h : a.grownBy b (some R)) (hB : B ≤ R) (hB' : B ≤ a.heap.size) : Below B a b := ⟨h.os, h.tape, h.output, h.size, fun k hk => h.block k (by omega) (fun e => by injection e; omega)⟩
theorem gcell {a b : World} {R : Nat} {p : Addr} {v : Value} (h : a.cell? p = some v) (hg : a.grownBy b (some R)) (hne : p.block ≠ R) : b.cell? p = some v :=
  hg.cell h (by simpa using hne)
theorem gfrozen {a b : World} {R : Nat} {p : Addr} (h : a.frozen? p = false) (hlt : p.block < a.heap.size) (hg : a.grownBy b (some R)) (hne : p.block ≠ R) : b.frozen? p = false :=
  (World.frozen?_of_block (hg.block p.block hlt (by simpa using hne))).trans h

/-- a number is drawn: the reader at block R alone has turned -/
def Draws (R M : Nat) (w : World) (e : Ending) (w' : World) : Prop :=
  ∃ x : Int, e = .returned (.int .i64 x) ∧ Rdr w' R M ∧ w.grownBy w' (some R)

set_option maxRecDepth 100000 in
set_option maxHeartbeats 1000000 in
theorem l91Node_any (R M : Nat) (nd : Int) (A : Option Addr) (n cp : Nat) (w : World) (h : Rdr w R M) (hM : M ≤ 900000) :
    Calls Try.prog 50 #[.pointer (some ⟨R, 0, none⟩), .agg #[.int .i64 nd, .slice A n cp]] w (Draws R (M + 2) w) := by
  have hlt := h.lt
  go_enter Try.func50, Try.ntmps50
  go_wp2_with fail
  refine (pick_any R M 20 _ (h.keep (bnew _ _)) (by omega)).mono ?_
  rintro e w1 ⟨x, rfl, hx0, hx1, -, hr1, hg1⟩
  have k1 : w1.cell? ⟨w.heap.size, 0, none⟩ = some (.int .i64 nd) := gcell (by go_simp) hg1 (by simp; omega)
  have G1 := gtrans (gbelow (bnew w _) (some R)) hg1
  clear hg1
  go_wp2_with fail
  · refine (pick_any R (M + 1) 11 _ hr1 (by omega)).mono ?_
    rintro e w2 ⟨y, rfl, hy0, hy1, -, hr2, hg2⟩
    have hy := hy1 (by omega)
    clear hy1 hx1
    go_wp2_with fail
    go_ret
    exact ⟨_, rfl, hr2, gtrans G1 hg2⟩
  all_goals
    refine (pick_any R (M + 1) _ _ hr1 (by omega)).mono ?_
    rintro e w2 ⟨y, rfl, hy0, hy1, -, hr2, hg2⟩
    go_wp2_with fail
    go_ret
    exact ⟨_, rfl, hr2, gtrans G1 hg2⟩

set_option maxRecDepth 100000 in
set_option maxHeartbeats 1000000 in
theorem l91Link_any (R M : Nat) (nd : Int) (A : Option Addr) (n cp : Nat) (w : World) (h : Rdr w R M) (hM : M ≤ 900000) :
    Calls Try.prog 74 #[.pointer (some ⟨R, 0, none⟩), .agg #[.int .i64 nd, .slice A n cp]] w (Draws R (M + 2) w) := by
  have hlt := h.lt
  go_enter Try.func74, Try.ntmps74
  go_wp2_with fail
  refine (pick_any R M 20 _ (h.keep (bnew _ _)) (by omega)).mono ?_
  rintro e w1 ⟨x, rfl, hx0, hx1, -, hr1, hg1⟩
  have k1 : w1.cell? ⟨w.heap.size, 1, none⟩ = some (.slice A n cp) := gcell (by go_simp) hg1 (by simp; omega)
  have G1 := gtrans (gbelow (bnew w _) (some R)) hg1
  clear hg1
  go_wp2_with fail
  · refine (pick_any R (M + 1) 16 _ hr1 (by omega)).mono ?_
    rintro e w2 ⟨y, rfl, hy0, hy1, -, hr2, hg2⟩
    have hy := hy1 (by omega)
    clear hy1 hx1
    go_wp2_with fail
    go_ret
    exact ⟨_, rfl, hr2, gtrans G1 hg2⟩
  all_goals
    refine (pick_any R (M + 1) _ _ hr1 (by omega)).mono ?_
    rintro e w2 ⟨y, rfl, hy0, hy1, -, hr2, hg2⟩
    go_wp2_with fail
    go_ret
    exact ⟨_, rfl, hr2, gtrans G1 hg2⟩


end Go.Proofs.Ytnndnpckkcgfiaa
