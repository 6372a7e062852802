/-
  The walks of hasNode, hasLink, l1Node, l1Index, l2Two: is the graph valid, and is this one of its nodes, one of its links?
-/
import Derived.Test.YtnmmacfchmmkkaaWG
namespace Go.Proofs.Ytnmmacfchmmkkaa
open Go.RowKit
set_option maxRecDepth 100000

/-- k is the place of a link -/
def Lnk (ls : List Lk) (k : Int) : Prop := 0 ≤ k ∧ k < ls.length

set_option maxRecDepth 100000 in
set_option maxHeartbeats 1000000 in
theorem hasNode_yes {nd : Int} {ls : List Lk} (hv : Valid nd ls) {n : Int} (hn : Nd nd n) (A : Option Addr) (cp : Nat) (w : World) (hr : RdL w w.heap.size A ls) :
    Calls Try.prog 23 #[.agg #[.int .i64 nd, .slice A ls.length cp], .int .i64 n] w fun e w' => e = .returned (.bool true) ∧ Below w.heap.size w w' := by
  have h14 : ls.length ≤ 14 := hv.2.2.1
  have h1 : 1 ≤ nd := hv.1
  have h8 : nd ≤ 8 := hv.2.1
  have n1 : 0 ≤ n := hn.1
  have n2 : n ≤ nd - 1 := by have := hn.2; omega
  go_enter Try.func23, Try.ntmps23
  go_wp2_with fail
  refine (gv_yes hv A cp _ (hr.on (bnew _ _))).mono ?_
  rintro e w1 ⟨rfl, hb1⟩
  obtain ⟨k1, k2⟩ := box2 hb1
  go_wp2_with fail
  refine (within_yes n1 n2 _).mono ?_
  rintro e w2 ⟨rfl, rfl⟩
  go_wp2_with fail
  go_ret
  exact ⟨rfl, bthen (bnew _ _) hb1⟩
set_option maxRecDepth 100000 in
set_option maxHeartbeats 1000000 in
theorem hasNode_no {nd : Int} {ls : List Lk} {n : Int} (h : ¬ (Valid nd ls ∧ Nd nd n)) (A : Option Addr) (cp : Nat) (w : World) (hlen : ls.length ≤ 9223372036854775806) (hr : RdL w w.heap.size A ls) :
    Calls Try.prog 23 #[.agg #[.int .i64 nd, .slice A ls.length cp], .int .i64 n] w fun e w' => e = .returned (.bool false) ∧ Below w.heap.size w w' := by
  by_cases hv : Valid nd ls
  · have h14 : ls.length ≤ 14 := hv.2.2.1
    have h1 : 1 ≤ nd := hv.1
    have h8 : nd ≤ 8 := hv.2.1
    have n1 : n < 0 ∨ nd - 1 < n := by
      have h' : ¬ (Nd nd n) := fun h' => h ⟨hv, h'⟩
      unfold Nd at h'
      omega
    have N1 := Lib.hid n1
    clear n1 h
    go_enter Try.func23, Try.ntmps23
    go_wp2_with fail
    refine (gv_yes hv A cp _ (hr.on (bnew _ _))).mono ?_
    rintro e w1 ⟨rfl, hb1⟩
    obtain ⟨k1, k2⟩ := box2 hb1
    go_wp2_with fail
    refine (within_no N1.out _).mono ?_
    rintro e w2 ⟨rfl, rfl⟩
    go_wp2_with fail
    go_ret
    exact ⟨rfl, bthen (bnew _ _) hb1⟩
  · clear h
    go_enter Try.func23, Try.ntmps23
    go_wp2_with fail
    refine (gv_no hv A cp _ (by omega) (hr.on (bnew _ _))).mono ?_
    rintro e w1 ⟨rfl, hb1⟩
    go_wp2_with fail
    go_ret
    exact ⟨rfl, bthen (bnew _ _) hb1⟩



set_option maxRecDepth 100000 in
set_option maxHeartbeats 1000000 in
theorem l1Node_yes {nd : Int} {ls : List Lk} (hv : Valid nd ls) {n : Int} (hn : Nd nd n) (A : Option Addr) (k cp : Nat) (w : World) :
    Calls Try.prog 20 #[.agg #[.int .i64 nd, .slice A k cp], .int .i64 n] w fun e w' => e = .returned (.bool true) ∧ Below w.heap.size w w' := by
  have h1 : 1 ≤ nd := hv.1
  have h8 : nd ≤ 8 := hv.2.1
  have n1 : 0 ≤ n := hn.1
  have n2 : n ≤ nd - 1 := by have := hn.2; omega
  go_enter Try.func20, Try.ntmps20
  go_wp2_with fail
  refine (l6In_yes n1 n2 _).mono ?_
  rintro e w2 ⟨rfl, rfl⟩
  go_wp2_with fail
  go_ret
  exact ⟨rfl, bnew _ _⟩
set_option maxRecDepth 100000 in
set_option maxHeartbeats 1000000 in
theorem l1Node_no {nd : Int} {ls : List Lk} (hv : Valid nd ls) {n : Int} (hn : ¬ Nd nd n) (A : Option Addr) (k cp : Nat) (w : World) :
    Calls Try.prog 20 #[.agg #[.int .i64 nd, .slice A k cp], .int .i64 n] w fun e w' => e = .returned (.bool false) ∧ Below w.heap.size w w' := by
  have h1 : 1 ≤ nd := hv.1
  have h8 : nd ≤ 8 := hv.2.1
  have n1 : n < 0 ∨ nd - 1 < n := by unfold Nd at hn; omega
  have N1 := Lib.hid n1
  clear n1 hn
  go_enter Try.func20, Try.ntmps20
  go_wp2_with fail
  refine (l6In_no N1.out _).mono ?_
  rintro e w2 ⟨rfl, rfl⟩
  go_wp2_with fail
  go_ret
  exact ⟨rfl, bnew _ _⟩

end Go.Proofs.Ytnmmacfchmmkkaa
