/-
  Words for the walk of a law: the drawn graph in a variable of its own; the two GraphLink at every graph.
-/
import Derived.Test.YtnndnpckkcgfiaaWN
namespace Go.Proofs.Ytnndnpckkcgfiaa
open Go.RowKit
set_option maxRecDepth 100000

/-- the graph in the variable at block G -/
structure LS (w wr : World) (G : Nat) (nd : Int) (A : Option Addr) (cp : Nat) (ls : List Lk) : Prop where
  c0 : wr.cell? ⟨G, 0, none⟩ = some (.int .i64 nd)
  c1 : wr.cell? ⟨G, 1, none⟩ = some (.slice A ls.length cp)
  rd : RdL wr wr.heap.size A ls
  bl : Below w.heap.size w wr
  len : ls.length ≤ 16
theorem LS.on {w wr w1 : World} {G : Nat} {nd : Int} {A : Option Addr} {cp : Nat} {ls : List Lk} (h : LS w wr G nd A cp ls) (hb : Below wr.heap.size wr w1) : LS w w1 G nd A cp ls :=
  ⟨ckeep h.c0 hb, ckeep h.c1 hb, h.rd.on hb, bthen h.bl hb, h.len⟩
theorem LS.of_drawn {w w1 : World} {nd : Int} {A : Option Addr} {cp : Nat} {ls : List Lk} (h : Gr w w1 A cp ls) : LS w (w1.alloc (.cells #[.int .i64 nd, .slice A ls.length cp] 25)) w1.heap.size nd A cp ls :=
  ⟨by go_simp, by go_simp, h.1.rd.on (bnew _ _), bthen h.2.2 (bnew _ _), h.2.1⟩

/-- what GraphLink answers -/
noncomputable def gix (nd : Int) (ls : List Lk) (a b : Int) : Int := if bl (Valid nd ls) then lkIx ls a b else -1
theorem gix_yes {nd : Int} {ls : List Lk} (h : Valid nd ls) (a b : Int) : gix nd ls a b = lkIx ls a b := by unfold gix; rw [bl_true h, if_pos rfl]
theorem gix_no {nd : Int} {ls : List Lk} (h : ¬ Valid nd ls) (a b : Int) : gix nd ls a b = -1 := by unfold gix; rw [bl_false h]; rfl
theorem gix_comm (nd : Int) (ls : List Lk) (a b : Int) : gix nd ls a b = gix nd ls b a := by unfold gix; rw [lkIx_comm]
theorem gix_range (nd : Int) (ls : List Lk) (a b : Int) : -1 ≤ gix nd ls a b ∧ gix nd ls a b < ls.length := by
  unfold gix; have := lkIx_range ls a b; split <;> omega
theorem gix_valid {nd : Int} {ls : List Lk} {a b : Int} (h : 0 ≤ gix nd ls a b) : Valid nd ls := by
  by_cases hv : Valid nd ls
  · exact hv
  · rw [gix_no hv] at h; omega

theorem gLink_any (nd : Int) (A : Option Addr) (cp : Nat) (ls : List Lk) (a b : Int) (w : World) (hlen : ls.length ≤ 9223372036854775806) (hr : RdL w w.heap.size A ls) :
    Calls Try.prog 39 #[.agg #[.int .i64 nd, .slice A ls.length cp], .int .i64 a, .int .i64 b] w fun e w' => e = .returned (.int .i64 (gix nd ls a b)) ∧ Below w.heap.size w w' := by
  by_cases hv : Valid nd ls
  · exact (gLink_yes hv A cp a b w hr).mono fun _ _ ⟨he, hw⟩ => ⟨he.trans (by rw [gix_yes hv]), hw⟩
  · exact (gLink_no hv A cp a b w hlen hr).mono fun _ _ ⟨he, hw⟩ => ⟨he.trans (by rw [gix_no hv]), hw⟩
theorem gLink_comm (nd : Int) (A : Option Addr) (cp : Nat) (ls : List Lk) (a b : Int) (w : World) (hlen : ls.length ≤ 9223372036854775806) (hr : RdL w w.heap.size A ls) :
    Calls Try.prog 39 #[.agg #[.int .i64 nd, .slice A ls.length cp], .int .i64 a, .int .i64 b] w fun e w' => e = .returned (.int .i64 (gix nd ls b a)) ∧ Below w.heap.size w w' :=
  (gLink_any nd A cp ls a b w hlen hr).mono fun _ _ ⟨he, hw⟩ => ⟨he.trans (by rw [gix_comm]), hw⟩


end Go.Proofs.Ytnndnpckkcgfiaa
