/-
  Words for a graph that a call makes: it lies in a variable at block G, its slice is the call's own; the result's block H.
-/
import Derived.Test.YtnndnpckkcgfiaaWP
import Derived.Test.YtnndnpckkcgfiaaPC
namespace Go.Proofs.Ytnndnpckkcgfiaa
open Go.RowKit
set_option maxRecDepth 100000

/-- the graph under way in the variable at block G; the result's block H is as it was laid; nothing old has turned -/
structure KS (w wr : World) (H G : Nat) (nd : Int) (A : Option Addr) (cp : Nat) (ls : List Lk) : Prop where
  g : Blk wr G 25 [.int .i64 nd, .slice A ls.length cp]
  h : Blk wr H 25 [.int .i64 0, .slice none 0 0]
  own : OwL wr w.heap.size A cp ls
  bl : Below w.heap.size w wr
  lh : w.heap.size ≤ H
  hg : H < G
theorem KS.keep {w wr w1 : World} {H G : Nat} {nd : Int} {A : Option Addr} {cp : Nat} {ls : List Lk} (h : KS w wr H G nd A cp ls) (hb : Below wr.heap.size wr w1) : KS w w1 H G nd A cp ls :=
  ⟨h.g.keep hb, h.h.keep hb, h.own.keep hb, bthen h.bl hb, h.lh, h.hg⟩
theorem KS.start3 (w : World) (o : Obj) (nd : Int) : KS w (((w.alloc o).alloc (.cells #[.int .i64 0, .slice none 0 0] 25)).alloc (.cells #[.int .i64 nd, .slice none 0 0] 25)) (w.heap.size + 1) (w.heap.size + 1 + 1) nd none 0 [] := by
  have h1 := Blk.new ((w.alloc o).alloc (.cells #[.int .i64 0, .slice none 0 0] 25)) #[.int .i64 nd, .slice none 0 0] 25
  rw [show ((w.alloc o).alloc (.cells #[.int .i64 0, .slice none 0 0] 25)).heap.size = w.heap.size + 1 + 1 from by simp] at h1
  have h2 := Blk.new (w.alloc o) #[.int .i64 0, .slice none 0 0] 25
  rw [show (w.alloc o).heap.size = w.heap.size + 1 from by simp] at h2
  exact ⟨h1, h2.keep (bnew _ _), OwL.nil_ _ _, b3 _ _ _ _, by omega, by omega⟩
/-- behind an append, and the store of what it gave -/
theorem KS.push {w wr w2 : World} {H G : Nat} {nd : Int} {A : Option Addr} {cp : Nat} {ls : List Lk} (h : KS w wr H G nd A cp ls) {g cap : Nat} {a b c : Int}
    (hown : w2.ownsRow w.heap.size 52 3 (.slice (some ⟨g, 0, none⟩) (ls.length + 1) cap) (ls.length + 1) (cellsL ls ++ [.int .i64 a, .int .i64 b, .int .i64 c]))
    (hgr : wr.grownBy w2 (Value.slice A ls.length cp).ownBlock) :
    KS w (w2.setCell ⟨G, 1, none⟩ (.slice (some ⟨g, 0, none⟩) (ls.length + 1) cap)) H G nd (some ⟨g, 0, none⟩) cap (ls ++ [⟨a, b, c⟩]) := by
  have h1 := h.lh
  have h2 := h.hg
  have hl := World.ownsRow.lt h.own
  have hG : Blk w2 G 25 [.int .i64 nd, .slice A ls.length cp] := h.g.grown hgr (own_ne h.own h.g (by decide))
  have hH : Blk w2 H 25 [.int .i64 0, .slice none 0 0] := h.h.grown hgr (own_ne h.own h.h (by decide))
  have ho := own_push (l := ⟨a, b, c⟩) hown
  refine ⟨?_, hH.far (p := ⟨G, 1, none⟩) (by simp; omega) _, own_st ho hG (by decide) 1 _, ?_, h1, h2⟩
  · have := hG.stored 1 (.slice (some ⟨g, 0, none⟩) (ls.length + 1) cap)
    rw [List.length_append]
    exact this
  · exact ((h.bl.grown hgr (by have := h.bl.size; omega) (fun k hk => (hl k hk).1)).setCell (p := ⟨G, 1, none⟩) (by simp; omega) _)
/-- the result's cells are stored -/
theorem KS.done {w wr : World} {H G : Nat} {nd : Int} {A : Option Addr} {cp : Nat} {ls : List Lk} (h : KS w wr H G nd A cp ls) (u v : Value) :
    OwL ((wr.setCell ⟨H, 0, none⟩ u).setCell ⟨H, 1, none⟩ v) w.heap.size A cp ls ∧ Below w.heap.size w ((wr.setCell ⟨H, 0, none⟩ u).setCell ⟨H, 1, none⟩ v) :=
  ⟨own_st (own_st h.own h.h (by decide) 0 u) (h.h.stored 0 u) (by decide) 1 v, (h.bl.setCell (p := ⟨H, 0, none⟩) h.lh u).setCell (p := ⟨H, 1, none⟩) h.lh v⟩
/-- the like where only the result's block matters -/
theorem res_done {w wr : World} {H : Nat} {A : Option Addr} {cp : Nat} {ls : List Lk} {x y : Value} (ho : OwL wr w.heap.size A cp ls) (hh : Blk wr H 25 [x, y]) (hb : Below w.heap.size w wr) (lh : w.heap.size ≤ H) (u v : Value) :
    OwL ((wr.setCell ⟨H, 0, none⟩ u).setCell ⟨H, 1, none⟩ v) w.heap.size A cp ls ∧ Below w.heap.size w ((wr.setCell ⟨H, 0, none⟩ u).setCell ⟨H, 1, none⟩ v) :=
  ⟨own_st (own_st ho hh (by decide) 0 u) (hh.stored 0 u) (by decide) 1 v, (hb.setCell (p := ⟨H, 0, none⟩) lh u).setCell (p := ⟨H, 1, none⟩) lh v⟩

/-- a call hands back the graph and b, its slice its own -/
def RG (nd : Int) (ls : List Lk) (b : Bool) (w : World) (e : Ending) (w' : World) : Prop :=
  (∃ A cp, e = .returned (.tuple #[.agg #[.int .i64 nd, .slice A ls.length cp], .bool b]) ∧ OwL w' w.heap.size A cp ls) ∧ Below w.heap.size w w'
/-- a call hands back the graph, its slice its own -/
def RG1 (nd : Int) (ls : List Lk) (w : World) (e : Ending) (w' : World) : Prop :=
  (∃ A cp, e = .returned (.agg #[.int .i64 nd, .slice A ls.length cp]) ∧ OwL w' w.heap.size A cp ls) ∧ Below w.heap.size w w'

end Go.Proofs.Ytnndnpckkcgfiaa
