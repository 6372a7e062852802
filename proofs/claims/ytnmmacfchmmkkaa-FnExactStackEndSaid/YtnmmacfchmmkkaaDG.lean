/-
  The walks of both Distances, of the reference's l2Two, of sameInts.
-/
import Derived.Test.YtnmmacfchmmkkaaDF
import Derived.Test.YtnmmacfchmmkkaaWP
namespace Go.Proofs.Ytnmmacfchmmkkaa
open Go.RowKit
set_option maxRecDepth 100000

/-- the graph that came in, in its variable: the call's first block -/
structure BG (w wr : World) (nd : Int) (A : Option Addr) (cp : Nat) (ls : List Lk) : Prop where
  c0 : wr.cell? ⟨w.heap.size, 0, none⟩ = some (.int .i64 nd)
  c1 : wr.cell? ⟨w.heap.size, 1, none⟩ = some (.slice A ls.length cp)
  rd : RdL wr wr.heap.size A ls
  bl : Below w.heap.size w wr
theorem BG.on {w wr w1 : World} {nd : Int} {A : Option Addr} {cp : Nat} {ls : List Lk} (h : BG w wr nd A cp ls) (hb : Below wr.heap.size wr w1) : BG w w1 nd A cp ls :=
  ⟨ckeep h.c0 hb, ckeep h.c1 hb, h.rd.on hb, bthen h.bl hb⟩
theorem BG.dr {w wr : World} {nd : Int} {A : Option Addr} {cp : Nat} {ls : List Lk} (h : BG w wr nd A cp ls) : BG w wr.drew nd A cp ls := h.on (Below.refl _ _).drew
theorem BG.start {w : World} {nd : Int} {A : Option Addr} {cp : Nat} {ls : List Lk} (hr : RdL w w.heap.size A ls) : BG w (w.alloc (.cells #[.int .i64 nd, .slice A ls.length cp] 32)) nd A cp ls :=
  ⟨by go_simp, by go_simp, hr.on (bnew _ _), bnew _ _⟩

/-- what Distances lists -/
noncomputable def distO (nd : Int) (ls : List Lk) (f : Int) : List Int := if bl (Valid nd ls ∧ Nd nd f) then dists nd ls f else []
theorem distO_yes {nd : Int} {ls : List Lk} {f : Int} (h : Valid nd ls ∧ Nd nd f) : distO nd ls f = dists nd ls f := by unfold distO; rw [bl_true h, if_pos rfl]
theorem distO_no {nd : Int} {ls : List Lk} {f : Int} (h : ¬ (Valid nd ls ∧ Nd nd f)) : distO nd ls f = [] := by unfold distO; rw [bl_false h]; rfl
theorem RI.nil_ {w w1 : World} (hb : Below w.heap.size w w1) : RI [] w (.returned (.slice none 0 0)) w1 := ⟨⟨none, 0, rfl, OwI.nil_ _ _⟩, hb⟩
theorem RI.of {xs : List Int} {w w1 w2 : World} {e : Ending} (h : RI xs w1 e w2) (hb : Below w.heap.size w w1) : RI xs w e w2 := by
  obtain ⟨⟨A, cp, rfl, ho⟩, hb2⟩ := h
  exact ⟨⟨A, cp, rfl, ownsRow_base ho hb.size⟩, bthen hb hb2⟩
theorem own_emptyI {w w1 : World} (hb : Below w.heap.size w w1) : RI [] w (.returned (.slice (some ⟨w1.heap.size, 0, none⟩) 0 0)) (w1.alloc (.cells #[] 3)) :=
  ⟨⟨_, _, rfl, rfl, .inr ⟨w1.heap.size, 0, #[], rfl, hb.size, heap_alloc_new _ _, Nat.le_refl _, by unfold maxLen; omega, rfl, rfl⟩⟩, bthen hb (bnew _ _)⟩




end Go.Proofs.Ytnmmacfchmmkkaa
