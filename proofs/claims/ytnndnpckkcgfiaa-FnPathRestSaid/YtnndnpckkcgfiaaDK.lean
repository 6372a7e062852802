/-
  The state of a law that holds a graph of the program's make against the reference's, and marks memory in between.
-/
import Derived.Test.YtnndnpckkcgfiaaDI
import Derived.Test.YtnndnpckkcgfiaaWX
namespace Go.Proofs.Ytnndnpckkcgfiaa
open Go.RowKit
set_option maxRecDepth 100000

theorem own_cap {w : World} {base : Nat} {A : Option Addr} {cp : Nat} {ls : List Lk} (h : OwL w base A cp ls) : ls.length ≤ cp := by
  rcases h.2 with ⟨hv, h0⟩ | ⟨g, cap, cur, hv, _, _, hn, _⟩
  · omega
  · simp only [Value.slice.injEq] at hv
    obtain ⟨_, _, rfl⟩ := hv
    exact hn
theorem ownBlock_eq (A : Option Addr) (n c : Nat) : (Value.slice A n c).ownBlock = A.map (·.block) := by cases A <;> rfl
theorem own_keptL {w w' : World} {base : Nat} {A D : Option Addr} {cp n c : Nat} {ls : List Lk} (h : OwL w base A cp ls) (hg : w.grownBy w' (Value.slice D n c).ownBlock) (hne : ∀ k, D.map (·.block) = some k → A.map (·.block) ≠ some k) : OwL w' base A cp ls := by
  rw [ownBlock_eq] at hg
  rcases hd : D.map (·.block) with _ | k
  · rw [hd] at hg
    refine World.ownsRow.kept h hg ?_
    rw [ownBlock_eq]
    cases A with
    | none => exact .inl rfl
    | some a => exact .inr (by simp)
  · rw [hd] at hg
    exact World.ownsRow.kept h hg (.inr (by rw [ownBlock_eq]; exact hne k hd))
theorem blk_keptL {w w' : World} {base : Nat} {D : Option Addr} {cp n c : Nat} {ls : List Lk} (ho : OwL w base D cp ls) (hg : w.grownBy w' (Value.slice D n c).ownBlock) {g : Nat} {t : TypeId} {cs : List Value} (hb : Blk w g t cs) (hne : t ≠ 52) : Blk w' g t cs := by
  refine hb.grown hg ?_
  rw [ownBlock_eq, ← ownBlock_eq D ls.length cp]
  exact own_ne ho hb hne

/-- the argument's variable, the reference's graph C, the program's argument D, the program's graph E -/
structure EX (w wr : World) (nd : Int) (A : Option Addr) (cp : Nat) (ls : List Lk) (nd2 : Int) (ls2 : List Lk) (G6 : Nat) (C : Option Addr) (cc : Nat) (G8 : Nat) (D : Option Addr) (cd : Nat) (lx : List Lk) (G9 : Nat) (E : Option Addr) (ce : Nat) (le : List Lk) (bC bD bE : Nat) : Prop where
  ba : Blk wr w.heap.size 42 [.int .i64 nd, .slice A ls.length cp]
  b6 : Blk wr G6 25 [.int .i64 nd2, .slice C ls2.length cc]
  oc : OwL wr bC C cc ls2
  b8 : Blk wr G8 25 [.int .i64 nd, .slice D ls.length cd]
  od : OwL wr bD D cd lx
  b9 : Blk wr G9 25 [.int .i64 nd2, .slice E ls2.length ce]
  oe : OwL wr bE E ce le
  lc : ∀ k, C.map (·.block) = some k → k < bD
  ld : ∀ k, D.map (·.block) = some k → k < bE
  h1 : w.heap.size ≤ bD
  h2 : bD ≤ bE
  bl : Below w.heap.size w wr
variable {w wr w1 : World} {nd : Int} {A : Option Addr} {cp : Nat} {ls : List Lk} {nd2 : Int} {ls2 : List Lk} {G6 : Nat} {C : Option Addr} {cc : Nat} {G8 : Nat} {D : Option Addr} {cd : Nat} {lx : List Lk} {G9 : Nat} {E : Option Addr} {ce : Nat} {le : List Lk} {bC bD bE : Nat}
theorem EX.on (h : EX w wr nd A cp ls nd2 ls2 G6 C cc G8 D cd lx G9 E ce le bC bD bE) (hb : Below wr.heap.size wr w1) : EX w w1 nd A cp ls nd2 ls2 G6 C cc G8 D cd lx G9 E ce le bC bD bE :=
  ⟨h.ba.keep hb, h.b6.keep hb, h.oc.keep hb, h.b8.keep hb, h.od.keep hb, h.b9.keep hb, h.oe.keep hb, h.lc, h.ld, h.h1, h.h2, bthen h.bl hb⟩
theorem ltD (h : EX w wr nd A cp ls nd2 ls2 G6 C cc G8 D cd lx G9 E ce le bC bD bE) : ∀ k, D.map (·.block) = some k → bD ≤ k := fun k hk => (World.ownsRow.lt h.od k (by rw [ownBlock_eq]; exact hk)).1
theorem ltE (h : EX w wr nd A cp ls nd2 ls2 G6 C cc G8 D cd lx G9 E ce le bC bD bE) : ∀ k, E.map (·.block) = some k → bE ≤ k := fun k hk => (World.ownsRow.lt h.oe k (by rw [ownBlock_eq]; exact hk)).1
theorem EX.markD (h : EX w wr nd A cp ls nd2 ls2 G6 C cc G8 D cd lx G9 E ce le bC bD bE) {n : Nat} {ly : List Lk} (ho : OwL w1 bD D cd ly) (hg : wr.grownBy w1 (Value.slice D n cd).ownBlock) : EX w w1 nd A cp ls nd2 ls2 G6 C cc G8 D cd ly G9 E ce le bC bD bE := by
  refine ⟨blk_keptL h.od hg h.ba (by decide), blk_keptL h.od hg h.b6 (by decide), own_keptL h.oc hg (fun k hk e => ?_), blk_keptL h.od hg h.b8 (by decide), ho, blk_keptL h.od hg h.b9 (by decide), own_keptL h.oe hg (fun k hk e => ?_), h.lc, h.ld, h.h1, h.h2, h.bl.grown hg h.bl.size (fun k hk => ?_)⟩
  · have := h.lc k e; have := ltD h k hk; omega
  · have := h.ld k hk; have := ltE h k e; omega
  · rw [ownBlock_eq] at hk; have := ltD h k hk; have := h.h1; omega
theorem EX.markE (h : EX w wr nd A cp ls nd2 ls2 G6 C cc G8 D cd lx G9 E ce le bC bD bE) {n : Nat} {ly : List Lk} (ho : OwL w1 bE E ce ly) (hg : wr.grownBy w1 (Value.slice E n ce).ownBlock) : EX w w1 nd A cp ls nd2 ls2 G6 C cc G8 D cd lx G9 E ce ly bC bD bE := by
  refine ⟨blk_keptL h.oe hg h.ba (by decide), blk_keptL h.oe hg h.b6 (by decide), own_keptL h.oc hg (fun k hk e => ?_), blk_keptL h.oe hg h.b8 (by decide), own_keptL h.od hg (fun k hk e => ?_), blk_keptL h.oe hg h.b9 (by decide), ho, h.lc, h.ld, h.h1, h.h2, h.bl.grown hg h.bl.size (fun k hk => ?_)⟩
  · have := h.lc k e; have := ltE h k hk; have := h.h2; omega
  · have := h.ld k e; have := ltE h k hk; omega
  · rw [ownBlock_eq] at hk; have := ltE h k hk; have := h.h1; have := h.h2; omega
/-- the variables' cells -/
theorem EX.cells (h : EX w wr nd A cp ls nd2 ls2 G6 C cc G8 D cd lx G9 E ce le bC bD bE) :
    wr.cell? ⟨w.heap.size, 0, none⟩ = some (.int .i64 nd) ∧ wr.cell? ⟨w.heap.size, 1, none⟩ = some (.slice A ls.length cp) ∧ wr.cell? ⟨G6, 0, none⟩ = some (.int .i64 nd2) ∧ wr.cell? ⟨G6, 1, none⟩ = some (.slice C ls2.length cc) ∧
    wr.cell? ⟨G8, 0, none⟩ = some (.int .i64 nd) ∧ wr.cell? ⟨G8, 1, none⟩ = some (.slice D ls.length cd) ∧ wr.cell? ⟨G9, 0, none⟩ = some (.int .i64 nd2) ∧ wr.cell? ⟨G9, 1, none⟩ = some (.slice E ls2.length ce) :=
  ⟨h.ba.cellAt 0, h.ba.cellAt 1, h.b6.cellAt 0, h.b6.cellAt 1, h.b8.cellAt 0, h.b8.cellAt 1, h.b9.cellAt 0, h.b9.cellAt 1⟩
theorem EX.ra (h : EX w wr nd A cp ls nd2 ls2 G6 C cc G8 D cd lx G9 E ce le bC bD bE) (hr : RdL w w.heap.size A ls) : RdL wr wr.heap.size A ls := (hr.keep h.bl).more h.bl.size

end Go.Proofs.Ytnndnpckkcgfiaa
