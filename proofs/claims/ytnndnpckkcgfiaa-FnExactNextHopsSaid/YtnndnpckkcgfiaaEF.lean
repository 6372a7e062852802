/-
  The state of a law that holds a list of the program's make against the reference's, and marks memory in between.
-/
import Derived.Test.YtnndnpckkcgfiaaDK
import Derived.Test.YtnndnpckkcgfiaaEB
namespace Go.Proofs.Ytnndnpckkcgfiaa
open Go.RowKit
set_option maxRecDepth 100000

theorem own_typeI {w : World} {base : Nat} {A : Option Addr} {cp : Nat} {xs : List Int} (h : OwI w base A cp xs) {k : Nat} (hk : A.map (·.block) = some k) : ∃ cur, w.heap[k]? = some (.cells cur 3 (0, 0)) := by
  rcases h.2 with ⟨hv, h0⟩ | ⟨g, cap, cur, hv, _, hg, _⟩
  · simp only [Value.slice.injEq] at hv
    obtain ⟨rfl, _⟩ := hv
    cases hk
  · simp only [Value.slice.injEq] at hv
    obtain ⟨rfl, _⟩ := hv
    simp at hk
    subst hk
    exact ⟨cur, hg⟩
theorem own_typeL {w : World} {base : Nat} {A : Option Addr} {cp : Nat} {ls : List Lk} (h : OwL w base A cp ls) {k : Nat} (hk : A.map (·.block) = some k) : ∃ cur, w.heap[k]? = some (.cells cur 52 (0, 0)) := by
  rcases h.2 with ⟨hv, h0⟩ | ⟨g, cap, cur, hv, _, hg, _⟩
  · simp only [Value.slice.injEq] at hv
    obtain ⟨rfl, _⟩ := hv
    cases hk
  · simp only [Value.slice.injEq] at hv
    obtain ⟨rfl, _⟩ := hv
    simp at hk
    subst hk
    exact ⟨cur, hg⟩
theorem own_diff {w : World} {b1 b2 : Nat} {C D : Option Addr} {cc cd : Nat} {xs : List Int} {ls : List Lk} (h1 : OwI w b1 C cc xs) (h2 : OwL w b2 D cd ls) {k : Nat} (hD : D.map (·.block) = some k) : C.map (·.block) ≠ some k := by
  intro hC
  obtain ⟨c1, e1⟩ := own_typeI h1 hC
  obtain ⟨c2, e2⟩ := own_typeL h2 hD
  rw [e1] at e2
  injection e2 with e2
  injection e2 with _ e
  exact absurd e (by decide)
theorem own_keptI {w w' : World} {base : Nat} {A D : Option Addr} {cp n c : Nat} {xs : List Int} (h : OwI w base A cp xs) (hg : w.grownBy w' (Value.slice D n c).ownBlock) (hne : ∀ k, D.map (·.block) = some k → A.map (·.block) ≠ some k) : OwI w' base A cp xs := by
  rw [ownBlock_eq] at hg
  rcases hd : D.map (·.block) with _ | k
  · rw [hd] at hg
    refine World.ownsRow.kept h hg ?_
    rw [ownBlock_eq]
    cases A with
    | none => exact .inl rfl
    | some a => exact .inr (by simp)
  · rw [hd] at hg
    exact World.ownsRow.kept h hg (.inr (by rw [ownBlock_eq]; exact hne k hd))
theorem blk_keptI {w w' : World} {base : Nat} {D : Option Addr} {cp n c : Nat} {xs : List Int} (ho : OwI w base D cp xs) (hg : w.grownBy w' (Value.slice D n c).ownBlock) {g : Nat} {t : TypeId} {cs : List Value} (hb : Blk w g t cs) (hne : t ≠ 3) : Blk w' g t cs := by
  refine hb.grown hg ?_
  rw [ownBlock_eq, ← ownBlock_eq D xs.length cp]
  exact ownI_ne ho hb hne

/-- the argument's variable, the reference's list C, the program's argument D, the program's list E -/
structure EY (w wr : World) (nd : Int) (A : Option Addr) (cp : Nat) (ls : List Lk) (C : Option Addr) (cc : Nat) (xs : List Int) (G8 : Nat) (D : Option Addr) (cd : Nat) (lx : List Lk) (E : Option Addr) (ce : Nat) (xe : List Int) (bC bD bE : Nat) : Prop where
  ba : Blk wr w.heap.size 42 [.int .i64 nd, .slice A ls.length cp]
  oc : OwI wr bC C cc xs
  b8 : Blk wr G8 25 [.int .i64 nd, .slice D ls.length cd]
  od : OwL wr bD D cd lx
  oe : OwI wr bE E ce xe
  lc : ∀ k, C.map (·.block) = some k → k < bE
  h1 : w.heap.size ≤ bD
  h2 : w.heap.size ≤ bE
  bl : Below w.heap.size w wr
variable {w wr w1 : World} {nd : Int} {A : Option Addr} {cp : Nat} {ls : List Lk} {C : Option Addr} {cc : Nat} {xs : List Int} {G8 : Nat} {D : Option Addr} {cd : Nat} {lx : List Lk} {E : Option Addr} {ce : Nat} {xe : List Int} {bC bD bE : Nat}
theorem EY.on (h : EY w wr nd A cp ls C cc xs G8 D cd lx E ce xe bC bD bE) (hb : Below wr.heap.size wr w1) : EY w w1 nd A cp ls C cc xs G8 D cd lx E ce xe bC bD bE :=
  ⟨h.ba.keep hb, h.oc.keep hb, h.b8.keep hb, h.od.keep hb, h.oe.keep hb, h.lc, h.h1, h.h2, bthen h.bl hb⟩
theorem EY.markD (h : EY w wr nd A cp ls C cc xs G8 D cd lx E ce xe bC bD bE) {n : Nat} {ly : List Lk} (ho : OwL w1 bD D cd ly) (hg : wr.grownBy w1 (Value.slice D n cd).ownBlock) : EY w w1 nd A cp ls C cc xs G8 D cd ly E ce xe bC bD bE :=
  ⟨blk_keptL h.od hg h.ba (by decide), own_keptI h.oc hg (fun _ hk => own_diff h.oc h.od hk), blk_keptL h.od hg h.b8 (by decide), ho, own_keptI h.oe hg (fun _ hk => own_diff h.oe h.od hk), h.lc, h.h1, h.h2,
    h.bl.grown hg h.bl.size (fun k hk => by rw [ownBlock_eq] at hk; exact Nat.le_trans h.h1 (World.ownsRow.lt h.od k (by rw [ownBlock_eq]; exact hk)).1)⟩
theorem EY.markE (h : EY w wr nd A cp ls C cc xs G8 D cd lx E ce xe bC bD bE) {n : Nat} {ye : List Int} (ho : OwI w1 bE E ce ye) (hg : wr.grownBy w1 (Value.slice E n ce).ownBlock) : EY w w1 nd A cp ls C cc xs G8 D cd lx E ce ye bC bD bE :=
  ⟨blk_keptI h.oe hg h.ba (by decide), own_keptI h.oc hg (fun k hk e => by have := h.lc k e; have := (World.ownsRow.lt h.oe k (by rw [ownBlock_eq]; exact hk)).1; omega), blk_keptI h.oe hg h.b8 (by decide), own_keptL h.od hg (fun k hk e => own_diff h.oe h.od e hk), ho, h.lc, h.h1, h.h2,
    h.bl.grown hg h.bl.size (fun k hk => by rw [ownBlock_eq] at hk; exact Nat.le_trans h.h2 (World.ownsRow.lt h.oe k (by rw [ownBlock_eq]; exact hk)).1)⟩
theorem EY.cells (h : EY w wr nd A cp ls C cc xs G8 D cd lx E ce xe bC bD bE) :
    wr.cell? ⟨w.heap.size, 0, none⟩ = some (.int .i64 nd) ∧ wr.cell? ⟨w.heap.size, 1, none⟩ = some (.slice A ls.length cp) ∧ wr.cell? ⟨G8, 0, none⟩ = some (.int .i64 nd) ∧ wr.cell? ⟨G8, 1, none⟩ = some (.slice D ls.length cd) :=
  ⟨h.ba.cellAt 0, h.ba.cellAt 1, h.b8.cellAt 0, h.b8.cellAt 1⟩
theorem EY.ra (h : EY w wr nd A cp ls C cc xs G8 D cd lx E ce xe bC bD bE) (hr : RdL w w.heap.size A ls) : RdL wr wr.heap.size A ls := (hr.keep h.bl).more h.bl.size

end Go.Proofs.Ytnndnpckkcgfiaa
