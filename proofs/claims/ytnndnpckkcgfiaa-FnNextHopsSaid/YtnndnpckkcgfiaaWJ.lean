/-
  The walk of the draw of a graph: a slice of at most fourteen links that the call itself has made.
-/
import Derived.Test.YtnndnpckkcgfiaaWI
import Derived.Deep.CutRange
import Derived.Deep.DeepCutAuto
namespace Go.Proofs.Ytnndnpckkcgfiaa
open Go.RowKit

theorem own_ne {w : World} {base : Nat} {A : Option Addr} {cp : Nat} {ls : List Lk} (h : OwL w base A cp ls) {g : Nat} {t : TypeId} {cs : List Value} (hb : Blk w g t cs) (hne : t ≠ 52) : (Value.slice A ls.length cp).ownBlock ≠ some g := by
  rcases h.2 with ⟨hn, _⟩ | ⟨g', cap, cur, hv, _, hh, _⟩
  · rw [hn]; simp [Value.ownBlock]
  · rw [hv]
    intro he
    have : g' = g := by simpa [Value.ownBlock] using he
    subst this
    unfold Blk at hb
    rw [hb] at hh
    injection hh with hh
    injection hh with _ ht
    exact hne ht
theorem Blk.grown {w w' : World} {g : Nat} {t : TypeId} {cs : List Value} {row : Option Nat} (h : Blk w g t cs) (hg : w.grownBy w' row) (hne : row ≠ some g) : Blk w' g t cs :=
  (hg.block g h.lt (fun e => hne e.symm)).trans h
theorem Rdr.grown {w w' : World} {R M : Nat} {row : Option Nat} (h : Rdr w R M) (hg : w.grownBy w' row) (hne : ∀ k, row = some k → R < k) : Rdr w' R M := by
  obtain ⟨A, bs, cp, p, h1, h2, h3, h4⟩ := h
  have hb : Below (R + 1) w w' := ⟨hg.os, hg.tape, hg.output, hg.size, fun k hk => hg.block k (by have := h1.lt; omega) (fun e => by have := hne k e.symm; omega)⟩
  exact ⟨A, bs, cp, p, (hb.block R (by omega)).trans h1, h2.keep (hb.mono (by omega)), h3, h4⟩
theorem own_push {w : World} {base g cap : Nat} {ls : List Lk} {l : Lk} (h : w.ownsRow base 52 3 (.slice (some ⟨g, 0, none⟩) (ls.length + 1) cap) (ls.length + 1) (cellsL ls ++ [.int .i64 l.a, .int .i64 l.b, .int .i64 l.c])) :
    OwL w base (some ⟨g, 0, none⟩) cap (ls ++ [l]) := by
  unfold OwL
  rw [cellsL_append, List.length_append]
  exact h

/-- a graph under way in the variable at block G, the reader at block R, the call's first block H -/
structure GS (w wr : World) (R M G : Nat) (nd : Int) (A : Option Addr) (cp : Nat) (ls : List Lk) : Prop where
  rd : Rdr wr R M
  g : Blk wr G 25 [.int .i64 nd, .slice A ls.length cp]
  h : Blk wr w.heap.size 25 [.int .i64 0, .slice none 0 0]
  own : OwL wr w.heap.size A cp ls
  gr : w.grownBy wr (some R)
  rh : R < w.heap.size
  hg : w.heap.size < G

theorem GS.pick {w wr w1 : World} {R M G : Nat} {nd : Int} {A : Option Addr} {cp : Nat} {ls : List Lk} (h : GS w wr R M G nd A cp ls) (hr : Rdr w1 R (M + 1)) (hg : wr.grownBy w1 (some R)) : GS w w1 R (M + 1) G nd A cp ls := by
  have h1 := h.rh
  have h2 := h.hg
  refine ⟨hr, h.g.grown hg (by simp; omega), h.h.grown hg (by simp; omega), ?_, gtrans h.gr hg, h1, h2⟩
  obtain ⟨A', bs, cp', p, k1, _⟩ := h.rd
  exact World.ownsRow.kept h.own hg (.inr (own_ne h.own k1 (by decide)))
theorem GS.keep {w wr w1 : World} {R M G : Nat} {nd : Int} {A : Option Addr} {cp : Nat} {ls : List Lk} (h : GS w wr R M G nd A cp ls) (hb : Below wr.heap.size wr w1) : GS w w1 R M G nd A cp ls :=
  ⟨h.rd.keep hb, h.g.keep hb, h.h.keep hb, h.own.keep hb, gtrans h.gr (gbelow hb _), h.rh, h.hg⟩
theorem GS.more {w wr : World} {R M M' G : Nat} {nd : Int} {A : Option Addr} {cp : Nat} {ls : List Lk} (h : GS w wr R M G nd A cp ls) (hM : M ≤ M') : GS w wr R M' G nd A cp ls :=
  ⟨h.rd.more hM, h.g, h.h, h.own, h.gr, h.rh, h.hg⟩
theorem GS.nodes {w wr : World} {R M G : Nat} {nd : Int} {A : Option Addr} {cp : Nat} {ls : List Lk} (h : GS w wr R M G nd A cp ls) (x : Int) : GS w (wr.setCell ⟨G, 0, none⟩ (.int .i64 x)) R M G x A cp ls := by
  have h1 := h.rh
  have h2 := h.hg
  have hb : Below G wr (wr.setCell ⟨G, 0, none⟩ (.int .i64 x)) := Below.setCell (p := ⟨G, 0, none⟩) (Below.refl _ _) (Nat.le_refl _) _
  have hgr : wr.grownBy (wr.setCell ⟨G, 0, none⟩ (.int .i64 x)) (some G) := ⟨rfl, rfl, rfl, by simp [World.setCell], fun k hk hne => Below.heap_setCell _ _ _ _ (by rintro rfl; exact hne rfl)⟩
  refine ⟨h.rd.grown hgr (by intro k e; injection e; omega), h.g.stored 0 _, h.h.far (p := ⟨G, 0, none⟩) (by simp; omega) _, World.ownsRow.kept h.own hgr (.inr (own_ne h.own h.g (by decide))), ?_, h1, h2⟩
  exact ⟨h.gr.os, h.gr.tape, h.gr.output, Nat.le_trans h.gr.size hgr.size, fun k hk hne => (hb.block k (by omega)).trans (h.gr.block k hk hne)⟩
/-- behind an append, and the store of what it gave -/
theorem GS.push {w wr w2 : World} {R M G : Nat} {nd : Int} {A : Option Addr} {cp : Nat} {ls : List Lk} (h : GS w wr R M G nd A cp ls) {g cap : Nat} {a b c : Int}
    (hown : w2.ownsRow w.heap.size 52 3 (.slice (some ⟨g, 0, none⟩) (ls.length + 1) cap) (ls.length + 1) (cellsL ls ++ [.int .i64 a, .int .i64 b, .int .i64 c]))
    (hgr : wr.grownBy w2 (Value.slice A ls.length cp).ownBlock) :
    GS w (w2.setCell ⟨G, 1, none⟩ (.slice (some ⟨g, 0, none⟩) (ls.length + 1) cap)) R M G nd (some ⟨g, 0, none⟩) cap (ls ++ [⟨a, b, c⟩]) := by
  have h1 := h.rh
  have h2 := h.hg
  have hl := World.ownsRow.lt h.own
  have hG : Blk w2 G 25 [.int .i64 nd, .slice A ls.length cp] := h.g.grown hgr (own_ne h.own h.g (by decide))
  have hH : Blk w2 w.heap.size 25 [.int .i64 0, .slice none 0 0] := h.h.grown hgr (own_ne h.own h.h (by decide))
  have hR : Rdr w2 R M := h.rd.grown hgr (fun k hk => by have := hl k hk; omega)
  have ho := own_push (l := ⟨a, b, c⟩) hown
  have hs : w2.grownBy (w2.setCell ⟨G, 1, none⟩ (.slice (some ⟨g, 0, none⟩) (ls.length + 1) cap)) (some G) := ⟨rfl, rfl, rfl, by simp [World.setCell], fun k hk hne => Below.heap_setCell _ _ _ _ (by rintro rfl; exact hne rfl)⟩
  refine ⟨hR.grown hs (by intro k e; injection e; omega), ?_, hH.far (p := ⟨G, 1, none⟩) (by simp; omega) _, World.ownsRow.kept ho hs (.inr (own_ne ho hG (by decide))), ?_, h1, h2⟩
  · have := hG.stored 1 (.slice (some ⟨g, 0, none⟩) (ls.length + 1) cap)
    rw [List.length_append]
    exact this
  · refine ⟨h.gr.os.symm ▸ hgr.os ▸ rfl, ?_, ?_, ?_, ?_⟩
    · exact hgr.tape.trans h.gr.tape
    · exact hgr.output.trans h.gr.output
    · exact Nat.le_trans h.gr.size (Nat.le_trans hgr.size hs.size)
    · intro k hk hne
      rw [hs.block k (Nat.lt_of_lt_of_le hk (Nat.le_trans h.gr.size hgr.size)) (by simp; omega), hgr.block k (Nat.lt_of_lt_of_le hk h.gr.size) (fun e => by have := hl k e.symm; omega)]
      exact h.gr.block k hk hne

/-- what holds of the reader, and of old memory, whatever else -/
def Kept (w w1 : World) (R M : Nat) : Prop := Rdr w1 R M ∧ w.grownBy w1 (some R)
theorem Kept.st {w w1 : World} {R M : Nat} (h : Kept w w1 R M) {p : Addr} (hp : w.heap.size ≤ p.block) (hR : R < p.block) (u : Value) : Kept w (w1.setCell p u) R M := by
  have hgr : w1.grownBy (w1.setCell p u) (some p.block) := ⟨rfl, rfl, rfl, by simp [World.setCell], fun k hk hne => Below.heap_setCell _ _ _ _ (by rintro rfl; exact hne rfl)⟩
  refine ⟨h.1.grown hgr (by intro k e; injection e; omega), h.2.os, h.2.tape, h.2.output, Nat.le_trans h.2.size hgr.size, fun k hk hne => ?_⟩
  rw [Below.heap_setCell _ _ _ _ (by omega)]
  exact h.2.block k hk hne
theorem Kept.keep {w w1 w2 : World} {R M : Nat} (h : Kept w w1 R M) (hb : Below w1.heap.size w1 w2) : Kept w w2 R M := ⟨h.1.keep hb, gtrans h.2 (gbelow hb _)⟩
theorem GS.kept {w wr : World} {R M G : Nat} {nd : Int} {A : Option Addr} {cp : Nat} {ls : List Lk} (h : GS w wr R M G nd A cp ls) : Kept w wr R M := ⟨h.rd, h.gr⟩
theorem own_st {w : World} {base : Nat} {A : Option Addr} {cp : Nat} {ls : List Lk} (h : OwL w base A cp ls) {g : Nat} {t : TypeId} {cs : List Value} (hb : Blk w g t cs) (hne : t ≠ 52) (i : Nat) (u : Value) :
    OwL (w.setCell ⟨g, i, none⟩ u) base A cp ls := by
  have hgr : w.grownBy (w.setCell ⟨g, i, none⟩ u) (some g) := ⟨rfl, rfl, rfl, by simp [World.setCell], fun k hk hne => Below.heap_setCell _ _ _ _ (by rintro rfl; exact hne rfl)⟩
  exact World.ownsRow.kept h hgr (.inr (own_ne h hb hne))

end Go.Proofs.Ytnndnpckkcgfiaa
