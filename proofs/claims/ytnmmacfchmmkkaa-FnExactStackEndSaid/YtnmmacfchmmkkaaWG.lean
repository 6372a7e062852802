/-
  An argument that is a graph of the laws' own make, opened: a number of nodes, and a slice that reads as a list of links. No function's code in sight.
-/
import Derived.Test.YtnmmacfchmmkkaaWF
import Derived.Test.YtnmmacfchmmkkaaKI
import Derived.ProofKit
import Derived.OpenShut
import Derived.ShutString
import Derived.ChangeOld
import Derived.Lib.SmallJoins
import Derived.Deep.Slices
import Derived.Deep.Fields
import Derived.ChangeSame
namespace Go.Proofs.Ytnmmacfchmmkkaa
open Go.ChangeShapes Go.WideShapes Go.ChangeAt Go.RowKit
open Go.Deep (oneCellFields hone_of)

theorem addr_of_cell {w : World} {a : Addr} {k : Nat} {v : Value} (h : w.cell? (a.add k) = some v) (h0 : ∃ u, w.cell? (a.add 0) = some u) : ∃ g o, a = ⟨g, o, none⟩ := by
  obtain ⟨u, hu⟩ := h0
  obtain ⟨g, o, s⟩ := a
  simp only [Addr.add, if_true] at hu
  unfold World.cell? at hu
  cases s with
  | none => exact ⟨g, o, rfl⟩
  | some x =>
    simp only [Option.isSome_some, if_true] at hu
    split at hu <;> simp at hu
theorem add_at (g o k : Nat) : (⟨g, o, none⟩ : Addr).add k = ⟨g, o + k, none⟩ := by
  unfold Addr.add; split <;> simp_all

section
variable {H : Type} {enc : TypeId × Value → H} {P : Program} {w : World} {base : Nat} {spare : Nat → Bool} {held : Bool}
theorem open_links {t e : TypeId} {f0 f1 f2 : Field} {fuel : Nat} {v : Value} {y : DataW H × List MemPlace} (ht : P.underlying t = some (.slice e)) (he : P.underlying e = some (.struct #[f0, f1, f2]))
    (hone : oneCellFields P #[f0, f1, f2] = true) (hC : P.cellsOf e = 3) (i0 : P.underlying f0.type = some (.int .i64)) (i1 : P.underlying f1.type = some (.int .i64)) (i2 : P.underlying f2.type = some (.int .i64))
    (h : DataW.trod enc P w base spare held fuel t [v] = some y) :
    ∃ A cp ls, v = .slice A ls.length cp ∧ RdL w w.heap.size A ls ∧ ls.length ≤ 9223372036854775807 := by
  rcases Go.Deep.open_slice ht h with ⟨hcs, _⟩ | ⟨a, len, cap, m, n, D, Pl, hcs, hb, hl, hm, hmm, hx, hi⟩
  · simp only [List.cons.injEq, and_true] at hcs
    exact ⟨none, 0, [], hcs, fun h0 => by simp at h0, by simp⟩
  · simp only [List.cons.injEq, and_true] at hcs
    have hlm : len ≤ m := by rw [hmm]; split <;> omega
    have hcell : ∀ i, ∃ l : Lk, i < m → w.cell? (a.add (i * 3)) = some (.int .i64 l.a) ∧ w.cell? (a.add (i * 3 + 1)) = some (.int .i64 l.b) ∧ w.cell? (a.add (i * 3 + 2)) = some (.int .i64 l.c) := by
      intro i
      by_cases him : i < m
      · obtain ⟨cs', hc, ht'⟩ := hi i him
        rw [hC] at hc
        obtain ⟨ys, n', hn', hy, hlen, hyl, hf⟩ := DataW.trod_struct he ht'
        obtain ⟨_, hcl, hat⟩ := World.cells?_some hc
        obtain ⟨o0, k0⟩ := hone_of hone 0 f0 rfl
        obtain ⟨o1, k1⟩ := hone_of hone 1 f1 rfl
        obtain ⟨o2, k2⟩ := hone_of hone 2 f2 rfl
        match cs', hcl with
        | [c0, c1, c2], _ =>
          have g0 := hf 0 f0 rfl
          have g1 := hf 1 f1 rfl
          have g2 := hf 2 f2 rfl
          have hys : ys.length = 3 := by simpa using hyl
          rw [List.getElem?_eq_getElem (by omega)] at g0 g1 g2
          rw [o0, k0] at g0
          rw [o1, k1] at g1
          rw [o2, k2] at g2
          obtain ⟨x, e0, _⟩ := DataW.trod_int i0 g0
          obtain ⟨x', e1, _⟩ := DataW.trod_int i1 g1
          obtain ⟨x'', e2, _⟩ := DataW.trod_int i2 g2
          simp at e0 e1 e2
          have a0 := hat 0 (by omega)
          have a1 := hat 1 (by omega)
          have a2 := hat 2 (by omega)
          rw [Go.Deep.add_add] at a0 a1 a2
          simp only [List.getElem?_cons_zero, List.getElem?_cons_succ, Nat.add_zero] at a0 a1 a2
          exact ⟨⟨x, x', x''⟩, fun _ => ⟨by rw [a0, e0], by rw [a1, e1], by rw [a2, e2]⟩⟩
      · exact ⟨dk, fun h' => absurd h' him⟩
    let F : Nat → Lk := fun i => (hcell i).choose
    have hF : ∀ i, i < m → w.cell? (a.add (i * 3)) = some (.int .i64 (F i).a) ∧ w.cell? (a.add (i * 3 + 1)) = some (.int .i64 (F i).b) ∧ w.cell? (a.add (i * 3 + 2)) = some (.int .i64 (F i).c) := fun i => (hcell i).choose_spec
    refine ⟨some a, cap, (List.range len).map F, by rw [hcs]; simp, fun h0 => ?_, by simp; unfold maxLen at hm; omega⟩
    have hlen : 0 < len := by simpa using h0
    have h00 := (hF 0 (by omega)).1
    obtain ⟨g, o, rfl⟩ := addr_of_cell (k := 0) h00 ⟨_, h00⟩
    refine ⟨g, o, rfl, World.block_lt_of_cell? w (⟨g, o, none⟩ : Addr) (by simpa [Addr.add] using h00), fun k hk => ?_⟩
    have hk' : k < len := by simpa using hk
    obtain ⟨c1, c2, c3⟩ := hF k (by omega)
    rw [add_at] at c1 c2 c3
    have ea : La ((List.range len).map F) k = (F k).a := by simp [La, hk']
    have eb : Lb ((List.range len).map F) k = (F k).b := by simp [Lb, hk']
    have ec : Lc ((List.range len).map F) k = (F k).c := by simp [Lc, hk']
    rw [ea, eb, ec]
    exact ⟨c1, c2, c3⟩
end

set_option maxRecDepth 100000 in
/-- a graph that came in as an argument of a law -/
theorem open_graph {H : Type} {enc : TypeId × Value → H} {W : World} {base b0 : Nat} {spare : Nat → Bool} {held : Bool} {r : Reach} {v : Value} {d : DataW H} {p : List MemPlace}
    (hv : Value.okWide Try.prog W r b0 24 v) (h : DataW.Trod enc Try.prog W base spare held 24 v d p) :
    ∃ nd A cp ls, v = .agg #[.int .i64 nd, .slice A ls.length cp] ∧ RdL W W.heap.size A ls ∧ ls.length ≤ 9223372036854775807 := by
  obtain ⟨v0, v1, y0, y1, m, rfl, rfl, rfl, h0, h1⟩ := Go.Joins.open_agg2 Try.underlying24 (by kernel_rfl) (by kernel_rfl) hv h
  obtain ⟨nd, e0, _⟩ := DataW.trod_int Try.underlying3 h0
  obtain ⟨A, cp, ls, rfl, hr, hl⟩ := open_links Try.underlying22 Try.underlying56 (by kernel_rfl) (by kernel_rfl) Try.underlying3 Try.underlying3 Try.underlying3 h1
  simp at e0
  subst e0
  exact ⟨nd, A, cp, ls, rfl, hr, hl⟩

end Go.Proofs.Ytnmmacfchmmkkaa
