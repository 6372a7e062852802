/-
  An argument that is a slice of the laws' own labels, opened. No function's code in sight.
-/
import Derived.Test.YtnmmacfchmmkkaaSA
import Derived.Test.YtnmmacfchmmkkaaWG
namespace Go.Proofs.Ytnmmacfchmmkkaa
open Go.ChangeShapes Go.WideShapes Go.ChangeAt Go.RowKit
open Go.Deep (oneCellFields hone_of)
set_option maxRecDepth 100000

section
variable {H : Type} {enc : TypeId × Value → H} {P : Program} {w : World} {base : Nat} {spare : Nat → Bool} {held : Bool}
theorem open_pairs {t e : TypeId} {f0 f1 : Field} {fuel : Nat} {v : Value} {y : DataW H × List MemPlace} (ht : P.underlying t = some (.slice e)) (he : P.underlying e = some (.struct #[f0, f1]))
    (hone : oneCellFields P #[f0, f1] = true) (hC : P.cellsOf e = 2) (i0 : P.underlying f0.type = some (.int .i64)) (i1 : P.underlying f1.type = some (.int .i64))
    (h : DataW.trod enc P w base spare held fuel t [v] = some y) :
    ∃ A cp xs, v = .slice A xs.length cp ∧ RdP w w.heap.size A xs ∧ xs.length ≤ 9223372036854775807 := by
  rcases Go.Deep.open_slice ht h with ⟨hcs, _⟩ | ⟨a, len, cap, m, n, D, Pl, hcs, hb, hl, hm, hmm, hx, hi⟩
  · simp only [List.cons.injEq, and_true] at hcs
    exact ⟨none, 0, [], hcs, fun h0 => by simp at h0, by simp⟩
  · simp only [List.cons.injEq, and_true] at hcs
    have hlm : len ≤ m := by rw [hmm]; split <;> omega
    have hcell : ∀ i, ∃ l : Lab, i < m → w.cell? (a.add (i * 2)) = some (.int .i64 l.k) ∧ w.cell? (a.add (i * 2 + 1)) = some (.int .i64 l.a) := by
      intro i
      by_cases him : i < m
      · obtain ⟨cs', hc, ht'⟩ := hi i him
        rw [hC] at hc
        obtain ⟨ys, n', hn', hy, hlen, hyl, hf⟩ := DataW.trod_struct he ht'
        obtain ⟨_, hcl, hat⟩ := World.cells?_some hc
        obtain ⟨o0, k0⟩ := hone_of hone 0 f0 rfl
        obtain ⟨o1, k1⟩ := hone_of hone 1 f1 rfl
        match cs', hcl with
        | [c0, c1], _ =>
          have g0 := hf 0 f0 rfl
          have g1 := hf 1 f1 rfl
          have hys : ys.length = 2 := by simpa using hyl
          rw [List.getElem?_eq_getElem (by omega)] at g0 g1
          rw [o0, k0] at g0
          rw [o1, k1] at g1
          obtain ⟨x, e0, _⟩ := DataW.trod_int i0 g0
          obtain ⟨x', e1, _⟩ := DataW.trod_int i1 g1
          simp at e0 e1
          have a0 := hat 0 (by omega)
          have a1 := hat 1 (by omega)
          rw [Go.Deep.add_add] at a0 a1
          simp only [List.getElem?_cons_zero, List.getElem?_cons_succ, Nat.add_zero] at a0 a1
          exact ⟨⟨x, x'⟩, fun _ => ⟨by rw [a0, e0], by rw [a1, e1]⟩⟩
      · exact ⟨dlab, fun h' => absurd h' him⟩
    let F : Nat → Lab := fun i => (hcell i).choose
    have hF : ∀ i, i < m → w.cell? (a.add (i * 2)) = some (.int .i64 (F i).k) ∧ w.cell? (a.add (i * 2 + 1)) = some (.int .i64 (F i).a) := fun i => (hcell i).choose_spec
    refine ⟨some a, cap, (List.range len).map F, by rw [hcs]; simp, fun h0 => ?_, by simp; unfold maxLen at hm; omega⟩
    have hlen : 0 < len := by simpa using h0
    have h00 := (hF 0 (by omega)).1
    obtain ⟨g, o, rfl⟩ := addr_of_cell (k := 0) h00 ⟨_, h00⟩
    refine ⟨g, o, rfl, World.block_lt_of_cell? w (⟨g, o, none⟩ : Addr) (by simpa [Addr.add] using h00), fun k hk => ?_⟩
    have hk' : k < len := by simpa using hk
    obtain ⟨c1, c2⟩ := hF k (by omega)
    rw [add_at] at c1 c2
    have ea : Kk ((List.range len).map F) k = (F k).k := by simp [Kk, hk']
    have eb : Ka ((List.range len).map F) k = (F k).a := by simp [Ka, hk']
    rw [ea, eb]
    exact ⟨c1, c2⟩
end

theorem open_labels {H : Type} {enc : TypeId × Value → H} {W : World} {base b0 : Nat} {spare : Nat → Bool} {held : Bool} {r : Reach} {v : Value} {d : DataW H} {p : List MemPlace}
    (hv : Value.okWide Try.prog W r b0 25 v) (h : DataW.Trod enc Try.prog W base spare held 25 v d p) :
    ∃ A cp xs, v = .slice A xs.length cp ∧ RdP W W.heap.size A xs ∧ xs.length ≤ 9223372036854775807 := by
  obtain ⟨a0, len0, cap0, rfl⟩ := okWide_slice Try.underlying25 hv
  obtain ⟨fuel, hf⟩ := h
  exact open_pairs Try.underlying25 Try.underlying47 (by kernel_rfl) (by kernel_rfl) Try.underlying3 Try.underlying3 hf

end Go.Proofs.Ytnmmacfchmmkkaa
