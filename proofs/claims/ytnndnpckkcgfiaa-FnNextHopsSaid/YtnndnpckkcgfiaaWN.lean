/-
  An argument that is a slice of bytes, opened. No function's code in sight.
-/
import Derived.Test.YtnndnpckkcgfiaaWM
namespace Go.Proofs.Ytnndnpckkcgfiaa
open Go.ChangeShapes Go.WideShapes Go.ChangeAt Go.RowKit
set_option maxRecDepth 100000

def w_cell (W : World) (a : Addr) (z : Int) : Prop := W.cell? a = some (.int .u8 z) ∧ 0 ≤ z ∧ z ≤ 255
theorem open_bytes {H : Type} {enc : TypeId × Value → H} {W : World} {base b0 : Nat} {spare : Nat → Bool} {held : Bool} {r : Reach} {v : Value} {d : DataW H} {p : List MemPlace}
    (hv : Value.okWide Try.prog W r b0 22 v) (h : DataW.Trod enc Try.prog W base spare held 22 v d p) :
    ∃ A cp bs, v = .slice A bs.length cp ∧ RdB W W.heap.size A bs ∧ bs.length ≤ 9223372036854775807 ∧ bs.length ≤ cp := by
  obtain ⟨a0, len0, cap0, rfl⟩ := okWide_slice Try.underlying22 hv
  obtain ⟨fuel, hf⟩ := h
  rcases Go.Deep.open_slice Try.underlying22 hf with ⟨hcs, _⟩ | ⟨a, len, cap, m, n, D, Pl, hcs, hb, hl, hm, hmm, hx, hi⟩
  · simp [Value.cells] at hcs
    obtain ⟨rfl, rfl, rfl⟩ := hcs
    exact ⟨none, 0, [], rfl, fun h0 => by simp at h0, by simp, by simp⟩
  · simp [Value.cells] at hcs
    obtain ⟨rfl, rfl, rfl⟩ := hcs
    have hC : Try.prog.cellsOf 5 = 1 := by kernel_rfl
    have hlm : len0 ≤ m := by rw [hmm]; split <;> omega
    have hcell : ∀ i, ∃ z : Int, i < m → w_cell W (a.add (i * 1)) z := by
      intro i
      by_cases him : i < m
      · obtain ⟨cs', hc, ht'⟩ := hi i him
        rw [hC] at hc
        obtain ⟨_, hcl, hat⟩ := World.cells?_some hc
        obtain ⟨z, e0, _, hwf⟩ := DataW.trod_int Try.underlying5 ht'
        have h0 := hat 0 (by omega)
        rw [e0] at h0
        have hb := bounds_u8 hwf
        exact ⟨z, fun _ => ⟨by simpa [Go.Deep.add_add] using h0, hb⟩⟩
      · exact ⟨0, fun h' => absurd h' him⟩
    let F : Nat → Int := fun i => (hcell i).choose
    have hF : ∀ i, i < m → w_cell W (a.add (i * 1)) (F i) := fun i => (hcell i).choose_spec
    refine ⟨some a, cap0, (List.range len0).map F, by simp, fun h0 => ?_, by simp; unfold maxLen at hm; omega, by simpa using hl⟩
    have hlen : 0 < len0 := by simpa using h0
    have h00 := (hF 0 (by omega)).1
    obtain ⟨g, o, rfl⟩ := addr_of_cell (k := 0) h00 ⟨_, h00⟩
    refine ⟨g, o, rfl, World.block_lt_of_cell? W (⟨g, o, none⟩ : Addr) (by simpa [Addr.add] using h00), fun k hk => ?_⟩
    have hk' : k < len0 := by simpa using hk
    have c1 := hF k (by omega)
    have ea : Ix ((List.range len0).map F) k = F k := by simp [Ix, hk']
    rw [ea]
    unfold w_cell at c1
    rw [add_at, Nat.mul_one] at c1
    exact c1

end Go.Proofs.Ytnndnpckkcgfiaa
