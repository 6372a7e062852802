/-
  What Affected lists: whose distance is another.
-/
import Derived.Test.YtkcapoobbnmdaaaEI
namespace Go.Proofs.Ytkcapoobbnmdaaa

theorem affO_iff {nd : Int} {ls : List Lk} {f k c : Int} (h : Valid nd ls ∧ Lnk ls k ∧ Cst c) (hf : Nd nd f) {v : Int} : v ∈ affO nd ls f k c ↔ Nd nd v ∧ D nd ls f v ≠ D nd (lsC ls k.toNat c) f v := by
  rw [affO_yes h hf]
  unfold aff
  rw [mem_upTo]
  constructor
  · rintro ⟨j, hj, hp, rfl⟩
    unfold affB at hp
    simp only [decide_eq_true_eq] at hp
    exact ⟨⟨by omega, by omega⟩, hp⟩
  · rintro ⟨hv, hp⟩
    obtain ⟨v', rfl⟩ := Int.eq_ofNat_of_zero_le hv.1
    have := hv.2
    exact ⟨v', by omega, by unfold affB; simp only [decide_eq_true_eq]; exact hp, rfl⟩
theorem affO_fit {nd : Int} {ls : List Lk} {f k c v : Int} (hm : v ∈ affO nd ls f k c) : (Valid nd ls ∧ Lnk ls k ∧ Cst c) ∧ Nd nd f ∧ Nd nd v ∧ D nd ls f v ≠ D nd (lsC ls k.toNat c) f v := by
  by_cases h : Valid nd ls ∧ Lnk ls k ∧ Cst c ∧ Nd nd f
  · have h' : Valid nd ls ∧ Lnk ls k ∧ Cst c := ⟨h.1, h.2.1, h.2.2.1⟩
    have := (affO_iff h' h.2.2.2).1 hm
    exact ⟨h', h.2.2.2, this.1, this.2⟩
  · rw [affO_no h] at hm; simp at hm
/-- the same cost: nobody -/
theorem aff_none (nd : Int) (ls : List Lk) (f k : Int) : affO nd ls f k (Lc ls k.toNat) = [] := by
  refine List.eq_nil_iff_forall_not_mem.2 (fun v hv => ?_)
  have := (affO_fit hv).2.2.2
  rw [lsC_same] at this
  exact this rfl
/-- a node is not affected as seen from itself -/
theorem aff_self (nd : Int) (ls : List Lk) (f k c : Int) : f ∉ affO nd ls f k c := fun hm => by
  obtain ⟨⟨hv, hk, hc⟩, hf, _, h⟩ := affO_fit hm
  rw [D_self hv hf, D_self (hv.lsC hc.1 hc.2) hf] at h
  exact h rfl
theorem aff_back1 {nd : Int} {ls : List Lk} {f n k c : Int} (hm : n ∈ affO nd ls f k c) : f ∈ affO nd ls n k c := by
  obtain ⟨h, hf, hn, hd⟩ := affO_fit hm
  refine (affO_iff h hn).2 ⟨hf, ?_⟩
  rw [D_symm h.1 hn hf, D_symm (h.1.lsC h.2.2.1 h.2.2.2) hn hf]
  exact hd
theorem aff_back (nd : Int) (ls : List Lk) (f n k c : Int) : decide (n ∈ affO nd ls f k c) = decide (f ∈ affO nd ls n k c) := by
  rw [Bool.eq_iff_iff, decide_eq_true_eq, decide_eq_true_eq]
  exact ⟨aff_back1, aff_back1⟩

end Go.Proofs.Ytkcapoobbnmdaaa
