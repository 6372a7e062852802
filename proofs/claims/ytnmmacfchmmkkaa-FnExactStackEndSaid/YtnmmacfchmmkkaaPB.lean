/-
  Plain lists and integers: the place of the link between two nodes.
-/
import Derived.Test.YtnmmacfchmmkkaaPA
namespace Go.Proofs.Ytnmmacfchmmkkaa

/-- link k joins a and b -/
def Hit (ls : List Lk) (a b : Int) (k : Nat) : Prop := La ls k = min a b ∧ Lb ls k = max a b
/-- r is the place of the first link between a and b, -1 if there is none -/
def IsIx (ls : List Lk) (a b r : Int) : Prop :=
  (r = -1 ∧ ∀ k, k < ls.length → ¬ Hit ls a b k) ∨ (∃ k : Nat, k < ls.length ∧ r = k ∧ Hit ls a b k ∧ ∀ j, j < k → ¬ Hit ls a b j)
theorem IsIx.uniq {ls : List Lk} {a b r s : Int} (h : IsIx ls a b r) (k : IsIx ls a b s) : r = s := by
  rcases h with ⟨h1, h2⟩ | ⟨i, h1, h2, h3, h4⟩ <;> rcases k with ⟨k1, k2⟩ | ⟨j, k1, k2, k3, k4⟩
  · omega
  · exact absurd k3 (h2 j k1)
  · exact absurd h3 (k2 i h1)
  · rcases Nat.lt_trichotomy i j with e | e | e
    · exact absurd h3 (k4 i e)
    · omega
    · exact absurd k3 (h4 j e)
theorem isIx_exists (ls : List Lk) (a b : Int) : ∃ r, IsIx ls a b r := by
  have : ∀ n, n ≤ ls.length → (∀ k, k < n → ¬ Hit ls a b k) ∨ (∃ k : Nat, k < n ∧ Hit ls a b k ∧ ∀ j, j < k → ¬ Hit ls a b j) := by
    intro n
    induction n with
    | zero => exact fun _ => .inl (fun k hk => by omega)
    | succ n ih =>
      intro hn
      rcases ih (by omega) with h | ⟨k, h1, h2, h3⟩
      · by_cases hh : Hit ls a b n
        · exact .inr ⟨n, by omega, hh, h⟩
        · refine .inl (fun k hk => ?_)
          rcases Nat.lt_or_ge k n with h' | h'
          · exact h k h'
          · obtain rfl : k = n := by omega
            exact hh
      · exact .inr ⟨k, by omega, h2, h3⟩
  rcases this ls.length (Nat.le_refl _) with h | ⟨k, h1, h2, h3⟩
  · exact ⟨-1, .inl ⟨rfl, h⟩⟩
  · exact ⟨k, .inr ⟨k, h1, rfl, h2, h3⟩⟩
noncomputable def lkIx (ls : List Lk) (a b : Int) : Int := (isIx_exists ls a b).choose
theorem lkIx_is (ls : List Lk) (a b : Int) : IsIx ls a b (lkIx ls a b) := (isIx_exists ls a b).choose_spec
theorem lkIx_eq {ls : List Lk} {a b r : Int} (h : IsIx ls a b r) : r = lkIx ls a b := h.uniq (lkIx_is _ _ _)
theorem lkIx_comm (ls : List Lk) (a b : Int) : lkIx ls a b = lkIx ls b a := by
  have h := lkIx_is ls a b
  have e : IsIx ls b a (lkIx ls a b) := by
    unfold IsIx Hit at *
    rw [Int.min_comm b a, Int.max_comm b a]
    exact h
  exact lkIx_eq e
theorem lkIx_range (ls : List Lk) (a b : Int) : -1 ≤ lkIx ls a b ∧ lkIx ls a b < ls.length := by
  rcases lkIx_is ls a b with ⟨h, _⟩ | ⟨k, h1, h2, _⟩ <;> omega
theorem lkIx_hit {ls : List Lk} {a b : Int} (h : 0 ≤ lkIx ls a b) : (lkIx ls a b).toNat < ls.length ∧ Hit ls a b (lkIx ls a b).toNat := by
  rcases lkIx_is ls a b with ⟨h', _⟩ | ⟨k, h1, h2, h3, _⟩
  · omega
  · rw [h2]; exact ⟨by omega, by simpa using h3⟩
/-- between fit links no two join the same nodes -/
theorem hit_uniq {nd : Int} {ls : List Lk} (hv : Valid nd ls) {a b : Int} {j k : Nat} (hj : j < ls.length) (hk : k < ls.length) (h1 : Hit ls a b j) (h2 : Hit ls a b k) : j = k := by
  unfold Hit at h1 h2
  rcases Nat.lt_trichotomy j k with e | e | e
  · have := hv.lt e hk; unfold LkLt at this; omega
  · exact e
  · have := hv.lt e hj; unfold LkLt at this; omega
theorem lkIx_of_hit {nd : Int} {ls : List Lk} (hv : Valid nd ls) {a b : Int} {k : Nat} (hk : k < ls.length) (h : Hit ls a b k) : lkIx ls a b = k := by
  refine (lkIx_eq (.inr ⟨k, hk, rfl, h, fun j hj hh => ?_⟩)).symm
  have := hit_uniq hv (by omega) hk hh h
  omega
theorem hit_iff {nd : Int} {ls : List Lk} (hv : Valid nd ls) {a b : Int} {k : Nat} (hk : k < ls.length) : Hit ls a b k ↔ (La ls k = a ∧ Lb ls k = b) ∨ (La ls k = b ∧ Lb ls k = a) := by
  have := hv.ok hk
  unfold LkOk at this
  unfold Hit
  omega
/-- a link of the graph joins the two nodes just where there is a place -/
theorem adj_iff {nd : Int} {ls : List Lk} (hv : Valid nd ls) {u v c : Int} : Adj ls u v c ↔ 0 ≤ lkIx ls u v ∧ Lc ls (lkIx ls u v).toNat = c := by
  constructor
  · rintro ⟨k, hk, ho, hc⟩
    have := lkIx_of_hit hv hk ((hit_iff hv hk).2 ho)
    rw [this]
    exact ⟨by omega, by simpa using hc⟩
  · rintro ⟨h, hc⟩
    obtain ⟨h1, h2⟩ := lkIx_hit h
    exact ⟨_, h1, (hit_iff hv h1).1 h2, hc⟩

end Go.Proofs.Ytnmmacfchmmkkaa
