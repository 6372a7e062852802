/-
  Plain lists: the numbers below n that a test lets, ascending; what GraphReach, Affected and Critical list.
-/
import Derived.Test.YtnmmacfchmmkkaaPD
namespace Go.Proofs.Ytnmmacfchmmkkaa

/-- the numbers below n that p lets, in order -/
def upTo (p : Nat → Bool) : Nat → List Int
  | 0 => []
  | k + 1 => if p k then upTo p k ++ [(k : Int)] else upTo p k
theorem upTo_yes {p : Nat → Bool} {k : Nat} (h : p k = true) : upTo p (k + 1) = upTo p k ++ [(k : Int)] := by rw [upTo, if_pos h]
theorem upTo_no {p : Nat → Bool} {k : Nat} (h : p k = false) : upTo p (k + 1) = upTo p k := by rw [upTo, if_neg (by rw [h]; simp)]
theorem upTo_le (p : Nat → Bool) (k : Nat) : (upTo p k).length ≤ k := by
  induction k with
  | zero => simp [upTo]
  | succ k ih =>
    cases h : p k
    · rw [upTo_no h]; omega
    · rw [upTo_yes h, List.length_append, List.length_singleton]; omega
theorem mem_upTo {p : Nat → Bool} {n : Nat} {x : Int} : x ∈ upTo p n ↔ ∃ k : Nat, k < n ∧ p k = true ∧ x = k := by
  induction n with
  | zero => simp [upTo]
  | succ n ih =>
    cases h : p n
    · rw [upTo_no h, ih]
      constructor
      · rintro ⟨k, hk, hp, e⟩; exact ⟨k, by omega, hp, e⟩
      · rintro ⟨k, hk, hp, e⟩
        refine ⟨k, ?_, hp, e⟩
        rcases Nat.lt_or_ge k n with h' | h'
        · exact h'
        · obtain rfl : k = n := by omega
          rw [h] at hp; exact absurd hp (by simp)
    · rw [upTo_yes h, List.mem_append, ih]
      constructor
      · rintro (⟨k, hk, hp, e⟩ | hx)
        · exact ⟨k, by omega, hp, e⟩
        · simp at hx; exact ⟨n, by omega, h, hx⟩
      · rintro ⟨k, hk, hp, e⟩
        rcases Nat.lt_or_ge k n with h' | h'
        · exact .inl ⟨k, h', hp, e⟩
        · obtain rfl : k = n := by omega
          exact .inr (by simp [e])
theorem mem_upTo' {p : Nat → Bool} {n : Nat} {x : Int} (h0 : 0 ≤ x) : x ∈ upTo p n ↔ x < n ∧ p x.toNat = true := by
  rw [mem_upTo]
  constructor
  · rintro ⟨k, hk, hp, rfl⟩; exact ⟨by omega, by simpa using hp⟩
  · rintro ⟨h1, h2⟩; exact ⟨x.toNat, by omega, h2, by omega⟩
theorem upTo_pw (p : Nat → Bool) (n : Nat) : (upTo p n).Pairwise (· < ·) := by
  induction n with
  | zero => simp [upTo]
  | succ n ih =>
    cases h : p n
    · rw [upTo_no h]; exact ih
    · rw [upTo_yes h, List.pairwise_append]
      refine ⟨ih, by simp, fun a ha b hb => ?_⟩
      obtain ⟨k, hk, _, rfl⟩ := mem_upTo.1 ha
      simp at hb
      omega
theorem upTo_nodup (p : Nat → Bool) (n : Nat) : (upTo p n).Nodup := (upTo_pw p n).imp (fun {a b} h => by omega)
theorem upTo_congr {p q : Nat → Bool} {n : Nat} (h : ∀ k, k < n → p k = q k) : upTo p n = upTo q n := by
  induction n with
  | zero => rfl
  | succ n ih =>
    unfold upTo
    rw [ih (fun k hk => h k (by omega)), h n (by omega)]
theorem upTo_more {p : Nat → Bool} {n m : Nat} (hm : n ≤ m) (h : ∀ k, n ≤ k → k < m → p k = false) : upTo p m = upTo p n := by
  induction m with
  | zero => obtain rfl : n = 0 := by omega
            rfl
  | succ m ih =>
    rcases Nat.lt_or_ge m n with h' | h'
    · obtain rfl : n = m + 1 := by omega
      rfl
    · rw [upTo_no (h m h' (by omega)), ih h' (fun k h1 h2 => h k h1 (by omega))]
theorem upTo_nil {p : Nat → Bool} {n : Nat} (h : ∀ k, k < n → p k = false) : upTo p n = [] := by
  have := upTo_more (p := p) (n := 0) (m := n) (Nat.zero_le _) (fun k _ hk => h k hk)
  rw [this]; rfl
theorem upTo_len_mono {p q : Nat → Bool} {n : Nat} (h : ∀ k, k < n → p k = true → q k = true) : (upTo p n).length ≤ (upTo q n).length := by
  induction n with
  | zero => simp [upTo]
  | succ n ih =>
    have h0 := ih (fun k hk => h k (by omega))
    cases hp : p n <;> cases hq : q n
    · rw [upTo_no hp, upTo_no hq]; exact h0
    · rw [upTo_no hp, upTo_yes hq, List.length_append]; omega
    · exact absurd (h n (by omega) hp) (by rw [hq]; simp)
    · rw [upTo_yes hp, upTo_yes hq, List.length_append, List.length_append]; simp; exact h0
theorem upTo_len_lt {p q : Nat → Bool} {n j : Nat} (h : ∀ k, k < n → p k = true → q k = true) (hj : j < n) (h1 : p j = false) (h2 : q j = true) : (upTo p n).length < (upTo q n).length := by
  induction n with
  | zero => omega
  | succ n ih =>
    rcases Nat.lt_or_ge j n with h' | h'
    · have h0 := ih (fun k hk => h k (by omega)) h'
      cases hp : p n <;> cases hq : q n
      · rw [upTo_no hp, upTo_no hq]; exact h0
      · rw [upTo_no hp, upTo_yes hq, List.length_append]; omega
      · exact absurd (h n (by omega) hp) (by rw [hq]; simp)
      · rw [upTo_yes hp, upTo_yes hq, List.length_append, List.length_append]; simp; exact h0
    · obtain rfl : j = n := by omega
      have h0 := upTo_len_mono (p := p) (q := q) (n := j) (fun k hk => h k (by omega))
      rw [upTo_no h1, upTo_yes h2, List.length_append, List.length_singleton]; omega
theorem upTo_get {p : Nat → Bool} {n i : Nat} (hi : i < (upTo p n).length) : ∃ k : Nat, k < n ∧ p k = true ∧ Ix (upTo p n) i = k := by
  have h : (upTo p n)[i] ∈ upTo p n := List.getElem_mem hi
  obtain ⟨k, hk, hp, e⟩ := mem_upTo.1 h
  refine ⟨k, hk, hp, ?_⟩
  rw [← e]; simp [Ix, hi]

/-! ### what is listed -/

def rchB (nd : Int) (ls : List Lk) (n : Int) (k : Nat) : Bool := decide (0 ≤ D nd ls n k)
/-- the nodes that n reaches -/
def rch (nd : Int) (ls : List Lk) (n : Int) : List Int := upTo (rchB nd ls n) nd.toNat
def affB (nd : Int) (ls ms : List Lk) (f : Int) (k : Nat) : Bool := decide (D nd ls f k ≠ D nd ms f k)
/-- the nodes whose distances from f are different in two graphs -/
def aff (nd : Int) (ls ms : List Lk) (f : Int) : List Int := upTo (affB nd ls ms f) nd.toNat
def critB (nd : Int) (ls : List Lk) (k : Nat) : Bool := decide (D nd (lsW ls k) (La ls k) (Lb ls k) < 0)
/-- the links without which their ends do not reach one another -/
def crit (nd : Int) (ls : List Lk) : List Int := upTo (critB nd ls) ls.length

theorem rch_mem {nd : Int} {ls : List Lk} {n x : Int} : x ∈ rch nd ls n ↔ 0 ≤ x ∧ x < nd ∧ 0 ≤ D nd ls n x := by
  unfold rch
  rw [mem_upTo]
  constructor
  · rintro ⟨k, hk, hp, rfl⟩
    unfold rchB at hp
    simp at hp
    exact ⟨by omega, by omega, hp⟩
  · rintro ⟨h0, h1, h2⟩
    refine ⟨x.toNat, by omega, ?_, by omega⟩
    unfold rchB
    rw [Int.toNat_of_nonneg h0]
    simpa using h2
/-- nodes that reach one another reach the same nodes -/
theorem rch_same {nd : Int} {ls : List Lk} (hv : Valid nd ls) {m n : Int} (hm : Nd nd m) (hn : Nd nd n) (h : 0 ≤ D nd ls n m) : rch nd ls m = rch nd ls n := by
  unfold rch
  refine upTo_congr (fun k hk => ?_)
  have hk' : Nd nd (k : Int) := ⟨by omega, by have := hv.1; omega⟩
  unfold rchB
  rw [Bool.eq_iff_iff]
  simp only [decide_eq_true_eq]
  constructor
  · intro h1; exact (D_tri hv hn hm hk' h h1).1
  · intro h1
    have h2 : 0 ≤ D nd ls m n := by rw [D_symm hv hm hn]; exact h
    exact (D_tri hv hm hn hk' h2 h1).1
/-- alone without its links -/
theorem D_lsI {nd : Int} {ls : List Lk} (hv : Valid nd ls) {n v : Int} (hn : Nd nd n) (h1 : Nd nd v) (hne : n ≠ v) : D nd (lsI ls n) n v < 0 := by
  by_cases h : 0 ≤ D nd (lsI ls n) n v
  · obtain ⟨m, e, ha, _⟩ := D_step (hv.lsI n) hn h1 hne h
    exact absurd rfl (adj_lsI.1 ha).2.1
  · omega
theorem rch_lsI {nd : Int} {ls : List Lk} (hv : Valid nd ls) {n : Int} (hn : Nd nd n) : rch nd (lsI ls n) n = [n] := by
  obtain ⟨j, rfl⟩ := Int.eq_ofNat_of_zero_le hn.1
  have hj : j < nd.toNat := by have := hn.2; omega
  have h : ∀ k, k ≤ nd.toNat → upTo (rchB nd (lsI ls j) j) k = if k ≤ j then [] else [(j : Int)] := by
    intro k
    induction k with
    | zero => intro _; simp [upTo]
    | succ k ih =>
      intro hk
      have ih := ih (by omega)
      by_cases e : k = j
      · subst e
        have hp : rchB nd (lsI ls k) k k = true := by unfold rchB; rw [D_self (hv.lsI _) hn]; simp
        rw [upTo_yes hp, ih, if_pos (Nat.le_refl _), if_neg (by omega)]; rfl
      · have hp : rchB nd (lsI ls j) j k = false := by
          unfold rchB
          have := D_lsI hv hn (v := k) ⟨by omega, by omega⟩ (by omega)
          simp; omega
        rw [upTo_no hp, ih]
        by_cases h' : k ≤ j
        · rw [if_pos h', if_pos (by omega)]
        · rw [if_neg h', if_neg (by omega)]
  unfold rch
  rw [h _ (Nat.le_refl _), if_neg (by omega)]

end Go.Proofs.Ytnmmacfchmmkkaa
