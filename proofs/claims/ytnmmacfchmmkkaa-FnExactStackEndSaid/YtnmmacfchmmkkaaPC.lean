/-
  Plain lists: a graph without a link, without a node's links, with another cost of a link.
-/
import Derived.Test.YtnmmacfchmmkkaaPB
namespace Go.Proofs.Ytnmmacfchmmkkaa

def lkAt (ls : List Lk) (k : Nat) : Lk := ⟨La ls k, Lb ls k, Lc ls k⟩
theorem lkAt_eq {ls : List Lk} {k : Nat} (hk : k < ls.length) : lkAt ls k = ls[k] := by simp [lkAt, La, Lb, Lc, hk]
/-- of the first k links those that p lets -/
def keepTo (ls : List Lk) (p : Nat → Bool) : Nat → List Lk
  | 0 => []
  | k + 1 => if p k then keepTo ls p k ++ [lkAt ls k] else keepTo ls p k
theorem keepTo_le (ls : List Lk) (p : Nat → Bool) (k : Nat) : (keepTo ls p k).length ≤ k := by
  induction k with
  | zero => simp [keepTo]
  | succ k ih =>
    unfold keepTo
    split
    · rw [List.length_append, List.length_singleton]; omega
    · omega
theorem keepTo_yes {ls : List Lk} {p : Nat → Bool} {k : Nat} (h : p k = true) : keepTo ls p (k + 1) = keepTo ls p k ++ [lkAt ls k] := by rw [keepTo, if_pos h]
theorem keepTo_no {ls : List Lk} {p : Nat → Bool} {k : Nat} (h : p k = false) : keepTo ls p (k + 1) = keepTo ls p k := by rw [keepTo, if_neg (by rw [h]; simp)]
/-- without link k -/
def lsW (ls : List Lk) (k : Nat) : List Lk := ls.take k ++ ls.drop (k + 1)
/-- without the links of node n -/
def notOf (ls : List Lk) (n : Int) (k : Nat) : Bool := decide (La ls k ≠ n ∧ Lb ls k ≠ n)
def lsI (ls : List Lk) (n : Int) : List Lk := keepTo ls (notOf ls n) ls.length
/-- with cost c of link k -/
def lsC (ls : List Lk) (k : Nat) (c : Int) : List Lk := ls.set k ⟨La ls k, Lb ls k, c⟩

def isNot (m : Int) (k : Nat) : Bool := decide ((k : Int) ≠ m)
theorem keepTo_take (ls : List Lk) (m : Nat) (n : Nat) (hn : n ≤ m) (hm : m ≤ ls.length) : keepTo ls (isNot m) n = ls.take n := by
  induction n with
  | zero => simp [keepTo]
  | succ n ih =>
    unfold keepTo
    rw [if_pos (by simp [isNot]; omega), ih (by omega), lkAt_eq (by omega), List.take_succ_eq_append_getElem (by omega)]
theorem keepTo_isNot (ls : List Lk) (m : Nat) (hm : m < ls.length) : keepTo ls (isNot m) ls.length = lsW ls m := by
  have h : ∀ n, m < n → n ≤ ls.length → keepTo ls (isNot m) n = ls.take m ++ (ls.drop (m + 1)).take (n - (m + 1)) := by
    intro n
    induction n with
    | zero => intro h; omega
    | succ n ih =>
      intro h1 h2
      unfold keepTo
      rcases Nat.lt_or_ge m n with h' | h'
      · rw [if_pos (by simp [isNot]; omega), ih h' (by omega), lkAt_eq (by omega), List.append_assoc]
        congr 1
        rw [show n + 1 - (m + 1) = (n - (m + 1)) + 1 from by omega, List.take_succ_eq_append_getElem (by simp; omega)]
        congr 2
        simp only [List.getElem_drop]
        congr 1
        omega
      · obtain rfl : n = m := by omega
        rw [if_neg (by simp [isNot]), keepTo_take ls n n (Nat.le_refl _) (by omega)]
        simp
  rw [h ls.length hm (Nat.le_refl _)]
  unfold lsW
  rw [List.take_of_length_le (l := ls.drop (m + 1)) (by rw [List.length_drop]; omega)]
theorem length_lsW {ls : List Lk} {m : Nat} (hm : m < ls.length) : (lsW ls m).length = ls.length - 1 := by unfold lsW; simp; omega
theorem length_lsC (ls : List Lk) (k : Nat) (c : Int) : (lsC ls k c).length = ls.length := by unfold lsC; simp
theorem length_lsI (ls : List Lk) (n : Int) : (lsI ls n).length ≤ ls.length := keepTo_le _ _ _

end Go.Proofs.Ytnmmacfchmmkkaa
