/-
  Plain lists: two links removed, in either order.
-/
import Derived.Test.YtmkjndfhfhfggaaPF
namespace Go.Proofs.Ytmkjndfhfhfggaa

theorem lsW_get? (ls : List Lk) (k : Nat) (i : Nat) : (lsW ls k)[i]? = if i < k then ls[i]? else ls[i + 1]? := by
  have e : lsW ls k = ls.eraseIdx k := by unfold lsW; rw [List.eraseIdx_eq_take_drop_succ]
  rw [e, List.getElem?_eraseIdx]
theorem lsW_comm {ls : List Lk} {x o : Nat} (hne : x ≠ o) : lsW (lsW ls x) (shf x o) = lsW (lsW ls o) (shf o x) := by
  apply List.ext_getElem?
  intro i
  rw [lsW_get?, lsW_get?, lsW_get?, lsW_get?, lsW_get?, lsW_get?]
  unfold shf
  rcases Nat.lt_or_ge o x with h | h
  · rw [if_pos h, if_neg (show ¬ x < o by omega)]
    by_cases h1 : i < o
    · rw [if_pos h1, if_pos (show i < x by omega), if_pos (show i < x - 1 by omega), if_pos h1]
    · by_cases h2 : i < x - 1
      · rw [if_neg h1, if_pos (show i + 1 < x by omega), if_pos h2, if_neg h1]
      · rw [if_neg h1, if_neg (show ¬ i + 1 < x by omega), if_neg h2, if_neg (show ¬ i + 1 < o by omega)]
  · rw [if_neg (show ¬ o < x by omega), if_pos (show x < o by omega)]
    by_cases h1 : i < x
    · rw [if_pos (show i < o - 1 by omega), if_pos h1, if_pos h1, if_pos (show i < o by omega)]
    · by_cases h2 : i < o - 1
      · rw [if_pos h2, if_neg h1, if_neg h1, if_pos (show i + 1 < o by omega)]
      · rw [if_neg h2, if_neg (show ¬ i + 1 < x by omega), if_neg h1, if_neg (show ¬ i + 1 < o by omega)]

end Go.Proofs.Ytmkjndfhfhfggaa
