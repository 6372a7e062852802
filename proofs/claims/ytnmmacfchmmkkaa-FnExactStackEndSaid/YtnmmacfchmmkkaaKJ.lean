/-
  The closed facts of the seat that no single statement changes, each a theorem of its own. The head row's signs are taken as a list by the literal's own form, not by decoding, and only its first word is asked.
-/
import Derived.Test.YtnmmacfchmmkkaaKI
import Derived.JoinedOf
namespace Go.Proofs.Ytnmmacfchmmkkaa
theorem chars_of {P : Program} {l : List Char} (h : P.initOrder = String.ofList l) : P.initOrder.toList = l := by rw [h]; exact String.toList_ofList
/-- the head row's first word, behind the harness's -/
def hd2 (l : List Char) : Bool := (behindMainWord (wordsSigns l)).head? == some "cut".toList
theorem strip_none {c : List Char} {ws : List (List Char)} : ∀ {os : List String}, (∀ o ∈ os, (c == o.toList) = false) → stripLifts os (c :: ws) = ([], c :: ws) := by
  intro os
  induction os with
  | nil => intro _; rfl
  | cons o os ih =>
    intro h
    rw [stripLifts, if_neg (by rw [h o (by simp)]; simp), ih (fun o ho => h o (by simp [ho]))]
theorem strip_cut (ws : List (List Char)) : stripLifts liftWords ("cut".toList :: ws) = ([], "cut".toList :: ws) := strip_none (by decide +kernel)
theorem makes_of {P : Program} {l : List Char} (h : P.initOrder.toList = l) (k : hd2 l = true) : (P.make == some .cut) = true := by
  unfold hd2 at k
  unfold Program.make
  rw [h]
  revert k
  cases behindMainWord (wordsSigns l) with
  | nil => intro k; simp at k
  | cons c rest =>
    intro k
    have hc : c = "cut".toList := by simpa using k
    subst hc
    simp only []
    rw [if_neg (by decide), if_pos (by simp)]
    rfl
theorem lifts_of {P : Program} {l : List Char} (h : P.initOrder.toList = l) (k : hd2 l = true) : (false == P.liftsFinal) = true := by
  unfold hd2 at k
  unfold Program.liftsFinal Program.headLifts
  rw [h]
  revert k
  cases behindMainWord (wordsSigns l) with
  | nil => intro k; simp at k
  | cons c rest =>
    intro k
    have hc : c = "cut".toList := by simpa using k
    subst hc
    simp only [strip_cut]
    have e : (some "cut".toList == some "carried".toList) = false := by decide
    simp only [List.head?_cons, e]
    simp
theorem enters_of {P : Program} {l : List Char} (h : P.initOrder.toList = l) (k : hd2 l = true) (k1 : P.laysLater = false) (k2 : P.bearsReflect = false) (k3 : P.doorFits [] = true) : P.mayEnter = true := by
  unfold hd2 at k
  unfold Program.mayEnter
  rw [h]
  revert k
  cases behindMainWord (wordsSigns l) with
  | nil => intro k; simp at k
  | cons c rest =>
    intro k
    have hc : c = "cut".toList := by simpa using k
    subst hc
    simp only [strip_cut, k1, k2, k3]
    simp
set_option maxRecDepth 100000 in
set_option maxHeartbeats 4000000 in
theorem head_cut : ∃ l : List Char, Try.pinned.checked.prog.initOrder.toList = l ∧ hd2 l = true :=
  ⟨_, chars_of (by conv => lhs; whnf), by decide +kernel⟩
set_option maxRecDepth 100000 in
set_option maxHeartbeats 4000000 in
theorem later_no : Try.pinned.checked.prog.laysLater = false := by decide +kernel
set_option maxRecDepth 100000 in
set_option maxHeartbeats 4000000 in
theorem reflect_no : Try.pinned.checked.prog.bearsReflect = false := by decide +kernel
set_option maxRecDepth 100000 in
set_option maxHeartbeats 4000000 in
theorem door_yes : Try.pinned.checked.prog.doorFits [] = true := by decide +kernel
theorem enters : Try.pinned.checked.prog.mayEnter = true := by
  obtain ⟨l, h, k⟩ := head_cut
  exact enters_of h k later_no reflect_no door_yes
theorem lifts : (false == Try.pinned.checked.prog.liftsFinal) = true := by
  obtain ⟨l, h, k⟩ := head_cut
  exact lifts_of h k
theorem makes : (Try.pinned.checked.prog.make == some .cut) = true := by
  obtain ⟨l, h, k⟩ := head_cut
  exact makes_of h k
end Go.Proofs.Ytnmmacfchmmkkaa
