/-
  The walk of slices.Repeat as impl's distances calls it: a slice of n times -1.
-/
import Derived.Test.YtnmmacfchmmkkaaDA
namespace Go.Proofs.Ytnmmacfchmmkkaa
open Go.RowKit

theorem Try.sizeIn : (Try.prog.info? 3).map (·.size) = some 1 := by kernel_rfl
def ints (xs : List Int) : List Value := xs.map (Value.int .i64)
/-- k times -1, then zeros -/
def repC (n k : Nat) : List Value := ints (List.replicate k (-1) ++ List.replicate (n - k) 0)
theorem length_repC {n k : Nat} (h : k ≤ n) : (repC n k).length = n := by unfold repC ints; simp; omega
theorem repC_zero (n : Nat) : (repC n 0).toArray = zI n := by unfold repC ints zI; simp
theorem repC_full (n : Nat) : repC n n = ints (List.replicate n (-1)) := by unfold repC; simp
theorem repC_at {n k j : Nat} (h : j < k) : (repC n k)[j]? = some (.int .i64 (-1)) := by
  unfold repC ints
  rw [List.getElem?_map, List.getElem?_append_left (by simp; exact h)]
  simp [h]
/-- m times -1 -/
def negs (m : Nat) : List Value := ints (List.replicate m (-1))
theorem negs_len (m : Nat) : (negs m).length = m := by unfold negs ints; simp
theorem negs_at {m j : Nat} {v : Value} (h : (negs m)[j]? = some v) : j < m ∧ v = .int .i64 (-1) := by
  unfold negs ints at h
  rw [List.getElem?_map] at h
  by_cases hj : j < m
  · simp [hj] at h; exact ⟨hj, h.symm⟩
  · simp [hj] at h
theorem negs_one {m : Nat} : ∀ v ∈ negs m, v.oneCell' = true := by
  intro v hv
  unfold negs ints at hv
  simp at hv
  obtain ⟨_, rfl⟩ := hv
  rfl
theorem repC_splice {n k m : Nat} (h : k + m ≤ n) : splice (repC n k) k (negs m) = repC n (k + m) := by
  unfold splice repC negs ints
  apply List.ext_getElem?
  intro i
  simp only [List.map_append, List.map_replicate, List.length_replicate]
  rw [List.getElem?_append, List.getElem?_append, List.getElem?_append]
  simp only [List.length_take, List.length_append, List.length_replicate, List.getElem?_take, List.getElem?_drop, List.getElem?_append, List.getElem?_replicate]
  repeat' split
  all_goals first | rfl | omega

theorem addI (g o k : Nat) : (⟨g, o, none⟩ : Addr).add k = ⟨g, o + k, none⟩ := by
  unfold Addr.add; split <;> simp_all
/-- copy of m times -1 into the row -/
theorem wpList_copy_neg {w : World} {ops : Array Oper} {rest : List Oper} {o : Oper} {a : Act} {Q : Exit → Act → World → Prop} (hgd : o.guard = none) (d s : Operand)
    (ho : o.op = .call { callee := .builtin .copy, args := #[d, s], argTypes := #[40, 40] }) (G b off n k dLen dCap sLen sCap : Nat) (hd : a.eval d = .slice (some ⟨G, k, none⟩) dLen dCap) (hs : a.eval s = .slice (some ⟨b, off, none⟩) sLen sCap)
    (m : Nat) (hm : m = Nat.min sLen dLen) (hg : Blk w G 3 (repC n k)) (hsrc : ∀ j, j < m → w.cell? ⟨b, off + j, none⟩ = some (.int .i64 (-1))) (hfit : k + m ≤ n) (B : Nat) (w0 : World) (hb : Below B w0 w) (hBg : B ≤ G)
    (h : ∀ w', Hid (Blk w' G 3 (repC n (k + m))) → Below B w0 w' → wpList Try.prog ops Q rest (a.put o.dst (.int .i64 m)) w') : wpList Try.prog ops Q (o :: rest) a w := by
  refine wpList_copy_splice hgd d s 40 40 ho 3 Try.underlying40 Try.sizeIn _ _ dLen dCap sLen sCap hd hs G k (repC n k) 3 hg (negs m) (by rw [negs_len]; exact hm) (fun _ => ⟨rfl, _, rfl, fun j v hj => ?_⟩) (by rw [negs_len, length_repC (by omega)]; omega) negs_one B w0 hb hBg ?_
  · obtain ⟨h0, rfl⟩ := negs_at hj
    rw [addI]; exact hsrc j h0
  · intro w' hw hB
    rw [negs_len]
    refine h w' ?_ hB
    have := hw.out
    rw [repC_splice hfit] at this
    exact this
theorem step_copy_neg {w : World} {ops : Array Oper} {o : Oper} {a : Act} {K : Act → World → Prop} {Q : Exit → Act → World → Prop} {E : Prop} (hgd : o.guard = none) (d s : Operand)
    (ho : o.op = .call { callee := .builtin .copy, args := #[d, s], argTypes := #[40, 40] }) (G b off n k dLen dCap sLen sCap : Nat) (hd : a.eval d = .slice (some ⟨G, k, none⟩) dLen dCap) (hs : a.eval s = .slice (some ⟨b, off, none⟩) sLen sCap)
    (m : Nat) (hm : m = Nat.min sLen dLen) (hg : Blk w G 3 (repC n k)) (hsrc : ∀ j, j < m → w.cell? ⟨b, off + j, none⟩ = some (.int .i64 (-1))) (hfit : k + m ≤ n) (B : Nat) (w0 : World) (hb : Below B w0 w) (hBg : B ≤ G)
    (h : ∀ w', Hid (Blk w' G 3 (repC n (k + m))) → Below B w0 w' → K (a.put o.dst (.int .i64 m)) w') : if Region.wanted o (yielded ops a.tmps) = true then Oper.wp Try.prog o a w K Q else E := by
  refine step_copy_splice hgd d s 40 40 ho 3 Try.underlying40 Try.sizeIn _ _ dLen dCap sLen sCap hd hs G k (repC n k) 3 hg (negs m) (by rw [negs_len]; exact hm) (fun _ => ⟨rfl, _, rfl, fun j v hj => ?_⟩) (by rw [negs_len, length_repC (by omega)]; omega) negs_one B w0 hb hBg ?_
  · obtain ⟨h0, rfl⟩ := negs_at hj
    rw [addI]; exact hsrc j h0
  · intro w' hw hB
    rw [negs_len]
    refine h w' ?_ hB
    have := hw.out
    rw [repC_splice hfit] at this
    exact this

end Go.Proofs.Ytnmmacfchmmkkaa
