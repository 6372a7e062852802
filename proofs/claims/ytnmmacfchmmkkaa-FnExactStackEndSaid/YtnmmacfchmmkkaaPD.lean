/-
  Plain lists: graphs with fewer links are valid; their paths are paths; distances without a link, without a node's links, with another cost.
-/
import Derived.Test.YtnmmacfchmmkkaaPC
namespace Go.Proofs.Ytnmmacfchmmkkaa

def okL (nd : Int) (l : Lk) : Prop := 0 ≤ l.a ∧ l.a < l.b ∧ l.b < nd ∧ 1 ≤ l.c ∧ l.c ≤ 20
def ltL (l m : Lk) : Prop := l.a < m.a ∨ (l.a = m.a ∧ l.b < m.b)
theorem getD_at {ls : List Lk} {k : Nat} (hk : k < ls.length) : ls.getD k dk = ls[k] := by simp [hk]
theorem La_at {ls : List Lk} {k : Nat} (hk : k < ls.length) : La ls k = ls[k].a := by simp [La, hk]
theorem Lb_at {ls : List Lk} {k : Nat} (hk : k < ls.length) : Lb ls k = ls[k].b := by simp [Lb, hk]
theorem Lc_at {ls : List Lk} {k : Nat} (hk : k < ls.length) : Lc ls k = ls[k].c := by simp [Lc, hk]
theorem LkOk_at {nd : Int} {ls : List Lk} {k : Nat} (hk : k < ls.length) : LkOk nd ls k ↔ okL nd ls[k] := by
  unfold LkOk okL; rw [La_at hk, Lb_at hk, Lc_at hk]
theorem LkLt_at {ls : List Lk} {j k : Nat} (hj : j < ls.length) (hk : k < ls.length) : LkLt ls j k ↔ ltL ls[j] ls[k] := by
  unfold LkLt ltL; rw [La_at hk, Lb_at hk, La_at hj, Lb_at hj]
theorem valid_iff (nd : Int) (ls : List Lk) : Valid nd ls ↔ 1 ≤ nd ∧ nd ≤ 8 ∧ ls.length ≤ 14 ∧ (∀ l ∈ ls, okL nd l) ∧ ls.Pairwise ltL := by
  constructor
  · intro h
    refine ⟨h.1, h.2.1, h.2.2.1, fun l hl => ?_, ?_⟩
    · obtain ⟨k, hk, rfl⟩ := List.getElem_of_mem hl
      exact (LkOk_at hk).1 (h.ok hk)
    · rw [List.pairwise_iff_getElem]
      intro i j hi hj hij
      exact (LkLt_at hi hj).1 (h.lt hij hj)
  · rintro ⟨h1, h2, h3, h4, h5⟩
    refine ⟨h1, h2, h3, fun k hk => (LkOk_at hk).2 (h4 _ (List.getElem_mem hk)), fun k h0 hk => ?_⟩
    rw [List.pairwise_iff_getElem] at h5
    exact (LkLt_at (by omega) hk).2 (h5 (k - 1) k (by omega) hk (by omega))
theorem Valid.sub {nd : Int} {ls ms : List Lk} (h : Valid nd ls) (hs : ms.Sublist ls) : Valid nd ms := by
  rw [valid_iff] at h ⊢
  have := hs.length_le
  exact ⟨h.1, h.2.1, by omega, fun l hl => h.2.2.2.1 l (hs.subset hl), h.2.2.2.2.sublist hs⟩
theorem adj_mem {ls : List Lk} {u v c : Int} : Adj ls u v c ↔ ∃ l ∈ ls, ((l.a = u ∧ l.b = v) ∨ (l.a = v ∧ l.b = u)) ∧ l.c = c := by
  constructor
  · rintro ⟨k, hk, ho, hc⟩
    rw [La_at hk, Lb_at hk] at ho
    rw [Lc_at hk] at hc
    exact ⟨_, List.getElem_mem hk, ho, hc⟩
  · rintro ⟨l, hl, ho, hc⟩
    obtain ⟨k, hk, rfl⟩ := List.getElem_of_mem hl
    refine ⟨k, hk, ?_, ?_⟩
    · rw [La_at hk, Lb_at hk]; exact ho
    · rw [Lc_at hk]; exact hc
theorem Pth.imp {nd : Int} {ls ms : List Lk} (hi : ∀ u v c, Adj ls u v c → Adj ms u v c) {p : List Int} {u v c : Int} (h : Pth nd ls p u v c) : Pth nd ms p u v c := by
  induction p generalizing u c with
  | nil => exact h.elim
  | cons x p ih =>
    cases p with
    | nil => exact h
    | cons y r =>
      obtain ⟨rfl, e, ha, hp⟩ := h
      exact ⟨rfl, e, hi _ _ _ ha, ih hp⟩
/-- more links make no distance longer -/
theorem D_more {nd : Int} {ls ms : List Lk} (hv : Valid nd ls) (hw : Valid nd ms) (hi : ∀ u v c, Adj ls u v c → Adj ms u v c) {u v : Int} (hu : Nd nd u) (h1 : Nd nd v) (h : 0 ≤ D nd ls u v) :
    0 ≤ D nd ms u v ∧ D nd ms u v ≤ D nd ls u v := by
  obtain ⟨p, hp⟩ := D_path hv hu.1 hu.2 h1.1 h1.2 h
  exact D_le hw (hp.imp hi)

/-! ### without a link, without a node's links -/

theorem lsW_sub (ls : List Lk) (k : Nat) : (lsW ls k).Sublist ls := by
  unfold lsW
  have h : (ls.take k ++ ls.drop (k + 1)).Sublist (ls.take k ++ ls.drop k) :=
    List.Sublist.append (List.Sublist.refl _) (by rw [← List.drop_drop]; exact List.drop_sublist _ _)
  rwa [List.take_append_drop] at h
theorem Valid.lsW {nd : Int} {ls : List Lk} (h : Valid nd ls) (k : Nat) : Valid nd (lsW ls k) := h.sub (lsW_sub ls k)
theorem keepTo_filter (ls : List Lk) (p : Nat → Bool) (q : Lk → Bool) (hpq : ∀ k (hk : k < ls.length), p k = q ls[k]) (n : Nat) (hn : n ≤ ls.length) : keepTo ls p n = (ls.take n).filter q := by
  induction n with
  | zero => simp [keepTo]
  | succ n ih =>
    rw [List.take_succ_eq_append_getElem (by omega), List.filter_append, ← ih (by omega)]
    cases hq : q ls[n]
    · rw [keepTo_no (by rw [hpq n (by omega)]; exact hq)]; simp [hq]
    · rw [keepTo_yes (by rw [hpq n (by omega)]; exact hq), lkAt_eq (by omega)]; simp [hq]
theorem lsI_eq (ls : List Lk) (n : Int) : lsI ls n = ls.filter (fun l => decide (l.a ≠ n ∧ l.b ≠ n)) := by
  unfold lsI
  rw [keepTo_filter ls (notOf ls n) (fun l => decide (l.a ≠ n ∧ l.b ≠ n)) (fun k hk => by unfold notOf; rw [La_at hk, Lb_at hk]) ls.length (Nat.le_refl _), List.take_length]
theorem lsI_sub (ls : List Lk) (n : Int) : (lsI ls n).Sublist ls := by rw [lsI_eq]; exact List.filter_sublist
theorem Valid.lsI {nd : Int} {ls : List Lk} (h : Valid nd ls) (n : Int) : Valid nd (lsI ls n) := h.sub (lsI_sub ls n)
theorem mem_lsI {ls : List Lk} {n : Int} {l : Lk} : l ∈ lsI ls n ↔ l ∈ ls ∧ l.a ≠ n ∧ l.b ≠ n := by rw [lsI_eq]; simp
theorem ltL_irrefl (l : Lk) : ¬ ltL l l := by unfold ltL; omega
theorem Valid.nodup {nd : Int} {ls : List Lk} (h : Valid nd ls) : ls.Nodup := by
  rw [valid_iff] at h
  exact h.2.2.2.2.imp (fun {a b} hab (e : a = b) => ltL_irrefl a (by rw [← e] at hab; exact hab))
theorem at_inj {nd : Int} {ls : List Lk} (h : Valid nd ls) {i j : Nat} (hi : i < ls.length) (hj : j < ls.length) (e : ls[i] = ls[j]) : i = j := by
  have := h.nodup
  exact (List.getElem_inj this).1 e
theorem lsW_split {ls : List Lk} {k : Nat} (hk : k < ls.length) : ls = ls.take k ++ ls[k] :: ls.drop (k + 1) := by
  rw [List.getElem_cons_drop, List.take_append_drop]
theorem mem_lsW {nd : Int} {ls : List Lk} (h : Valid nd ls) {k : Nat} (hk : k < ls.length) {l : Lk} : l ∈ lsW ls k ↔ l ∈ ls ∧ l ≠ ls[k] := by
  have hn := h.nodup
  have hs := lsW_split hk
  unfold lsW
  constructor
  · intro hl
    refine ⟨(lsW_sub ls k).subset (by unfold lsW; exact hl), ?_⟩
    rintro rfl
    rw [hs] at hn
    rw [List.nodup_append] at hn
    rcases List.mem_append.1 hl with h' | h'
    · exact hn.2.2 _ h' _ (List.mem_cons_self ..) rfl
    · exact (List.nodup_cons.1 hn.2.1).1 h'
  · rintro ⟨hl, hne⟩
    rw [hs] at hl
    rcases List.mem_append.1 hl with h' | h'
    · exact List.mem_append_left _ h'
    · rcases List.mem_cons.1 h' with h' | h'
      · exact absurd h' hne
      · exact List.mem_append_right _ h'
theorem adj_lsW {nd : Int} {ls : List Lk} (h : Valid nd ls) {k : Nat} (hk : k < ls.length) {u v c : Int} : Adj (lsW ls k) u v c ↔ Adj ls u v c ∧ ¬ ((ls[k].a = u ∧ ls[k].b = v) ∨ (ls[k].a = v ∧ ls[k].b = u)) := by
  constructor
  · intro ha
    obtain ⟨l, hl, ho, hc⟩ := adj_mem.1 ha
    obtain ⟨h1, h2⟩ := (mem_lsW h hk).1 hl
    refine ⟨adj_mem.2 ⟨l, h1, ho, hc⟩, fun hh => h2 ?_⟩
    obtain ⟨i, hi, rfl⟩ := List.getElem_of_mem h1
    clear hl h1 h2
    have o1 := h.ok hi
    have o2 := h.ok hk
    unfold LkOk at o1 o2
    rw [La_at hi, Lb_at hi, Lc_at hi] at o1
    rw [La_at hk, Lb_at hk, Lc_at hk] at o2
    rcases Nat.lt_trichotomy i k with e | e | e
    · have := (LkLt_at hi hk).1 (h.lt e hk); unfold ltL at this; omega
    · subst e; rfl
    · have := (LkLt_at hk hi).1 (h.lt e hi); unfold ltL at this; omega
  · rintro ⟨ha, hn⟩
    obtain ⟨l, hl, ho, hc⟩ := adj_mem.1 ha
    exact adj_mem.2 ⟨l, (mem_lsW h hk).2 ⟨hl, fun e => hn (by rw [← e]; exact ho)⟩, ho, hc⟩
theorem adj_lsW_imp {ls : List Lk} {k : Nat} {u v c : Int} (ha : Adj (lsW ls k) u v c) : Adj ls u v c := by
  obtain ⟨l, hl, ho, hc⟩ := adj_mem.1 ha
  exact adj_mem.2 ⟨l, (lsW_sub ls k).subset hl, ho, hc⟩
theorem adj_lsI {ls : List Lk} {n u v c : Int} : Adj (lsI ls n) u v c ↔ Adj ls u v c ∧ u ≠ n ∧ v ≠ n := by
  constructor
  · intro ha
    obtain ⟨l, hl, ho, hc⟩ := adj_mem.1 ha
    obtain ⟨h1, h2, h3⟩ := mem_lsI.1 hl
    exact ⟨adj_mem.2 ⟨l, h1, ho, hc⟩, by omega, by omega⟩
  · rintro ⟨ha, h1, h2⟩
    obtain ⟨l, hl, ho, hc⟩ := adj_mem.1 ha
    exact adj_mem.2 ⟨l, mem_lsI.2 ⟨hl, by omega, by omega⟩, ho, hc⟩

/-! ### with another cost of a link -/

theorem lsC_get {ls : List Lk} {k : Nat} {c : Int} {j : Nat} (hj : j < ls.length) : La (lsC ls k c) j = La ls j ∧ Lb (lsC ls k c) j = Lb ls j ∧ Lc (lsC ls k c) j = if j = k then c else Lc ls j := by
  by_cases h : k = j
  · subst h
    unfold La Lb Lc lsC
    simp [hj, La, Lb]
  · rw [if_neg (fun e => h e.symm)]
    unfold La Lb Lc lsC
    simp [List.getElem?_set_ne h]
theorem Valid.lsC {nd : Int} {ls : List Lk} (h : Valid nd ls) {k : Nat} {c : Int} (h1 : 1 ≤ c) (h2 : c ≤ 20) : Valid nd (lsC ls k c) := by
  refine ⟨h.1, h.2.1, by rw [length_lsC]; exact h.2.2.1, fun j hj => ?_, fun j h0 hj => ?_⟩
  · rw [length_lsC] at hj
    have := h.ok hj
    unfold LkOk at *
    obtain ⟨e1, e2, e3⟩ := lsC_get (k := k) (c := c) hj
    rw [e1, e2, e3]
    split <;> omega
  · rw [length_lsC] at hj
    have := h.lt (j := j - 1) (k := j) (by omega) hj
    unfold LkLt at *
    obtain ⟨e1, e2, e3⟩ := lsC_get (k := k) (c := c) hj
    obtain ⟨e4, e5, e6⟩ := lsC_get (ls := ls) (k := k) (c := c) (j := j - 1) (by omega)
    rw [e1, e2, e4, e5]
    exact this
/-- a link of the graph with another cost of link k -/
theorem adj_lsC {nd : Int} {ls : List Lk} (h : Valid nd ls) {k : Nat} (hk : k < ls.length) {c : Int} {u v e : Int} : Adj (lsC ls k c) u v e ↔
    ((((La ls k = u ∧ Lb ls k = v) ∨ (La ls k = v ∧ Lb ls k = u)) ∧ e = c) ∨ (Adj ls u v e ∧ ¬ ((La ls k = u ∧ Lb ls k = v) ∨ (La ls k = v ∧ Lb ls k = u)))) := by
  constructor
  · rintro ⟨j, hj, ho, hc⟩
    rw [length_lsC] at hj
    obtain ⟨e1, e2, e3⟩ := lsC_get (k := k) (c := c) hj
    rw [e1, e2] at ho
    rw [e3] at hc
    by_cases hjk : j = k
    · subst hjk
      rw [if_pos rfl] at hc
      exact .inl ⟨ho, hc.symm⟩
    · rw [if_neg hjk] at hc
      refine .inr ⟨⟨j, hj, ho, hc⟩, fun hh => ?_⟩
      have o1 := h.ok hj
      have o2 := h.ok hk
      unfold LkOk at o1 o2
      rcases Nat.lt_or_gt_of_ne hjk with e | e
      · have := h.lt e hk; unfold LkLt at this; omega
      · have := h.lt e hj; unfold LkLt at this; omega
  · rintro (⟨ho, rfl⟩ | ⟨⟨j, hj, ho, hc⟩, hn⟩)
    · obtain ⟨e1, e2, e3⟩ := lsC_get (k := k) (c := e) hk
      refine ⟨k, by rw [length_lsC]; exact hk, by rw [e1, e2]; exact ho, by rw [e3, if_pos rfl]⟩
    · obtain ⟨e1, e2, e3⟩ := lsC_get (k := k) (c := c) hj
      have hjk : j ≠ k := fun e => hn (by rw [← e]; exact ho)
      refine ⟨j, by rw [length_lsC]; exact hj, by rw [e1, e2]; exact ho, by rw [e3, if_neg hjk]; exact hc⟩
theorem lsC_same {ls : List Lk} {k : Nat} : lsC ls k (Lc ls k) = ls := by
  by_cases hk : k < ls.length
  · unfold lsC
    rw [La_at hk, Lb_at hk, Lc_at hk]
    exact List.set_getElem_self hk
  · unfold lsC; rw [List.set_eq_of_length_le (by omega)]
theorem lsC_lsC {ls : List Lk} {k : Nat} (hk : k < ls.length) (c e : Int) : lsC (lsC ls k c) k e = lsC ls k e := by
  obtain ⟨e1, e2, _⟩ := lsC_get (k := k) (c := c) hk
  unfold lsC at *
  rw [e1, e2, List.set_set]

end Go.Proofs.Ytnmmacfchmmkkaa
