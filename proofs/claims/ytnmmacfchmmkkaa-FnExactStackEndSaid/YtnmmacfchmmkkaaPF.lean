/-
  Plain lists: critical links; distances when the cost of a link turns; links that shortest paths use.
-/
import Derived.Test.YtnmmacfchmmkkaaPE
namespace Go.Proofs.Ytnmmacfchmmkkaa

/-- link k joins u and v -/
def Jn (ls : List Lk) (k : Nat) (u v : Int) : Prop := (La ls k = u ∧ Lb ls k = v) ∨ (La ls k = v ∧ Lb ls k = u)
theorem adj_not_lsW {nd : Int} {ls : List Lk} (h : Valid nd ls) {k : Nat} (hk : k < ls.length) {u v c : Int} : Adj (lsW ls k) u v c ↔ Adj ls u v c ∧ ¬ Jn ls k u v := by
  rw [adj_lsW h hk]; unfold Jn; rw [La_at hk, Lb_at hk]
theorem adj_of_jn {ls : List Lk} {k : Nat} (hk : k < ls.length) {u v : Int} (h : Jn ls k u v) : Adj ls u v (Lc ls k) := ⟨k, hk, h, rfl⟩
theorem ends_nd {nd : Int} {ls : List Lk} (h : Valid nd ls) {k : Nat} (hk : k < ls.length) : Nd nd (La ls k) ∧ Nd nd (Lb ls k) ∧ La ls k ≠ Lb ls k ∧ 1 ≤ Lc ls k ∧ Lc ls k ≤ 20 := by
  have := h.ok hk
  unfold LkOk at this
  unfold Nd
  omega

/-! ### fewer links -/

theorem D_lsW_more {nd : Int} {ls : List Lk} (h : Valid nd ls) {k : Nat} {u v : Int} (hu : Nd nd u) (h1 : Nd nd v) (hd : 0 ≤ D nd (lsW ls k) u v) : 0 ≤ D nd ls u v ∧ D nd ls u v ≤ D nd (lsW ls k) u v :=
  D_more (h.lsW k) h (fun _ _ _ ha => adj_lsW_imp ha) hu h1 hd
/-- a link whose ends reach one another without it can be spared -/
theorem reach_spare {nd : Int} {ls : List Lk} (h : Valid nd ls) {k : Nat} (hk : k < ls.length) (hs : 0 ≤ D nd (lsW ls k) (La ls k) (Lb ls k)) {u v : Int} (hu : Nd nd u) (h1 : Nd nd v) (hd : 0 ≤ D nd ls u v) : 0 ≤ D nd (lsW ls k) u v := by
  obtain ⟨ea, eb, _⟩ := ends_nd h hk
  have hw := h.lsW k
  obtain ⟨p, hp⟩ := D_path h hu.1 hu.2 h1.1 h1.2 hd
  generalize D nd ls u v = c at hp
  induction p generalizing u c with
  | nil => exact hp.elim
  | cons x p ih =>
    cases p with
    | nil => obtain ⟨rfl, rfl, _⟩ := hp; rw [D_self hw hu]; omega
    | cons y r =>
      obtain ⟨rfl, e, ha, hq⟩ := hp
      have hr := ha.range h
      have hy : Nd nd y := ⟨by omega, by omega⟩
      have hy2 := ih hy (D_le h hq).1 _ hq
      refine (D_tri hw hu hy h1 ?_ hy2).1
      by_cases hj : Jn ls k x y
      · rcases hj with ⟨e1, e2⟩ | ⟨e1, e2⟩
        · rw [← e1, ← e2]; exact hs
        · rw [← e1, ← e2, D_symm hw eb ea]; exact hs
      · exact (D_adj hw ((adj_not_lsW h hk).2 ⟨ha, hj⟩)).1
theorem critB_iff {nd : Int} {ls : List Lk} {k : Nat} : critB nd ls k = true ↔ D nd (lsW ls k) (La ls k) (Lb ls k) < 0 := by unfold critB; simp
/-- a critical link cannot be replaced -/
theorem crit_rch {nd : Int} {ls : List Lk} (h : Valid nd ls) {k : Nat} (hk : k < ls.length) :
    (critB nd ls k = true ↔ (rch nd (lsW ls k) (La ls k)).length < (rch nd ls (La ls k)).length) := by
  obtain ⟨ea, eb, _⟩ := ends_nd h hk
  have hw := h.lsW k
  have hle : ∀ j, j < nd.toNat → rchB nd (lsW ls k) (La ls k) j = true → rchB nd ls (La ls k) j = true := by
    intro j hj
    unfold rchB
    simp only [decide_eq_true_eq]
    exact fun hd => (D_lsW_more h ea ⟨by omega, by have := h.1; omega⟩ hd).1
  constructor
  · intro hc
    rw [critB_iff] at hc
    have hb := D_adj h (adj_at (ls := ls) hk)
    refine upTo_len_lt hle (j := (Lb ls k).toNat) (by have := eb.1; have := eb.2; omega) ?_ ?_
    · unfold rchB; rw [Int.toNat_of_nonneg eb.1]; simpa using hc
    · unfold rchB; rw [Int.toNat_of_nonneg eb.1]; simpa using hb.1
  · intro hlt
    rw [critB_iff]
    by_cases hs : 0 ≤ D nd (lsW ls k) (La ls k) (Lb ls k)
    · have : (rch nd ls (La ls k)).length ≤ (rch nd (lsW ls k) (La ls k)).length := upTo_len_mono (fun j hj => by
        unfold rchB
        simp only [decide_eq_true_eq]
        exact fun hd => reach_spare h hk hs ea ⟨by omega, by have := h.1; omega⟩ hd)
      omega
    · omega

/-- the place of link i in the graph without link k -/
def shf (k i : Nat) : Nat := if i < k then i else i - 1
theorem shf_lt {ls : List Lk} {k i : Nat} (hk : k < ls.length) (hi : i < ls.length) (hne : i ≠ k) : shf k i < (lsW ls k).length := by
  rw [length_lsW hk]; unfold shf; split <;> omega
theorem shf_at? {ls : List Lk} {k i : Nat} (hk : k < ls.length) (hne : i ≠ k) : (lsW ls k)[shf k i]? = ls[i]? := by
  unfold lsW shf
  by_cases h : i < k
  · rw [if_pos h, List.getElem?_append_left (by simp; omega), List.getElem?_take_of_lt h]
  · rw [if_neg h, List.getElem?_append_right (by simp; omega), List.getElem?_drop]
    congr 1
    simp
    omega
theorem shf_at {ls : List Lk} {k i : Nat} (hk : k < ls.length) (hi : i < ls.length) (hne : i ≠ k) : (lsW ls k)[shf k i]'(shf_lt hk hi hne) = ls[i] := by
  have := shf_at? hk hne
  rw [List.getElem?_eq_getElem (shf_lt hk hi hne), List.getElem?_eq_getElem hi] at this
  exact Option.some.inj this
theorem shf_L {ls : List Lk} {k i : Nat} (hk : k < ls.length) (hi : i < ls.length) (hne : i ≠ k) : La (lsW ls k) (shf k i) = La ls i ∧ Lb (lsW ls k) (shf k i) = Lb ls i ∧ Lc (lsW ls k) (shf k i) = Lc ls i := by
  rw [La_at (shf_lt hk hi hne), Lb_at (shf_lt hk hi hne), Lc_at (shf_lt hk hi hne), shf_at hk hi hne, La_at hi, Lb_at hi, Lc_at hi]
  exact ⟨rfl, rfl, rfl⟩
/-- where the link between a link's ends is, in the graph without link k -/
theorem lkIx_lsW {nd : Int} {ls : List Lk} (h : Valid nd ls) {k i : Nat} (hk : k < ls.length) (hi : i < ls.length) : lkIx (lsW ls k) (La ls i) (Lb ls i) = if i = k then -1 else (shf k i : Int) := by
  have o1 := h.ok hi
  unfold LkOk at o1
  have hw := h.lsW k
  by_cases e : i = k
  · subst e
    rw [if_pos rfl]
    refine (lkIx_eq (.inl ⟨rfl, fun j hj hh => ?_⟩)).symm
    have hj2 := (hit_iff hw hj).1 hh
    have : Adj (lsW ls i) (La ls i) (Lb ls i) (Lc (lsW ls i) j) := ⟨j, hj, hj2, rfl⟩
    exact ((adj_not_lsW h hi).1 this).2 (.inl ⟨rfl, rfl⟩)
  · rw [if_neg e]
    obtain ⟨e1, e2, _⟩ := shf_L hk hi e
    refine lkIx_of_hit hw (shf_lt hk hi e) ?_
    unfold Hit
    rw [e1, e2]
    omega
/-- critical links stay critical -/
theorem crit_less {nd : Int} {ls : List Lk} (h : Valid nd ls) {k i : Nat} (hk : k < ls.length) (hi : i < ls.length) (hne : i ≠ k) (hc : critB nd ls i = true) : critB nd (lsW ls k) (shf k i) = true := by
  rw [critB_iff] at hc ⊢
  obtain ⟨ea, eb, _⟩ := ends_nd h hi
  obtain ⟨e1, e2, _⟩ := shf_L hk hi hne
  rw [e1, e2]
  by_cases hd : 0 ≤ D nd (lsW (lsW ls k) (shf k i)) (La ls i) (Lb ls i)
  · have := D_more ((h.lsW k).lsW (shf k i)) (h.lsW i) (fun u v c ha => by
      obtain ⟨h1, h2⟩ := (adj_not_lsW (h.lsW k) (shf_lt hk hi hne)).1 ha
      refine (adj_not_lsW h hi).2 ⟨adj_lsW_imp h1, fun hj => h2 ?_⟩
      unfold Jn at hj ⊢
      rw [e1, e2]; exact hj) ea eb hd
    omega
  · omega

/-- over a critical link: from its side, all paths to the other side cross it -/
theorem crit_cross {nd : Int} {ls : List Lk} (h : Valid nd ls) {k : Nat} (hk : k < ls.length) (hc : D nd (lsW ls k) (La ls k) (Lb ls k) < 0) {s : Int} (hs : Nd nd s) (hb : 0 ≤ D nd (lsW ls k) (Lb ls k) s) :
    ∀ {p : List Int} {u c : Int}, Nd nd u → 0 ≤ D nd (lsW ls k) (La ls k) u → Pth nd ls p u s c → Lc ls k + D nd ls (Lb ls k) s ≤ c := by
  obtain ⟨ea, eb, hne, _⟩ := ends_nd h hk
  have hw := h.lsW k
  intro p
  induction p with
  | nil => intro u c _ _ hp; exact hp.elim
  | cons x p ih =>
    intro u c hu hd hp
    cases p with
    | nil =>
      obtain ⟨rfl, rfl, _⟩ := hp
      have := D_tri hw ea hs eb hd (by rw [D_symm hw hs eb]; exact hb)
      omega
    | cons y r =>
      obtain ⟨rfl, e, ha, hq⟩ := hp
      have hr := ha.range h
      have hy : Nd nd y := ⟨by omega, by omega⟩
      by_cases hj : Jn ls k x y
      · have he : e = Lc ls k := ha.uniq h (adj_of_jn hk hj)
        rcases hj with ⟨e1, e2⟩ | ⟨e1, e2⟩
        · have := D_le h hq
          rw [← e2] at this
          omega
        · rw [← e2] at hd; omega
      · have h2 := D_link hw ea ((adj_not_lsW h hk).2 ⟨ha, hj⟩) hd
        have := ih hy h2.1 hq
        omega
theorem crit_used {nd : Int} {ls : List Lk} (h : Valid nd ls) {k : Nat} (hk : k < ls.length) (hc : D nd (lsW ls k) (La ls k) (Lb ls k) < 0) {s : Int} (hs : Nd nd s) (hb : 0 ≤ D nd (lsW ls k) (Lb ls k) s) :
    0 ≤ D nd ls (La ls k) s ∧ D nd ls (La ls k) s = Lc ls k + D nd ls (Lb ls k) s := by
  obtain ⟨ea, eb, hne, _⟩ := ends_nd h hk
  have h1 := D_lsW_more h eb hs hb
  have h2 := D_adj h (adj_at (ls := ls) hk)
  have h3 := D_tri h ea eb hs h2.1 h1.1
  obtain ⟨p, hp⟩ := D_path h ea.1 ea.2 hs.1 hs.2 h3.1
  have h4 := crit_cross h hk hc hs hb ea (by rw [D_self (h.lsW k) ea]; omega) hp
  omega

/-! ### another cost of a link -/

theorem adj_lsC_jn {nd : Int} {ls : List Lk} (h : Valid nd ls) {k : Nat} (hk : k < ls.length) {c : Int} {u v e : Int} : Adj (lsC ls k c) u v e ↔ (Jn ls k u v ∧ e = c) ∨ (Adj ls u v e ∧ ¬ Jn ls k u v) := adj_lsC h hk
/-- a path in the graph with another cost: at a path without a node twice the cost turns once at most -/
theorem pth_lsC {nd : Int} {ls : List Lk} (h : Valid nd ls) {k : Nat} (hk : k < ls.length) {c : Int} (h0 : Lc ls k ≤ c) : ∀ {p : List Int} {u v e : Int}, Pth nd ls p u v e → p.Nodup →
    ∃ e', Pth nd (lsC ls k c) p u v e' ∧ e ≤ e' ∧ e' ≤ e + (c - Lc ls k) ∧ ((La ls k ∉ p ∨ Lb ls k ∉ p) → e' = e) := by
  intro p
  induction p with
  | nil => intro u v e hp; exact hp.elim
  | cons x p ih =>
    intro u v e hp hn
    cases p with
    | nil => exact ⟨e, hp, by omega, by omega, fun _ => rfl⟩
    | cons y r =>
      obtain ⟨rfl, w, ha, hq⟩ := hp
      have hn1 := (List.nodup_cons.1 hn).1
      have hn2 := (List.nodup_cons.1 hn).2
      obtain ⟨e', h1, h2, h3, h4⟩ := ih hq hn2
      by_cases hj : Jn ls k x y
      · have hw : w = Lc ls k := ha.uniq h (adj_of_jn hk hj)
        have he : e' = e - w := h4 (by
          rcases hj with ⟨e1, e2⟩ | ⟨e1, e2⟩
          · left; rw [e1]; exact hn1
          · right; rw [e2]; exact hn1)
        refine ⟨c + e', (h1.cons ((adj_lsC_jn h hk).2 (.inl ⟨hj, rfl⟩))), by omega, by omega, fun hh => ?_⟩
        exfalso
        rcases hj with ⟨e1, e2⟩ | ⟨e1, e2⟩ <;> rcases hh with hh | hh <;> apply hh
        · rw [e1]; exact List.mem_cons_self ..
        · rw [e2]; exact List.mem_cons_of_mem _ (List.mem_cons_self ..)
        · rw [e1]; exact List.mem_cons_of_mem _ (List.mem_cons_self ..)
        · rw [e2]; exact List.mem_cons_self ..
      · refine ⟨w + e', h1.cons ((adj_lsC_jn h hk).2 (.inr ⟨ha, hj⟩)), by omega, by omega, fun hh => ?_⟩
        have := h4 (by
          rcases hh with hh | hh
          · exact .inl (fun hm => hh (List.mem_cons_of_mem _ hm))
          · exact .inr (fun hm => hh (List.mem_cons_of_mem _ hm)))
        omega
/-- a path with the greater cost is one with the smaller, no dearer -/
theorem pth_lsC_back {nd : Int} {ls : List Lk} (h : Valid nd ls) {k : Nat} (hk : k < ls.length) {c : Int} (h0 : Lc ls k ≤ c) : ∀ {p : List Int} {u v e : Int}, Pth nd (lsC ls k c) p u v e →
    ∃ e', Pth nd ls p u v e' ∧ e' ≤ e := by
  intro p
  induction p with
  | nil => intro u v e hp; exact hp.elim
  | cons x p ih =>
    intro u v e hp
    cases p with
    | nil => exact ⟨e, hp, by omega⟩
    | cons y r =>
      obtain ⟨rfl, w, ha, hq⟩ := hp
      obtain ⟨e', h1, h2⟩ := ih hq
      rcases (adj_lsC_jn h hk).1 ha with ⟨hj, rfl⟩ | ⟨ha', _⟩
      · exact ⟨_, h1.cons (adj_of_jn hk hj), by omega⟩
      · exact ⟨_, h1.cons ha', by omega⟩
/-- a greater cost: no distance shorter, none longer by more; the same nodes are reached -/
theorem D_lsC_up {nd : Int} {ls : List Lk} (h : Valid nd ls) {k : Nat} (hk : k < ls.length) {c : Int} (h0 : Lc ls k ≤ c) (h20 : c ≤ 20) {u v : Int} (hu : Nd nd u) (hw : Nd nd v) :
    (0 ≤ D nd ls u v ∧ D nd ls u v ≤ D nd (lsC ls k c) u v ∧ D nd (lsC ls k c) u v ≤ D nd ls u v + (c - Lc ls k)) ∨ (D nd ls u v = -1 ∧ D nd (lsC ls k c) u v = -1) := by
  have hk1 := (ends_nd h hk).2.2.2.1
  have hv' : Valid nd (lsC ls k c) := h.lsC (by omega) h20
  have b1 := D_bd h u v
  have b2 := D_bd hv' u v
  by_cases hd : 0 ≤ D nd ls u v
  · obtain ⟨p, hp⟩ := D_path h hu.1 hu.2 hw.1 hw.2 hd
    obtain ⟨q, e, hq, he, hn⟩ := hp.simple h
    obtain ⟨e', h1, h2, h3, _⟩ := pth_lsC h hk h0 hq hn
    have h4 := D_le hv' h1
    obtain ⟨p', hp'⟩ := D_path hv' hu.1 hu.2 hw.1 hw.2 h4.1
    obtain ⟨e'', h5, h6⟩ := pth_lsC_back h hk h0 hp'
    have h7 := D_le h h5
    left; omega
  · right
    refine ⟨by omega, ?_⟩
    by_cases hd' : 0 ≤ D nd (lsC ls k c) u v
    · obtain ⟨p', hp'⟩ := D_path hv' hu.1 hu.2 hw.1 hw.2 hd'
      obtain ⟨e'', h5, h6⟩ := pth_lsC_back h hk h0 hp'
      have h7 := D_le h h5
      omega
    · omega
/-- any cost -/
theorem D_lsC_any {nd : Int} {ls : List Lk} (h : Valid nd ls) {k : Nat} (hk : k < ls.length) {c : Int} (h1 : 1 ≤ c) (h20 : c ≤ 20) {u v : Int} (hu : Nd nd u) (hw : Nd nd v) :
    (0 ≤ D nd ls u v ∧ 0 ≤ D nd (lsC ls k c) u v ∧ (Lc ls k ≤ c → D nd ls u v ≤ D nd (lsC ls k c) u v ∧ D nd (lsC ls k c) u v ≤ D nd ls u v + (c - Lc ls k)) ∧ (c ≤ Lc ls k → D nd (lsC ls k c) u v ≤ D nd ls u v ∧ D nd ls u v ≤ D nd (lsC ls k c) u v + (Lc ls k - c))) ∨ (D nd ls u v = -1 ∧ D nd (lsC ls k c) u v = -1) := by
  have hk2 := (ends_nd h hk).2.2.2
  by_cases h0 : Lc ls k ≤ c
  · rcases D_lsC_up h hk h0 h20 hu hw with ⟨a, b, d⟩ | ⟨a, b⟩
    · left; exact ⟨a, by omega, fun _ => ⟨b, d⟩, fun _ => by omega⟩
    · right; exact ⟨a, b⟩
  · have hk' : k < (lsC ls k c).length := by rw [length_lsC]; exact hk
    obtain ⟨_, _, e3⟩ := lsC_get (k := k) (c := c) hk
    rw [if_pos rfl] at e3
    have := D_lsC_up (h.lsC (k := k) h1 h20) hk' (c := Lc ls k) (by omega) (by omega) hu hw
    rw [lsC_lsC hk, lsC_same, e3] at this
    rcases this with ⟨a, b, d⟩ | ⟨a, b⟩
    · left; exact ⟨by omega, a, fun _ => by omega, fun _ => ⟨b, d⟩⟩
    · right; exact ⟨b, a⟩

/-! ### links and nodes on shortest paths -/

/-- what LinkUsed answers at fit arguments -/
def usedB (nd : Int) (ls : List Lk) (f t : Int) (k : Nat) : Bool :=
  decide (0 ≤ D nd ls f t) && decide (0 ≤ D nd ls f (La ls k)) && (decide (D nd ls f (La ls k) + Lc ls k + D nd ls t (Lb ls k) = D nd ls f t) || decide (D nd ls f (Lb ls k) + Lc ls k + D nd ls t (La ls k) = D nd ls f t))
theorem usedB_iff {nd : Int} {ls : List Lk} {f t : Int} {k : Nat} : usedB nd ls f t k = true ↔ 0 ≤ D nd ls f t ∧ 0 ≤ D nd ls f (La ls k) ∧ (D nd ls f (La ls k) + Lc ls k + D nd ls t (Lb ls k) = D nd ls f t ∨ D nd ls f (Lb ls k) + Lc ls k + D nd ls t (La ls k) = D nd ls f t) := by
  unfold usedB; simp [and_assoc]
/-- both ends are reached, or none -/
theorem ends_reach {nd : Int} {ls : List Lk} (h : Valid nd ls) {k : Nat} (hk : k < ls.length) {f : Int} (hf : Nd nd f) : 0 ≤ D nd ls f (La ls k) ↔ 0 ≤ D nd ls f (Lb ls k) := by
  have ha := adj_at (ls := ls) hk
  exact ⟨fun h1 => (D_link h hf ha h1).1, fun h1 => (D_link h hf ha.symm h1).1⟩
theorem used_back {nd : Int} {ls : List Lk} (h : Valid nd ls) {k : Nat} (hk : k < ls.length) {f t : Int} (hf : Nd nd f) (ht : Nd nd t) : usedB nd ls f t k = usedB nd ls t f k := by
  obtain ⟨ea, eb, _⟩ := ends_nd h hk
  rw [Bool.eq_iff_iff, usedB_iff, usedB_iff, D_symm h hf ht]
  have h1 : 0 ≤ D nd ls t f → (0 ≤ D nd ls f (La ls k) ↔ 0 ≤ D nd ls t (La ls k)) := fun h0 => ⟨fun h2 => (D_tri h ht hf ea h0 h2).1, fun h2 => (D_tri h hf ht ea (by rw [D_symm h hf ht]; exact h0) h2).1⟩
  constructor
  · rintro ⟨a, b, c⟩; exact ⟨a, (h1 a).1 b, by omega⟩
  · rintro ⟨a, b, c⟩; exact ⟨a, (h1 a).2 b, by omega⟩
/-- a link is used between its ends if no detour is shorter -/
theorem used_ends {nd : Int} {ls : List Lk} (h : Valid nd ls) {k : Nat} (hk : k < ls.length) : usedB nd ls (La ls k) (Lb ls k) k = true ↔ D nd ls (La ls k) (Lb ls k) = Lc ls k := by
  obtain ⟨ea, eb, hne, hc⟩ := ends_nd h hk
  have h1 := D_adj h (adj_at (ls := ls) hk)
  rw [usedB_iff, D_self h ea, D_self h eb, D_symm h eb ea]
  constructor
  · rintro ⟨_, _, c⟩; omega
  · intro e; exact ⟨h1.1, by omega, .inl (by omega)⟩
theorem used_crit {nd : Int} {ls : List Lk} (h : Valid nd ls) {k : Nat} (hk : k < ls.length) (hc : D nd (lsW ls k) (La ls k) (Lb ls k) < 0) {s : Int} (hs : Nd nd s) (hb : 0 ≤ D nd (lsW ls k) (Lb ls k) s) : usedB nd ls (La ls k) s k = true := by
  obtain ⟨ea, eb, hne, hcc⟩ := ends_nd h hk
  have h1 := crit_used h hk hc hs hb
  rw [usedB_iff, D_self h ea, D_symm h hs eb]
  exact ⟨h1.1, by omega, .inl (by omega)⟩

/-- what NodeUsed answers at fit arguments -/
def nusedB (nd : Int) (ls : List Lk) (f t n : Int) : Bool :=
  decide (0 ≤ D nd ls f n) && decide (0 ≤ D nd ls t n) && decide (D nd ls f n + D nd ls t n = D nd ls f t)
theorem nusedB_iff {nd : Int} {ls : List Lk} {f t n : Int} : nusedB nd ls f t n = true ↔ 0 ≤ D nd ls f n ∧ 0 ≤ D nd ls t n ∧ D nd ls f n + D nd ls t n = D nd ls f t := by
  unfold nusedB; simp [and_assoc]
theorem nusedB_iff' {nd : Int} {ls : List Lk} (h : Valid nd ls) {f t n : Int} (hf : Nd nd f) (ht : Nd nd t) (hn : Nd nd n) : nusedB nd ls f t n = true ↔ 0 ≤ D nd ls f t ∧ 0 ≤ D nd ls f n ∧ D nd ls f n + D nd ls t n = D nd ls f t := by
  rw [nusedB_iff]
  have b := D_bd h t n
  constructor
  · rintro ⟨a, b, c⟩; exact ⟨by omega, a, c⟩
  · rintro ⟨a, b, c⟩
    have h1 : 0 ≤ D nd ls t f := by rw [D_symm h ht hf]; exact a
    exact ⟨b, (D_tri h ht hf hn h1 b).1, c⟩

end Go.Proofs.Ytnmmacfchmmkkaa
