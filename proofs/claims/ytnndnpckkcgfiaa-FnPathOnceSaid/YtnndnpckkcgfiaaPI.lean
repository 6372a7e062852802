/-
  Plain lists: the shortest path over the first hops; what lies on the way.
-/
import Derived.Test.YtnndnpckkcgfiaaPH
namespace Go.Proofs.Ytnndnpckkcgfiaa

/-- the first next hop -/
noncomputable def hop1 (nd : Int) (ls : List Lk) (f t : Int) : Int := Ix (hops nd ls f t) 0
theorem hop1_mem {nd : Int} {ls : List Lk} (hv : Valid nd ls) {f t : Int} (hf : Nd nd f) (ht : Nd nd t) (hne : f ≠ t) (h : 0 ≤ D nd ls t f) : hop1 nd ls f t ∈ hops nd ls f t := Ix_mem (hops_some hv hf ht hne h)
noncomputable def pathF (nd : Int) (ls : List Lk) (t : Int) : Nat → Int → List Int
  | 0, f => [f]
  | n + 1, f => if f = t then [f] else f :: pathF nd ls t n (hop1 nd ls f t)
/-- the nodes of the shortest path over the first hops -/
noncomputable def path (nd : Int) (ls : List Lk) (f t : Int) : List Int := pathF nd ls t (D nd ls t f).toNat f
theorem D_zero {nd : Int} {ls : List Lk} (hv : Valid nd ls) {f t : Int} (hf : Nd nd f) (ht : Nd nd t) (h : 0 ≤ D nd ls t f) (h0 : D nd ls t f ≤ 0) : f = t := by
  by_cases e : t = f
  · exact e.symm
  · have := D_pos hv ht hf e h; omega
theorem pathF_same {nd : Int} {ls : List Lk} (hv : Valid nd ls) {t : Int} (ht : Nd nd t) : ∀ (n m : Nat) (f : Int), Nd nd f → 0 ≤ D nd ls t f → D nd ls t f ≤ n → D nd ls t f ≤ m → pathF nd ls t n f = pathF nd ls t m f := by
  intro n
  induction n with
  | zero =>
    intro m f hf h h1 h2
    have e := D_zero hv hf ht h (by omega)
    cases m with
    | zero => rfl
    | succ m => simp only [pathF]; rw [if_pos e]
  | succ n ih =>
    intro m f hf h h1 h2
    cases m with
    | zero =>
      have e := D_zero hv hf ht h (by omega)
      simp only [pathF]; rw [if_pos e]
    | succ m =>
      simp only [pathF]
      by_cases e : f = t
      · rw [if_pos e, if_pos e]
      · rw [if_neg e, if_neg e]
        have hh := hop_facts hv (hop1_mem hv hf ht e h)
        rw [ih m _ hh.2.1 hh.2.2.2.1 (by omega) (by omega)]
theorem path_self {nd : Int} {ls : List Lk} (hv : Valid nd ls) {t : Int} (ht : Nd nd t) : path nd ls t t = [t] := by
  unfold path; rw [D_self hv ht]; rfl
theorem path_step {nd : Int} {ls : List Lk} (hv : Valid nd ls) {f t : Int} (hf : Nd nd f) (ht : Nd nd t) (hne : f ≠ t) (h : 0 ≤ D nd ls t f) : path nd ls f t = f :: path nd ls (hop1 nd ls f t) t := by
  have hh := hop_facts hv (hop1_mem hv hf ht hne h)
  have h1 : 1 ≤ D nd ls t f := D_pos hv ht hf (Ne.symm hne) h
  obtain ⟨n, hn⟩ : ∃ n, (D nd ls t f).toNat = n + 1 := ⟨(D nd ls t f).toNat - 1, by omega⟩
  unfold path
  rw [hn]
  simp only [pathF]
  rw [if_neg hne, pathF_same hv ht n (D nd ls t (hop1 nd ls f t)).toNat _ hh.2.1 hh.2.2.2.1 (by omega) (by omega)]
/-- a rule for what holds of all that reach t: by the first hop -/
theorem reach_ind {nd : Int} {ls : List Lk} (hv : Valid nd ls) {t : Int} {P : Int → Prop}
    (hs : ∀ f, Nd nd f → 0 ≤ D nd ls t f → (∀ x ∈ hops nd ls f t, P x) → P f) : ∀ f, Nd nd f → 0 ≤ D nd ls t f → P f := by
  have : ∀ (n : Nat) (f : Int), Nd nd f → 0 ≤ D nd ls t f → D nd ls t f ≤ n → P f := by
    intro n
    induction n with
    | zero =>
      intro f hf h h1
      exact hs f hf h (fun x hx => by have := hop_facts hv hx; omega)
    | succ n ih =>
      intro f hf h h1
      exact hs f hf h (fun x hx => by
        have hh := hop_facts hv hx
        exact ih x hh.2.1 hh.2.2.2.1 (by omega))
  exact fun f hf h => this (D nd ls t f).toNat f hf h (by omega)
theorem path_pth {nd : Int} {ls : List Lk} (hv : Valid nd ls) {t : Int} (ht : Nd nd t) : ∀ f, Nd nd f → 0 ≤ D nd ls t f → Pth nd ls (path nd ls f t) f t (D nd ls t f) := by
  refine reach_ind hv (fun f hf h ih => ?_)
  by_cases e : f = t
  · subst e
    rw [path_self hv hf, D_self hv hf]
    exact Pth.one hf.1 hf.2
  · have hm := hop1_mem hv hf ht e h
    obtain ⟨c, ha, h1, h2⟩ := (mem_hops hv).1 hm
    rw [path_step hv hf ht e h, ← h2, Int.add_comm]
    exact Pth.cons ha (ih _ hm)
theorem path_pos {nd : Int} {ls : List Lk} (hv : Valid nd ls) {f t : Int} (hf : Nd nd f) (ht : Nd nd t) (h : 0 ≤ D nd ls t f) : 0 < (path nd ls f t).length := by
  obtain ⟨r, hr⟩ := (path_pth hv ht f hf h).head
  rw [hr]; simp
theorem path_len {nd : Int} {ls : List Lk} (hv : Valid nd ls) {t : Int} (ht : Nd nd t) : ∀ f, Nd nd f → 0 ≤ D nd ls t f → ((path nd ls f t).length : Int) ≤ D nd ls t f + 1 := by
  refine reach_ind hv (fun f hf h ih => ?_)
  by_cases e : f = t
  · subst e
    rw [path_self hv hf]
    simp; omega
  · have hm := hop1_mem hv hf ht e h
    have hh := hop_facts hv hm
    have := ih _ hm
    rw [path_step hv hf ht e h, List.length_cons]
    omega
theorem Ix_zero {x : Int} {r : List Int} : Ix (x :: r) 0 = x := rfl
theorem Ix_drop (xs : List Int) (k : Nat) : Ix (xs.drop k) 0 = Ix xs k := by unfold Ix; simp [List.getD_eq_getElem?_getD]
theorem Ix_drop' (xs : List Int) (k j : Nat) : Ix (xs.drop k) j = Ix xs (k + j) := by unfold Ix; simp [List.getD_eq_getElem?_getD]
theorem path_head {nd : Int} {ls : List Lk} (hv : Valid nd ls) {f t : Int} (hf : Nd nd f) (ht : Nd nd t) (h : 0 ≤ D nd ls t f) : Ix (path nd ls f t) 0 = f := by
  obtain ⟨r, hr⟩ := (path_pth hv ht f hf h).head
  rw [hr]; rfl
/-- x is on a shortest way from f to t -/
def OnR (nd : Int) (ls : List Lk) (f t x : Int) : Prop := 0 ≤ D nd ls f x ∧ 0 ≤ D nd ls t x ∧ D nd ls f x + D nd ls t x = D nd ls f t
theorem OnR.start {nd : Int} {ls : List Lk} (hv : Valid nd ls) {f t : Int} (hf : Nd nd f) (ht : Nd nd t) (h : 0 ≤ D nd ls t f) : OnR nd ls f t f :=
  ⟨by rw [D_self hv hf]; omega, h, by rw [D_self hv hf, D_symm hv ht hf]; omega⟩
theorem OnR.hop {nd : Int} {ls : List Lk} (hv : Valid nd ls) {f t x y : Int} (hf : Nd nd f) (ht : Nd nd t) (hx : OnR nd ls f t x) (hy : y ∈ hops nd ls x t) : OnR nd ls f t y := by
  obtain ⟨c, ha, h1, h2⟩ := (mem_hops hv).1 hy
  have hn := hop_facts hv hy
  obtain ⟨a, b⟩ := D_link hv hf ha hx.1
  have h3 := D_tri hv hf hn.2.1 ht a (by rw [D_symm hv hn.2.1 ht]; exact h1)
  rw [D_symm hv hn.2.1 ht] at h3
  have := hx.2.2
  exact ⟨a, h1, by omega⟩
/-- the link of a hop is used -/
theorem OnR.used {nd : Int} {ls : List Lk} (hv : Valid nd ls) {f t x y : Int} (hf : Nd nd f) (ht : Nd nd t) (hx : OnR nd ls f t x) (hy : y ∈ hops nd ls x t) : usedB nd ls f t (lkIx ls x y).toNat = true := by
  have hy' := OnR.hop hv hf ht hx hy
  obtain ⟨c, ha, h1, h2⟩ := (mem_hops hv).1 hy
  obtain ⟨h0, rfl⟩ := (adj_iff hv).1 ha
  obtain ⟨hk, hit⟩ := lkIx_hit h0
  have h3 := (hit_iff hv hk).1 hit
  have hx3 := hx.2.2
  have hx1 := hx.1
  have hy1 := hy'.1
  rw [usedB_iff]
  rcases h3 with ⟨ea, eb⟩ | ⟨ea, eb⟩
  · rw [ea, eb]; exact ⟨by have := hx.2.1; omega, hx1, .inl (by omega)⟩
  · rw [ea, eb]; exact ⟨by have := hx.2.1; omega, hy1, .inr (by omega)⟩
theorem OnR.nused {nd : Int} {ls : List Lk} {f t x : Int} (h : OnR nd ls f t x) : nusedB nd ls f t x = true := nusedB_iff.2 h
/-- the state at the k-th node of the path -/
structure PAt (nd : Int) (ls : List Lk) (f t : Int) (k : Nat) : Prop where
  nd' : Nd nd (Ix (path nd ls f t) k)
  far : 0 ≤ D nd ls t (Ix (path nd ls f t) k)
  rest : path nd ls (Ix (path nd ls f t) k) t = (path nd ls f t).drop k
  on : OnR nd ls f t (Ix (path nd ls f t) k)
theorem path_next {nd : Int} {ls : List Lk} (hv : Valid nd ls) {f t : Int} (ht : Nd nd t) {k : Nat} (h : PAt nd ls f t k) (hk : k + 1 < (path nd ls f t).length) :
    Ix (path nd ls f t) k ≠ t ∧ Ix (path nd ls f t) (k + 1) = hop1 nd ls (Ix (path nd ls f t) k) t ∧ Ix (path nd ls f t) (k + 1) ∈ hops nd ls (Ix (path nd ls f t) k) t ∧ path nd ls (Ix (path nd ls f t) (k + 1)) t = (path nd ls f t).drop (k + 1) := by
  have hne : Ix (path nd ls f t) k ≠ t := by
    intro e
    have h1 := h.rest
    rw [e, path_self hv ht] at h1
    have := congrArg List.length h1
    rw [List.length_drop] at this
    simp at this
    omega
  have hs := path_step hv h.nd' ht hne h.far
  have hm := hop1_mem hv h.nd' ht hne h.far
  have hh := hop_facts hv hm
  rw [h.rest] at hs
  have e1 : (path nd ls f t).drop (k + 1) = path nd ls (hop1 nd ls (Ix (path nd ls f t) k) t) t := by
    rw [← List.drop_drop (i := 1) (j := k), hs]; rfl
  have e2 : Ix (path nd ls f t) (k + 1) = hop1 nd ls (Ix (path nd ls f t) k) t := by
    rw [← Ix_drop, e1]; exact path_head hv hh.2.1 ht hh.2.2.2.1
  exact ⟨hne, e2, by rw [e2]; exact hm, by rw [e2, e1]⟩
theorem path_at {nd : Int} {ls : List Lk} (hv : Valid nd ls) {f t : Int} (hf : Nd nd f) (ht : Nd nd t) (h : 0 ≤ D nd ls t f) : ∀ k, k < (path nd ls f t).length → PAt nd ls f t k := by
  intro k
  induction k with
  | zero =>
    intro _
    have e := path_head hv hf ht h
    exact ⟨by rw [e]; exact hf, by rw [e]; exact h, by rw [e]; rfl, by rw [e]; exact OnR.start hv hf ht h⟩
  | succ k ih =>
    intro hk
    have hP := ih (by omega)
    obtain ⟨hne, e2, hm, hr⟩ := path_next hv ht hP hk
    have hh := hop_facts hv hm
    exact ⟨hh.2.1, hh.2.2.2.1, hr, OnR.hop hv hf ht hP.on hm⟩
theorem path_last {nd : Int} {ls : List Lk} (hv : Valid nd ls) {f t : Int} (hf : Nd nd f) (ht : Nd nd t) (h : 0 ≤ D nd ls t f) : Ix (path nd ls f t) ((path nd ls f t).length - 1) = t := by
  have h0 := path_pos hv hf ht h
  have hP := path_at hv hf ht h ((path nd ls f t).length - 1) (by omega)
  by_cases e : Ix (path nd ls f t) ((path nd ls f t).length - 1) = t
  · exact e
  · have hs := path_step hv hP.nd' ht e hP.far
    have hm := hop_facts hv (hop1_mem hv hP.nd' ht e hP.far)
    have h1 := path_pos hv hm.2.1 ht hm.2.2.2.1
    have h2 := congrArg List.length hP.rest
    rw [hs, List.length_cons, List.length_drop] at h2
    omega
theorem path_less {nd : Int} {ls : List Lk} (hv : Valid nd ls) {f t : Int} (hf : Nd nd f) (ht : Nd nd t) (h : 0 ≤ D nd ls t f) {j i : Nat} (hj : j < i) (hi : i < (path nd ls f t).length) : D nd ls t (Ix (path nd ls f t) i) < D nd ls t (Ix (path nd ls f t) j) := by
  induction i with
  | zero => omega
  | succ i ih =>
    have hP := path_at hv hf ht h i (by omega)
    obtain ⟨_, _, hm, _⟩ := path_next hv ht hP hi
    have hh := hop_facts hv hm
    rcases Nat.lt_or_ge j i with h' | h'
    · have := ih h' (by omega); omega
    · obtain rfl : j = i := by omega
      exact hh.2.2.2.2
theorem path_once {nd : Int} {ls : List Lk} (hv : Valid nd ls) {f t : Int} (hf : Nd nd f) (ht : Nd nd t) (h : 0 ≤ D nd ls t f) {i : Nat} (hi : i < (path nd ls f t).length) : Ix (path nd ls f t) i ∉ (path nd ls f t).take i := by
  intro hm
  obtain ⟨j, hj, e⟩ := mem_Ix hm
  rw [List.length_take] at hj
  have e' : Ix ((path nd ls f t).take i) j = Ix (path nd ls f t) j := by
    unfold Ix; simp only [List.getD_eq_getElem?_getD, List.getElem?_take]; rw [if_pos (by omega)]
  rw [e'] at e
  have := path_less hv hf ht h (j := j) (i := i) (by omega) hi
  rw [e] at this
  omega
/-- a step of the path: its link, and what it costs -/
theorem path_cost {nd : Int} {ls : List Lk} (hv : Valid nd ls) {f t : Int} (hf : Nd nd f) (ht : Nd nd t) (h : 0 ≤ D nd ls t f) {k : Nat} (hk : k + 1 < (path nd ls f t).length) :
    0 ≤ lkIx ls (Ix (path nd ls f t) k) (Ix (path nd ls f t) (k + 1)) ∧ D nd ls t (Ix (path nd ls f t) (k + 1)) + Lc ls (lkIx ls (Ix (path nd ls f t) k) (Ix (path nd ls f t) (k + 1))).toNat = D nd ls t (Ix (path nd ls f t) k) := by
  obtain ⟨_, _, hm, _⟩ := path_next hv ht (path_at hv hf ht h k (by omega)) hk
  obtain ⟨c, ha, h1, h2⟩ := (mem_hops hv).1 hm
  obtain ⟨h0, rfl⟩ := (adj_iff hv).1 ha
  exact ⟨h0, h2⟩
/-- the list under way -/
def PWay (nd : Int) (ls : List Lk) (f t : Int) (out : List Int) (c : Int) : Prop :=
  ∃ pre, out = pre ++ [c] ∧ path nd ls f t = pre ++ path nd ls c t ∧ Nd nd c ∧ 0 ≤ D nd ls t c
theorem PWay.start {nd : Int} {ls : List Lk} {f t : Int} (hf : Nd nd f) (h : 0 ≤ D nd ls t f) : PWay nd ls f t [f] f := ⟨[], rfl, rfl, hf, h⟩
theorem PWay.step {nd : Int} {ls : List Lk} (hv : Valid nd ls) {f t : Int} (ht : Nd nd t) {out : List Int} {c : Int} (h : PWay nd ls f t out c) (hne : c ≠ t) : PWay nd ls f t (out ++ [hop1 nd ls c t]) (hop1 nd ls c t) := by
  obtain ⟨pre, e1, e2, hc, h0⟩ := h
  have hh := hop_facts hv (hop1_mem hv hc ht hne h0)
  refine ⟨pre ++ [c], by rw [e1], ?_, hh.2.1, hh.2.2.2.1⟩
  rw [e2, path_step hv hc ht hne h0, List.append_assoc]; rfl
theorem PWay.fin {nd : Int} {ls : List Lk} (hv : Valid nd ls) {f t : Int} (ht : Nd nd t) {out : List Int} (h : PWay nd ls f t out t) : out = path nd ls f t := by
  obtain ⟨pre, e1, e2, _, _⟩ := h
  rw [e1, e2, path_self hv ht]
theorem PWay.len {nd : Int} {ls : List Lk} (hv : Valid nd ls) {f t : Int} (hf : Nd nd f) (ht : Nd nd t) (h0 : 0 ≤ D nd ls t f) {out : List Int} {c : Int} (h : PWay nd ls f t out c) : out.length ≤ 4481 := by
  obtain ⟨pre, e1, e2, hc, h1⟩ := h
  have a := path_len hv ht f hf h0
  have b := D_bd hv t f
  have d := path_pos hv hc ht h1
  have e := congrArg List.length e2
  rw [List.length_append] at e
  rw [e1, List.length_append, List.length_singleton]
  omega

end Go.Proofs.Ytnndnpckkcgfiaa
