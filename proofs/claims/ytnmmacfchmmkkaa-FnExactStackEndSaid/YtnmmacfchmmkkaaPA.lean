/-
  Plain lists and integers: graphs as a number of nodes and a list of links, the relaxation that the distances come of, and that it finds the costs of cheapest paths. No program in sight.
-/
namespace Go.Proofs.Ytnmmacfchmmkkaa

structure Lk where
  a : Int
  b : Int
  c : Int

def dk : Lk := ⟨0, 0, 0⟩
def La (ls : List Lk) (k : Nat) : Int := (ls.getD k dk).a
def Lb (ls : List Lk) (k : Nat) : Int := (ls.getD k dk).b
def Lc (ls : List Lk) (k : Nat) : Int := (ls.getD k dk).c
def Ix (xs : List Int) (k : Nat) : Int := xs.getD k (-1)

/-- link k is fit for nd nodes -/
def LkOk (nd : Int) (ls : List Lk) (k : Nat) : Prop := 0 ≤ La ls k ∧ La ls k < Lb ls k ∧ Lb ls k < nd ∧ 1 ≤ Lc ls k ∧ Lc ls k ≤ 20
/-- link j stands before link k -/
def LkLt (ls : List Lk) (j k : Nat) : Prop := La ls j < La ls k ∨ (La ls j = La ls k ∧ Lb ls j < Lb ls k)
/-- the first n links are fit and ascend -/
def ValidTo (nd : Int) (ls : List Lk) (n : Nat) : Prop := (∀ k, k < n → LkOk nd ls k) ∧ (∀ k, 0 < k → k < n → LkLt ls (k - 1) k)
def Valid (nd : Int) (ls : List Lk) : Prop := 1 ≤ nd ∧ nd ≤ 8 ∧ ls.length ≤ 14 ∧ ValidTo nd ls ls.length

theorem ValidTo.zero (nd : Int) (ls : List Lk) : ValidTo nd ls 0 := ⟨fun _ h => by omega, fun _ _ h => by omega⟩
theorem ValidTo.succ {nd : Int} {ls : List Lk} {n : Nat} (h : ValidTo nd ls n) (h1 : LkOk nd ls n) (h2 : 0 < n → LkLt ls (n - 1) n) : ValidTo nd ls (n + 1) := by
  refine ⟨fun k hk => ?_, fun k h0 hk => ?_⟩
  · rcases Nat.lt_or_ge k n with h' | h'
    · exact h.1 k h'
    · obtain rfl : k = n := by omega
      exact h1
  · rcases Nat.lt_or_ge k n with h' | h'
    · exact h.2 k h0 h'
    · obtain rfl : k = n := by omega
      exact h2 h0

theorem Valid.ok {nd : Int} {ls : List Lk} (h : Valid nd ls) {k : Nat} (hk : k < ls.length) : LkOk nd ls k := h.2.2.2.1 k hk
theorem Valid.lt {nd : Int} {ls : List Lk} (h : Valid nd ls) {j k : Nat} (hj : j < k) (hk : k < ls.length) : LkLt ls j k := by
  induction k with
  | zero => omega
  | succ m ih =>
    have h1 := h.2.2.2.2 (m + 1) (by omega) hk
    simp only [Nat.add_sub_cancel] at h1
    rcases Nat.lt_or_ge j m with h' | h'
    · have h2 := ih h' (by omega)
      unfold LkLt at *
      omega
    · obtain rfl : j = m := by omega
      exact h1

/-! ### one link's relaxation, one round, all rounds -/

def stepB (d : List Int) (a b c : Int) : List Int :=
  if 0 ≤ Ix d a.toNat ∧ (Ix d b.toNat < 0 ∨ Ix d a.toNat + c < Ix d b.toNat) then d.set b.toNat (Ix d a.toNat + c) else d
def relax (d : List Int) (a b c : Int) : List Int := stepB (stepB d a b c) b a c
/-- k links of a round -/
def rndK (ls : List Lk) : Nat → List Int → List Int
  | 0, d => d
  | k + 1, d => relax (rndK ls k d) (La ls k) (Lb ls k) (Lc ls k)
/-- r rounds -/
def rnds (ls : List Lk) : Nat → List Int → List Int
  | 0, d => d
  | r + 1, d => rndK ls ls.length (rnds ls r d)
def d0 (nd f : Int) : List Int := (List.replicate nd.toNat (-1)).set f.toNat 0
/-- the distances from f -/
def dists (nd : Int) (ls : List Lk) (f : Int) : List Int := rnds ls nd.toNat (d0 nd f)
def D (nd : Int) (ls : List Lk) (u v : Int) : Int := Ix (dists nd ls u) v.toNat

theorem Ix_set_same (d : List Int) (i : Nat) (x : Int) (h : i < d.length) : Ix (d.set i x) i = x := by
  unfold Ix; simp [h]
theorem Ix_set_other (d : List Int) (i j : Nat) (x : Int) (h : i ≠ j) : Ix (d.set i x) j = Ix d j := by
  unfold Ix; simp [List.getD_eq_getElem?_getD, List.getElem?_set_ne h]
theorem length_stepB (d : List Int) (a b c : Int) : (stepB d a b c).length = d.length := by
  unfold stepB; split <;> simp
theorem length_relax (d : List Int) (a b c : Int) : (relax d a b c).length = d.length := by
  unfold relax; rw [length_stepB, length_stepB]
theorem length_rndK (ls : List Lk) (k : Nat) (d : List Int) : (rndK ls k d).length = d.length := by
  induction k with
  | zero => rfl
  | succ k ih => unfold rndK; rw [length_relax, ih]
theorem length_rnds (ls : List Lk) (k : Nat) (d : List Int) : (rnds ls k d).length = d.length := by
  induction k with
  | zero => rfl
  | succ k ih => unfold rnds; rw [length_rndK, ih]
theorem length_d0 (nd f : Int) : (d0 nd f).length = nd.toNat := by unfold d0; simp
theorem length_dists (nd : Int) (ls : List Lk) (f : Int) : (dists nd ls f).length = nd.toNat := by
  unfold dists; rw [length_rnds, length_d0]

/-! ### bounds: no entry passes M -/

def Bd (d : List Int) (M : Int) : Prop := ∀ i, -1 ≤ Ix d i ∧ Ix d i ≤ M
theorem Bd.mono {d : List Int} {M N : Int} (h : Bd d M) (hn : M ≤ N) : Bd d N := fun i => ⟨(h i).1, Int.le_trans (h i).2 hn⟩
theorem Bd.stepB {d : List Int} {M : Int} (h : Bd d M) {a b c : Int} (h0 : 0 ≤ c) (hc : c ≤ 20) : Bd (stepB d a b c) (M + 20) := by
  intro i
  have ha := h a.toNat
  have hi := h i
  unfold Go.Proofs.Ytnmmacfchmmkkaa.stepB
  split
  · by_cases e : b.toNat = i
    · subst e
      by_cases hl : b.toNat < d.length
      · rw [Ix_set_same _ _ _ hl]; omega
      · rw [List.set_eq_of_length_le (by omega)]; omega
    · rw [Ix_set_other _ _ _ _ e]; omega
  · omega
theorem Bd.relax {d : List Int} {M : Int} (h : Bd d M) {a b c : Int} (h0 : 0 ≤ c) (hc : c ≤ 20) : Bd (relax d a b c) (M + 40) := by
  have := (h.stepB (a := a) (b := b) h0 hc).stepB (a := b) (b := a) h0 hc
  exact this.mono (by omega)
theorem Bd.d0 (nd f : Int) : Bd (d0 nd f) 0 := by
  intro i
  unfold Go.Proofs.Ytnmmacfchmmkkaa.d0
  by_cases e : f.toNat = i
  · subst e
    by_cases hl : f.toNat < (List.replicate nd.toNat (-1 : Int)).length
    · rw [Ix_set_same _ _ _ hl]; omega
    · rw [List.set_eq_of_length_le (by omega)]
      unfold Ix; simp only [List.getD_eq_getElem?_getD, List.getElem?_replicate]; split <;> simp
  · rw [Ix_set_other _ _ _ _ e]
    unfold Ix; simp only [List.getD_eq_getElem?_getD, List.getElem?_replicate]; split <;> simp
theorem Bd.rndK {nd : Int} {ls : List Lk} (hv : Valid nd ls) {d : List Int} {M : Int} (h : Bd d M) {k : Nat} (hk : k ≤ ls.length) : Bd (rndK ls k d) (M + 40 * k) := by
  induction k with
  | zero => simpa [Go.Proofs.Ytnmmacfchmmkkaa.rndK] using h
  | succ k ih =>
    have ho := hv.ok (k := k) (by omega)
    unfold LkOk at ho
    have := (ih (by omega)).relax (a := La ls k) (b := Lb ls k) (c := Lc ls k) (by omega) (by omega)
    exact this.mono (by omega)
theorem Bd.rnds {nd : Int} {ls : List Lk} (hv : Valid nd ls) {d : List Int} {M : Int} (h : Bd d M) (r : Nat) : Bd (rnds ls r d) (M + 560 * r) := by
  induction r with
  | zero => simpa [Go.Proofs.Ytnmmacfchmmkkaa.rnds] using h
  | succ r ih =>
    have hl := hv.2.2.1
    have := Bd.rndK hv ih (Nat.le_refl _)
    exact this.mono (by omega)
theorem Bd.dists {nd : Int} {ls : List Lk} (hv : Valid nd ls) (f : Int) : Bd (dists nd ls f) 4480 := by
  have := Bd.rnds hv (Bd.d0 nd f) nd.toNat
  have h8 := hv.2.1
  exact this.mono (by omega)
theorem D_bd {nd : Int} {ls : List Lk} (hv : Valid nd ls) (u v : Int) : -1 ≤ D nd ls u v ∧ D nd ls u v ≤ 4480 := Bd.dists hv u _

/-! ### links between nodes, paths -/

/-- some link of cost c joins u and v -/
def Adj (ls : List Lk) (u v c : Int) : Prop := ∃ k, k < ls.length ∧ ((La ls k = u ∧ Lb ls k = v) ∨ (La ls k = v ∧ Lb ls k = u)) ∧ Lc ls k = c
theorem Adj.symm {ls : List Lk} {u v c : Int} (h : Adj ls u v c) : Adj ls v u c := by
  obtain ⟨k, hk, ho, hc⟩ := h
  exact ⟨k, hk, ho.symm, hc⟩
theorem Adj.range {nd : Int} {ls : List Lk} (hv : Valid nd ls) {u v c : Int} (h : Adj ls u v c) : 0 ≤ u ∧ u < nd ∧ 0 ≤ v ∧ v < nd ∧ u ≠ v ∧ 1 ≤ c ∧ c ≤ 20 := by
  obtain ⟨k, hk, ho, hc⟩ := h
  have := hv.ok hk
  unfold LkOk at this
  omega
theorem Adj.uniq {nd : Int} {ls : List Lk} (hv : Valid nd ls) {u v c c' : Int} (h : Adj ls u v c) (h' : Adj ls u v c') : c = c' := by
  obtain ⟨k, hk, ho, hc⟩ := h
  obtain ⟨k', hk', ho', hc'⟩ := h'
  have o1 := hv.ok hk
  have o2 := hv.ok hk'
  unfold LkOk at o1 o2
  rcases Nat.lt_trichotomy k k' with e | e | e
  · have := hv.lt e hk'; unfold LkLt at this; omega
  · subst e; omega
  · have := hv.lt e hk; unfold LkLt at this; omega

/-- p lists the nodes of a path from u to v of cost c -/
def Pth (nd : Int) (ls : List Lk) : List Int → Int → Int → Int → Prop
  | [], _, _, _ => False
  | [x], u, v, c => x = u ∧ u = v ∧ c = 0 ∧ 0 ≤ u ∧ u < nd
  | x :: y :: r, u, v, c => x = u ∧ ∃ e, Adj ls u y e ∧ Pth nd ls (y :: r) y v (c - e)

theorem Pth.head {nd : Int} {ls : List Lk} {p : List Int} {u v c : Int} (h : Pth nd ls p u v c) : ∃ r, p = u :: r := by
  match p, h with
  | [x], h => exact ⟨[], by rw [h.1]⟩
  | x :: y :: r, h => exact ⟨y :: r, by rw [h.1]⟩
theorem Pth.one {nd : Int} {ls : List Lk} {u : Int} (h0 : 0 ≤ u) (h1 : u < nd) : Pth nd ls [u] u u 0 := ⟨rfl, rfl, rfl, h0, h1⟩
theorem Pth.cons {nd : Int} {ls : List Lk} {p : List Int} {u y v e c : Int} (ha : Adj ls u y e) (h : Pth nd ls p y v c) : Pth nd ls (u :: p) u v (e + c) := by
  obtain ⟨r, rfl⟩ := h.head
  refine ⟨rfl, e, ha, ?_⟩
  rw [show e + c - e = c from by omega]
  exact h
theorem Pth.uncons {nd : Int} {ls : List Lk} {x y : Int} {r : List Int} {u v c : Int} (h : Pth nd ls (x :: y :: r) u v c) : x = u ∧ ∃ e, Adj ls u y e ∧ Pth nd ls (y :: r) y v (c - e) := h
theorem Pth.range {nd : Int} {ls : List Lk} (hv : Valid nd ls) {p : List Int} {u v c : Int} (h : Pth nd ls p u v c) : 0 ≤ c ∧ 0 ≤ u ∧ u < nd ∧ 0 ≤ v ∧ v < nd ∧ ∀ x ∈ p, 0 ≤ x ∧ x < nd := by
  induction p generalizing u c with
  | nil => exact h.elim
  | cons x p ih =>
    cases p with
    | nil =>
      obtain ⟨rfl, rfl, rfl, h0, h1⟩ := h
      exact ⟨by omega, h0, h1, h0, h1, fun z hz => by simp at hz; subst hz; exact ⟨h0, h1⟩⟩
    | cons y r =>
      obtain ⟨rfl, e, ha, hp⟩ := h
      obtain ⟨a1, a2, a3, a4, a5, a6⟩ := ih hp
      have := ha.range hv
      refine ⟨by omega, by omega, by omega, a4, a5, fun z hz => ?_⟩
      rcases List.mem_cons.1 hz with rfl | hz
      · omega
      · exact a6 z hz
theorem Pth.pos {nd : Int} {ls : List Lk} (hv : Valid nd ls) {p : List Int} {u v c : Int} (h : Pth nd ls p u v c) (hne : u ≠ v) : 1 ≤ c := by
  match p, h with
  | [x], h => obtain ⟨rfl, rfl, _⟩ := h; exact absurd rfl hne
  | x :: y :: r, h =>
    obtain ⟨rfl, e, ha, hp⟩ := h
    have h1 := hp.range hv
    have h2 := ha.range hv
    omega
theorem Pth.append {nd : Int} {ls : List Lk} {p q : List Int} {u v z c e : Int} (h : Pth nd ls p u v c) (k : Pth nd ls (v :: q) v z e) : Pth nd ls (p ++ q) u z (c + e) := by
  induction p generalizing u c with
  | nil => exact h.elim
  | cons x p ih =>
    cases p with
    | nil =>
      obtain ⟨rfl, rfl, rfl, _⟩ := h
      simpa using k
    | cons y r =>
      obtain ⟨rfl, e', ha, hp⟩ := h
      have := (ih hp).cons ha
      rw [show e' + (c - e' + e) = c + e from by omega] at this
      exact this
theorem Pth.snoc {nd : Int} {ls : List Lk} (hv : Valid nd ls) {p : List Int} {u v z c e : Int} (h : Pth nd ls p u v c) (ha : Adj ls v z e) : Pth nd ls (p ++ [z]) u z (c + e) := by
  have hr := ha.range hv
  have := (Pth.one (nd := nd) (ls := ls) (u := z) (by omega) (by omega)).cons ha
  simp only [Int.add_zero] at this
  exact h.append this
theorem Pth.reverse {nd : Int} {ls : List Lk} (hv : Valid nd ls) {p : List Int} {u v c : Int} (h : Pth nd ls p u v c) : Pth nd ls p.reverse v u c := by
  induction p generalizing u c with
  | nil => exact h.elim
  | cons x p ih =>
    cases p with
    | nil =>
      obtain ⟨rfl, rfl, rfl, h0, h1⟩ := h
      exact Pth.one h0 h1
    | cons y r =>
      obtain ⟨rfl, e, ha, hp⟩ := h
      have := (ih hp).snoc hv ha.symm
      rw [show c - e + e = c from by omega] at this
      simpa using this
/-- the last link of a path -/
theorem Pth.unsnoc {nd : Int} {ls : List Lk} (hv : Valid nd ls) {p : List Int} {u v c : Int} (h : Pth nd ls p u v c) (hl : 2 ≤ p.length) :
    ∃ q m e, p = q ++ [v] ∧ Pth nd ls q u m (c - e) ∧ Adj ls m v e := by
  induction p generalizing u c with
  | nil => exact h.elim
  | cons x p ih =>
    cases p with
    | nil => simp at hl
    | cons y r =>
      obtain ⟨rfl, e, ha, hp⟩ := h
      cases r with
      | nil =>
        obtain ⟨_, rfl, h0, h1, h2⟩ := hp
        have hr := ha.range hv
        refine ⟨[x], x, e, rfl, ?_, ha⟩
        rw [h0]
        exact Pth.one (by omega) (by omega)
      | cons z r =>
        obtain ⟨q, m, e', hq, hpq, hm⟩ := ih hp (by simp)
        refine ⟨x :: q, m, e', by rw [hq]; rfl, ?_, hm⟩
        have := hpq.cons ha
        rw [show e + (c - e - e') = c - e' from by omega] at this
        exact this

/-- a later part of a path -/
theorem Pth.from_mem {nd : Int} {ls : List Lk} (hv : Valid nd ls) {p : List Int} {u v c x : Int} (h : Pth nd ls p u v c) (hx : x ∈ p) :
    ∃ q e, Pth nd ls q x v e ∧ e ≤ c ∧ q.length ≤ p.length ∧ (p.Nodup → q.Nodup) ∧ ∀ z ∈ q, z ∈ p := by
  induction p generalizing u c with
  | nil => exact h.elim
  | cons w p ih =>
    obtain ⟨r, hr⟩ := h.head
    rcases List.mem_cons.1 hx with rfl | hx
    · have : x = u := by simp at hr; exact hr.1
      subst this
      exact ⟨x :: p, c, h, by omega, by simp, fun n => n, fun z hz => hz⟩
    · cases p with
      | nil => simp at hx
      | cons y r =>
        obtain ⟨rfl, e, ha, hp⟩ := h
        obtain ⟨q, e', h1, h2, h3, h4, h5⟩ := ih hp hx
        have := ha.range hv
        refine ⟨q, e', h1, by omega, by simp at h3 ⊢; omega, fun n => h4 (List.nodup_cons.1 n).2, fun z hz => List.mem_cons_of_mem _ (h5 z hz)⟩

/-- a path without a node twice, no dearer -/
theorem Pth.simple {nd : Int} {ls : List Lk} (hv : Valid nd ls) {p : List Int} {u v c : Int} (h : Pth nd ls p u v c) :
    ∃ q e, Pth nd ls q u v e ∧ e ≤ c ∧ q.Nodup := by
  induction p generalizing u c with
  | nil => exact h.elim
  | cons x p ih =>
    cases p with
    | nil => exact ⟨[x], c, h, by omega, by simp⟩
    | cons y r =>
      obtain ⟨rfl, e, ha, hp⟩ := h
      obtain ⟨q, e', h1, h2, h3⟩ := ih hp
      have hr := ha.range hv
      by_cases hx : x ∈ q
      · obtain ⟨q', e'', k1, k2, _, k4, _⟩ := h1.from_mem hv hx
        exact ⟨q', e'', k1, by omega, k4 h3⟩
      · exact ⟨x :: q, e + e', h1.cons ha, by omega, List.nodup_cons.2 ⟨hx, h3⟩⟩

/-- so many different numbers below n -/
theorem nodup_le {n : Nat} : ∀ {p : List Int}, p.Nodup → (∀ x ∈ p, 0 ≤ x ∧ x < n) → p.length ≤ n := by
  induction n with
  | zero =>
    intro p _ h
    cases p with
    | nil => simp
    | cons x p => have := h x (by simp); omega
  | succ n ih =>
    intro p hp h
    have hlen : p.length ≤ (p.erase (n : Int)).length + 1 := by
      rw [List.length_erase]; split <;> omega
    have := ih (p := p.erase (n : Int)) (hp.erase _) (fun x hx => by
      have h1 := h x (List.mem_of_mem_erase hx)
      have h2 : x ≠ (n : Int) := by
        rintro rfl
        exact (List.Nodup.not_mem_erase hp) hx
      omega)
    omega
theorem Pth.length_le {nd : Int} {ls : List Lk} (hv : Valid nd ls) {p : List Int} {u v c : Int} (h : Pth nd ls p u v c) (hp : p.Nodup) : p.length ≤ nd.toNat := by
  have h1 := (h.range hv).2.2.2.2.2
  have h2 := hv.1
  exact nodup_le hp (fun x hx => by have := h1 x hx; omega)

/-! ### the relaxation is sound -/

def Sound (nd : Int) (ls : List Lk) (f : Int) (d : List Int) : Prop := ∀ v, 0 ≤ v → v < nd → 0 ≤ Ix d v.toNat → ∃ p, Pth nd ls p f v (Ix d v.toNat)

theorem Sound.stepB {nd : Int} {ls : List Lk} (hv : Valid nd ls) {f : Int} {d : List Int} (h : Sound nd ls f d) {a b c : Int} (ha : Adj ls a b c) : Sound nd ls f (stepB d a b c) := by
  intro v h0 h1 hd
  have hr := ha.range hv
  unfold Go.Proofs.Ytnmmacfchmmkkaa.stepB at hd ⊢
  split
  · rename_i hc
    rw [if_pos hc] at hd
    by_cases e : b.toNat = v.toNat
    · obtain rfl : b = v := by omega
      by_cases hl : b.toNat < d.length
      · rw [Ix_set_same _ _ _ hl]
        obtain ⟨p, hp⟩ := h a hr.1 hr.2.1 hc.1
        exact ⟨_, hp.snoc hv ha⟩
      · rw [List.set_eq_of_length_le (by omega)] at hd ⊢
        exact h b h0 h1 hd
    · rw [Ix_set_other _ _ _ _ e] at hd ⊢
      exact h v h0 h1 hd
  · rename_i hc
    rw [if_neg hc] at hd
    exact h v h0 h1 hd
theorem adj_at {ls : List Lk} {k : Nat} (hk : k < ls.length) : Adj ls (La ls k) (Lb ls k) (Lc ls k) := ⟨k, hk, .inl ⟨rfl, rfl⟩, rfl⟩
theorem Sound.rndK {nd : Int} {ls : List Lk} (hv : Valid nd ls) {f : Int} {d : List Int} (h : Sound nd ls f d) {k : Nat} (hk : k ≤ ls.length) : Sound nd ls f (rndK ls k d) := by
  induction k with
  | zero => exact h
  | succ k ih => exact ((ih (by omega)).stepB hv (adj_at (by omega))).stepB hv (adj_at (by omega)).symm
theorem Sound.rnds {nd : Int} {ls : List Lk} (hv : Valid nd ls) {f : Int} {d : List Int} (h : Sound nd ls f d) (r : Nat) : Sound nd ls f (rnds ls r d) := by
  induction r with
  | zero => exact h
  | succ r ih => exact ih.rndK hv (Nat.le_refl _)
theorem Ix_d0 (nd f : Int) (v : Nat) (hv : v < nd.toNat) : Ix (d0 nd f) v = if v = f.toNat then 0 else -1 := by
  unfold d0
  split
  · rename_i e
    subst e
    rw [Ix_set_same _ _ _ (by simpa using hv)]
  · rename_i e
    rw [Ix_set_other _ _ _ _ (by omega)]
    unfold Ix; simp [List.getD_eq_getElem?_getD, hv]
theorem Sound.d0 {nd : Int} {ls : List Lk} {f : Int} (h0 : 0 ≤ f) (h1 : f < nd) : Sound nd ls f (d0 nd f) := by
  intro v a b hd
  rw [Ix_d0 _ _ _ (by omega)] at hd ⊢
  split at hd
  · obtain rfl : v = f := by omega
    rw [if_pos rfl]
    exact ⟨_, Pth.one h0 h1⟩
  · omega

/-! ### the relaxation is complete -/

/-- x is no worse than y; less than 0 says: not reached -/
def Be (x y : Int) : Prop := 0 ≤ y → 0 ≤ x ∧ x ≤ y
theorem Be.refl (x : Int) : Be x x := fun h => ⟨h, Int.le_refl _⟩
theorem Be.trans {x y z : Int} (h : Be x y) (k : Be y z) : Be x z := fun hz => by
  have := k hz
  have := h this.1
  omega
theorem stepB_be (d : List Int) (a b c : Int) (i : Nat) (h0 : 0 ≤ c) : Be (Ix (stepB d a b c) i) (Ix d i) := by
  unfold stepB
  split
  · rename_i h
    by_cases e : b.toNat = i
    · subst e
      by_cases hl : b.toNat < d.length
      · rw [Ix_set_same _ _ _ hl]; intro h'; omega
      · rw [List.set_eq_of_length_le (by omega)]; exact Be.refl _
    · rw [Ix_set_other _ _ _ _ e]; exact Be.refl _
  · exact Be.refl _
theorem stepB_does (d : List Int) (a b c : Int) (hb : b.toNat < d.length) (ha : 0 ≤ Ix d a.toNat) (h0 : 0 ≤ c) : 0 ≤ Ix (stepB d a b c) b.toNat ∧ Ix (stepB d a b c) b.toNat ≤ Ix d a.toNat + c := by
  unfold stepB
  split
  · rw [Ix_set_same _ _ _ hb]; omega
  · omega
theorem relax_be (d : List Int) (a b c : Int) (i : Nat) (h0 : 0 ≤ c) : Be (Ix (relax d a b c) i) (Ix d i) :=
  (stepB_be _ _ _ _ i h0).trans (stepB_be _ _ _ _ i h0)
theorem relax_ab (d : List Int) (a b c : Int) (hb : b.toNat < d.length) (ha : 0 ≤ Ix d a.toNat) (h0 : 0 ≤ c) : 0 ≤ Ix (relax d a b c) b.toNat ∧ Ix (relax d a b c) b.toNat ≤ Ix d a.toNat + c := by
  have h1 := stepB_does d a b c hb ha h0
  have h2 := stepB_be (stepB d a b c) b a c b.toNat h0 h1.1
  unfold relax; omega
theorem relax_ba (d : List Int) (a b c : Int) (ha : a.toNat < d.length) (hb : 0 ≤ Ix d b.toNat) (h0 : 0 ≤ c) : 0 ≤ Ix (relax d a b c) a.toNat ∧ Ix (relax d a b c) a.toNat ≤ Ix d b.toNat + c := by
  have h1 := stepB_be d a b c b.toNat h0 hb
  have h2 := stepB_does (stepB d a b c) b a c (by rw [length_stepB]; exact ha) h1.1 h0
  unfold relax; omega
theorem rndK_be {nd : Int} {ls : List Lk} (hv : Valid nd ls) (d : List Int) {j k : Nat} (hj : j ≤ k) (hk : k ≤ ls.length) (i : Nat) : Be (Ix (rndK ls k d) i) (Ix (rndK ls j d) i) := by
  induction k with
  | zero => obtain rfl : j = 0 := by omega
            exact Be.refl _
  | succ k ih =>
    rcases Nat.lt_or_ge k j with h | h
    · obtain rfl : j = k + 1 := by omega
      exact Be.refl _
    · have ho := hv.ok (k := k) (by omega)
      unfold LkOk at ho
      exact (relax_be _ _ _ _ i (by omega)).trans (ih h (by omega))
theorem rnd_be {nd : Int} {ls : List Lk} (hv : Valid nd ls) (d : List Int) (i : Nat) : Be (Ix (rndK ls ls.length d) i) (Ix d i) := rndK_be hv d (Nat.zero_le _) (Nat.le_refl _) i
/-- one round brings each neighbour -/
theorem rnd_does {nd : Int} {ls : List Lk} (hv : Valid nd ls) (d : List Int) (hd : d.length = nd.toNat) {u v c : Int} (ha : Adj ls u v c) (hu : 0 ≤ Ix d u.toNat) :
    0 ≤ Ix (rndK ls ls.length d) v.toNat ∧ Ix (rndK ls ls.length d) v.toNat ≤ Ix d u.toNat + c := by
  have hr := ha.range hv
  obtain ⟨k, hk, ho, hc⟩ := ha
  have hl : (rndK ls k d).length = nd.toNat := by rw [length_rndK, hd]
  have h1 : 0 ≤ Ix (rndK ls k d) u.toNat ∧ Ix (rndK ls k d) u.toNat ≤ Ix d u.toNat := rndK_be hv d (Nat.zero_le k) (by omega) u.toNat hu
  have h2 := rndK_be hv d (j := k + 1) (k := ls.length) (by omega) (Nat.le_refl _) v.toNat
  have h3 : 0 ≤ Ix (rndK ls (k + 1) d) v.toNat ∧ Ix (rndK ls (k + 1) d) v.toNat ≤ Ix (rndK ls k d) u.toNat + c := by
    show 0 ≤ Ix (relax (rndK ls k d) (La ls k) (Lb ls k) (Lc ls k)) v.toNat ∧ Ix (relax (rndK ls k d) (La ls k) (Lb ls k) (Lc ls k)) v.toNat ≤ _
    rcases ho with ⟨e1, e2⟩ | ⟨e1, e2⟩
    · rw [e1, e2, hc]
      exact relax_ab _ _ _ _ (by omega) h1.1 (by omega)
    · rw [e1, e2, hc]
      exact relax_ba _ _ _ _ (by omega) h1.1 (by omega)
  have h4 := h2 h3.1
  have h5 : Ix (rndK ls k d) u.toNat ≤ Ix d u.toNat := h1.2
  omega
theorem rnds_reach {nd : Int} {ls : List Lk} (hv : Valid nd ls) {f : Int} (h0 : 0 ≤ f) (h1 : f < nd) (r : Nat) :
    ∀ {p : List Int} {v c : Int}, Pth nd ls p f v c → p.length ≤ r + 1 → 0 ≤ Ix (rnds ls r (d0 nd f)) v.toNat ∧ Ix (rnds ls r (d0 nd f)) v.toNat ≤ c := by
  induction r with
  | zero =>
    intro p v c hp hl
    match p, hp with
    | [x], hp =>
      obtain ⟨_, rfl, rfl, _⟩ := hp
      unfold rnds
      rw [Ix_d0 _ _ _ (by omega), if_pos rfl]; omega
    | x :: y :: r, _ => simp at hl
  | succ r ih =>
    intro p v c hp hl
    have hlr : (rnds ls r (d0 nd f)).length = nd.toNat := by rw [length_rnds, length_d0]
    rcases Nat.lt_or_ge p.length 2 with h | h
    · have h2 := ih hp (by omega)
      have h3 := rnd_be hv (rnds ls r (d0 nd f)) v.toNat h2.1
      unfold rnds; omega
    · obtain ⟨q, m, e, rfl, hq, ha⟩ := hp.unsnoc hv h
      have h2 := ih hq (by simp at hl; omega)
      have h3 := rnd_does hv _ hlr ha h2.1
      unfold rnds; omega

/-! ### what a distance is -/

theorem D_le {nd : Int} {ls : List Lk} (hv : Valid nd ls) {p : List Int} {u v c : Int} (h : Pth nd ls p u v c) : 0 ≤ D nd ls u v ∧ D nd ls u v ≤ c := by
  obtain ⟨q, e, hq, he, hn⟩ := h.simple hv
  have hr := hq.range hv
  have hl := hq.length_le hv hn
  have := rnds_reach hv hr.2.1 hr.2.2.1 nd.toNat hq (by omega)
  unfold D dists; omega
theorem D_path {nd : Int} {ls : List Lk} (hv : Valid nd ls) {u v : Int} (hu : 0 ≤ u) (hu' : u < nd) (h0 : 0 ≤ v) (h1 : v < nd) (hd : 0 ≤ D nd ls u v) : ∃ p, Pth nd ls p u v (D nd ls u v) :=
  (Sound.d0 (ls := ls) hu hu').rnds hv nd.toNat v h0 h1 hd

/-- the two nodes are nodes of the graph -/
def Nd (nd u : Int) : Prop := 0 ≤ u ∧ u < nd
theorem D_self {nd : Int} {ls : List Lk} (hv : Valid nd ls) {u : Int} (hu : Nd nd u) : D nd ls u u = 0 := by
  have := D_le hv (Pth.one (ls := ls) hu.1 hu.2); omega
theorem D_symm {nd : Int} {ls : List Lk} (hv : Valid nd ls) {u v : Int} (hu : Nd nd u) (hw : Nd nd v) : D nd ls u v = D nd ls v u := by
  have b1 := D_bd hv u v
  have b2 := D_bd hv v u
  by_cases h : 0 ≤ D nd ls u v
  · obtain ⟨p, hp⟩ := D_path hv hu.1 hu.2 hw.1 hw.2 h
    have h1 := D_le hv (hp.reverse hv)
    obtain ⟨q, hq⟩ := D_path hv hw.1 hw.2 hu.1 hu.2 h1.1
    have h2 := D_le hv (hq.reverse hv)
    omega
  · by_cases h' : 0 ≤ D nd ls v u
    · obtain ⟨q, hq⟩ := D_path hv hw.1 hw.2 hu.1 hu.2 h'
      have h2 := D_le hv (hq.reverse hv)
      omega
    · omega
theorem D_tri {nd : Int} {ls : List Lk} (hv : Valid nd ls) {u v w : Int} (hu : Nd nd u) (h1 : Nd nd v) (h2 : Nd nd w) (a : 0 ≤ D nd ls u v) (b : 0 ≤ D nd ls v w) :
    0 ≤ D nd ls u w ∧ D nd ls u w ≤ D nd ls u v + D nd ls v w := by
  obtain ⟨p, hp⟩ := D_path hv hu.1 hu.2 h1.1 h1.2 a
  obtain ⟨q, hq⟩ := D_path hv h1.1 h1.2 h2.1 h2.2 b
  obtain ⟨r, rfl⟩ := hq.head
  exact D_le hv (hp.append hq)
theorem D_adj {nd : Int} {ls : List Lk} (hv : Valid nd ls) {u v c : Int} (ha : Adj ls u v c) : 0 ≤ D nd ls u v ∧ D nd ls u v ≤ c := by
  have hr := ha.range hv
  have := D_le hv ((Pth.one (nd := nd) (ls := ls) (u := v) (by omega) (by omega)).cons ha)
  omega
theorem D_pos {nd : Int} {ls : List Lk} (hv : Valid nd ls) {u v : Int} (hu : Nd nd u) (h1 : Nd nd v) (hne : u ≠ v) (h : 0 ≤ D nd ls u v) : 1 ≤ D nd ls u v := by
  obtain ⟨p, hp⟩ := D_path hv hu.1 hu.2 h1.1 h1.2 h
  exact hp.pos hv hne
/-- the first link of a cheapest path -/
theorem D_step {nd : Int} {ls : List Lk} (hv : Valid nd ls) {u v : Int} (hu : Nd nd u) (h1 : Nd nd v) (hne : u ≠ v) (h : 0 ≤ D nd ls u v) :
    ∃ m e, Adj ls u m e ∧ 0 ≤ D nd ls m v ∧ D nd ls m v + e = D nd ls u v := by
  obtain ⟨p, hp⟩ := D_path hv hu.1 hu.2 h1.1 h1.2 h
  match p, hp with
  | [x], hp => obtain ⟨rfl, rfl, _⟩ := hp; exact absurd rfl hne
  | x :: y :: r, hp =>
    obtain ⟨rfl, e, ha, hq⟩ := hp
    have hr := ha.range hv
    have h2 := D_le hv hq
    obtain ⟨q, hq'⟩ := D_path hv (u := y) (v := v) (by omega) (by omega) h1.1 h1.2 h2.1
    have h3 := D_le hv (hq'.cons ha)
    exact ⟨y, e, ha, h2.1, by omega⟩
/-- over a link distances differ by no more than its cost -/
theorem D_link {nd : Int} {ls : List Lk} (hv : Valid nd ls) {f u v c : Int} (hf : Nd nd f) (ha : Adj ls u v c) (h : 0 ≤ D nd ls f u) : 0 ≤ D nd ls f v ∧ D nd ls f v ≤ D nd ls f u + c := by
  have hr := ha.range hv
  have h1 := D_adj hv ha
  have h2 := D_tri hv hf (v := u) (w := v) ⟨by omega, by omega⟩ ⟨by omega, by omega⟩ h h1.1
  omega

end Go.Proofs.Ytnmmacfchmmkkaa
