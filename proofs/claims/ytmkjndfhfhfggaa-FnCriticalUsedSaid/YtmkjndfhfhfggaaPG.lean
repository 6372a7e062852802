/-
  Plain lists: there are fewer critical links than nodes.
-/
import Derived.Test.YtmkjndfhfhfggaaPF
namespace Go.Proofs.Ytmkjndfhfhfggaa

/-- the least node that v reaches -/
theorem root_exists {nd : Int} {ls : List Lk} (h : Valid nd ls) {v : Int} (hv : Nd nd v) : ∃ r, Nd nd r ∧ 0 ≤ D nd ls v r ∧ ∀ u, Nd nd u → 0 ≤ D nd ls v u → r ≤ u := by
  have step : ∀ n : Nat, (∃ u, Nd nd u ∧ u ≤ n ∧ 0 ≤ D nd ls v u) → ∃ r, Nd nd r ∧ 0 ≤ D nd ls v r ∧ ∀ u, Nd nd u → 0 ≤ D nd ls v u → r ≤ u := by
    intro n
    induction n with
    | zero =>
      rintro ⟨u, hu, h0, hd⟩
      have : u = 0 := by have := hu.1; omega
      subst this
      exact ⟨0, hu, hd, fun u' hu' _ => hu'.1⟩
    | succ n ih =>
      rintro ⟨u, hu, h0, hd⟩
      by_cases hh : ∃ u, Nd nd u ∧ u ≤ n ∧ 0 ≤ D nd ls v u
      · exact ih hh
      · refine ⟨u, hu, hd, fun u' hu' hd' => ?_⟩
        rcases Int.lt_or_le n u' with h1 | h1
        · omega
        · exact absurd ⟨u', hu', h1, hd'⟩ hh
  refine step v.toNat ⟨v, hv, by have := hv.1; omega, by rw [D_self h hv]; omega⟩
noncomputable def root (nd : Int) (ls : List Lk) (v : Int) : Int := @dite Int (Valid nd ls ∧ Nd nd v) (Classical.propDecidable _) (fun h => (root_exists h.1 h.2).choose) (fun _ => 0)
theorem root_spec {nd : Int} {ls : List Lk} (h : Valid nd ls) {v : Int} (hv : Nd nd v) : Nd nd (root nd ls v) ∧ 0 ≤ D nd ls v (root nd ls v) ∧ ∀ u, Nd nd u → 0 ≤ D nd ls v u → root nd ls v ≤ u := by
  have e : root nd ls v = (root_exists h hv).choose := by unfold root; rw [dif_pos ⟨h, hv⟩]
  rw [e]
  exact (root_exists h hv).choose_spec
theorem root_same {nd : Int} {ls : List Lk} (h : Valid nd ls) {u v : Int} (hu : Nd nd u) (hv : Nd nd v) (hd : 0 ≤ D nd ls u v) : root nd ls u = root nd ls v := by
  obtain ⟨a1, a2, a3⟩ := root_spec h hu
  obtain ⟨b1, b2, b3⟩ := root_spec h hv
  have hd' : 0 ≤ D nd ls v u := by rw [D_symm h hv hu]; exact hd
  have h1 := a3 _ b1 (D_tri h hu hv b1 hd b2).1
  have h2 := b3 _ a1 (D_tri h hv hu a1 hd' a2).1
  omega
/-- the end of link k that is farther from the root -/
noncomputable def farEnd (nd : Int) (ls : List Lk) (k : Nat) : Int := if D nd ls (root nd ls (La ls k)) (La ls k) < D nd ls (root nd ls (La ls k)) (Lb ls k) then Lb ls k else La ls k
noncomputable def nearEnd (nd : Int) (ls : List Lk) (k : Nat) : Int := if D nd ls (root nd ls (La ls k)) (La ls k) < D nd ls (root nd ls (La ls k)) (Lb ls k) then La ls k else Lb ls k

theorem ends_root {nd : Int} {ls : List Lk} (h : Valid nd ls) {k : Nat} (hk : k < ls.length) : Nd nd (root nd ls (La ls k)) ∧ 0 ≤ D nd ls (root nd ls (La ls k)) (La ls k) ∧ 0 ≤ D nd ls (root nd ls (La ls k)) (Lb ls k) := by
  obtain ⟨ea, eb, _⟩ := ends_nd h hk
  obtain ⟨a1, a2, _⟩ := root_spec h ea
  have h1 : 0 ≤ D nd ls (root nd ls (La ls k)) (La ls k) := by rw [D_symm h a1 ea]; exact a2
  exact ⟨a1, h1, (D_link h a1 (adj_at hk) h1).1⟩
theorem farEnd_jn {nd : Int} {ls : List Lk} {k : Nat} : Jn ls k (nearEnd nd ls k) (farEnd nd ls k) := by
  unfold farEnd nearEnd Jn
  split
  · exact .inl ⟨rfl, rfl⟩
  · exact .inr ⟨rfl, rfl⟩

/-- what lies no farther than M from r is reached without link k, if link k is no last link of a shortest path so far -/
theorem reachW {nd : Int} {ls : List Lk} (h : Valid nd ls) {k : Nat} (hk : k < ls.length) {r M : Int} (hr : Nd nd r)
    (hJ : ∀ m x e, Adj ls m x e → Jn ls k m x → D nd ls r m + e = D nd ls r x → D nd ls r x ≤ M → False) :
    ∀ (n : Nat) (x : Int), Nd nd x → 0 ≤ D nd ls r x → D nd ls r x ≤ n → D nd ls r x ≤ M → 0 ≤ D nd (lsW ls k) r x := by
  have hw := h.lsW k
  intro n
  induction n with
  | zero =>
    intro x hx h0 h1 _
    by_cases e : r = x
    · subst e; rw [D_self hw hr]; omega
    · have := D_pos h hr hx e h0; omega
  | succ n ih =>
    intro x hx h0 h1 hM
    by_cases e : r = x
    · subst e; rw [D_self hw hr]; omega
    · have hsx : 0 ≤ D nd ls x r := by rw [D_symm h hx hr]; exact h0
      obtain ⟨m, c, ha, hm0, hm⟩ := D_step h hx hr (fun e' => e e'.symm) hsx
      have hrng := ha.range h
      have hmn : Nd nd m := ⟨by omega, by omega⟩
      rw [D_symm h hmn hr] at hm0 hm
      rw [D_symm h hx hr] at hm
      have h2 := ih m hmn hm0 (by omega) (by omega)
      have hnj : ¬ Jn ls k m x := fun hj => hJ m x c ha.symm hj (by omega) hM
      exact (D_link hw hr ((adj_not_lsW h hk).2 ⟨ha.symm, hnj⟩) h2).1
theorem reachW' {nd : Int} {ls : List Lk} (h : Valid nd ls) {k : Nat} (hk : k < ls.length) {r M : Int} (hr : Nd nd r)
    (hJ : ∀ m x e, Adj ls m x e → Jn ls k m x → D nd ls r m + e = D nd ls r x → D nd ls r x ≤ M → False) {x : Int} (hx : Nd nd x) (h0 : 0 ≤ D nd ls r x) (hM : D nd ls r x ≤ M) : 0 ≤ D nd (lsW ls k) r x :=
  reachW h hk hr hJ (D nd ls r x).toNat x hx h0 (by omega) hM
theorem crit_apart {nd : Int} {ls : List Lk} (h : Valid nd ls) {k : Nat} (hk : k < ls.length) (hc : critB nd ls k = true) {r : Int} (hr : Nd nd r) : ¬ (0 ≤ D nd (lsW ls k) r (La ls k) ∧ 0 ≤ D nd (lsW ls k) r (Lb ls k)) := by
  rintro ⟨h1, h2⟩
  obtain ⟨ea, eb, _⟩ := ends_nd h hk
  rw [critB_iff] at hc
  have := D_tri (h.lsW k) ea hr eb (by rw [D_symm (h.lsW k) ea hr]; exact h1) h2
  omega
theorem crit_apart' {nd : Int} {ls : List Lk} (h : Valid nd ls) {k : Nat} (hk : k < ls.length) (hc : critB nd ls k = true) {r u v : Int} (hr : Nd nd r) (hj : Jn ls k u v) : ¬ (0 ≤ D nd (lsW ls k) r u ∧ 0 ≤ D nd (lsW ls k) r v) := by
  rintro ⟨h1, h2⟩
  rcases hj with ⟨rfl, rfl⟩ | ⟨rfl, rfl⟩
  · exact crit_apart h hk hc hr ⟨h1, h2⟩
  · exact crit_apart h hk hc hr ⟨h2, h1⟩
/-- the far end is farther -/
theorem far_lt {nd : Int} {ls : List Lk} (h : Valid nd ls) {k : Nat} (hk : k < ls.length) (hc : critB nd ls k = true) :
    0 ≤ D nd ls (root nd ls (La ls k)) (nearEnd nd ls k) ∧ D nd ls (root nd ls (La ls k)) (nearEnd nd ls k) < D nd ls (root nd ls (La ls k)) (farEnd nd ls k) := by
  obtain ⟨hr, h1, h2⟩ := ends_root h hk
  obtain ⟨ea, eb, hne, hcc⟩ := ends_nd h hk
  generalize hR : root nd ls (La ls k) = r at *
  unfold nearEnd farEnd
  rw [hR]
  split
  · rename_i hlt; exact ⟨h1, hlt⟩
  · rename_i hge
    refine ⟨h2, ?_⟩
    rcases Int.lt_or_le (D nd ls r (Lb ls k)) (D nd ls r (La ls k)) with h3 | h3
    · exact h3
    · have he : D nd ls r (La ls k) = D nd ls r (Lb ls k) := by omega
      refine absurd ?_ (crit_apart h hk hc hr)
      have hJ : ∀ m x e, Adj ls m x e → Jn ls k m x → D nd ls r m + e = D nd ls r x → D nd ls r x ≤ D nd ls r (La ls k) → False := by
        intro m x e ha hj hs _
        have := ha.range h
        rcases hj with ⟨rfl, rfl⟩ | ⟨rfl, rfl⟩ <;> omega
      exact ⟨reachW' h hk hr hJ ea h1 (by omega), reachW' h hk hr hJ eb h2 (by omega)⟩
theorem far_nd {nd : Int} {ls : List Lk} (h : Valid nd ls) {k : Nat} (hk : k < ls.length) : Nd nd (farEnd nd ls k) ∧ Nd nd (nearEnd nd ls k) := by
  obtain ⟨ea, eb, _⟩ := ends_nd h hk
  unfold farEnd nearEnd
  split
  · exact ⟨eb, ea⟩
  · exact ⟨ea, eb⟩
theorem far_root {nd : Int} {ls : List Lk} (h : Valid nd ls) {k : Nat} (hk : k < ls.length) : root nd ls (farEnd nd ls k) = root nd ls (La ls k) := by
  obtain ⟨ea, eb, _⟩ := ends_nd h hk
  unfold farEnd
  split
  · exact (root_same h ea eb (D_adj h (adj_at hk)).1).symm
  · rfl
/-- the far end is not the root's own -/
theorem far_pos {nd : Int} {ls : List Lk} (h : Valid nd ls) {k : Nat} (hk : k < ls.length) (hc : critB nd ls k = true) : 1 ≤ farEnd nd ls k := by
  obtain ⟨hf, hn⟩ := far_nd h hk
  have h1 := far_lt h hk hc
  rcases Int.lt_or_le 0 (farEnd nd ls k) with h0 | h0
  · omega
  · have e : farEnd nd ls k = 0 := by have := hf.1; omega
    rw [← far_root h hk, e] at h1
    have hr := root_spec h (v := 0) (e ▸ hf)
    have hr0 : root nd ls 0 = 0 := by
      have := hr.2.2 0 (e ▸ hf) (by rw [D_self h (e ▸ hf)]; omega)
      have := hr.1.1
      omega
    rw [hr0, D_self h (e ▸ hf)] at h1
    omega
/-- no two critical links have one far end -/
theorem far_inj {nd : Int} {ls : List Lk} (h : Valid nd ls) {i j : Nat} (hi : i < ls.length) (hj : j < ls.length) (ci : critB nd ls i = true) (cj : critB nd ls j = true) (he : farEnd nd ls i = farEnd nd ls j) : i = j := by
  by_cases hij : i = j
  · exact hij
  exfalso
  obtain ⟨hf, hn⟩ := far_nd h hi
  have li := far_lt h hi ci
  have lj := far_lt h hj cj
  have hr := (ends_root h hi).1
  have hrr : root nd ls (La ls j) = root nd ls (La ls i) := by rw [← far_root h hj, ← far_root h hi, he]
  rw [hrr, ← he] at lj
  have J1 : Jn ls i (nearEnd nd ls i) (farEnd nd ls i) := farEnd_jn
  have J2 : Jn ls j (nearEnd nd ls j) (farEnd nd ls i) := by rw [he]; exact farEnd_jn
  generalize root nd ls (La ls i) = r at *
  generalize hv : farEnd nd ls i = v at *
  have h0 : 0 ≤ D nd ls r v := by omega
  have hne : v ≠ r := by rintro rfl; rw [D_self h hr] at li; omega
  have hvr : 0 ≤ D nd ls v r := by rw [D_symm h hf hr]; exact h0
  obtain ⟨m, c, ha, hm0, hm⟩ := D_step h hf hr hne hvr
  have hrng := ha.range h
  have hmn : Nd nd m := ⟨by omega, by omega⟩
  rw [D_symm h hmn hr] at hm0 hm
  rw [D_symm h hf hr] at hm
  -- without link k, whose far end v is, r reaches all that is nearer than v
  have key : ∀ (k : Nat) (u : Int), k < ls.length → critB nd ls k = true → Nd nd u → Jn ls k u v → 0 ≤ D nd ls r u → D nd ls r u < D nd ls r v → ¬ Jn ls k m v → False := by
    intro k u hk ck hu hJ hu0 hlt hnj
    have hJJ : ∀ a x e, Adj ls a x e → Jn ls k a x → D nd ls r a + e = D nd ls r x → D nd ls r x ≤ D nd ls r v - 1 → False := by
      intro a x e ha' hj' hs hM
      have := ha'.range h
      rcases hJ with ⟨e1, e2⟩ | ⟨e1, e2⟩ <;> rcases hj' with ⟨e3, e4⟩ | ⟨e3, e4⟩
      · rw [← e4, e2] at hM; omega
      · rw [← e3, ← e4, e1, e2] at hs; omega
      · rw [← e3, ← e4, e1, e2] at hs; omega
      · rw [← e3, e1] at hM; omega
    have r1 := reachW' h hk hr hJJ hu hu0 (by omega)
    have r2 := reachW' h hk hr hJJ hmn hm0 (by omega)
    have r3 := (D_link (h.lsW k) hr ((adj_not_lsW h hk).2 ⟨ha.symm, hnj⟩) r2).1
    exact crit_apart' h hk ck hr hJ ⟨r1, r3⟩
  by_cases hmi : Jn ls i m v
  · have hmj : ¬ Jn ls j m v := by
      intro hmj
      apply hij
      have o1 := h.ok hi
      have o2 := h.ok hj
      unfold LkOk at o1 o2
      unfold Jn at hmi hmj
      rcases Nat.lt_trichotomy i j with e | e | e
      · have := h.lt e hj; unfold LkLt at this; omega
      · exact e
      · have := h.lt e hi; unfold LkLt at this; omega
    have hnj2 := (far_nd h hj).2
    exact key j _ hj cj hnj2 J2 lj.1 lj.2 hmj
  · exact key i _ hi ci hn J1 li.1 li.2 hmi

theorem crit_few {nd : Int} {ls : List Lk} (h : Valid nd ls) : ((crit nd ls).length : Int) < nd := by
  have h1 := h.1
  have hmem : ∀ x ∈ crit nd ls, ∃ k : Nat, k < ls.length ∧ critB nd ls k = true ∧ x = k := fun x hx => mem_upTo.1 hx
  have hnd : ((crit nd ls).map (fun x => farEnd nd ls x.toNat - 1)).Nodup := by
    unfold List.Nodup
    rw [List.pairwise_map]
    refine List.Pairwise.imp_of_mem ?_ (upTo_nodup _ _)
    intro a b ha hb hab e
    obtain ⟨i, hi, ci, rfl⟩ := hmem a ha
    obtain ⟨j, hj, cj, rfl⟩ := hmem b hb
    rw [Int.toNat_natCast, Int.toNat_natCast] at e
    exact hab (by rw [far_inj h hi hj ci cj (by omega)])
  have hle := nodup_le (n := nd.toNat - 1) hnd (fun x hx => by
    obtain ⟨y, hy, rfl⟩ := List.mem_map.1 hx
    obtain ⟨i, hi, ci, rfl⟩ := hmem y hy
    rw [Int.toNat_natCast]
    have := far_pos h hi ci
    have := (far_nd h hi).1.2
    omega)
  rw [List.length_map] at hle
  omega

end Go.Proofs.Ytmkjndfhfhfggaa
