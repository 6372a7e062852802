/-
  Plain lists: all shortest paths, and how many there are.
-/
import Derived.Test.YtnndnpckkcgfiaaPI
namespace Go.Proofs.Ytnndnpckkcgfiaa

theorem hops_zero {nd : Int} {ls : List Lk} (hv : Valid nd ls) {f t : Int} (h : D nd ls t f ≤ 0) : hops nd ls f t = [] :=
  List.eq_nil_iff_forall_not_mem.2 (fun x hx => by have := hop_facts hv hx; omega)
theorem flat_congr {α β : Type} {f g : α → List β} : ∀ {l : List α}, (∀ a ∈ l, f a = g a) → l.flatMap f = l.flatMap g := by
  intro l
  induction l with
  | nil => intro _; rfl
  | cons a l ih =>
    intro h
    rw [List.flatMap_cons, List.flatMap_cons, h a (by simp), ih (fun b hb => h b (by simp [hb]))]
noncomputable def spsF (nd : Int) (ls : List Lk) (t : Int) : Nat → Int → List (List Int)
  | 0, f => if f = t then [[f]] else []
  | n + 1, f => if f = t then [[f]] else (hops nd ls f t).flatMap (fun h => (spsF nd ls t n h).map (fun p => f :: p))
/-- the shortest paths from f to t -/
noncomputable def sps (nd : Int) (ls : List Lk) (f t : Int) : List (List Int) := spsF nd ls t (D nd ls t f).toNat f
noncomputable def cnt (nd : Int) (ls : List Lk) (f t : Int) : Nat := (sps nd ls f t).length
theorem spsF_same {nd : Int} {ls : List Lk} (hv : Valid nd ls) {t : Int} : ∀ (n m : Nat) (f : Int), D nd ls t f ≤ n → D nd ls t f ≤ m → spsF nd ls t n f = spsF nd ls t m f := by
  intro n
  induction n with
  | zero =>
    intro m f h1 h2
    cases m with
    | zero => rfl
    | succ m =>
      simp only [spsF]
      by_cases e : f = t
      · rw [if_pos e, if_pos e]
      · rw [if_neg e, if_neg e, hops_zero hv (by omega)]
        rfl
  | succ n ih =>
    intro m f h1 h2
    cases m with
    | zero =>
      simp only [spsF]
      by_cases e : f = t
      · rw [if_pos e, if_pos e]
      · rw [if_neg e, if_neg e, hops_zero hv (by omega)]
        rfl
    | succ m =>
      simp only [spsF]
      by_cases e : f = t
      · rw [if_pos e, if_pos e]
      · rw [if_neg e, if_neg e]
        refine flat_congr (fun x hx => ?_)
        have hh := hop_facts hv hx
        rw [ih m x (by omega) (by omega)]
theorem sps_self {nd : Int} {ls : List Lk} (hv : Valid nd ls) {t : Int} (ht : Nd nd t) : sps nd ls t t = [[t]] := by
  unfold sps; rw [D_self hv ht]; simp [spsF]
theorem sps_step {nd : Int} {ls : List Lk} (hv : Valid nd ls) {f t : Int} (hne : f ≠ t) : sps nd ls f t = (hops nd ls f t).flatMap (fun h => (sps nd ls h t).map (fun p => f :: p)) := by
  unfold sps
  cases hn : (D nd ls t f).toNat with
  | zero =>
    simp only [spsF]
    rw [if_neg hne, hops_zero hv (by omega)]
    rfl
  | succ n =>
    simp only [spsF]
    rw [if_neg hne]
    refine flat_congr (fun x hx => ?_)
    have hh := hop_facts hv hx
    rw [spsF_same hv n (D nd ls t x).toNat x (by omega) (by omega)]
theorem sps_far {nd : Int} {ls : List Lk} (hv : Valid nd ls) {f t : Int} (ht : Nd nd t) (h : D nd ls t f < 0) : sps nd ls f t = [] := by
  have hne : f ≠ t := fun e => by rw [e, D_self hv ht] at h; omega
  rw [sps_step hv hne, hops_far hv h]; rfl
theorem mem_sps {nd : Int} {ls : List Lk} (hv : Valid nd ls) {t : Int} (ht : Nd nd t) : ∀ f, Nd nd f → 0 ≤ D nd ls t f → ∀ p, p ∈ sps nd ls f t ↔ Pth nd ls p f t (D nd ls t f) := by
  refine reach_ind hv (fun f hf h ih p => ?_)
  by_cases e : f = t
  · subst e
    rw [sps_self hv hf, D_self hv hf, List.mem_singleton]
    constructor
    · rintro rfl; exact Pth.one hf.1 hf.2
    · intro hp
      match p, hp with
      | [x], hp => rw [hp.1]
      | x :: y :: r, hp =>
        obtain ⟨_, c, ha, hq⟩ := hp
        have h1 := ha.range hv
        have h2 := hq.range hv
        omega
  · rw [sps_step hv e, List.mem_flatMap]
    constructor
    · rintro ⟨x, hx, hp⟩
      obtain ⟨q, hq, rfl⟩ := List.mem_map.1 hp
      obtain ⟨c, ha, h1, h2⟩ := (mem_hops hv).1 hx
      rw [← h2, Int.add_comm]
      exact Pth.cons ha ((ih x hx q).1 hq)
    · intro hp
      match p, hp with
      | [x], hp => exact absurd hp.2.1 e
      | x :: y :: r, hp =>
        obtain ⟨rfl, c, ha, hq⟩ := hp
        have hr := ha.range hv
        have hy : Nd nd y := ⟨hr.2.2.1, hr.2.2.2.1⟩
        have h1 := D_le hv hq
        rw [D_symm hv hy ht] at h1
        have h2 := D_link hv ht ha.symm h1.1
        have h3 : D nd ls t y + c = D nd ls t x := by omega
        have hm : y ∈ hops nd ls x t := (mem_hops hv).2 ⟨c, ha, h1.1, h3⟩
        refine ⟨y, hm, List.mem_map.2 ⟨y :: r, (ih y hm _).2 ?_, rfl⟩⟩
        rw [show D nd ls t y = D nd ls t x - c from by omega]
        exact hq
theorem nodup_flat {α β : Type} {f : α → List β} : ∀ {l : List α}, l.Nodup → (∀ a ∈ l, (f a).Nodup) → (∀ a ∈ l, ∀ b ∈ l, a ≠ b → ∀ x ∈ f a, x ∉ f b) → (l.flatMap f).Nodup := by
  intro l
  induction l with
  | nil => intro _ _ _; simp
  | cons a l ih =>
    intro h1 h2 h3
    obtain ⟨ha, hl⟩ := List.nodup_cons.1 h1
    rw [List.flatMap_cons, List.nodup_append]
    refine ⟨h2 a (by simp), ih hl (fun b hb => h2 b (by simp [hb])) (fun b hb c hc => h3 b (by simp [hb]) c (by simp [hc])), fun x hx y hy => ?_⟩
    rintro rfl
    obtain ⟨b, hb, hxb⟩ := List.mem_flatMap.1 hy
    exact h3 a (by simp) b (by simp [hb]) (fun e => ha (by rw [e]; exact hb)) x hx hxb
theorem nodup_map {α β : Type} {f : α → β} (hf : ∀ a b, f a = f b → a = b) : ∀ {l : List α}, l.Nodup → (l.map f).Nodup := by
  intro l
  induction l with
  | nil => intro _; simp
  | cons a l ih =>
    intro h
    obtain ⟨ha, hl⟩ := List.nodup_cons.1 h
    rw [List.map_cons, List.nodup_cons]
    refine ⟨fun hm => ?_, ih hl⟩
    obtain ⟨b, hb, e⟩ := List.mem_map.1 hm
    rw [hf _ _ e] at hb
    exact ha hb
theorem sps_nodup {nd : Int} {ls : List Lk} (hv : Valid nd ls) {t : Int} (ht : Nd nd t) : ∀ f, Nd nd f → 0 ≤ D nd ls t f → (sps nd ls f t).Nodup := by
  refine reach_ind hv (fun f hf h ih => ?_)
  by_cases e : f = t
  · subst e; rw [sps_self hv hf]; simp
  · rw [sps_step hv e]
    refine nodup_flat (hops_nodup _ _ _ _) (fun x hx => nodup_map (fun a b h => by injection h) (ih x hx)) (fun a ha b hb hne p hp hq => ?_)
    obtain ⟨p1, h1, rfl⟩ := List.mem_map.1 hp
    obtain ⟨p2, h2, e2⟩ := List.mem_map.1 hq
    injection e2 with _ e2
    subst e2
    have na := hop_facts hv ha
    have nb := hop_facts hv hb
    obtain ⟨r1, hr1⟩ := ((mem_sps hv ht a na.2.1 na.2.2.2.1 _).1 h1).head
    obtain ⟨r2, hr2⟩ := ((mem_sps hv ht b nb.2.1 nb.2.2.2.1 _).1 h2).head
    rw [hr1] at hr2
    injection hr2 with hr2
    exact hne hr2

/-! ### the count -/

theorem cnt_self {nd : Int} {ls : List Lk} (hv : Valid nd ls) {t : Int} (ht : Nd nd t) : cnt nd ls t t = 1 := by unfold cnt; rw [sps_self hv ht]; rfl
theorem cnt_far {nd : Int} {ls : List Lk} (hv : Valid nd ls) {f t : Int} (ht : Nd nd t) (h : D nd ls t f < 0) : cnt nd ls f t = 0 := by unfold cnt; rw [sps_far hv ht h]; rfl
/-- the first k next hops' counts -/
noncomputable def cntTo (nd : Int) (ls : List Lk) (f t : Int) (k : Nat) : Nat := sumTo (fun i => cnt nd ls (Ix (hops nd ls f t) i) t) k
theorem flat_len {α : Type} (g : Int → List α) : ∀ xs : List Int, (xs.flatMap g).length = sumTo (fun i => (g (Ix xs i)).length) xs.length := by
  have : ∀ (xs : List Int) (k : Nat), k ≤ xs.length → ((xs.take k).flatMap g).length = sumTo (fun i => (g (Ix xs i)).length) k := by
    intro xs k
    induction k with
    | zero => intro _; rfl
    | succ k ih =>
      intro hk
      rw [take_Ix (by omega), List.flatMap_append, List.length_append, ih (by omega)]
      simp [sumTo]
  intro xs
  have := this xs xs.length (Nat.le_refl _)
  rwa [List.take_length] at this
theorem cnt_step {nd : Int} {ls : List Lk} (hv : Valid nd ls) {f t : Int} (hne : f ≠ t) : cnt nd ls f t = cntTo nd ls f t (hops nd ls f t).length := by
  unfold cnt cntTo
  rw [sps_step hv hne, flat_len]
  exact sumTo_congr (fun k _ => by rw [List.length_map]; rfl)
theorem cntTo_succ (nd : Int) (ls : List Lk) (f t : Int) (k : Nat) : cntTo nd ls f t (k + 1) = cntTo nd ls f t k + cnt nd ls (Ix (hops nd ls f t) k) t := rfl
theorem cntTo_le {nd : Int} {ls : List Lk} (hv : Valid nd ls) {f t : Int} (hne : f ≠ t) {k : Nat} (hk : k ≤ (hops nd ls f t).length) : cntTo nd ls f t k ≤ cnt nd ls f t := by
  rw [cnt_step hv hne]; exact sumTo_mono hk
/-- how many nodes are nearer to t -/
def rankB (nd : Int) (ls : List Lk) (t f : Int) (x : Nat) : Bool := decide (0 ≤ D nd ls t x ∧ D nd ls t x < D nd ls t f)
def rank (nd : Int) (ls : List Lk) (t f : Int) : Nat := (upTo (rankB nd ls t f) nd.toNat).length
theorem rank_hop {nd : Int} {ls : List Lk} (hv : Valid nd ls) {f t x : Int} (hx : x ∈ hops nd ls f t) : rank nd ls t x < rank nd ls t f := by
  have hh := hop_facts hv hx
  obtain ⟨x', rfl⟩ := Int.eq_ofNat_of_zero_le hh.2.1.1
  have := hh.2.1.2
  unfold rank
  refine upTo_len_lt (j := x') (fun k hk h => ?_) (by omega) ?_ ?_
  · unfold rankB at h ⊢; simp only [decide_eq_true_eq] at h ⊢; omega
  · unfold rankB; rw [decide_eq_false_iff_not]; omega
  · unfold rankB; rw [decide_eq_true_eq]; omega
theorem sumTo_le {f : Nat → Nat} {n M : Nat} (h : ∀ k, k < n → f k ≤ M) : sumTo f n ≤ n * M := by
  induction n with
  | zero => simp [sumTo]
  | succ n ih =>
    have h1 := ih (fun k hk => h k (by omega))
    have h2 := h n (by omega)
    simp only [sumTo, Nat.succ_mul]
    omega
theorem cnt_rank {nd : Int} {ls : List Lk} (hv : Valid nd ls) {t : Int} (ht : Nd nd t) : ∀ f, Nd nd f → 0 ≤ D nd ls t f → cnt nd ls f t ≤ 8 ^ rank nd ls t f := by
  refine reach_ind hv (fun f hf h ih => ?_)
  by_cases e : f = t
  · subst e; rw [cnt_self hv hf]; exact Nat.one_le_pow _ _ (by omega)
  · rw [cnt_step hv e]
    obtain ⟨m, hm⟩ : ∃ m, rank nd ls t f = m + 1 := by
      have := rank_hop hv (hop1_mem hv hf ht e h)
      exact ⟨rank nd ls t f - 1, by omega⟩
    have h1 : ∀ k, k < (hops nd ls f t).length → cnt nd ls (Ix (hops nd ls f t) k) t ≤ 8 ^ m := fun k hk => by
      have hx := Ix_mem hk
      have h2 := rank_hop hv hx
      exact Nat.le_trans (ih _ hx) (Nat.pow_le_pow_right (by omega) (by omega))
    have h3 := sumTo_le h1
    have h4 := hops_le nd ls f t
    have h5 := hv.2.1
    unfold cntTo
    rw [hm, Nat.pow_succ]
    refine Nat.le_trans h3 ?_
    rw [Nat.mul_comm]
    exact Nat.mul_le_mul_left _ (by omega)
theorem cnt_bd {nd : Int} {ls : List Lk} (hv : Valid nd ls) {t : Int} (ht : Nd nd t) {f : Int} (hf : Nd nd f) : cnt nd ls f t ≤ 16777216 := by
  by_cases h : 0 ≤ D nd ls t f
  · have h1 := cnt_rank hv ht f hf h
    have h2 : rank nd ls t f ≤ 8 := by have := upTo_le (rankB nd ls t f) nd.toNat; have := hv.2.1; unfold rank; omega
    have h3 : 8 ^ rank nd ls t f ≤ 8 ^ 8 := Nat.pow_le_pow_right (by omega) h2
    exact Nat.le_trans h1 (Nat.le_trans h3 (by decide))
  · rw [cnt_far hv ht (by omega)]; omega
theorem cnt_pos {nd : Int} {ls : List Lk} (hv : Valid nd ls) {t : Int} (ht : Nd nd t) {f : Int} (hf : Nd nd f) : 0 < cnt nd ls f t ↔ 0 ≤ D nd ls t f := by
  by_cases h : 0 ≤ D nd ls t f
  · exact ⟨fun _ => h, fun _ => List.length_pos_of_mem ((mem_sps hv ht f hf h _).2 (path_pth hv ht f hf h))⟩
  · rw [cnt_far hv ht (by omega)]; exact ⟨fun h' => absurd h' (by omega), fun h' => absurd h' h⟩
/-- as many back -/
theorem cnt_back_le {nd : Int} {ls : List Lk} (hv : Valid nd ls) {f t : Int} (hf : Nd nd f) (ht : Nd nd t) : cnt nd ls f t ≤ cnt nd ls t f := by
  by_cases h : 0 ≤ D nd ls t f
  · have h' : 0 ≤ D nd ls f t := by rw [D_symm hv hf ht]; exact h
    have hn := nodup_map (f := List.reverse) (fun a b e => List.reverse_inj.1 e) (sps_nodup hv ht f hf h)
    have := hn.length_le_of_subset (l₂ := sps nd ls t f) (fun p hp => by
      obtain ⟨q, hq, rfl⟩ := List.mem_map.1 hp
      have h1 := ((mem_sps hv ht f hf h q).1 hq).reverse hv
      rw [D_symm hv ht hf] at h1
      exact (mem_sps hv hf t ht h' _).2 h1)
    rwa [List.length_map] at this
  · rw [cnt_far hv ht (by omega)]; omega
theorem cnt_back {nd : Int} {ls : List Lk} (hv : Valid nd ls) {f t : Int} (hf : Nd nd f) (ht : Nd nd t) : cnt nd ls t f = cnt nd ls f t :=
  Nat.le_antisymm (cnt_back_le hv ht hf) (cnt_back_le hv hf ht)

/-! ### a link, a node, on the way -/

/-- a path keeps clear of link k, or crosses it -/
theorem pth_split {nd : Int} {ls : List Lk} (hv : Valid nd ls) {k : Nat} (hk : k < ls.length) {v : Int} : ∀ {p : List Int} {u c : Int}, Pth nd ls p u v c →
    Pth nd (lsW ls k) p u v c ∨ ∃ x y c1 c2 p1 p2, Jn ls k x y ∧ Pth nd ls p1 u x c1 ∧ Pth nd ls p2 y v c2 ∧ c1 + Lc ls k + c2 = c ∧ p = p1 ++ p2 := by
  intro p
  induction p with
  | nil => intro u c h; exact h.elim
  | cons x r ih =>
    intro u c h
    cases r with
    | nil => exact .inl h
    | cons y r =>
      obtain ⟨rfl, e, ha, hq⟩ := h
      have hr := ha.range hv
      by_cases hj : Jn ls k x y
      · have he : e = Lc ls k := ha.uniq hv (adj_of_jn hk hj)
        subst he
        exact .inr ⟨x, y, 0, c - Lc ls k, [x], y :: r, hj, Pth.one hr.1 hr.2.1, hq, by omega, rfl⟩
      · rcases ih hq with h1 | ⟨a, b, c1, c2, p1, p2, h1, h2, h3, h4, h5⟩
        · exact .inl ⟨rfl, e, (adj_not_lsW hv hk).2 ⟨ha, hj⟩, h1⟩
        · refine .inr ⟨a, b, e + c1, c2, x :: p1, p2, h1, Pth.cons ha h2, h3, by omega, ?_⟩
          rw [h5]; rfl
theorem jn_used {nd : Int} {ls : List Lk} {k : Nat} {f t x y : Int} (hj : Jn ls k x y) (h0 : 0 ≤ D nd ls f t) (hx : 0 ≤ D nd ls f x) (hy : 0 ≤ D nd ls f y) (h : D nd ls f x + Lc ls k + D nd ls t y = D nd ls f t) : usedB nd ls f t k = true := by
  rw [usedB_iff]
  rcases hj with ⟨rfl, rfl⟩ | ⟨rfl, rfl⟩
  · exact ⟨h0, hx, .inl h⟩
  · exact ⟨h0, hy, .inr h⟩
/-- a shortest path that crosses link k: it is used -/
theorem cross_used {nd : Int} {ls : List Lk} (hv : Valid nd ls) {k : Nat} (hk : k < ls.length) {f t x y c1 c2 : Int} (hf : Nd nd f) (ht : Nd nd t) {p1 p2 : List Int} (hj : Jn ls k x y) (h1 : Pth nd ls p1 f x c1) (h2 : Pth nd ls p2 y t c2) (hc : c1 + Lc ls k + c2 ≤ D nd ls f t) : usedB nd ls f t k = true := by
  have r1 := h1.range hv
  have r2 := h2.range hv
  have hx : Nd nd x := ⟨r1.2.2.2.1, r1.2.2.2.2.1⟩
  have hy : Nd nd y := ⟨r2.2.1, r2.2.2.1⟩
  have d1 := D_le hv h1
  have d2 := D_le hv h2
  rw [D_symm hv hy ht] at d2
  have ha := adj_of_jn hk hj
  have d3 := D_link hv hf ha d1.1
  have d4 := D_tri hv hf hy ht d3.1 (by rw [D_symm hv hy ht]; exact d2.1)
  rw [D_symm hv hy ht] at d4
  exact jn_used hj d4.1 d1.1 d3.1 (by omega)
/-- a used link: a shortest path that crosses it -/
theorem used_cross {nd : Int} {ls : List Lk} (hv : Valid nd ls) {k : Nat} (hk : k < ls.length) {f t : Int} (hf : Nd nd f) (ht : Nd nd t) (hu : usedB nd ls f t k = true) :
    ∃ x y p1 p2, Jn ls k x y ∧ Pth nd ls p1 f x (D nd ls f x) ∧ Pth nd ls p2 y t (D nd ls t y) ∧ D nd ls f x + Lc ls k + D nd ls t y = D nd ls f t := by
  obtain ⟨ea, eb, hne, hc1, _⟩ := ends_nd hv hk
  obtain ⟨h0, h1, h2⟩ := usedB_iff.1 hu
  have h3 := (ends_reach hv hk hf).1 h1
  have far : ∀ z, Nd nd z → 0 ≤ D nd ls f z → 0 ≤ D nd ls t z := fun z hz hd => (D_tri hv ht hf hz (by rw [D_symm hv ht hf]; exact h0) hd).1
  have back : ∀ z, Nd nd z → 0 ≤ D nd ls t z → ∃ p, Pth nd ls p z t (D nd ls t z) := fun z hz hd => by
    rw [D_symm hv ht hz] at hd ⊢
    exact D_path hv hz.1 hz.2 ht.1 ht.2 hd
  rcases h2 with h2 | h2
  · obtain ⟨p1, hp1⟩ := D_path hv hf.1 hf.2 ea.1 ea.2 h1
    obtain ⟨p2, hp2⟩ := back _ eb (far _ eb h3)
    exact ⟨_, _, p1, p2, .inl ⟨rfl, rfl⟩, hp1, hp2, h2⟩
  · obtain ⟨p1, hp1⟩ := D_path hv hf.1 hf.2 eb.1 eb.2 h3
    obtain ⟨p2, hp2⟩ := back _ ea (far _ ea h1)
    exact ⟨_, _, p1, p2, .inr ⟨rfl, rfl⟩, hp1, hp2, h2⟩
theorem pth_mid {nd : Int} {ls : List Lk} {y v : Int} {r : List Int} : ∀ {p1 : List Int} {u c : Int} {w : Int}, Pth nd ls (p1 ++ y :: r) u v c → p1.getLast? = some w → ∃ e, Adj ls w y e := by
  intro p1
  induction p1 with
  | nil => intro u c w _ h; simp at h
  | cons a p ih =>
    intro u c w h hl
    cases p with
    | nil =>
      simp at hl
      subst hl
      obtain ⟨rfl, e, ha, _⟩ := h
      exact ⟨e, ha⟩
    | cons b p =>
      obtain ⟨_, e, _, hq⟩ := h
      exact ih hq (by simpa using hl)
theorem pth_last {nd : Int} {ls : List Lk} {v : Int} : ∀ {p : List Int} {u c : Int}, Pth nd ls p u v c → p.getLast? = some v := by
  intro p
  induction p with
  | nil => intro u c h; exact h.elim
  | cons a p ih =>
    intro u c h
    cases p with
    | nil => obtain ⟨rfl, rfl, _⟩ := h; rfl
    | cons b p =>
      obtain ⟨_, e, _, hq⟩ := h
      have := ih hq
      simpa using this
theorem pth_join {nd : Int} {ls : List Lk} {x y t c2 e : Int} (ha : Adj ls x y e) : ∀ {p1 : List Int} {f : Int} {p2 : List Int} {c1 : Int}, Pth nd ls p1 f x c1 → Pth nd ls p2 y t c2 → Pth nd ls (p1 ++ p2) f t (c1 + e + c2) := by
  intro p1
  induction p1 with
  | nil => intro f p2 c1 h; exact h.elim
  | cons a p ih =>
    intro f p2 c1 h1 h2
    cases p with
    | nil =>
      obtain ⟨rfl, rfl, rfl, _⟩ := h1
      have := Pth.cons ha h2
      rw [show (0 : Int) + e + c2 = e + c2 from by omega]
      exact this
    | cons b p =>
      obtain ⟨rfl, d, hd, hq⟩ := h1
      have := Pth.cons hd (ih hq h2)
      rw [show d + (c1 - d + e + c2) = c1 + e + c2 from by omega] at this
      exact this
/-- P24: a link is used if and only if without it the distance or the number of paths is another -/
theorem used_law {nd : Int} {ls : List Lk} (hv : Valid nd ls) {k : Nat} (hk : k < ls.length) {f t : Int} (hf : Nd nd f) (ht : Nd nd t) :
    usedB nd ls f t k = true ↔ (D nd ls f t ≠ D nd (lsW ls k) f t ∨ cnt nd (lsW ls k) f t < cnt nd ls f t) := by
  have hw := hv.lsW k
  have b1 := D_bd hv f t
  have b2 := D_bd hw f t
  by_cases h : 0 ≤ D nd ls f t
  · have h' : 0 ≤ D nd ls t f := by rw [D_symm hv ht hf]; exact h
    by_cases e : D nd ls f t = D nd (lsW ls k) f t
    · have hw' : 0 ≤ D nd (lsW ls k) t f := by rw [D_symm hw ht hf, ← e]; exact h
      have e' : D nd ls t f = D nd (lsW ls k) t f := by rw [D_symm hv ht hf, D_symm hw ht hf, e]
      have hsub : ∀ p ∈ sps nd (lsW ls k) f t, p ∈ sps nd ls f t := fun p hp => by
        have := (mem_sps hw ht f hf hw' p).1 hp
        rw [← e'] at this
        exact (mem_sps hv ht f hf h' p).2 (this.imp (fun _ _ _ ha => adj_lsW_imp ha))
      constructor
      · intro hu
        refine .inr ?_
        obtain ⟨x, y, p1, p2, hj, h1, h2, hc⟩ := used_cross hv hk hf ht hu
        have hp := pth_join (adj_of_jn hk hj) h1 h2
        rw [hc, D_symm hv hf ht] at hp
        have hin := (mem_sps hv ht f hf h' _).2 hp
        have hout : (p1 ++ p2) ∉ sps nd (lsW ls k) f t := fun hm => by
          have h3 := (mem_sps hw ht f hf hw' _).1 hm
          obtain ⟨r, hr⟩ := h2.head
          rw [hr] at h3
          obtain ⟨d, ha⟩ := pth_mid h3 (pth_last h1)
          exact ((adj_not_lsW hv hk).1 ha).2 hj
        have hn : ((p1 ++ p2) :: sps nd (lsW ls k) f t).Nodup := List.nodup_cons.2 ⟨hout, sps_nodup hw ht f hf hw'⟩
        have := hn.length_le_of_subset (l₂ := sps nd ls f t) (fun p hp => by
          rcases List.mem_cons.1 hp with rfl | hp
          · exact hin
          · exact hsub p hp)
        exact this
      · rintro (hne | hlt)
        · exact absurd e hne
        · by_cases hu : usedB nd ls f t k = true
          · exact hu
          · exfalso
            have := (sps_nodup hv ht f hf h').length_le_of_subset (l₂ := sps nd (lsW ls k) f t) (fun p hp => by
              have hp := (mem_sps hv ht f hf h' p).1 hp
              rcases pth_split hv hk hp with h1 | ⟨x, y, c1, c2, p1, p2, hj, h1, h2, hc, _⟩
              · rw [e'] at h1; exact (mem_sps hw ht f hf hw' p).2 h1
              · exact absurd (cross_used hv hk hf ht hj h1 h2 (by rw [D_symm hv hf ht]; omega)) hu)
            unfold cnt at hlt
            omega
    · refine ⟨fun _ => .inl e, fun _ => ?_⟩
      obtain ⟨p, hp⟩ := D_path hv hf.1 hf.2 ht.1 ht.2 h
      rcases pth_split hv hk hp with h1 | ⟨x, y, c1, c2, p1, p2, hj, h1, h2, hc, _⟩
      · exfalso
        have h3 := D_le hw h1
        have h4 := D_lsW_more hv hf ht h3.1
        omega
      · exact cross_used hv hk hf ht hj h1 h2 (by omega)
  · have h2 : ¬ 0 ≤ D nd (lsW ls k) f t := fun h3 => h (D_lsW_more hv hf ht h3).1
    have h3 : cnt nd ls f t = 0 := cnt_far hv ht (by rw [D_symm hv ht hf]; omega)
    constructor
    · intro hu; exact absurd (usedB_iff.1 hu).1 h
    · rintro (h4 | h4) <;> omega
/-- P29: a node off the way can be isolated -/
theorem pth_node {nd : Int} {ls : List Lk} {n v : Int} : ∀ {p : List Int} {u c : Int}, Pth nd ls p u v c → n ∉ p → Pth nd (lsI ls n) p u v c := by
  intro p
  induction p with
  | nil => intro u c h; exact h.elim
  | cons a p ih =>
    intro u c h hn
    cases p with
    | nil => exact h
    | cons b p =>
      obtain ⟨rfl, e, ha, hq⟩ := h
      simp only [List.mem_cons, not_or] at hn
      exact ⟨rfl, e, adj_lsI.2 ⟨ha, Ne.symm hn.1, Ne.symm hn.2.1⟩, ih hq (by simp only [List.mem_cons, not_or]; exact hn.2)⟩
theorem pth_at {nd : Int} {ls : List Lk} (hv : Valid nd ls) {n v : Int} : ∀ {p : List Int} {u c : Int}, Pth nd ls p u v c → n ∈ p → ∃ p1 p2 c1 c2, Pth nd ls p1 u n c1 ∧ Pth nd ls p2 n v c2 ∧ c1 + c2 = c := by
  intro p
  induction p with
  | nil => intro u c h; exact h.elim
  | cons a p ih =>
    intro u c h hm
    have hr := h.range hv
    by_cases e : n = u
    · subst e; exact ⟨[n], _, 0, c, Pth.one hr.2.1 hr.2.2.1, h, by omega⟩
    · cases p with
      | nil =>
        obtain ⟨rfl, _⟩ := h
        simp at hm
        exact absurd hm e
      | cons b p =>
        obtain ⟨rfl, d, ha, hq⟩ := h
        rcases List.mem_cons.1 hm with h1 | h1
        · exact absurd h1 e
        · obtain ⟨p1, p2, c1, c2, h2, h3, h4⟩ := ih hq h1
          exact ⟨_, p2, d + c1, c2, Pth.cons ha h2, h3, by omega⟩
theorem node_law {nd : Int} {ls : List Lk} (hv : Valid nd ls) {f t n : Int} (hf : Nd nd f) (ht : Nd nd t) (hn : Nd nd n) (hu : nusedB nd ls f t n = false) : D nd (lsI ls n) f t = D nd ls f t ∧ cnt nd (lsI ls n) f t = cnt nd ls f t := by
  have hw := hv.lsI n
  have b1 := D_bd hv f t
  have b2 := D_bd hw f t
  have hmore := fun h3 => D_more hw hv (fun _ _ _ ha => (adj_lsI.1 ha).1) hf ht h3
  by_cases h : 0 ≤ D nd ls f t
  · have h' : 0 ≤ D nd ls t f := by rw [D_symm hv ht hf]; exact h
    have hoff : ∀ p, Pth nd ls p f t (D nd ls f t) → Pth nd (lsI ls n) p f t (D nd ls f t) := fun p hp => by
      refine pth_node hp (fun hm => ?_)
      obtain ⟨p1, p2, c1, c2, h1, h2, h3⟩ := pth_at hv hp hm
      have d1 := D_le hv h1
      have d2 := D_le hv h2
      have d3 := D_tri hv hf hn ht d1.1 d2.1
      rw [D_symm hv hn ht] at d2 d3
      have : nusedB nd ls f t n = true := nusedB_iff.2 ⟨d1.1, d2.1, by omega⟩
      rw [hu] at this
      cases this
    obtain ⟨p, hp⟩ := D_path hv hf.1 hf.2 ht.1 ht.2 h
    have h1 := D_le hw (hoff p hp)
    have h2 := hmore h1.1
    have e : D nd (lsI ls n) f t = D nd ls f t := by omega
    have e' : D nd (lsI ls n) t f = D nd ls t f := by rw [D_symm hw ht hf, D_symm hv ht hf, e]
    have hw' : 0 ≤ D nd (lsI ls n) t f := by rw [e']; exact h'
    refine ⟨e, Nat.le_antisymm ?_ ?_⟩
    · refine (sps_nodup hw ht f hf hw').length_le_of_subset (fun p hp => ?_)
      have := (mem_sps hw ht f hf hw' p).1 hp
      rw [e'] at this
      exact (mem_sps hv ht f hf h' p).2 (this.imp (fun _ _ _ ha => (adj_lsI.1 ha).1))
    · refine (sps_nodup hv ht f hf h').length_le_of_subset (fun p hp => ?_)
      have := (mem_sps hv ht f hf h' p).1 hp
      rw [D_symm hv ht hf] at this
      have := hoff p this
      refine (mem_sps hw ht f hf hw' p).2 ?_
      rw [e', D_symm hv ht hf]
      exact this
  · have h2 : ¬ 0 ≤ D nd (lsI ls n) f t := fun h3 => h (hmore h3).1
    rw [cnt_far hv ht (by rw [D_symm hv ht hf]; omega), cnt_far hw ht (by rw [D_symm hw ht hf]; omega)]
    exact ⟨by omega, rfl⟩

/-! ### a dearer link -/

/-- a path in the graph with a dearer link: it keeps clear of the link, or it was cheaper -/
theorem pth_dear {nd : Int} {ls : List Lk} (hv : Valid nd ls) {k : Nat} (hk : k < ls.length) {c0 : Int} (h0 : Lc ls k < c0) {v : Int} : ∀ {p : List Int} {u c : Int}, Pth nd (lsC ls k c0) p u v c →
    ∃ d, Pth nd ls p u v d ∧ d ≤ c ∧ (d = c → Pth nd (lsW ls k) p u v c) := by
  intro p
  induction p with
  | nil => intro u c h; exact h.elim
  | cons x r ih =>
    intro u c h
    cases r with
    | nil => exact ⟨c, h, by omega, fun _ => h⟩
    | cons y r =>
      obtain ⟨rfl, e, ha, hq⟩ := h
      obtain ⟨d, h1, h2, h3⟩ := ih hq
      rcases (adj_lsC_jn hv hk).1 ha with ⟨hj, rfl⟩ | ⟨ha', hj⟩
      · exact ⟨Lc ls k + d, Pth.cons (adj_of_jn hk hj) h1, by omega, fun e => by omega⟩
      · refine ⟨e + d, Pth.cons ha' h1, by omega, fun he => ?_⟩
        have h4 : Pth nd (lsW ls k) (x :: y :: r) x v (e + (c - e)) := Pth.cons ((adj_not_lsW hv hk).2 ⟨ha', hj⟩) (h3 (by omega))
        rw [show e + (c - e) = c from by omega] at h4
        exact h4
theorem pth_spared {nd : Int} {ls : List Lk} (hv : Valid nd ls) {k : Nat} (hk : k < ls.length) {c0 : Int} {p : List Int} {u v c : Int} (h : Pth nd (lsW ls k) p u v c) : Pth nd (lsC ls k c0) p u v c :=
  h.imp (fun _ _ _ ha => (adj_lsC_jn hv hk).2 (.inr ((adj_not_lsW hv hk).1 ha)))
/-- P39 -/
theorem affected_used {nd : Int} {ls : List Lk} (hv : Valid nd ls) {k : Nat} (hk : k < ls.length) {c0 : Int} (h0 : Lc ls k < c0) (h20 : c0 ≤ 20) {f t : Int} (hf : Nd nd f) (ht : Nd nd t) :
    (D nd ls f t ≠ D nd (lsC ls k c0) f t → usedB nd ls f t k = true) ∧ (usedB nd ls f t k = true → cnt nd ls f t = 1 → D nd ls f t ≠ D nd (lsC ls k c0) f t) := by
  have hk1 := (ends_nd hv hk).2.2.2.1
  have hw : Valid nd (lsC ls k c0) := hv.lsC (by omega) h20
  have hup := D_lsC_up hv hk (c := c0) (by omega) h20 hf ht
  constructor
  · intro hne
    rcases hup with ⟨h, h1, h2⟩ | ⟨h1, h2⟩
    · obtain ⟨p, hp⟩ := D_path hv hf.1 hf.2 ht.1 ht.2 h
      rcases pth_split hv hk hp with h3 | ⟨x, y, c1, c2, p1, p2, hj, h3, h4, hc, _⟩
      · have := D_le hw (pth_spared hv hk h3); omega
      · exact cross_used hv hk hf ht hj h3 h4 (by omega)
    · omega
  · intro hu h1 he
    rcases hup with ⟨h, h2, h3⟩ | ⟨h2, _⟩
    · have h' : 0 ≤ D nd ls t f := by rw [D_symm hv ht hf]; exact h
      obtain ⟨p, hp⟩ := D_path hw hf.1 hf.2 ht.1 ht.2 (by omega)
      obtain ⟨d, h4, h5, h6⟩ := pth_dear hv hk h0 hp
      have h7 := D_le hv h4
      have h8 := h6 (by omega)
      have hp' := h8.imp (fun _ _ _ ha => adj_lsW_imp ha)
      rw [← he, D_symm hv hf ht] at hp'
      have hin := (mem_sps hv ht f hf h' p).2 hp'
      obtain ⟨x, y, p1, p2, hj, g1, g2, gc⟩ := used_cross hv hk hf ht hu
      have hq := pth_join (adj_of_jn hk hj) g1 g2
      rw [gc, D_symm hv hf ht] at hq
      have hin2 := (mem_sps hv ht f hf h' _).2 hq
      have hne : p ≠ p1 ++ p2 := fun e => by
        obtain ⟨r, hr⟩ := g2.head
        rw [e, hr] at h8
        obtain ⟨d, ha⟩ := pth_mid h8 (pth_last g1)
        exact ((adj_not_lsW hv hk).1 ha).2 hj
      have hn : [p, p1 ++ p2].Nodup := by simp [hne]
      have := hn.length_le_of_subset (l₂ := sps nd ls f t) (fun q hq => by
        simp only [List.mem_cons, List.not_mem_nil, or_false] at hq
        rcases hq with rfl | rfl
        · exact hin
        · exact hin2)
      unfold cnt at h1
      simp at this
      omega
    · have := (usedB_iff.1 hu).1; omega

end Go.Proofs.Ytnndnpckkcgfiaa
