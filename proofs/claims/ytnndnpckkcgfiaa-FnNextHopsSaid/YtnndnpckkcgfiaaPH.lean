/-
  Plain lists: the neighbours of a node, the next hops, in order.
-/
import Derived.Test.YtnndnpckkcgfiaaPF
namespace Go.Proofs.Ytnndnpckkcgfiaa

/-! ### neighbours -/

noncomputable def nbrB (ls : List Lk) (n : Int) (k : Nat) : Bool := decide (0 ≤ lkIx ls n k)
/-- the nodes that have a link with n, ascending -/
noncomputable def nbr (nd : Int) (ls : List Lk) (n : Int) : List Int := upTo (nbrB ls n) nd.toNat
theorem lkIx_adj {nd : Int} {ls : List Lk} (hv : Valid nd ls) {u v : Int} : 0 ≤ lkIx ls u v ↔ ∃ c, Adj ls u v c :=
  ⟨fun h => ⟨_, (adj_iff hv).2 ⟨h, rfl⟩⟩, fun ⟨_, h⟩ => ((adj_iff hv).1 h).1⟩
theorem mem_nbr {nd : Int} {ls : List Lk} (hv : Valid nd ls) {n x : Int} : x ∈ nbr nd ls n ↔ ∃ c, Adj ls n x c := by
  unfold nbr
  rw [mem_upTo, ← lkIx_adj hv]
  constructor
  · rintro ⟨k, hk, hp, rfl⟩; unfold nbrB at hp; simpa using hp
  · intro h
    obtain ⟨c, hc⟩ := (lkIx_adj hv).1 h
    have hr := hc.range hv
    exact ⟨x.toNat, by omega, by unfold nbrB; rw [Int.toNat_of_nonneg hr.2.2.1]; simpa using h, by omega⟩
theorem nbr_le (nd : Int) (ls : List Lk) (n : Int) : (nbr nd ls n).length ≤ nd.toNat := upTo_le _ _
theorem nbr8 {nd : Int} {ls : List Lk} (hv : Valid nd ls) (n : Int) : upTo (nbrB ls n) 8 = nbr nd ls n := by
  have h1 := hv.1
  have h2 := hv.2.1
  refine upTo_more (by omega) (fun k h3 h4 => ?_)
  unfold nbrB
  rw [decide_eq_false_iff_not]
  intro h
  obtain ⟨c, hc⟩ := (lkIx_adj hv).1 h
  have := hc.range hv
  omega
theorem nbr_out {nd : Int} {ls : List Lk} (hv : Valid nd ls) {n : Int} (hn : ¬ Nd nd n) : nbr nd ls n = [] := by
  refine upTo_nil (fun k hk => ?_)
  unfold nbrB
  rw [decide_eq_false_iff_not]
  intro h
  obtain ⟨c, hc⟩ := (lkIx_adj hv).1 h
  have := hc.range hv
  exact hn ⟨this.1, this.2.1⟩
/-- of the first k links the other ends -/
def nb0 (ls : List Lk) (n : Int) : Nat → List Int
  | 0 => []
  | k + 1 => if La ls k = n then nb0 ls n k ++ [Lb ls k] else if Lb ls k = n then nb0 ls n k ++ [La ls k] else nb0 ls n k
theorem nb0_a {ls : List Lk} {n : Int} {k : Nat} (h : La ls k = n) : nb0 ls n (k + 1) = nb0 ls n k ++ [Lb ls k] := by rw [nb0, if_pos h]
theorem nb0_b {ls : List Lk} {n : Int} {k : Nat} (h : La ls k ≠ n) (h' : Lb ls k = n) : nb0 ls n (k + 1) = nb0 ls n k ++ [La ls k] := by rw [nb0, if_neg h, if_pos h']
theorem nb0_c {ls : List Lk} {n : Int} {k : Nat} (h : La ls k ≠ n) (h' : Lb ls k ≠ n) : nb0 ls n (k + 1) = nb0 ls n k := by rw [nb0, if_neg h, if_neg h']
theorem nb0_le (ls : List Lk) (n : Int) (k : Nat) : (nb0 ls n k).length ≤ k := by
  induction k with
  | zero => simp [nb0]
  | succ k ih =>
    by_cases h : La ls k = n
    · rw [nb0_a h, List.length_append, List.length_singleton]; omega
    · by_cases h' : Lb ls k = n
      · rw [nb0_b h h', List.length_append, List.length_singleton]; omega
      · rw [nb0_c h h']; omega
theorem mem_nb0 {ls : List Lk} {n : Int} {k : Nat} {x : Int} : x ∈ nb0 ls n k ↔ ∃ j, j < k ∧ Jn ls j n x := by
  induction k with
  | zero => simp [nb0]
  | succ k ih =>
    have key : (x ∈ nb0 ls n (k + 1)) ↔ (x ∈ nb0 ls n k ∨ Jn ls k n x) := by
      unfold Jn
      by_cases h : La ls k = n
      · rw [nb0_a h, List.mem_append, List.mem_singleton]
        constructor
        · rintro (a | rfl)
          · exact .inl a
          · exact .inr (.inl ⟨h, rfl⟩)
        · rintro (a | ⟨_, b⟩ | ⟨a, b⟩)
          · exact .inl a
          · exact .inr b.symm
          · exact .inr (by omega)
      · by_cases h' : Lb ls k = n
        · rw [nb0_b h h', List.mem_append, List.mem_singleton]
          constructor
          · rintro (a | rfl)
            · exact .inl a
            · exact .inr (.inr ⟨rfl, h'⟩)
          · rintro (a | ⟨a, b⟩ | ⟨a, b⟩)
            · exact .inl a
            · exact absurd a h
            · exact .inr a.symm
        · rw [nb0_c h h']
          constructor
          · exact .inl
          · rintro (a | ⟨a, b⟩ | ⟨a, b⟩)
            · exact a
            · exact absurd a h
            · exact absurd b h'
    rw [key, ih]
    constructor
    · rintro (⟨j, hj, h⟩ | h)
      · exact ⟨j, by omega, h⟩
      · exact ⟨k, by omega, h⟩
    · rintro ⟨j, hj, h⟩
      rcases Nat.lt_or_ge j k with h' | h'
      · exact .inl ⟨j, h', h⟩
      · obtain rfl : j = k := by omega
        exact .inr h
theorem jn_uniq {nd : Int} {ls : List Lk} (hv : Valid nd ls) {i j : Nat} (hi : i < ls.length) (hj : j < ls.length) {u v : Int} (h1 : Jn ls i u v) (h2 : Jn ls j u v) : i = j :=
  hit_uniq hv hi hj ((hit_iff hv hi).2 h1) ((hit_iff hv hj).2 h2)
theorem nb0_nodup {nd : Int} {ls : List Lk} (hv : Valid nd ls) (n : Int) {k : Nat} (hk : k ≤ ls.length) : (nb0 ls n k).Nodup := by
  induction k with
  | zero => simp [nb0]
  | succ k ih =>
    have ih := ih (by omega)
    have hno : ∀ x, Jn ls k n x → x ∉ nb0 ls n k := fun x hx hm => by
      obtain ⟨j, hj, h⟩ := mem_nb0.1 hm
      have := jn_uniq hv (by omega) (by omega) h hx
      omega
    by_cases h : La ls k = n
    · rw [nb0_a h, List.nodup_append]
      refine ⟨ih, by simp, fun a ha b hb => ?_⟩
      simp at hb
      subst hb
      rintro rfl
      exact hno _ (.inl ⟨h, rfl⟩) ha
    · by_cases h' : Lb ls k = n
      · rw [nb0_b h h', List.nodup_append]
        refine ⟨ih, by simp, fun a ha b hb => ?_⟩
        simp at hb
        subst hb
        rintro rfl
        exact hno _ (.inr ⟨rfl, h'⟩) ha
      · rw [nb0_c h h']; exact ih
theorem nb0_perm {nd : Int} {ls : List Lk} (hv : Valid nd ls) (n : Int) : (nb0 ls n ls.length).Perm (nbr nd ls n) := by
  refine (List.perm_ext_iff_of_nodup (nb0_nodup hv n (Nat.le_refl _)) (upTo_nodup _ _)).2 (fun x => ?_)
  show _ ↔ x ∈ nbr nd ls n
  rw [mem_nb0, mem_nbr hv]
  constructor
  · rintro ⟨j, hj, h⟩; exact ⟨_, adj_of_jn hj h⟩
  · rintro ⟨c, k, hk, h, _⟩; exact ⟨k, hk, h⟩
/-- what a sort makes of them -/
theorem nb0_sorted {nd : Int} {ls : List Lk} (hv : Valid nd ls) (n : Int) {ys : List Int} (hp : ys.Perm (nb0 ls n ls.length)) (hs : ys.Pairwise (· ≤ ·)) : ys = nbr nd ls n := by
  refine List.Perm.eq_of_pairwise (le := fun a b : Int => a ≤ b) (fun a b _ _ h1 h2 => by omega) hs ((upTo_pw _ _).imp (fun {a b} h => by omega)) (hp.trans (nb0_perm hv n))
theorem nb0_len {nd : Int} {ls : List Lk} (hv : Valid nd ls) (n : Int) : (nb0 ls n ls.length).length = (nbr nd ls n).length := (nb0_perm hv n).length_eq

/-! ### the sum over all nodes -/

/-- f 0 + .. + f (k - 1) -/
def sumTo (f : Nat → Nat) : Nat → Nat
  | 0 => 0
  | k + 1 => sumTo f k + f k
theorem sumTo_congr {f g : Nat → Nat} {n : Nat} (h : ∀ k, k < n → f k = g k) : sumTo f n = sumTo g n := by
  induction n with
  | zero => rfl
  | succ n ih => unfold sumTo; rw [ih (fun k hk => h k (by omega)), h n (by omega)]
theorem sumTo_add (f g : Nat → Nat) (n : Nat) : sumTo (fun k => f k + g k) n = sumTo f n + sumTo g n := by
  induction n with
  | zero => rfl
  | succ n ih => simp only [sumTo, ih]; omega
theorem sumTo_zero (n : Nat) : sumTo (fun _ => 0) n = 0 := by
  induction n with
  | zero => rfl
  | succ n ih => simp only [sumTo, ih]
theorem sumTo_mono {f : Nat → Nat} {n m : Nat} (h : n ≤ m) : sumTo f n ≤ sumTo f m := by
  induction m with
  | zero => obtain rfl : n = 0 := by omega
            omega
  | succ m ih =>
    rcases Nat.lt_or_ge m n with h' | h'
    · obtain rfl : n = m + 1 := by omega
      omega
    · have := ih h'; simp only [sumTo]; omega
theorem sumTo_one {n : Nat} {a : Int} (h0 : 0 ≤ a) (h1 : a < n) : sumTo (fun x => if a = (x : Int) then 1 else 0) n = 1 := by
  induction n with
  | zero => omega
  | succ n ih =>
    simp only [sumTo]
    rcases Int.lt_or_le a n with h' | h'
    · rw [ih h', if_neg (by omega)]
    · obtain rfl : a = n := by omega
      rw [if_pos rfl, sumTo_congr (g := fun _ => 0) (fun k hk => if_neg (by omega)), sumTo_zero]
theorem nb0_sum {nd : Int} {ls : List Lk} (hv : Valid nd ls) {k : Nat} (hk : k ≤ ls.length) : sumTo (fun x => (nb0 ls x k).length) nd.toNat = 2 * k := by
  induction k with
  | zero => exact (sumTo_congr (g := fun _ => 0) (fun _ _ => rfl)).trans (sumTo_zero _)
  | succ k ih =>
    have ih := ih (by omega)
    obtain ⟨ea, eb, hne, _⟩ := ends_nd hv (k := k) (by omega)
    have h1 := hv.1
    have hf : sumTo (fun x => (nb0 ls x (k + 1)).length) nd.toNat = sumTo (fun x => (nb0 ls x k).length + ((if La ls k = (x : Int) then 1 else 0) + (if Lb ls k = (x : Int) then 1 else 0))) nd.toNat := by
      refine sumTo_congr (fun x _ => ?_)
      by_cases h : La ls k = (x : Int)
      · rw [nb0_a h, List.length_append, if_pos h, if_neg (by omega)]; rfl
      · by_cases h' : Lb ls k = (x : Int)
        · rw [nb0_b h h', List.length_append, if_neg h, if_pos h']; rfl
        · rw [nb0_c h h', if_neg h, if_neg h']; rfl
    rw [hf, sumTo_add, sumTo_add, ih, sumTo_one ea.1 (by have := ea.2; omega), sumTo_one eb.1 (by have := eb.2; omega)]
    omega
theorem nbr_sum {nd : Int} {ls : List Lk} (hv : Valid nd ls) : sumTo (fun x => (nbr nd ls x).length) nd.toNat = 2 * ls.length := by
  rw [← nb0_sum hv (Nat.le_refl _)]
  exact sumTo_congr (fun x _ => (nb0_len hv x).symm)

/-! ### next hops -/

noncomputable def hopB (nd : Int) (ls : List Lk) (f t : Int) (k : Nat) : Bool := decide (0 ≤ lkIx ls f k ∧ 0 ≤ D nd ls t k ∧ D nd ls t k + Lc ls (lkIx ls f k).toNat = D nd ls t f)
noncomputable def hops (nd : Int) (ls : List Lk) (f t : Int) : List Int := upTo (hopB nd ls f t) nd.toNat
theorem hops_le (nd : Int) (ls : List Lk) (f t : Int) : (hops nd ls f t).length ≤ nd.toNat := upTo_le _ _
theorem hops_nodup (nd : Int) (ls : List Lk) (f t : Int) : (hops nd ls f t).Nodup := upTo_nodup _ _
theorem mem_hops {nd : Int} {ls : List Lk} (hv : Valid nd ls) {f t x : Int} : x ∈ hops nd ls f t ↔ ∃ c, Adj ls f x c ∧ 0 ≤ D nd ls t x ∧ D nd ls t x + c = D nd ls t f := by
  unfold hops
  rw [mem_upTo]
  constructor
  · rintro ⟨k, hk, hp, rfl⟩
    unfold hopB at hp
    simp only [decide_eq_true_eq] at hp
    exact ⟨_, (adj_iff hv).2 ⟨hp.1, rfl⟩, hp.2⟩
  · rintro ⟨c, ha, h1, h2⟩
    have hr := ha.range hv
    obtain ⟨x', rfl⟩ := Int.eq_ofNat_of_zero_le hr.2.2.1
    obtain ⟨h3, rfl⟩ := (adj_iff hv).1 ha
    exact ⟨x', by omega, by unfold hopB; simp only [decide_eq_true_eq]; exact ⟨h3, h1, h2⟩, rfl⟩
/-- a hop's facts -/
theorem hop_facts {nd : Int} {ls : List Lk} (hv : Valid nd ls) {f t x : Int} (h : x ∈ hops nd ls f t) : Nd nd f ∧ Nd nd x ∧ f ≠ x ∧ 0 ≤ D nd ls t x ∧ D nd ls t x < D nd ls t f := by
  obtain ⟨c, ha, h1, h2⟩ := (mem_hops hv).1 h
  have hr := ha.range hv
  exact ⟨⟨hr.1, hr.2.1⟩, ⟨hr.2.2.1, hr.2.2.2.1⟩, hr.2.2.2.2.1, h1, by omega⟩
theorem hops_self {nd : Int} {ls : List Lk} (hv : Valid nd ls) {t : Int} (ht : Nd nd t) : hops nd ls t t = [] := by
  refine List.eq_nil_iff_forall_not_mem.2 (fun x hx => ?_)
  have := hop_facts hv hx
  have := D_self hv ht
  omega
theorem hops_far {nd : Int} {ls : List Lk} (hv : Valid nd ls) {f t : Int} (h : D nd ls t f < 0) : hops nd ls f t = [] := by
  refine List.eq_nil_iff_forall_not_mem.2 (fun x hx => ?_)
  have := hop_facts hv hx
  omega
theorem hops_some {nd : Int} {ls : List Lk} (hv : Valid nd ls) {f t : Int} (hf : Nd nd f) (ht : Nd nd t) (hne : f ≠ t) (h : 0 ≤ D nd ls t f) : 0 < (hops nd ls f t).length := by
  rw [D_symm hv ht hf] at h
  obtain ⟨m, e, ha, h1, h2⟩ := D_step hv hf ht hne h
  have hr := ha.range hv
  have hm : Nd nd m := ⟨hr.2.2.1, hr.2.2.2.1⟩
  exact List.length_pos_of_mem ((mem_hops hv).2 ⟨e, ha, by rw [D_symm hv ht hm]; exact h1, by rw [D_symm hv ht hm, D_symm hv ht hf]; exact h2⟩)
/-- the test that the program makes at a neighbour -/
noncomputable def hopQ (nd : Int) (ls : List Lk) (f t m : Int) : Bool := decide (D nd ls t m + Lc ls (lkIx ls f m).toNat = D nd ls t f)
theorem upTo_filter (p : Nat → Bool) (q : Int → Bool) (n : Nat) : (upTo p n).filter q = upTo (fun k => p k && q k) n := by
  induction n with
  | zero => rfl
  | succ n ih =>
    cases h : p n
    · rw [upTo_no h, ih, upTo_no (by simp [h])]
    · rw [upTo_yes h, List.filter_append, ih]
      cases h' : q n
      · rw [upTo_no (by simp [h, h'])]; simp [h']
      · rw [upTo_yes (by simp [h, h'])]; simp [h']
theorem hops_filter {nd : Int} {ls : List Lk} (hv : Valid nd ls) {f t : Int} (ht : Nd nd t) (h0 : 0 ≤ D nd ls t f) : (nbr nd ls f).filter (hopQ nd ls f t) = hops nd ls f t := by
  unfold nbr hops
  rw [upTo_filter]
  refine upTo_congr (fun k hk => ?_)
  unfold nbrB hopQ hopB
  rw [Bool.eq_iff_iff]
  simp only [Bool.and_eq_true, decide_eq_true_eq]
  constructor
  · rintro ⟨h1, h2⟩
    obtain ⟨c, ha⟩ := (lkIx_adj hv).1 h1
    exact ⟨h1, (D_link hv ht ha h0).1, h2⟩
  · rintro ⟨h1, _, h2⟩; exact ⟨h1, h2⟩
/-- of the first k those that q lets -/
def flt (q : Int → Bool) (xs : List Int) (k : Nat) : List Int := (xs.take k).filter q
theorem flt_zero (q : Int → Bool) (xs : List Int) : flt q xs 0 = [] := rfl
theorem take_Ix {xs : List Int} {k : Nat} (hk : k < xs.length) : xs.take (k + 1) = xs.take k ++ [Ix xs k] := by
  rw [List.take_succ_eq_append_getElem hk]; simp [Ix, hk]
theorem flt_yes {q : Int → Bool} {xs : List Int} {k : Nat} (hk : k < xs.length) (h : q (Ix xs k) = true) : flt q xs (k + 1) = flt q xs k ++ [Ix xs k] := by
  unfold flt; rw [take_Ix hk, List.filter_append]; simp [h]
theorem flt_no {q : Int → Bool} {xs : List Int} {k : Nat} (hk : k < xs.length) (h : q (Ix xs k) = false) : flt q xs (k + 1) = flt q xs k := by
  unfold flt; rw [take_Ix hk, List.filter_append]; simp [h]
theorem flt_full (q : Int → Bool) (xs : List Int) : flt q xs xs.length = xs.filter q := by unfold flt; rw [List.take_length]
theorem flt_le (q : Int → Bool) (xs : List Int) (k : Nat) : (flt q xs k).length ≤ k := by
  unfold flt
  have := List.length_filter_le q (xs.take k)
  rw [List.length_take] at this
  omega
theorem Ix_mem {xs : List Int} {k : Nat} (hk : k < xs.length) : Ix xs k ∈ xs := by unfold Ix; simp [hk]
theorem mem_Ix {xs : List Int} {x : Int} (h : x ∈ xs) : ∃ k, k < xs.length ∧ Ix xs k = x := by
  obtain ⟨k, hk, e⟩ := List.getElem_of_mem h
  exact ⟨k, hk, by simp [Ix, hk, e]⟩
/-- a hop's link -/
theorem nbr_facts {nd : Int} {ls : List Lk} (hv : Valid nd ls) {n m : Int} (h : m ∈ nbr nd ls n) : Nd nd n ∧ Nd nd m ∧ n ≠ m ∧ 0 ≤ lkIx ls n m ∧ (lkIx ls n m).toNat < ls.length ∧ Adj ls n m (Lc ls (lkIx ls n m).toNat) ∧ 1 ≤ Lc ls (lkIx ls n m).toNat ∧ Lc ls (lkIx ls n m).toNat ≤ 20 := by
  obtain ⟨c, ha⟩ := (mem_nbr hv).1 h
  obtain ⟨h0, rfl⟩ := (adj_iff hv).1 ha
  have hr := ha.range hv
  exact ⟨⟨hr.1, hr.2.1⟩, ⟨hr.2.2.1, hr.2.2.2.1⟩, hr.2.2.2.2.1, h0, (lkIx_hit h0).1, ha, hr.2.2.2.2.2⟩
theorem hops_sub {nd : Int} {ls : List Lk} (hv : Valid nd ls) {f t x : Int} (h : x ∈ hops nd ls f t) : x ∈ nbr nd ls f := by
  obtain ⟨c, ha, _⟩ := (mem_hops hv).1 h
  exact (mem_nbr hv).2 ⟨c, ha⟩

end Go.Proofs.Ytnndnpckkcgfiaa
