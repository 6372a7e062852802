/-
  append of a slice of links that reads as a list (nil, empty or not) onto one of the call's own: a law for plain regions and for regions that draw their order.
-/
import Derived.Test.YtnndnpckkcgfiaaWQ
import Derived.Maps.AppendAt
import Derived.Deep.RegionLaw
namespace Go.Proofs.Ytnndnpckkcgfiaa
open Go.RowKit
set_option maxRecDepth 100000

theorem RdL.cells {w : World} {B g o : Nat} {ls : List Lk} (h : RdL w B (some ⟨g, o, none⟩) ls) : ∀ j u, (cellsL ls)[j]? = some u → w.cell? ((⟨g, o, none⟩ : Addr).add j) = some u := by
  intro j u hu
  have hj : j < ls.length * 3 := by rw [← length_cellsL]; exact (List.getElem?_eq_some_iff.1 hu).1
  obtain ⟨g', o', e, _, hc⟩ := h (by omega)
  injection e with e
  injection e with e1 e2
  subst e1 e2
  obtain ⟨c1, c2, c3⟩ := hc (j / 3) (by omega)
  obtain ⟨d1, d2, d3⟩ := cellsL_at ls (j / 3) (by omega)
  rw [add_at]
  have h3 : j % 3 = 0 ∨ j % 3 = 1 ∨ j % 3 = 2 := by omega
  rcases h3 with h | h | h
  · have ej : j = j / 3 * 3 := by omega
    rw [← ej] at d1 c1
    rw [c1, ← hu, d1]
  · have ej : j = j / 3 * 3 + 1 := by omega
    have c2' := c2
    rw [Nat.add_assoc, ← ej] at c2'
    rw [← ej] at d2
    rw [c2', ← hu, d2]
  · have ej : j = j / 3 * 3 + 2 := by omega
    have c3' := c3
    rw [Nat.add_assoc, ← ej] at c3'
    rw [← ej] at d3
    rw [c3', ← hu, d3]
theorem cellsL_one (ls : List Lk) : ∀ u ∈ cellsL ls, u.oneCell' = true := by
  intro u hu
  obtain ⟨i, rfl⟩ := cellsL_ints ls u hu
  rfl
theorem own_form {w : World} {base : Nat} {v : Value} {ls : List Lk} (h : w.ownsRow base 52 3 v ls.length (cellsL ls)) : ∃ A cp, v = .slice A ls.length cp ∧ OwL w base A cp ls := by
  rcases h.2 with ⟨rfl, h0⟩ | ⟨g, cap, cur, rfl, r⟩
  · have : ls = [] := List.eq_nil_of_length_eq_zero h0
    subst this
    exact ⟨none, 0, rfl, OwL.nil_ _ _⟩
  · exact ⟨_, _, rfl, h⟩
theorem run_app {P : Program} (w : World) (t ty : TypeId) (i : TypeInfo) (ht : P.underlying t = some (.slice 52)) (hi : P.info? 52 = some i) (hz : i.zero = some (.agg #[.int .i64 0, .int .i64 0, .int .i64 0])) (hs : i.size = 3) (hb : i.bytes = 24)
    {base : Nat} {A : Option Addr} {cp : Nat} {ls : List Lk} (hown : OwL w base A cp ls) {B : Option Addr} {c : Nat} {ms : List Lk} (hr : RdL w w.heap.size B ms) (hl : ls.length + ms.length ≤ 1048600) (hbase : base ≤ w.heap.size) :
    ∃ A' cp' w', (Builtin.append_ #[t, t] ty #[.slice A ls.length cp, .slice B ms.length c]).run P w = .ok (.slice A' (ls ++ ms).length cp') w' ∧ OwL w' base A' cp' (ls ++ ms) ∧ w.grownBy w' (Value.slice A ls.length cp).ownBlock := by
  cases B with
  | none =>
    have hm : ms = [] := by
      rcases Nat.eq_zero_or_pos ms.length with h0 | h0
      · exact List.eq_nil_of_length_eq_zero h0
      · obtain ⟨g, o, e, _⟩ := hr h0; cases e
    subst hm
    refine ⟨A, cp, w, ?_, by simpa using hown, World.grownBy.refl w _⟩
    rcases hown.2 with ⟨hv, h0⟩ | ⟨g, cap, cur, hv, _, _, hnc, _⟩
    · simp only [Value.slice.injEq] at hv
      obtain ⟨rfl, _, rfl⟩ := hv
      rw [List.append_nil, h0]
      simp [Builtin.append_, run_underlying ht, sizeOf, typeInfo, hi, Builtin.lenOf, Builtin.firstCells]
    · rw [List.append_nil, hv]
      simp [Builtin.append_, run_underlying ht, sizeOf, typeInfo, hi, Builtin.lenOf, Builtin.firstCells, hnc, storeCells]
  | some ad =>
    have hcells : ∀ j u, (cellsL ms)[j]? = some u → w.cell? (ad.add j) = some u := by
      intro j u hu
      have hj : 0 < ms.length := by
        rcases Nat.eq_zero_or_pos ms.length with h0 | h0
        · have : ms = [] := List.eq_nil_of_length_eq_zero h0
          subst this; simp [cellsL] at hu
        · exact h0
      obtain ⟨g, o, e, hg, hc⟩ := hr hj
      injection e with e
      subst e
      exact RdL.cells hr j u hu
    obtain ⟨v', w', hrun, h2, h3, _, _⟩ := run_append_own_at (P := P) w base t ty 52 i _ 3 24 ht hi hz hs hb rfl (by omega) _ ls.length (cellsL ls) hown ad ms.length c (cellsL ms) (length_cellsL ms) hcells (cellsL_one ms) (by unfold maxLen; omega) (by omega) hbase
    rw [← cellsL_append, show ls.length + ms.length = (ls ++ ms).length from by simp] at h2
    obtain ⟨A', cp', rfl, h4⟩ := own_form h2
    exact ⟨A', cp', w', hrun, h4, h3⟩
theorem wp_app {P : Program} (w : World) {o : Oper} {a : Act} {K : Act → World → Prop} {Q : Exit → Act → World → Prop} (s x : Operand) (t : TypeId) (ho : o.op = .call { callee := .builtin .append, args := #[s, x], argTypes := #[t, t] })
    (i : TypeInfo) (ht : P.underlying t = some (.slice 52)) (hi : P.info? 52 = some i) (hz : i.zero = some (.agg #[.int .i64 0, .int .i64 0, .int .i64 0])) (hs : i.size = 3) (hb : i.bytes = 24)
    {base n : Nat} {A : Option Addr} {cp : Nat} {ls : List Lk} (hv : a.eval s = .slice A n cp) (hn : n = ls.length) (hown : OwL w base A cp ls) {B : Option Addr} {m c : Nat} (ms : List Lk) (hx : a.eval x = .slice B m c) (hm : m = ms.length) (hr : RdL w w.heap.size B ms) (hl : ls.length + ms.length ≤ 1048600) (hbase : base ≤ w.heap.size)
    (h : ∀ A' cp' n' w', Hid (n' = (ls ++ ms).length) → OwL w' base A' cp' (ls ++ ms) → w.grownBy w' (Value.slice A ls.length cp).ownBlock → K (a.put o.dst (.slice A' n' cp')) w') : o.wp P a w K Q := by
  subst hm
  subst hn
  obtain ⟨A', cp', w', hrun, h2, h3⟩ := run_app (P := P) w t o.type i ht hi hz hs hb hown hr (c := c) hl hbase
  unfold Oper.wp execOp
  simp only [ho, resolve, invoke, builtin, Sem.run_bind, Sem.run_pure, Result.andThen_ok, List.map_toArray, List.map_cons, List.map_nil, hv, hx, hrun]
  exact h A' cp' _ w' rfl h2 h3
theorem wpList_app {P : Program} (w : World) {ops : Array Oper} {rest : List Oper} {o : Oper} {a : Act} {Q : Exit → Act → World → Prop} (hgd : o.guard = none) (s x : Operand) (t : TypeId) (ho : o.op = .call { callee := .builtin .append, args := #[s, x], argTypes := #[t, t] })
    (i : TypeInfo) (ht : P.underlying t = some (.slice 52)) (hi : P.info? 52 = some i) (hz : i.zero = some (.agg #[.int .i64 0, .int .i64 0, .int .i64 0])) (hs : i.size = 3) (hb : i.bytes = 24)
    {base n : Nat} {A : Option Addr} {cp : Nat} {ls : List Lk} (hv : a.eval s = .slice A n cp) (hn : n = ls.length) (hown : OwL w base A cp ls) {B : Option Addr} {m c : Nat} (ms : List Lk) (hx : a.eval x = .slice B m c) (hm : m = ms.length) (hr : RdL w w.heap.size B ms) (hl : ls.length + ms.length ≤ 1048600) (hbase : base ≤ w.heap.size)
    (h : ∀ A' cp' n' w', Hid (n' = (ls ++ ms).length) → OwL w' base A' cp' (ls ++ ms) → w.grownBy w' (Value.slice A ls.length cp).ownBlock → wpList P ops Q rest (a.put o.dst (.slice A' n' cp')) w') : wpList P ops Q (o :: rest) a w :=
  wpList_plain hgd fun _ hK => wp_app w s x t ho i ht hi hz hs hb hv hn hown ms hx hm hr hl hbase fun A' cp' n' w' h1 h2 h3 => hK _ _ (h A' cp' n' w' h1 h2 h3)
theorem step_app {P : Program} (w : World) {ops : Array Oper} {o : Oper} {a : Act} {K : Act → World → Prop} {Q : Exit → Act → World → Prop} {E : Prop} (hgd : o.guard = none) (s x : Operand) (t : TypeId) (ho : o.op = .call { callee := .builtin .append, args := #[s, x], argTypes := #[t, t] })
    (i : TypeInfo) (ht : P.underlying t = some (.slice 52)) (hi : P.info? 52 = some i) (hz : i.zero = some (.agg #[.int .i64 0, .int .i64 0, .int .i64 0])) (hs : i.size = 3) (hb : i.bytes = 24)
    {base n : Nat} {A : Option Addr} {cp : Nat} {ls : List Lk} (hv : a.eval s = .slice A n cp) (hn : n = ls.length) (hown : OwL w base A cp ls) {B : Option Addr} {m c : Nat} (ms : List Lk) (hx : a.eval x = .slice B m c) (hm : m = ms.length) (hr : RdL w w.heap.size B ms) (hl : ls.length + ms.length ≤ 1048600) (hbase : base ≤ w.heap.size)
    (h : ∀ A' cp' n' w', Hid (n' = (ls ++ ms).length) → OwL w' base A' cp' (ls ++ ms) → w.grownBy w' (Value.slice A ls.length cp).ownBlock → K (a.put o.dst (.slice A' n' cp')) w') :
    if Region.wanted o (yielded ops a.tmps) = true then Oper.wp P o a w K Q else E := by
  have hw : Region.wanted o (yielded ops a.tmps) = true := by simp [Region.wanted, hgd]
  rw [if_pos hw]
  exact wp_app w s x t ho i ht hi hz hs hb hv hn hown ms hx hm hr hl hbase h

/-- what is cut off the head, what is left -/
theorem RdL.takeL {w : World} {B : Nat} {A : Option Addr} {ls : List Lk} (h : RdL w B A ls) (k : Nat) (hk : k ≤ ls.length) : RdL w B A (ls.take k) := fun h0 => by
  have e : (ls.take k).length = k := by simp; omega
  obtain ⟨g, o, eA, hg, hc⟩ := h (by omega)
  refine ⟨g, o, eA, hg, fun j hj => ?_⟩
  obtain ⟨c1, c2, c3⟩ := hc j (by omega)
  have e1 : (ls.take k).getD j dk = ls.getD j dk := by simp only [List.getD_eq_getElem?_getD, List.getElem?_take]; rw [if_pos (by omega)]
  unfold La Lb Lc at *
  rw [e1]
  exact ⟨c1, c2, c3⟩
theorem RdL.dropL {w : World} {B g o : Nat} {ls : List Lk} (h : RdL w B (some ⟨g, o, none⟩) ls) (k cap : Nat) (hk : k ≤ ls.length) (hc : ls.length ≤ cap) :
    RdL w B (if cap = k then some ⟨g, o, none⟩ else some ⟨g, o + k * 3, none⟩) (ls.drop k) := fun h0 => by
  have e : (ls.drop k).length = ls.length - k := by simp
  obtain ⟨g', o', eA, hg, hcc⟩ := h (by omega)
  injection eA with eA
  injection eA with e1 e2
  subst e1 e2
  rw [if_neg (by omega)]
  refine ⟨g, o + k * 3, rfl, hg, fun j hj => ?_⟩
  obtain ⟨c1, c2, c3⟩ := hcc (k + j) (by omega)
  have e1 : (ls.drop k).getD j dk = ls.getD (k + j) dk := by simp [List.getD_eq_getElem?_getD]
  unfold La Lb Lc at *
  rw [e1, show o + k * 3 + j * 3 = o + (k + j) * 3 from by omega]
  exact ⟨c1, c2, c3⟩

theorem RdL.grown {w w' : World} {B : Nat} {A : Option Addr} {ls : List Lk} {row : Option Nat} (h : RdL w B A ls) (hg : w.grownBy w' row) (hB : B ≤ w.heap.size) (hr : ∀ k, row = some k → B ≤ k) : RdL w' B A ls :=
  h.keep ⟨hg.os, hg.tape, hg.output, hg.size, fun k hk => hg.block k (by omega) (fun e => by have := hr k e.symm; omega)⟩
theorem own_empty' (w : World) (base H : Nat) (hH : w.heap.size = H) (hb : base ≤ H) : OwL (w.alloc (.cells #[] 52)) base (some ⟨H, 0, none⟩) 0 [] := by
  subst hH
  exact own_empty w base hb
theorem own_blk {w : World} {base : Nat} {A : Option Addr} {cp : Nat} {ls : List Lk} (h : OwL w base A cp ls) : ∀ k, (Value.slice A ls.length cp).ownBlock = some k → base ≤ k := fun k hk => (World.ownsRow.lt h k hk).1

end Go.Proofs.Ytnndnpckkcgfiaa
