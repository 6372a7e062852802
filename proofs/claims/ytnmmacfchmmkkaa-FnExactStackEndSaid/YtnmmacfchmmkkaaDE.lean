/-
  append of one integer onto a slice of integers of the call's own: a law for plain regions and for regions that draw their order.
-/
import Derived.Test.YtnmmacfchmmkkaaWF
import Derived.Maps.AppendAt
import Derived.Deep.RegionLaw
namespace Go.Proofs.Ytnmmacfchmmkkaa
open Go.RowKit

theorem addJ (g o k : Nat) : (⟨g, o, none⟩ : Addr).add k = ⟨g, o + k, none⟩ := by
  unfold Addr.add; split <;> simp_all
theorem ownI_form {w : World} {base : Nat} {v : Value} {xs : List Int} (h : w.ownsRow base 3 1 v xs.length (xs.map (Value.int .i64))) : ∃ A cp, v = .slice A xs.length cp ∧ OwI w base A cp xs := by
  rcases h.2 with ⟨rfl, h0⟩ | ⟨g, cap, cur, rfl, r⟩
  · have : xs = [] := List.eq_nil_of_length_eq_zero h0
    subst this
    exact ⟨none, 0, rfl, OwI.nil_ _ _⟩
  · exact ⟨_, _, rfl, h⟩
theorem run_appI {P : Program} (w : World) (t ty : TypeId) (i : TypeInfo) (ht : P.underlying t = some (.slice 3)) (hi : P.info? 3 = some i) (hz : i.zero = some (.int .i64 0)) (hs : i.size = 1) (hb : i.bytes = 8)
    {base : Nat} {A : Option Addr} {cp : Nat} {xs : List Int} (hown : OwI w base A cp xs) {g o c : Nat} {z : Int} (hc : w.cell? ⟨g, o, none⟩ = some (.int .i64 z)) (hl : xs.length ≤ 1048600) (hbase : base ≤ w.heap.size) :
    ∃ A' cp' w', (Builtin.append_ #[t, t] ty #[.slice A xs.length cp, .slice (some ⟨g, o, none⟩) 1 c]).run P w = .ok (.slice A' (xs ++ [z]).length cp') w' ∧ OwI w' base A' cp' (xs ++ [z]) ∧ w.grownBy w' (Value.slice A xs.length cp).ownBlock := by
  obtain ⟨v', w', hrun, h2, h3, _, _⟩ := run_append_own_at (P := P) w base t ty 3 i _ 1 8 ht hi hz hs hb rfl (by omega) _ xs.length (xs.map (Value.int .i64)) hown ⟨g, o, none⟩ 1 c [.int .i64 z] rfl
    (by intro j u hu
        have : j = 0 := by
          rcases Nat.eq_zero_or_pos j with h | h
          · exact h
          · rw [List.getElem?_eq_none (by simp; omega)] at hu; cases hu
        subst this
        simp at hu
        subst hu
        rw [addJ]; exact hc)
    (by intro u hu; simp at hu; subst hu; rfl) (by unfold maxLen; omega) (by omega) hbase
  rw [show xs.map (Value.int .i64) ++ [Value.int .i64 z] = (xs ++ [z]).map (Value.int .i64) from by simp, show xs.length + 1 = (xs ++ [z]).length from by simp] at h2
  obtain ⟨A', cp', rfl, h4⟩ := ownI_form h2
  exact ⟨A', cp', w', hrun, h4, h3⟩
theorem wp_appI {P : Program} (w : World) {o : Oper} {a : Act} {K : Act → World → Prop} {Q : Exit → Act → World → Prop} (s x : Operand) (t : TypeId) (ho : o.op = .call { callee := .builtin .append, args := #[s, x], argTypes := #[t, t] })
    (i : TypeInfo) (ht : P.underlying t = some (.slice 3)) (hi : P.info? 3 = some i) (hz : i.zero = some (.int .i64 0)) (hs : i.size = 1) (hb : i.bytes = 8)
    {base n : Nat} {A : Option Addr} {cp : Nat} {xs : List Int} (hv : a.eval s = .slice A n cp) (hn : n = xs.length) (hown : OwI w base A cp xs) {g f c : Nat} (z : Int) (hx : a.eval x = .slice (some ⟨g, f, none⟩) 1 c) (hc : w.cell? ⟨g, f, none⟩ = some (.int .i64 z)) (hl : xs.length ≤ 1048600) (hbase : base ≤ w.heap.size)
    (h : ∀ A' cp' n' w', Hid (n' = (xs ++ [z]).length) → OwI w' base A' cp' (xs ++ [z]) → w.grownBy w' (Value.slice A xs.length cp).ownBlock → K (a.put o.dst (.slice A' n' cp')) w') : o.wp P a w K Q := by
  subst hn
  obtain ⟨A', cp', w', hrun, h2, h3⟩ := run_appI (P := P) w t o.type i ht hi hz hs hb hown (c := c) hc hl hbase
  unfold Oper.wp execOp
  simp only [ho, resolve, invoke, builtin, Sem.run_bind, Sem.run_pure, Result.andThen_ok, List.map_toArray, List.map_cons, List.map_nil, hv, hx, hrun]
  exact h A' cp' _ w' rfl h2 h3
theorem wpList_appI {P : Program} (w : World) {ops : Array Oper} {rest : List Oper} {o : Oper} {a : Act} {Q : Exit → Act → World → Prop} (hgd : o.guard = none) (s x : Operand) (t : TypeId) (ho : o.op = .call { callee := .builtin .append, args := #[s, x], argTypes := #[t, t] })
    (i : TypeInfo) (ht : P.underlying t = some (.slice 3)) (hi : P.info? 3 = some i) (hz : i.zero = some (.int .i64 0)) (hs : i.size = 1) (hb : i.bytes = 8)
    {base n : Nat} {A : Option Addr} {cp : Nat} {xs : List Int} (hv : a.eval s = .slice A n cp) (hn : n = xs.length) (hown : OwI w base A cp xs) {g f c : Nat} (z : Int) (hx : a.eval x = .slice (some ⟨g, f, none⟩) 1 c) (hc : w.cell? ⟨g, f, none⟩ = some (.int .i64 z)) (hl : xs.length ≤ 1048600) (hbase : base ≤ w.heap.size)
    (h : ∀ A' cp' n' w', Hid (n' = (xs ++ [z]).length) → OwI w' base A' cp' (xs ++ [z]) → w.grownBy w' (Value.slice A xs.length cp).ownBlock → wpList P ops Q rest (a.put o.dst (.slice A' n' cp')) w') : wpList P ops Q (o :: rest) a w :=
  wpList_plain hgd fun _ hK => wp_appI w s x t ho i ht hi hz hs hb hv hn hown z hx hc hl hbase fun A' cp' n' w' h1 h2 h3 => hK _ _ (h A' cp' n' w' h1 h2 h3)
theorem step_appI {P : Program} (w : World) {ops : Array Oper} {o : Oper} {a : Act} {K : Act → World → Prop} {Q : Exit → Act → World → Prop} {E : Prop} (hgd : o.guard = none) (s x : Operand) (t : TypeId) (ho : o.op = .call { callee := .builtin .append, args := #[s, x], argTypes := #[t, t] })
    (i : TypeInfo) (ht : P.underlying t = some (.slice 3)) (hi : P.info? 3 = some i) (hz : i.zero = some (.int .i64 0)) (hs : i.size = 1) (hb : i.bytes = 8)
    {base n : Nat} {A : Option Addr} {cp : Nat} {xs : List Int} (hv : a.eval s = .slice A n cp) (hn : n = xs.length) (hown : OwI w base A cp xs) {g f c : Nat} (z : Int) (hx : a.eval x = .slice (some ⟨g, f, none⟩) 1 c) (hc : w.cell? ⟨g, f, none⟩ = some (.int .i64 z)) (hl : xs.length ≤ 1048600) (hbase : base ≤ w.heap.size)
    (h : ∀ A' cp' n' w', Hid (n' = (xs ++ [z]).length) → OwI w' base A' cp' (xs ++ [z]) → w.grownBy w' (Value.slice A xs.length cp).ownBlock → K (a.put o.dst (.slice A' n' cp')) w') :
    if Region.wanted o (yielded ops a.tmps) = true then Oper.wp P o a w K Q else E := by
  have hw : Region.wanted o (yielded ops a.tmps) = true := by simp [Region.wanted, hgd]
  rw [if_pos hw]
  exact wp_appI w s x t ho i ht hi hz hs hb hv hn hown z hx hc hl hbase h

theorem ownI_ne {w : World} {base : Nat} {A : Option Addr} {cp : Nat} {xs : List Int} (h : OwI w base A cp xs) {g : Nat} {t : TypeId} {cs : List Value} (hb : Blk w g t cs) (hne : t ≠ 3) : (Value.slice A xs.length cp).ownBlock ≠ some g := by
  rcases h.2 with ⟨hn, _⟩ | ⟨g', cap, cur, hv, _, hh, _⟩
  · rw [hn]; simp [Value.ownBlock]
  · rw [hv]
    intro he
    have : g' = g := by simpa [Value.ownBlock] using he
    subst this
    unfold Blk at hb
    rw [hb] at hh
    injection hh with hh
    injection hh with _ ht
    exact hne ht
theorem Blk.grownI {w w' : World} {g : Nat} {t : TypeId} {cs : List Value} {row : Option Nat} (h : Blk w g t cs) (hg : w.grownBy w' row) (hne : row ≠ some g) : Blk w' g t cs :=
  (hg.block g h.lt (fun e => hne e.symm)).trans h
theorem below_grownI {w wr w2 : World} {A : Option Addr} {n cp : Nat} {xs : List Int} (hb : Below w.heap.size w wr) (ho : OwI wr w.heap.size A cp xs) (hn : n = xs.length) (hg : wr.grownBy w2 (Value.slice A n cp).ownBlock) : Below w.heap.size w w2 := by
  subst hn
  exact hb.grown hg hb.size (fun k hk => (World.ownsRow.lt ho k hk).1)

end Go.Proofs.Ytnmmacfchmmkkaa
