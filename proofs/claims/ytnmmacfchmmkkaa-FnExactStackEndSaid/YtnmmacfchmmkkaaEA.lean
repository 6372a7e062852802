/-
  append of one integer, with the place of the new block; a slice that is read while another one of the call's own grows.
-/
import Derived.Test.YtnmmacfchmmkkaaDG
namespace Go.Proofs.Ytnmmacfchmmkkaa
open Go.RowKit
set_option maxRecDepth 100000

theorem ownBlk_eq (A : Option Addr) (n c : Nat) : (Value.slice A n c).ownBlock = A.map (·.block) := by cases A <;> rfl
theorem wp_appJ {P : Program} (w : World) {o : Oper} {a : Act} {K : Act → World → Prop} {Q : Exit → Act → World → Prop} (s x : Operand) (t : TypeId) (ho : o.op = .call { callee := .builtin .append, args := #[s, x], argTypes := #[t, t] })
    (i : TypeInfo) (ht : P.underlying t = some (.slice 3)) (hi : P.info? 3 = some i) (hz : i.zero = some (.int .i64 0)) (hs : i.size = 1) (hb : i.bytes = 8)
    {base n : Nat} {A : Option Addr} {cp : Nat} {xs : List Int} (hv : a.eval s = .slice A n cp) (hn : n = xs.length) (hown : OwI w base A cp xs) {g f c : Nat} (z : Int) (hx : a.eval x = .slice (some ⟨g, f, none⟩) 1 c) (hc : w.cell? ⟨g, f, none⟩ = some (.int .i64 z)) (hl : xs.length ≤ 1048600) (hbase : base ≤ w.heap.size)
    (h : ∀ A' cp' n' w', Hid (n' = (xs ++ [z]).length) → OwI w' base A' cp' (xs ++ [z]) → w.grownBy w' (Value.slice A xs.length cp).ownBlock → (A'.map (·.block) = A.map (·.block) ∨ A'.map (·.block) = some w.heap.size) → K (a.put o.dst (.slice A' n' cp')) w') : o.wp P a w K Q := by
  subst hn
  obtain ⟨v', w', hrun, h2, h3, _, h5⟩ := run_append_own_at (P := P) w base t o.type 3 i _ 1 8 ht hi hz hs hb rfl (by omega) _ xs.length (xs.map (Value.int .i64)) hown ⟨g, f, none⟩ 1 c [.int .i64 z] rfl
    (by intro j u hu
        have : j = 0 := by
          rcases Nat.eq_zero_or_pos j with h | h
          · exact h
          · rw [List.getElem?_eq_none (by simp; omega)] at hu; cases hu
        subst this
        simp at hu
        subst hu
        rw [addJ]; exact hc)
    (by intro u hu; simp at hu; subst hu; rfl) (by unfold maxLen; omega) (by omega) hbase
  rw [show xs.map (Value.int .i64) ++ [Value.int .i64 z] = (xs ++ [z]).map (Value.int .i64) from by simp, show xs.length + 1 = (xs ++ [z]).length from by simp] at h2
  obtain ⟨A', cp', rfl, h4⟩ := ownI_form h2
  rw [ownBlk_eq, ownBlk_eq] at h5
  unfold Oper.wp execOp
  simp only [ho, resolve, invoke, builtin, Sem.run_bind, Sem.run_pure, Result.andThen_ok, List.map_toArray, List.map_cons, List.map_nil, hv, hx, hrun]
  exact h A' cp' _ w' rfl h4 h3 h5
theorem wpList_appJ {P : Program} (w : World) {ops : Array Oper} {rest : List Oper} {o : Oper} {a : Act} {Q : Exit → Act → World → Prop} (hgd : o.guard = none) (s x : Operand) (t : TypeId) (ho : o.op = .call { callee := .builtin .append, args := #[s, x], argTypes := #[t, t] })
    (i : TypeInfo) (ht : P.underlying t = some (.slice 3)) (hi : P.info? 3 = some i) (hz : i.zero = some (.int .i64 0)) (hs : i.size = 1) (hb : i.bytes = 8)
    {base n : Nat} {A : Option Addr} {cp : Nat} {xs : List Int} (hv : a.eval s = .slice A n cp) (hn : n = xs.length) (hown : OwI w base A cp xs) {g f c : Nat} (z : Int) (hx : a.eval x = .slice (some ⟨g, f, none⟩) 1 c) (hc : w.cell? ⟨g, f, none⟩ = some (.int .i64 z)) (hl : xs.length ≤ 1048600) (hbase : base ≤ w.heap.size)
    (h : ∀ A' cp' n' w', Hid (n' = (xs ++ [z]).length) → OwI w' base A' cp' (xs ++ [z]) → w.grownBy w' (Value.slice A xs.length cp).ownBlock → (A'.map (·.block) = A.map (·.block) ∨ A'.map (·.block) = some w.heap.size) → wpList P ops Q rest (a.put o.dst (.slice A' n' cp')) w') : wpList P ops Q (o :: rest) a w :=
  wpList_plain hgd fun _ hK => wp_appJ w s x t ho i ht hi hz hs hb hv hn hown z hx hc hl hbase fun A' cp' n' w' h1 h2 h3 h4 => hK _ _ (h A' cp' n' w' h1 h2 h3 h4)

/-- the slice at A reads as xs, and lies in another block than the slice at B -/
def RdF (w : World) (A : Option Addr) (xs : List Int) (B : Option Addr) : Prop :=
  0 < xs.length → ∃ g o, A = some ⟨g, o, none⟩ ∧ g < w.heap.size ∧ B.map (·.block) ≠ some g ∧ ∀ k, k < xs.length → w.cell? ⟨g, o + k, none⟩ = some (.int .i64 (Ix xs k))
theorem RdF.on {w w1 : World} {A B : Option Addr} {xs : List Int} (h : RdF w A xs B) (hb : Below w.heap.size w w1) : RdF w1 A xs B := fun h0 => by
  obtain ⟨g, o, e, hg, hn, hc⟩ := h h0
  exact ⟨g, o, e, Nat.lt_of_lt_of_le hg hb.size, hn, fun k hk => (hb.cell (by exact hg)).trans (hc k hk)⟩
theorem RdF.app {w w1 : World} {A B B' : Option Addr} {n c : Nat} {xs : List Int} (h : RdF w A xs B) (hg : w.grownBy w1 (Value.slice B n c).ownBlock) (hat : B'.map (·.block) = B.map (·.block) ∨ B'.map (·.block) = some w.heap.size) : RdF w1 A xs B' := fun h0 => by
  obtain ⟨g, o, e, hg0, hn, hc⟩ := h h0
  rw [ownBlk_eq] at hg
  refine ⟨g, o, e, Nat.lt_of_lt_of_le hg0 hg.size, ?_, fun k hk => hg.cell (hc k hk) (fun e => hn e.symm)⟩
  rcases hat with h1 | h1
  · rw [h1]; exact hn
  · rw [h1]
    intro e
    injection e with e
    omega
theorem RdF.start {w : World} {A B : Option Addr} {base cp : Nat} {xs : List Int} (h : OwI w base A cp xs) (hB : ∀ k, B.map (·.block) = some k → k < base) : RdF w A xs B := fun h0 => by
  obtain ⟨g, cap, hv, hb, hlt⟩ := World.ownsRow.form h h0
  simp only [Value.slice.injEq] at hv
  obtain ⟨rfl, _, rfl⟩ := hv
  refine ⟨g, 0, rfl, hlt, fun e => ?_, fun k hk => ?_⟩
  · have := hB g e; omega
  · have := World.ownsRow.cellAt h k (by omega)
    rw [Nat.zero_add, this]
    simp [Ix, hk]

/-- a list under way in the slice at B; the graph's variable; a list d that is read -/
structure UT (w wr : World) (nd : Int) (A : Option Addr) (cp : Nat) (ls : List Lk) (B : Option Addr) (cq : Nat) (out : List Int) (DA : Option Addr) (d : List Int) : Prop where
  ho : OwI wr w.heap.size B cq out
  hd : RdF wr DA d B
  bx : Blk wr w.heap.size 32 [.int .i64 nd, .slice A ls.length cp]
  bl : Below w.heap.size w wr
theorem UT.on {w wr w1 : World} {nd : Int} {A : Option Addr} {cp : Nat} {ls : List Lk} {B : Option Addr} {cq : Nat} {out : List Int} {DA : Option Addr} {d : List Int} (h : UT w wr nd A cp ls B cq out DA d) (hb : Below wr.heap.size wr w1) : UT w w1 nd A cp ls B cq out DA d :=
  ⟨h.ho.keep hb, h.hd.on hb, h.bx.keep hb, bthen h.bl hb⟩
theorem UT.app {w wr w1 : World} {nd : Int} {A : Option Addr} {cp : Nat} {ls : List Lk} {B B' : Option Addr} {cq cq' : Nat} {out out' : List Int} {DA : Option Addr} {d : List Int} (h : UT w wr nd A cp ls B cq out DA d)
    (ho : OwI w1 w.heap.size B' cq' out') (hg : wr.grownBy w1 (Value.slice B out.length cq).ownBlock) (hat : B'.map (·.block) = B.map (·.block) ∨ B'.map (·.block) = some wr.heap.size) : UT w w1 nd A cp ls B' cq' out' DA d :=
  ⟨ho, h.hd.app hg hat, h.bx.grownI hg (ownI_ne h.ho h.bx (by decide)), below_grownI h.bl h.ho rfl hg⟩


end Go.Proofs.Ytnmmacfchmmkkaa
