/-
  Words for memory: a slice of integers, a slice of links, that reads as a list; a slice that the call itself has made. What keeps them. No function's code in sight.
-/
import Derived.Test.YtnmmacfchmmkkaaPA
import Derived.WalkKit
import Derived.WalkSpells
import Derived.WalkLawsBesides
import Derived.Lib.Hide
import Derived.Deep.AppendLies
namespace Go.Proofs.Ytnmmacfchmmkkaa
open Go.RowKit

/-- the slice with address A reads as the links ls; it lies below block B -/
def RdL (w : World) (B : Nat) (A : Option Addr) (ls : List Lk) : Prop :=
  0 < ls.length → ∃ g o, A = some ⟨g, o, none⟩ ∧ g < B ∧ ∀ k, k < ls.length →
    w.cell? ⟨g, o + k * 3, none⟩ = some (.int .i64 (La ls k)) ∧ w.cell? ⟨g, o + k * 3 + 1, none⟩ = some (.int .i64 (Lb ls k)) ∧ w.cell? ⟨g, o + k * 3 + 2, none⟩ = some (.int .i64 (Lc ls k))
/-- the slice with address A reads as the integers xs -/
def RdI (w : World) (B : Nat) (A : Option Addr) (xs : List Int) : Prop :=
  0 < xs.length → ∃ g o, A = some ⟨g, o, none⟩ ∧ g < B ∧ ∀ k, k < xs.length → w.cell? ⟨g, o + k, none⟩ = some (.int .i64 (Ix xs k))

theorem RdL.keep {w w' : World} {B : Nat} {A : Option Addr} {ls : List Lk} (h : RdL w B A ls) (hb : Below B w w') : RdL w' B A ls := fun h0 => by
  obtain ⟨g, o, e, hg, hc⟩ := h h0
  refine ⟨g, o, e, hg, fun k hk => ?_⟩
  obtain ⟨c1, c2, c3⟩ := hc k hk
  exact ⟨(hb.cell (by exact hg)).trans c1, (hb.cell (by exact hg)).trans c2, (hb.cell (by exact hg)).trans c3⟩
theorem RdL.more {w : World} {B B' : Nat} {A : Option Addr} {ls : List Lk} (h : RdL w B A ls) (hB : B ≤ B') : RdL w B' A ls := fun h0 => by
  obtain ⟨g, o, e, hg, hc⟩ := h h0
  exact ⟨g, o, e, by omega, hc⟩
theorem RdI.keep {w w' : World} {B : Nat} {A : Option Addr} {xs : List Int} (h : RdI w B A xs) (hb : Below B w w') : RdI w' B A xs := fun h0 => by
  obtain ⟨g, o, e, hg, hc⟩ := h h0
  exact ⟨g, o, e, hg, fun k hk => (hb.cell (by exact hg)).trans (hc k hk)⟩
theorem RdI.more {w : World} {B B' : Nat} {A : Option Addr} {xs : List Int} (h : RdI w B A xs) (hB : B ≤ B') : RdI w B' A xs := fun h0 => by
  obtain ⟨g, o, e, hg, hc⟩ := h h0
  exact ⟨g, o, e, by omega, hc⟩
/-- the step from one call's end to the next: what lay before stays -/
theorem RdL.on {w w' : World} {A : Option Addr} {ls : List Lk} (h : RdL w w.heap.size A ls) (hb : Below w.heap.size w w') : RdL w' w'.heap.size A ls := (h.keep hb).more hb.size
theorem RdI.on {w w' : World} {A : Option Addr} {xs : List Int} (h : RdI w w.heap.size A xs) (hb : Below w.heap.size w w') : RdI w' w'.heap.size A xs := (h.keep hb).more hb.size

theorem RdL.dr {w : World} {A : Option Addr} {ls : List Lk} (h : RdL w w.heap.size A ls) : RdL w.drew w.drew.heap.size A ls := h
theorem RdI.dr {w : World} {A : Option Addr} {xs : List Int} (h : RdI w w.heap.size A xs) : RdI w.drew w.drew.heap.size A xs := h
def cellsL : List Lk → List Value
  | [] => []
  | l :: r => .int .i64 l.a :: .int .i64 l.b :: .int .i64 l.c :: cellsL r
theorem length_cellsL (ls : List Lk) : (cellsL ls).length = ls.length * 3 := by
  induction ls with
  | nil => rfl
  | cons l r ih => simp only [cellsL, List.length_cons, ih]; omega
theorem cellsL_append (l r : List Lk) : cellsL (l ++ r) = cellsL l ++ cellsL r := by
  induction l with
  | nil => rfl
  | cons x l ih => simp only [List.cons_append, cellsL, ih]
theorem cellsL_at (ls : List Lk) (k : Nat) (hk : k < ls.length) : (cellsL ls)[k * 3]? = some (.int .i64 (La ls k)) ∧ (cellsL ls)[k * 3 + 1]? = some (.int .i64 (Lb ls k)) ∧ (cellsL ls)[k * 3 + 2]? = some (.int .i64 (Lc ls k)) := by
  induction ls generalizing k with
  | nil => simp at hk
  | cons l r ih =>
    cases k with
    | zero => exact ⟨rfl, rfl, rfl⟩
    | succ k =>
      have := ih k (by simpa using hk)
      have e : (k + 1) * 3 = k * 3 + 1 + 1 + 1 := by omega
      simp only [cellsL, e, List.getElem?_cons_succ]
      have e1 : k * 3 + 1 + 1 + 1 + 1 = k * 3 + 1 + 1 + 1 + 1 := rfl
      exact this

/-- the slice is the call's own, from block base on, and holds xs -/
def OwI (w : World) (base : Nat) (A : Option Addr) (cp : Nat) (xs : List Int) : Prop := w.ownsRow base 3 1 (.slice A xs.length cp) xs.length (xs.map (Value.int .i64))
def OwL (w : World) (base : Nat) (A : Option Addr) (cp : Nat) (ls : List Lk) : Prop := w.ownsRow base 54 3 (.slice A ls.length cp) ls.length (cellsL ls)

theorem OwI.rd {w : World} {base : Nat} {A : Option Addr} {cp : Nat} {xs : List Int} (h : OwI w base A cp xs) : RdI w w.heap.size A xs := fun h0 => by
  obtain ⟨g, cap, hv, hb, hlt⟩ := World.ownsRow.form h h0
  simp only [Value.slice.injEq] at hv
  obtain ⟨rfl, _, rfl⟩ := hv
  refine ⟨g, 0, rfl, hlt, fun k hk => ?_⟩
  have := World.ownsRow.cellAt h k (by omega)
  rw [Nat.zero_add, this]
  simp [Ix, hk]
theorem OwL.rd {w : World} {base : Nat} {A : Option Addr} {cp : Nat} {ls : List Lk} (h : OwL w base A cp ls) : RdL w w.heap.size A ls := fun h0 => by
  obtain ⟨g, cap, hv, hb, hlt⟩ := World.ownsRow.form h h0
  simp only [Value.slice.injEq] at hv
  obtain ⟨rfl, _, rfl⟩ := hv
  refine ⟨g, 0, rfl, hlt, fun k hk => ?_⟩
  obtain ⟨c1, c2, c3⟩ := cellsL_at ls k hk
  rw [Nat.zero_add]
  exact ⟨(World.ownsRow.cellAt h _ (by omega)).trans c1, (World.ownsRow.cellAt h _ (by omega)).trans c2, (World.ownsRow.cellAt h _ (by omega)).trans c3⟩
theorem ownsRow_keep {w w' : World} {base : Nat} {e : TypeId} {size : Nat} {v : Value} {n : Nat} {xs : List Value} (h : w.ownsRow base e size v n xs) (hb : Below w.heap.size w w') : w'.ownsRow base e size v n xs := by
  refine ⟨h.1, ?_⟩
  rcases h.2 with hn | ⟨g, cap, cur, rfl, hb', hgg, rest⟩
  · exact .inl hn
  · exact .inr ⟨g, cap, cur, rfl, hb', by rw [hb.block g (Array.getElem?_eq_some_iff.1 hgg).1]; exact hgg, rest⟩
theorem ownsRow_base {w : World} {base base' : Nat} {e : TypeId} {size : Nat} {v : Value} {n : Nat} {xs : List Value} (h : w.ownsRow base e size v n xs) (hb : base' ≤ base) : w.ownsRow base' e size v n xs := by
  refine ⟨h.1, ?_⟩
  rcases h.2 with hn | ⟨g, cap, cur, rfl, hb', rest⟩
  · exact .inl hn
  · exact .inr ⟨g, cap, cur, rfl, by omega, rest⟩
theorem OwI.keep {w w' : World} {base : Nat} {A : Option Addr} {cp : Nat} {xs : List Int} (h : OwI w base A cp xs) (hb : Below w.heap.size w w') : OwI w' base A cp xs := ownsRow_keep h hb
theorem OwL.keep {w w' : World} {base : Nat} {A : Option Addr} {cp : Nat} {ls : List Lk} (h : OwL w base A cp ls) (hb : Below w.heap.size w w') : OwL w' base A cp ls := ownsRow_keep h hb
theorem OwI.nil_ (w : World) (base : Nat) : OwI w base none 0 [] := World.ownsRow_nil _ _ _ _
theorem OwL.nil_ (w : World) (base : Nat) : OwL w base none 0 [] := World.ownsRow_nil _ _ _ _

theorem bdN {B : Nat} {a w : World} (h : Below B a w) (n : Nat) : Below B a (w.drewN n) := ⟨h.os, h.tape, h.output, h.size, h.block⟩
/-- a cell that is there stays, behind whatever only adds -/
theorem ckeep {w w' : World} {p : Addr} {v : Value} (h : w.cell? p = some v) (hb : Below w.heap.size w w') : w'.cell? p = some v := (hb.cell (World.block_lt_of_cell? w p h)).trans h
theorem fkeep {w w' : World} {p : Addr} (h : w.frozen? p = false) (hlt : p.block < w.heap.size) (hb : Below w.heap.size w w') : w'.frozen? p = false := (hb.frozen hlt).trans h
theorem ckeepD {w w' : World} {p : Addr} {v : Value} (h : w.cell? p = some v) (hb : Below w.drew.heap.size w.drew w') : w'.cell? p = some v := ckeep (w := w.drew) h hb
/-- a new block, and draws -/
theorem bnew (w : World) (o : Obj) : Below w.heap.size w (w.alloc o) := (Below.refl _ _).alloc (Nat.le_refl _) o
theorem bnewN (w : World) (o : Obj) (n : Nat) : Below w.heap.size w ((w.alloc o).drewN n) := bdN (bnew w o) n
theorem b2 (w : World) (o1 o2 : Obj) : Below w.heap.size w ((w.alloc o1).alloc o2) := (bnew w o1).alloc (by simp) o2
theorem b3 (w : World) (o1 o2 o3 : Obj) : Below w.heap.size w (((w.alloc o1).alloc o2).alloc o3) := (b2 w o1 o2).alloc (by simp; omega) o3
theorem b4 (w : World) (o1 o2 o3 o4 : Obj) : Below w.heap.size w ((((w.alloc o1).alloc o2).alloc o3).alloc o4) := (b3 w o1 o2 o3).alloc (by simp; omega) o4
/-- two calls, one behind the other -/
theorem bthen {w w1 w2 : World} (h : Below w.heap.size w w1) (k : Below w1.heap.size w1 w2) : Below w.heap.size w w2 := h.trans (k.mono h.size)
/-- the first block of a call's own, behind a call -/
theorem box1 {w w1 : World} {x : Value} {t : TypeId} (hb : Below (w.alloc (.cells #[x] t)).heap.size (w.alloc (.cells #[x] t)) w1) : w1.cell? ⟨w.heap.size, 0, none⟩ = some x :=
  ckeep (by go_simp) hb
theorem box2 {w w1 : World} {x y : Value} {t : TypeId} (hb : Below (w.alloc (.cells #[x, y] t)).heap.size (w.alloc (.cells #[x, y] t)) w1) : w1.cell? ⟨w.heap.size, 0, none⟩ = some x ∧ w1.cell? ⟨w.heap.size, 1, none⟩ = some y :=
  ⟨ckeep (by go_simp) hb, ckeep (by go_simp) hb⟩
/-- what lies below a call's start reads as before -/
theorem bcell {W w1 : World} (hb : Below W.heap.size W w1) : (∀ b o, b < W.heap.size → w1.cell? ⟨b, o, none⟩ = W.cell? ⟨b, o, none⟩) ∧ (∀ b o, b < W.heap.size → w1.frozen? ⟨b, o, none⟩ = W.frozen? ⟨b, o, none⟩) :=
  ⟨fun b o h => hb.cell (p := ⟨b, o, none⟩) h, fun b o h => hb.frozen (p := ⟨b, o, none⟩) h⟩

/-! ### a block that is known whole -/

/-- block g holds the cells cs of element type t, none frozen -/
def Blk (w : World) (g : Nat) (t : TypeId) (cs : List Value) : Prop := w.heap[g]? = some (.cells cs.toArray t (0, 0))
theorem Blk.lt {w : World} {g : Nat} {t : TypeId} {cs : List Value} (h : Blk w g t cs) : g < w.heap.size := (Array.getElem?_eq_some_iff.1 h).1
theorem Blk.cellAt {w : World} {g : Nat} {t : TypeId} {cs : List Value} (h : Blk w g t cs) (i : Nat) : w.cell? ⟨g, i, none⟩ = cs[i]? := by
  unfold Blk at h
  simp [World.cell?, h]
theorem Blk.frozenAt {w : World} {g : Nat} {t : TypeId} {cs : List Value} (h : Blk w g t cs) (i : Nat) : w.frozen? ⟨g, i, none⟩ = false := by
  unfold Blk at h
  simp [World.frozen?, h]
theorem Blk.stored {w : World} {g : Nat} {t : TypeId} {cs : List Value} (h : Blk w g t cs) (i : Nat) (v : Value) : Blk (w.setCell ⟨g, i, none⟩ v) g t (cs.set i v) := by
  unfold Blk at h ⊢
  simp [World.setCell, Array.getElem?_modify, h]
theorem Blk.far {w : World} {g : Nat} {t : TypeId} {cs : List Value} (h : Blk w g t cs) {p : Addr} (hp : g ≠ p.block) (v : Value) : Blk (w.setCell p v) g t cs := (Below.heap_setCell w p v g hp).trans h
theorem Blk.keep {w w' : World} {g : Nat} {t : TypeId} {cs : List Value} (h : Blk w g t cs) (hb : Below w.heap.size w w') : Blk w' g t cs := (hb.block g h.lt).trans h
theorem Blk.new (w : World) (c : Array Value) (t : TypeId) : Blk (w.alloc (.cells c t)) w.heap.size t c.toList := by
  unfold Blk
  rw [heap_alloc_new w _]
theorem Blk.own {w : World} {g : Nat} {t : TypeId} {cs : List Value} (h : Blk w g t cs) {base size n : Nat} (hl : cs.length = n * size) (hn : n ≤ 1048576) (hb : base ≤ g) :
    w.ownsRow base t size (.slice (some ⟨g, 0, none⟩) n n) n cs :=
  ⟨hl, .inr ⟨g, n, cs.toArray, rfl, hb, h, Nat.le_refl _, by unfold maxLen; omega, by simpa using hl, by simp [← hl]⟩⟩
/-- what is the call's own and not nil lies in a block that begins with it -/
theorem ownsRow_set {w : World} {base : Nat} {e : TypeId} {size g n cap : Nat} {xs : List Value} (h : w.ownsRow base e size (.slice (some ⟨g, 0, none⟩) n cap) n xs) (j : Nat) (u : Value) :
    (w.setCell ⟨g, j, none⟩ u).ownsRow base e size (.slice (some ⟨g, 0, none⟩) n cap) n (xs.set j u) := (World.ownsRow.stored h j u).1

def zL (n : Nat) : Array Value := (cellsL (List.replicate n dk)).toArray
def zI (n : Nat) : Array Value := (List.replicate n (Value.int .i64 0)).toArray
theorem cellsL_zero (n : Nat) : cellsL (List.replicate n dk) = List.replicate (n * 3) (Value.int .i64 0) := by
  induction n with
  | zero => rfl
  | succ n ih => rw [List.replicate_succ, show (n + 1) * 3 = n * 3 + 1 + 1 + 1 from by omega]; simp only [cellsL, ih, List.replicate_succ]; rfl
theorem madeCells_same (z : Array Value) (v : Value) (hz : 0 < z.size) (hv : ∀ i, i < z.size → z[i]! = v) (n : Nat) : madeCells z n = Array.replicate n v := by
  apply Array.ext
  · simp [madeCells]
  · intro i h1 h2
    simp only [madeCells, Array.getElem_map, Array.getElem_range, Array.getElem_replicate]
    exact hv _ (Nat.mod_lt _ hz)
theorem run_mkL {P : Program} (t e : TypeId) (i : TypeInfo) (ht : P.underlying t = some (.slice e)) (hi : P.info? e = some i) (hz : i.zero = some (.agg #[.int .i64 0, .int .i64 0, .int .i64 0])) (hs : i.size = 3) (hb : i.bytes = 24)
    (n : Nat) (hn : n ≤ 1048576) (w : World) :
    (Instr.makeSlice t (.int .i64 (n : Int)) (.int .i64 (n : Int))).run P w = .ok (.slice (some ⟨w.heap.size, 0, none⟩) n n) (w.alloc (.cells (zL n) e)) := by
  have h := run_make (P := P) w t e i _ ht hi hz .i64 .i64 n n (by omega) (by omega) (by rw [hb]; omega) (by omega)
  simp only [Int.toNat_natCast, hs] at h
  rw [h, madeCells_same _ (.int .i64 0) (by simp [Value.cells]) (by intro i hi; simp [Value.cells] at hi; match i, hi with | 0, _ => rfl | 1, _ => rfl | 2, _ => rfl)]
  unfold zL
  rw [cellsL_zero]
  simp
theorem run_mkI {P : Program} (t e : TypeId) (i : TypeInfo) (ht : P.underlying t = some (.slice e)) (hi : P.info? e = some i) (hz : i.zero = some (.int .i64 0)) (hs : i.size = 1) (hb : i.bytes = 8)
    (n : Nat) (hn : n ≤ 1048576) (w : World) :
    (Instr.makeSlice t (.int .i64 (n : Int)) (.int .i64 (n : Int))).run P w = .ok (.slice (some ⟨w.heap.size, 0, none⟩) n n) (w.alloc (.cells (zI n) e)) := by
  have h := run_make (P := P) w t e i _ ht hi hz .i64 .i64 n n (by omega) (by omega) (by rw [hb]; omega) (by omega)
  simp only [Int.toNat_natCast, hs] at h
  rw [h, madeCells_same _ (.int .i64 0) (by simp [Value.cells]) (by intro i hi; simp [Value.cells] at hi; subst hi; rfl)]
  unfold zI
  simp

/-- the cells of a list of links in which one is put anew -/
theorem cellsL_set (ls : List Lk) (k : Nat) (l : Lk) (hk : k < ls.length) :
    cellsL (ls.set k l) = (((cellsL ls).set (k * 3) (.int .i64 l.a)).set (k * 3 + 1) (.int .i64 l.b)).set (k * 3 + 2) (.int .i64 l.c) := by
  induction ls generalizing k with
  | nil => simp at hk
  | cons x r ih =>
    cases k with
    | zero => rfl
    | succ k =>
      have h := ih k (by simpa using hk)
      simp only [List.set_cons_succ, cellsL, h]
      rw [show (k + 1) * 3 = k * 3 + 1 + 1 + 1 from by omega]
      simp only [List.set_cons_succ]
/-- the first k of ls, then zeros -/
def partL (ls : List Lk) (k : Nat) : List Lk := ls.take k ++ List.replicate (ls.length - k) dk
theorem partL_zero (ls : List Lk) : partL ls 0 = List.replicate ls.length dk := by simp [partL]
theorem partL_full (ls : List Lk) : partL ls ls.length = ls := by simp [partL]
theorem partL_length (ls : List Lk) (k : Nat) (hk : k ≤ ls.length) : (partL ls k).length = ls.length := by simp [partL]; omega
theorem partL_succ (ls : List Lk) (k : Nat) (hk : k < ls.length) : partL ls (k + 1) = (partL ls k).set k ⟨La ls k, Lb ls k, Lc ls k⟩ := by
  have e : (⟨La ls k, Lb ls k, Lc ls k⟩ : Lk) = ls[k] := by simp [La, Lb, Lc, hk]
  rw [e]
  unfold partL
  rw [show ls.length - k = (ls.length - (k + 1)) + 1 from by omega, List.replicate_succ]
  rw [List.set_append_right _ _ (by simp; omega)]
  rw [show k - (ls.take k).length = 0 from by simp; omega]
  simp only [List.set_cons_zero]
  rw [List.take_succ_eq_append_getElem hk, List.append_assoc]
  rfl

end Go.Proofs.Ytnmmacfchmmkkaa
