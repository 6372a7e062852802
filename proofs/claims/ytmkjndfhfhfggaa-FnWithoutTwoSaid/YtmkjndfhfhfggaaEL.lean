/-
  A second graph's variable, laid in a region that draws its order: what is old stays.
-/
import Derived.Test.YtmkjndfhfhfggaaEE
namespace Go.Proofs.Ytmkjndfhfhfggaa
open Go.RowKit

def GXb (w w4 : World) (nd2 : Int) (ms : List Lk) (s : Value) (wx : World) : Prop :=
  ∃ G2 X cx, s = .pointer (some ⟨G2, 0, none⟩) ∧ LS w wx G2 nd2 X cx ms ∧ Below w4.heap.size w4 wx
theorem gxbA {w w4 w5 : World} {nd2 : Int} {ms : List Lk} {X : Option Addr} {cx base : Nat} (B4 : Below w.heap.size w w4) (hb : Below w4.heap.size w4 w5) (ho : OwL w5 base X cx ms) (hm : ms.length ≤ 16) :
    GXb w w4 nd2 ms (.pointer (some ⟨w5.heap.size, 0, none⟩)) (w5.alloc (.cells #[.int .i64 nd2, .slice X ms.length cx] 25)) :=
  ⟨w5.heap.size, X, cx, rfl, ⟨(Blk.new _ _ _).cellAt 0, (Blk.new _ _ _).cellAt 1, ho.rd.on (bnew _ _), bthen (bthen B4 hb) (bnew _ _), hm⟩, bthen hb (bnew _ _)⟩
theorem gxbB {w w4 w5 : World} {nd2 : Int} {ms : List Lk} {X : Option Addr} {cx base L : Nat} (B4 : Below w.heap.size w w4) (hb : Below w4.heap.size w4 w5) (ho : OwL w5 base X cx ms) (hz : Blk w5 L 25 [.int .i64 0, .slice none 0 0]) (hL : w4.heap.size ≤ L) (hm : ms.length ≤ 16) :
    GXb w w4 nd2 ms (.pointer (some ⟨L, 0, none⟩)) ((w5.setCell ⟨L, 0, none⟩ (.int .i64 nd2)).setCell ⟨L, 1, none⟩ (.slice X ms.length cx)) := by
  have hk := (hz.stored 0 (.int .i64 nd2)).stored 1 (.slice X ms.length cx)
  have hb2 := (hb.setCell (p := ⟨L, 0, none⟩) hL (.int .i64 nd2)).setCell (p := ⟨L, 1, none⟩) hL (.slice X ms.length cx)
  have ho2 := own_st (own_st ho hz (by decide) 0 (.int .i64 nd2)) (hz.stored 0 (.int .i64 nd2)) (by decide) 1 (.slice X ms.length cx)
  exact ⟨L, X, cx, rfl, ⟨hk.cellAt 0, hk.cellAt 1, ho2.rd, bthen B4 hb2, hm⟩, hb2⟩

end Go.Proofs.Ytmkjndfhfhfggaa
