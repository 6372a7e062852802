/-
  A law's second graph, which the program makes of the first, laid into a variable in a region that draws its order.
-/
import Derived.Test.YtmkjndfhfhfggaaEB
import Derived.Test.YtmkjndfhfhfggaaWS
namespace Go.Proofs.Ytmkjndfhfhfggaa
open Go.RowKit
set_option maxRecDepth 100000

/-- the second graph's variable; the first graph's; a list -/
def GX (w : World) (G : Nat) (nd : Int) (A : Option Addr) (cp : Nat) (ls : List Lk) (B : Option Addr) (d : List Int) (nd2 : Int) (ms : List Lk) (s : Value) (wx : World) : Prop :=
  ∃ G2 X cx, s = .pointer (some ⟨G2, 0, none⟩) ∧ LS w wx G2 nd2 X cx ms ∧ LS w wx G nd A cp ls ∧ RdI wx wx.heap.size B d
theorem gxA {w w4 w5 : World} {G : Nat} {nd : Int} {A : Option Addr} {cp : Nat} {ls : List Lk} {B : Option Addr} {d : List Int} {nd2 : Int} {ms : List Lk} {X : Option Addr} {cx base : Nat}
    (S : LS w w4 G nd A cp ls) (r : RdI w4 w4.heap.size B d) (hb : Below w4.heap.size w4 w5) (ho : OwL w5 base X cx ms) (hm : ms.length ≤ 16) :
    GX w G nd A cp ls B d nd2 ms (.pointer (some ⟨w5.heap.size, 0, none⟩)) (w5.alloc (.cells #[.int .i64 nd2, .slice X ms.length cx] 25)) :=
  ⟨w5.heap.size, X, cx, rfl, ⟨(Blk.new _ _ _).cellAt 0, (Blk.new _ _ _).cellAt 1, ho.rd.on (bnew _ _), bthen (S.on hb).bl (bnew _ _), hm⟩, (S.on hb).on (bnew _ _), (r.on hb).on (bnew _ _)⟩
theorem gxB {w w4 w5 : World} {G : Nat} {nd : Int} {A : Option Addr} {cp : Nat} {ls : List Lk} {B : Option Addr} {d : List Int} {nd2 : Int} {ms : List Lk} {X : Option Addr} {cx base : Nat}
    (S : LS w w4 G nd A cp ls) (r : RdI w4 w4.heap.size B d) (hb : Below w4.heap.size w4 w5) (ho : OwL w5 base X cx ms) (hz : Blk w5 w4.heap.size 25 [.int .i64 0, .slice none 0 0]) (hm : ms.length ≤ 16) :
    GX w G nd A cp ls B d nd2 ms (.pointer (some ⟨w4.heap.size, 0, none⟩)) ((w5.setCell ⟨w4.heap.size, 0, none⟩ (.int .i64 nd2)).setCell ⟨w4.heap.size, 1, none⟩ (.slice X ms.length cx)) := by
  have hk := (hz.stored 0 (.int .i64 nd2)).stored 1 (.slice X ms.length cx)
  have hb2 := (hb.setCell (p := ⟨w4.heap.size, 0, none⟩) (Nat.le_refl _) (.int .i64 nd2)).setCell (p := ⟨w4.heap.size, 1, none⟩) (Nat.le_refl _) (.slice X ms.length cx)
  have ho2 := own_st (own_st ho hz (by decide) 0 (.int .i64 nd2)) (hz.stored 0 (.int .i64 nd2)) (by decide) 1 (.slice X ms.length cx)
  exact ⟨w4.heap.size, X, cx, rfl, ⟨hk.cellAt 0, hk.cellAt 1, ho2.rd, (S.on hb2).bl, hm⟩, S.on hb2, r.on hb2⟩

end Go.Proofs.Ytmkjndfhfhfggaa
