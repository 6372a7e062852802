/-
  The walk of the reference's GraphWithout.
-/
import Derived.Test.YtmkjndfhfhfggaaWU
namespace Go.Proofs.Ytmkjndfhfhfggaa
open Go.RowKit
set_option maxRecDepth 100000

set_option maxRecDepth 100000 in
set_option maxHeartbeats 1000000 in
theorem sgWithout_no {nd : Int} {ls : List Lk} {n : Int} (h : ¬ (Valid nd ls ∧ Lnk ls n)) (A : Option Addr) (cp : Nat) (w : World) (hlen : ls.length ≤ 9223372036854775806) (hr : RdL w w.heap.size A ls) :
    Calls Try.prog 21 #[.agg #[.int .i64 nd, .slice A ls.length cp], .int .i64 n] w (RG 0 [] false w) := by
  go_enter Try.func21, Try.ntmps21
  go_wp2_with fail
  refine (l1Index_no h A cp _ hlen (hr.on (b2 _ _ _))).mono ?_
  rintro e w1 ⟨rfl, hb1⟩
  have H1 : Blk w1 (w.heap.size + 1) 25 [.int .i64 0, .slice none 0 0] := by
    have h := Blk.new (w.alloc (.cells #[.int .i64 nd, .slice A ls.length cp] 25)) #[.int .i64 0, .slice none 0 0] 25
    rw [show (w.alloc (.cells #[.int .i64 nd, .slice A ls.length cp] 25)).heap.size = w.heap.size + 1 from by simp] at h
    exact h.keep hb1
  have B1 := bthen (b2 w (.cells #[.int .i64 nd, .slice A ls.length cp] 25) (.cells #[.int .i64 0, .slice none 0 0] 25)) hb1
  have k3 : w1.cell? ⟨w.heap.size + 1, 0, none⟩ = some (.int .i64 0) := H1.cellAt 0
  have k4 : w1.cell? ⟨w.heap.size + 1, 1, none⟩ = some (.slice none 0 0) := H1.cellAt 1
  have f3 := H1.frozenAt 0
  have f4 := H1.frozenAt 1
  clear hb1
  go_wp2_with fail
  refine bodyPost_ret (v := .tuple #[.agg #[.int .i64 0, .slice none 0 0], .bool false]) (by simp [results, Try.results21, go_sem, k3, k4]) rfl ?_
  exact rg_no B1 (by omega)

set_option maxRecDepth 100000 in
set_option maxHeartbeats 1000000 in
theorem sgWithout_yes {nd : Int} {ls : List Lk} (hv : Valid nd ls) {n : Int} (hn : Lnk ls n) (A : Option Addr) (cp : Nat) (w : World) (hcap : ls.length ≤ cp) (hr : RdL w w.heap.size A ls) :
    Calls Try.prog 21 #[.agg #[.int .i64 nd, .slice A ls.length cp], .int .i64 n] w (RG nd (lsW ls n.toNat) true w) := by
  have h14 : ls.length ≤ 14 := hv.2.2.1
  have hn1 := hn.1
  have hn2 := hn.2
  have hk : n.toNat < ls.length := by omega
  have hni : (n.toNat : Int) = n := Int.toNat_of_nonneg hn1
  go_enter Try.func21, Try.ntmps21
  go_wp2_with fail
  refine (l1Index_yes hv hn A cp _ (hr.on (b2 _ _ _))).mono ?_
  rintro e w1 ⟨rfl, hb1⟩
  have k0 : w1.cell? ⟨w.heap.size, 0, none⟩ = some (.int .i64 nd) := ckeep (by go_simp) hb1
  have k1 : w1.cell? ⟨w.heap.size, 1, none⟩ = some (.slice A ls.length cp) := ckeep (by go_simp) hb1
  have r1 := (hr.on (b2 w (.cells #[.int .i64 nd, .slice A ls.length cp] 25) (.cells #[.int .i64 0, .slice none 0 0] 25))).on hb1
  have H1 : Blk w1 (w.heap.size + 1) 25 [.int .i64 0, .slice none 0 0] := by
    have h := Blk.new (w.alloc (.cells #[.int .i64 nd, .slice A ls.length cp] 25)) #[.int .i64 0, .slice none 0 0] 25
    rw [show (w.alloc (.cells #[.int .i64 nd, .slice A ls.length cp] 25)).heap.size = w.heap.size + 1 from by simp] at h
    exact h.keep hb1
  have B1 := bthen (b2 w (.cells #[.int .i64 nd, .slice A ls.length cp] 25) (.cells #[.int .i64 0, .slice none 0 0] 25)) hb1
  have HK := l1Without_any nd A cp ls n.toNat w1 h14 hcap hk r1
  rw [hni] at HK
  have HK := Lib.hid HK
  clear hb1 hni
  go_wp2_with fail
  refine HK.out.mono ?_
  rintro e w2 ⟨⟨B, cq, rfl, ho⟩, hb2⟩
  have H2 := H1.keep hb2
  have k3 : w2.cell? ⟨w.heap.size + 1, 0, none⟩ = some (.int .i64 0) := H2.cellAt 0
  have k4 : w2.cell? ⟨w.heap.size + 1, 1, none⟩ = some (.slice none 0 0) := H2.cellAt 1
  have f3 := H2.frozenAt 0
  have f4 := H2.frozenAt 1
  have o2 : OwL w2 w.heap.size B cq _ := ownsRow_base ho B1.size
  have B2 := bthen B1 hb2
  clear hb2 ho HK k0 k1
  go_wp2_with fail
  refine bodyPost_ret (v := .tuple #[.agg #[.int .i64 nd, .slice B (lsW ls n.toNat).length cq], .bool true]) (by simp [results, Try.results21, go_sem, k3, k4]) rfl ?_
  have hd := res_done o2 H2 B2 (by omega) (.int .i64 nd) (.slice B (lsW ls n.toNat).length cq)
  exact ⟨⟨B, cq, rfl, hd.1⟩, hd.2⟩

end Go.Proofs.Ytmkjndfhfhfggaa
