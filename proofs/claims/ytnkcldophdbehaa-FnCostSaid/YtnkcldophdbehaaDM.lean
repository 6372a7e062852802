/-
  The walk of the reference's GraphCost; what GraphCost and GraphWithout answer at any arguments.
-/
import Derived.Test.YtnkcldophdbehaaDL
import Derived.Test.YtnkcldophdbehaaWV
namespace Go.Proofs.Ytnkcldophdbehaa
open Go.RowKit

set_option maxRecDepth 100000 in
set_option maxHeartbeats 1000000 in
theorem sgCost_yes {nd : Int} {ls : List Lk} (hv : Valid nd ls) {n c : Int} (hn : Lnk ls n) (h1 : 1 ≤ c) (h20 : c ≤ 20) (A : Option Addr) (cp : Nat) (w : World) (hr : RdL w w.heap.size A ls) :
    Calls Try.prog 25 #[.agg #[.int .i64 nd, .slice A ls.length cp], .int .i64 n, .int .i64 c] w (RG nd (lsC ls n.toNat c) true w) := by
  have h14 : ls.length ≤ 14 := hv.2.2.1
  have hk : n.toNat < ls.length := by have := hn.1; have := hn.2; omega
  have hni : (n.toNat : Int) = n := Int.toNat_of_nonneg hn.1
  go_enter Try.func25, Try.ntmps25
  go_wp2_with fail
  refine (l1Index_yes hv hn A cp _ (hr.on (b2 _ _ _))).mono ?_
  rintro e w1 ⟨rfl, hb1⟩
  have k0 : w1.cell? ⟨w.heap.size, 0, none⟩ = some (.int .i64 nd) := ckeep (by go_simp) hb1
  have k1 : w1.cell? ⟨w.heap.size, 1, none⟩ = some (.slice A ls.length cp) := ckeep (by go_simp) hb1
  have r1 := (hr.on (b2 w (.cells #[.int .i64 nd, .slice A ls.length cp] 30) (.cells #[.int .i64 0, .slice none 0 0] 30))).on hb1
  have H1 : Blk w1 (w.heap.size + 1) 30 [.int .i64 0, .slice none 0 0] := by
    have h := Blk.new (w.alloc (.cells #[.int .i64 nd, .slice A ls.length cp] 30)) #[.int .i64 0, .slice none 0 0] 30
    rw [show (w.alloc (.cells #[.int .i64 nd, .slice A ls.length cp] 30)).heap.size = w.heap.size + 1 from by simp] at h
    exact h.keep hb1
  have B1 := bthen (b2 w (.cells #[.int .i64 nd, .slice A ls.length cp] 30) (.cells #[.int .i64 0, .slice none 0 0] 30)) hb1
  have HK := l1Cost_any nd A cp ls n.toNat c w1 h14 hk r1
  rw [hni] at HK
  have HK := Lib.hid HK
  clear hb1 hni
  go_wp2_with fail
  refine (l6In_yes h1 h20 _).mono ?_
  rintro e w' ⟨rfl, rfl⟩
  go_wp2_with fail
  refine HK.out.mono ?_
  rintro e w2 ⟨⟨B, cq, rfl, ho⟩, hb2⟩
  have H2 := H1.keep hb2
  have k3 : w2.cell? ⟨w.heap.size + 1, 0, none⟩ = some (.int .i64 0) := H2.cellAt 0
  have k4 : w2.cell? ⟨w.heap.size + 1, 1, none⟩ = some (.slice none 0 0) := H2.cellAt 1
  have f3 := H2.frozenAt 0
  have f4 := H2.frozenAt 1
  have o2 : OwL w2 w.heap.size B cq _ := ownsRow_base ho B1.size
  have B2 := bthen B1 hb2
  clear hb2 ho HK k0 k1
  go_wp2_with fail
  refine bodyPost_ret (v := .tuple #[.agg #[.int .i64 nd, .slice B (lsC ls n.toNat c).length cq], .bool true]) (by simp [results, Try.results25, go_sem, k3, k4]) rfl ?_
  have hd := res_done o2 H2 B2 (by omega) (.int .i64 nd) (.slice B (lsC ls n.toNat c).length cq)
  exact ⟨⟨B, cq, rfl, hd.1⟩, hd.2⟩

set_option maxRecDepth 100000 in
set_option maxHeartbeats 1000000 in
theorem sgCost_no {nd : Int} {ls : List Lk} {k c : Int} (h : ¬ (Valid nd ls ∧ Lnk ls k ∧ Cst c)) (A : Option Addr) (cp : Nat) (w : World) (hlen : ls.length ≤ 9223372036854775806) (hr : RdL w w.heap.size A ls) :
    Calls Try.prog 25 #[.agg #[.int .i64 nd, .slice A ls.length cp], .int .i64 k, .int .i64 c] w (RG 0 [] false w) := by
  by_cases hk : Valid nd ls ∧ Lnk ls k
  · have hc : c < 1 ∨ 20 < c := by
      by_cases h1 : 1 ≤ c
      · by_cases h2 : c ≤ 20
        · exact absurd ⟨hk.1, hk.2, h1, h2⟩ h
        · right; omega
      · left; omega
    go_enter Try.func25, Try.ntmps25
    go_wp2_with fail
    refine (l1Index_yes hk.1 hk.2 A cp _ (hr.on (b2 _ _ _))).mono ?_
    rintro e w1 ⟨rfl, hb1⟩
    have H1 : Blk w1 (w.heap.size + 1) 30 [.int .i64 0, .slice none 0 0] := by
      have h := Blk.new (w.alloc (.cells #[.int .i64 nd, .slice A ls.length cp] 30)) #[.int .i64 0, .slice none 0 0] 30
      rw [show (w.alloc (.cells #[.int .i64 nd, .slice A ls.length cp] 30)).heap.size = w.heap.size + 1 from by simp] at h
      exact h.keep hb1
    have B1 := bthen (b2 w (.cells #[.int .i64 nd, .slice A ls.length cp] 30) (.cells #[.int .i64 0, .slice none 0 0] 30)) hb1
    have k3 : w1.cell? ⟨w.heap.size + 1, 0, none⟩ = some (.int .i64 0) := H1.cellAt 0
    have k4 : w1.cell? ⟨w.heap.size + 1, 1, none⟩ = some (.slice none 0 0) := H1.cellAt 1
    have f3 := H1.frozenAt 0
    have f4 := H1.frozenAt 1
    clear hb1
    go_wp2_with fail
    refine (l6In_no hc _).mono ?_
    rintro e w' ⟨rfl, rfl⟩
    go_wp2_with fail
    refine bodyPost_ret (v := .tuple #[.agg #[.int .i64 0, .slice none 0 0], .bool false]) (by simp [results, Try.results25, go_sem, k3, k4]) rfl ?_
    exact rg_no B1 (by omega)
  · go_enter Try.func25, Try.ntmps25
    go_wp2_with fail
    refine (l1Index_no hk A cp _ hlen (hr.on (b2 _ _ _))).mono ?_
    rintro e w1 ⟨rfl, hb1⟩
    have H1 : Blk w1 (w.heap.size + 1) 30 [.int .i64 0, .slice none 0 0] := by
      have h := Blk.new (w.alloc (.cells #[.int .i64 nd, .slice A ls.length cp] 30)) #[.int .i64 0, .slice none 0 0] 30
      rw [show (w.alloc (.cells #[.int .i64 nd, .slice A ls.length cp] 30)).heap.size = w.heap.size + 1 from by simp] at h
      exact h.keep hb1
    have B1 := bthen (b2 w (.cells #[.int .i64 nd, .slice A ls.length cp] 30) (.cells #[.int .i64 0, .slice none 0 0] 30)) hb1
    have k3 : w1.cell? ⟨w.heap.size + 1, 0, none⟩ = some (.int .i64 0) := H1.cellAt 0
    have k4 : w1.cell? ⟨w.heap.size + 1, 1, none⟩ = some (.slice none 0 0) := H1.cellAt 1
    have f3 := H1.frozenAt 0
    have f4 := H1.frozenAt 1
    clear hb1
    go_wp2_with fail
    refine bodyPost_ret (v := .tuple #[.agg #[.int .i64 0, .slice none 0 0], .bool false]) (by simp [results, Try.results25, go_sem, k3, k4]) rfl ?_
    exact rg_no B1 (by omega)

end Go.Proofs.Ytnkcldophdbehaa
