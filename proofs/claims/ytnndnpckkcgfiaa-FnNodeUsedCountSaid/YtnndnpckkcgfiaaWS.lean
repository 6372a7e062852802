/-
  The walks of the program's GraphWithout and GraphIsolate.
-/
import Derived.Test.YtnndnpckkcgfiaaWR
namespace Go.Proofs.Ytnndnpckkcgfiaa
open Go.RowKit
set_option maxRecDepth 100000

theorem isNot_eq (m : Int) (k : Nat) : ((k : Int) != m) = isNot m k := by unfold isNot; rw [Bool.eq_iff_iff]; simp

/-- the zero graph and false, in the result's block at H -/
theorem rg_no {w wr : World} {H : Nat} (hb : Below w.heap.size w wr) (lh : w.heap.size ≤ H) :
    RG 0 [] false w (.returned (.tuple #[.agg #[.int .i64 0, .slice none 0 0], .bool false])) ((wr.setCell ⟨H, 0, none⟩ (.int .i64 0)).setCell ⟨H, 1, none⟩ (.slice none 0 0)) :=
  ⟨⟨none, 0, rfl, OwL.nil_ _ _⟩, (hb.setCell (p := ⟨H, 0, none⟩) lh _).setCell (p := ⟨H, 1, none⟩) lh _⟩

set_option maxRecDepth 100000 in
set_option maxHeartbeats 1000000 in
theorem gWithout_yes {nd : Int} {ls : List Lk} (hv : Valid nd ls) {n : Int} (hn : Lnk ls n) (A : Option Addr) (cp : Nat) (w : World) (hr : RdL w w.heap.size A ls) :
    Calls Try.prog 44 #[.agg #[.int .i64 nd, .slice A ls.length cp], .int .i64 n] w (RG nd (lsW ls n.toNat) true w) := by
  have h14 : ls.length ≤ 14 := hv.2.2.1
  go_enter Try.func44, Try.ntmps44
  go_wp2_with fail
  refine (hasLink_yes hv hn A cp _ (hr.on (b3 _ _ _ _))).mono ?_
  rintro e w1 ⟨rfl, hb1⟩
  have k0 : w1.cell? ⟨w.heap.size, 0, none⟩ = some (.int .i64 nd) := ckeep (by go_simp) hb1
  have k1 : w1.cell? ⟨w.heap.size, 1, none⟩ = some (.slice A ls.length cp) := ckeep (by go_simp) hb1
  have k2 : w1.cell? ⟨w.heap.size + 1, 0, none⟩ = some (.int .i64 n) := ckeep (by go_simp) hb1
  have lb : w.heap.size + 1 < w1.heap.size := by have := hb1.size; simp at this; omega
  have r1 := (hr.on (b3 w (.cells #[.int .i64 nd, .slice A ls.length cp] 25) (.cells #[.int .i64 n] 3) (.cells #[.int .i64 0, .slice none 0 0] 25))).on hb1
  have H1 : Blk w1 (w.heap.size + 1 + 1) 25 [.int .i64 0, .slice none 0 0] := by
    have h := Blk.new ((w.alloc (.cells #[.int .i64 nd, .slice A ls.length cp] 25)).alloc (.cells #[.int .i64 n] 3)) #[.int .i64 0, .slice none 0 0] 25
    rw [show ((w.alloc (.cells #[.int .i64 nd, .slice A ls.length cp] 25)).alloc (.cells #[.int .i64 n] 3)).heap.size = w.heap.size + 1 + 1 from by simp] at h
    exact h.keep hb1
  have B1 := bthen (b3 w (.cells #[.int .i64 nd, .slice A ls.length cp] 25) (.cells #[.int .i64 n] 3) (.cells #[.int .i64 0, .slice none 0 0] 25)) hb1
  clear hb1
  have HK := Lib.hid (keep_any nd A cp ls 77 (w.heap.size + 1) (isNot n) w1 h14 r1 (fun args W => by go_simp) (fun k wr hk hb => (cloW_any (k : Int) n (La ls k) (Lb ls k) (Lc ls k) (w.heap.size + 1) wr (ckeep k2 hb) (Nat.lt_of_lt_of_le lb hb.size)).mono fun _ _ ⟨he, hw⟩ => ⟨he.trans (ret_bool (isNot_eq n k)), hw⟩))
  clear lb
  go_wp2_with fail
  refine HK.out.mono ?_
  rintro e w2 ⟨⟨B, cq, rfl, ho⟩, hb2⟩
  have H2 := H1.keep hb2
  have k3 : w2.cell? ⟨w.heap.size + 1 + 1, 0, none⟩ = some (.int .i64 0) := H2.cellAt 0
  have k4 : w2.cell? ⟨w.heap.size + 1 + 1, 1, none⟩ = some (.slice none 0 0) := H2.cellAt 1
  have f3 := H2.frozenAt 0
  have f4 := H2.frozenAt 1
  have o2 : OwL w2 w.heap.size B cq _ := ownsRow_base ho B1.size
  have B2 := bthen B1 hb2
  clear hb2 ho HK k0 k1 k2
  go_wp2_with fail
  refine bodyPost_ret (v := .tuple #[.agg #[.int .i64 nd, .slice B (keepTo ls (isNot n) ls.length).length cq], .bool true]) (by simp [results, Try.results44, go_sem, k3, k4]) rfl ?_
  have hd := res_done o2 H2 B2 (by omega) (.int .i64 nd) (.slice B (keepTo ls (isNot n) ls.length).length cq)
  rw [show keepTo ls (isNot n) ls.length = lsW ls n.toNat from by
    have := hn.1
    have := hn.2
    have := keepTo_isNot ls n.toNat (by omega)
    rwa [Int.toNat_of_nonneg hn.1] at this] at hd ⊢
  exact ⟨⟨B, cq, rfl, hd.1⟩, hd.2⟩
set_option maxRecDepth 100000 in
set_option maxHeartbeats 1000000 in
theorem gWithout_no {nd : Int} {ls : List Lk} {n : Int} (h : ¬ (Valid nd ls ∧ Lnk ls n)) (A : Option Addr) (cp : Nat) (w : World) (hlen : ls.length ≤ 9223372036854775806) (hr : RdL w w.heap.size A ls) :
    Calls Try.prog 44 #[.agg #[.int .i64 nd, .slice A ls.length cp], .int .i64 n] w (RG 0 [] false w) := by
  go_enter Try.func44, Try.ntmps44
  go_wp2_with fail
  refine (hasLink_no h A cp _ hlen (hr.on (b3 _ _ _ _))).mono ?_
  rintro e w1 ⟨rfl, hb1⟩
  have H1 : Blk w1 (w.heap.size + 1 + 1) 25 [.int .i64 0, .slice none 0 0] := by
    have h := Blk.new ((w.alloc (.cells #[.int .i64 nd, .slice A ls.length cp] 25)).alloc (.cells #[.int .i64 n] 3)) #[.int .i64 0, .slice none 0 0] 25
    rw [show ((w.alloc (.cells #[.int .i64 nd, .slice A ls.length cp] 25)).alloc (.cells #[.int .i64 n] 3)).heap.size = w.heap.size + 1 + 1 from by simp] at h
    exact h.keep hb1
  have B1 := bthen (b3 w (.cells #[.int .i64 nd, .slice A ls.length cp] 25) (.cells #[.int .i64 n] 3) (.cells #[.int .i64 0, .slice none 0 0] 25)) hb1
  have k3 : w1.cell? ⟨w.heap.size + 1 + 1, 0, none⟩ = some (.int .i64 0) := H1.cellAt 0
  have k4 : w1.cell? ⟨w.heap.size + 1 + 1, 1, none⟩ = some (.slice none 0 0) := H1.cellAt 1
  have f3 := H1.frozenAt 0
  have f4 := H1.frozenAt 1
  clear hb1
  go_wp2_with fail
  refine bodyPost_ret (v := .tuple #[.agg #[.int .i64 0, .slice none 0 0], .bool false]) (by simp [results, Try.results44, go_sem, k3, k4]) rfl ?_
  exact rg_no B1 (by omega)

set_option maxRecDepth 100000 in
set_option maxHeartbeats 1000000 in
theorem gIsolate_yes {nd : Int} {ls : List Lk} (hv : Valid nd ls) {n : Int} (hn : Nd nd n) (A : Option Addr) (cp : Nat) (w : World) (hr : RdL w w.heap.size A ls) :
    Calls Try.prog 19 #[.agg #[.int .i64 nd, .slice A ls.length cp], .int .i64 n] w (RG nd (lsI ls n) true w) := by
  have h14 : ls.length ≤ 14 := hv.2.2.1
  go_enter Try.func19, Try.ntmps19
  go_wp2_with fail
  refine (hasNode_yes hv hn A cp _ (hr.on (b3 _ _ _ _))).mono ?_
  rintro e w1 ⟨rfl, hb1⟩
  have k0 : w1.cell? ⟨w.heap.size, 0, none⟩ = some (.int .i64 nd) := ckeep (by go_simp) hb1
  have k1 : w1.cell? ⟨w.heap.size, 1, none⟩ = some (.slice A ls.length cp) := ckeep (by go_simp) hb1
  have k2 : w1.cell? ⟨w.heap.size + 1, 0, none⟩ = some (.int .i64 n) := ckeep (by go_simp) hb1
  have lb : w.heap.size + 1 < w1.heap.size := by have := hb1.size; simp at this; omega
  have r1 := (hr.on (b3 w (.cells #[.int .i64 nd, .slice A ls.length cp] 25) (.cells #[.int .i64 n] 3) (.cells #[.int .i64 0, .slice none 0 0] 25))).on hb1
  have H1 : Blk w1 (w.heap.size + 1 + 1) 25 [.int .i64 0, .slice none 0 0] := by
    have h := Blk.new ((w.alloc (.cells #[.int .i64 nd, .slice A ls.length cp] 25)).alloc (.cells #[.int .i64 n] 3)) #[.int .i64 0, .slice none 0 0] 25
    rw [show ((w.alloc (.cells #[.int .i64 nd, .slice A ls.length cp] 25)).alloc (.cells #[.int .i64 n] 3)).heap.size = w.heap.size + 1 + 1 from by simp] at h
    exact h.keep hb1
  have B1 := bthen (b3 w (.cells #[.int .i64 nd, .slice A ls.length cp] 25) (.cells #[.int .i64 n] 3) (.cells #[.int .i64 0, .slice none 0 0] 25)) hb1
  clear hb1
  have HK := Lib.hid (keep_any nd A cp ls 58 (w.heap.size + 1) (notOf ls n) w1 h14 r1 (fun args W => by go_simp) (fun k wr hk hb => (cloI_any (k : Int) n (La ls k) (Lb ls k) (Lc ls k) (w.heap.size + 1) wr (ckeep k2 hb) (Nat.lt_of_lt_of_le lb hb.size)).mono fun _ _ ⟨he, hw⟩ => ⟨he.trans (ret_bool rfl), hw⟩))
  clear lb
  go_wp2_with fail
  refine HK.out.mono ?_
  rintro e w2 ⟨⟨B, cq, rfl, ho⟩, hb2⟩
  have H2 := H1.keep hb2
  have k3 : w2.cell? ⟨w.heap.size + 1 + 1, 0, none⟩ = some (.int .i64 0) := H2.cellAt 0
  have k4 : w2.cell? ⟨w.heap.size + 1 + 1, 1, none⟩ = some (.slice none 0 0) := H2.cellAt 1
  have f3 := H2.frozenAt 0
  have f4 := H2.frozenAt 1
  have o2 : OwL w2 w.heap.size B cq _ := ownsRow_base ho B1.size
  have B2 := bthen B1 hb2
  clear hb2 ho HK k0 k1 k2
  go_wp2_with fail
  refine bodyPost_ret (v := .tuple #[.agg #[.int .i64 nd, .slice B (keepTo ls (notOf ls n) ls.length).length cq], .bool true]) (by simp [results, Try.results19, go_sem, k3, k4]) rfl ?_
  have hd := res_done o2 H2 B2 (by omega) (.int .i64 nd) (.slice B (keepTo ls (notOf ls n) ls.length).length cq)
  unfold lsI
  exact ⟨⟨B, cq, rfl, hd.1⟩, hd.2⟩
set_option maxRecDepth 100000 in
set_option maxHeartbeats 1000000 in
theorem gIsolate_no {nd : Int} {ls : List Lk} {n : Int} (h : ¬ (Valid nd ls ∧ Nd nd n)) (A : Option Addr) (cp : Nat) (w : World) (hlen : ls.length ≤ 9223372036854775806) (hr : RdL w w.heap.size A ls) :
    Calls Try.prog 19 #[.agg #[.int .i64 nd, .slice A ls.length cp], .int .i64 n] w (RG 0 [] false w) := by
  go_enter Try.func19, Try.ntmps19
  go_wp2_with fail
  refine (hasNode_no h A cp _ hlen (hr.on (b3 _ _ _ _))).mono ?_
  rintro e w1 ⟨rfl, hb1⟩
  have H1 : Blk w1 (w.heap.size + 1 + 1) 25 [.int .i64 0, .slice none 0 0] := by
    have h := Blk.new ((w.alloc (.cells #[.int .i64 nd, .slice A ls.length cp] 25)).alloc (.cells #[.int .i64 n] 3)) #[.int .i64 0, .slice none 0 0] 25
    rw [show ((w.alloc (.cells #[.int .i64 nd, .slice A ls.length cp] 25)).alloc (.cells #[.int .i64 n] 3)).heap.size = w.heap.size + 1 + 1 from by simp] at h
    exact h.keep hb1
  have B1 := bthen (b3 w (.cells #[.int .i64 nd, .slice A ls.length cp] 25) (.cells #[.int .i64 n] 3) (.cells #[.int .i64 0, .slice none 0 0] 25)) hb1
  have k3 : w1.cell? ⟨w.heap.size + 1 + 1, 0, none⟩ = some (.int .i64 0) := H1.cellAt 0
  have k4 : w1.cell? ⟨w.heap.size + 1 + 1, 1, none⟩ = some (.slice none 0 0) := H1.cellAt 1
  have f3 := H1.frozenAt 0
  have f4 := H1.frozenAt 1
  clear hb1
  go_wp2_with fail
  refine bodyPost_ret (v := .tuple #[.agg #[.int .i64 0, .slice none 0 0], .bool false]) (by simp [results, Try.results19, go_sem, k3, k4]) rfl ?_
  exact rg_no B1 (by omega)

end Go.Proofs.Ytnndnpckkcgfiaa
