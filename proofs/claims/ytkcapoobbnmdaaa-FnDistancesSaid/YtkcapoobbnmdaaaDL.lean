/-
  The walks of the program's GraphCost at unfit arguments, of l1Copy, l1Cost, and of the reference's GraphCost.
-/
import Derived.Test.YtkcapoobbnmdaaaDJ
namespace Go.Proofs.Ytkcapoobbnmdaaa
open Go.RowKit
set_option maxRecDepth 100000

/-- the cost is fit -/
def Cst (c : Int) : Prop := 1 ≤ c ∧ c ≤ 20

set_option maxRecDepth 100000 in
set_option maxHeartbeats 1000000 in
theorem gCost_no {nd : Int} {ls : List Lk} {k c : Int} (h : ¬ (Valid nd ls ∧ Lnk ls k ∧ Cst c)) (A : Option Addr) (cp : Nat) (w : World) (hlen : ls.length ≤ 9223372036854775806) (hr : RdL w w.heap.size A ls) :
    Calls Try.prog 94 #[.agg #[.int .i64 nd, .slice A ls.length cp], .int .i64 k, .int .i64 c] w (RG 0 [] false w) := by
  by_cases hk : Valid nd ls ∧ Lnk ls k
  · have hc : c < 1 ∨ 20 < c := by
      by_cases h1 : 1 ≤ c
      · by_cases h2 : c ≤ 20
        · exact absurd ⟨hk.1, hk.2, h1, h2⟩ h
        · right; omega
      · left; omega
    go_enter Try.func94, Try.ntmps94
    go_wp2_with fail
    refine (hasLink_yes hk.1 hk.2 A cp _ (hr.on (b2 _ _ _))).mono ?_
    rintro e w1 ⟨rfl, hb1⟩
    have H1 : Blk w1 (w.heap.size + 1) 25 [.int .i64 0, .slice none 0 0] := by
      have h := Blk.new (w.alloc (.cells #[.int .i64 nd, .slice A ls.length cp] 25)) #[.int .i64 0, .slice none 0 0] 25
      rw [show (w.alloc (.cells #[.int .i64 nd, .slice A ls.length cp] 25)).heap.size = w.heap.size + 1 from by simp] at h
      exact h.keep hb1
    have B1 := bthen (b2 w (.cells #[.int .i64 nd, .slice A ls.length cp] 25) (.cells #[.int .i64 0, .slice none 0 0] 25)) hb1
    have k3 : w1.cell? ⟨w.heap.size + 1, 0, none⟩ = some (.int .i64 0) := H1.cellAt 0
    have k4 : w1.cell? ⟨w.heap.size + 1, 1, none⟩ = some (.slice none 0 0) := H1.cellAt 1
    have f3 := H1.frozenAt 0
    have f4 := H1.frozenAt 1
    clear hb1
    go_wp2_with fail
    refine (within_no hc _).mono ?_
    rintro e w' ⟨rfl, rfl⟩
    go_wp2_with fail
    refine bodyPost_ret (v := .tuple #[.agg #[.int .i64 0, .slice none 0 0], .bool false]) (by simp [results, Try.results94, go_sem, k3, k4]) rfl ?_
    exact rg_no B1 (by omega)
  · go_enter Try.func94, Try.ntmps94
    go_wp2_with fail
    refine (hasLink_no hk A cp _ hlen (hr.on (b2 _ _ _))).mono ?_
    rintro e w1 ⟨rfl, hb1⟩
    have H1 : Blk w1 (w.heap.size + 1) 25 [.int .i64 0, .slice none 0 0] := by
      have h := Blk.new (w.alloc (.cells #[.int .i64 nd, .slice A ls.length cp] 25)) #[.int .i64 0, .slice none 0 0] 25
      rw [show (w.alloc (.cells #[.int .i64 nd, .slice A ls.length cp] 25)).heap.size = w.heap.size + 1 from by simp] at h
      exact h.keep hb1
    have B1 := bthen (b2 w (.cells #[.int .i64 nd, .slice A ls.length cp] 25) (.cells #[.int .i64 0, .slice none 0 0] 25)) hb1
    have k3 : w1.cell? ⟨w.heap.size + 1, 0, none⟩ = some (.int .i64 0) := H1.cellAt 0
    have k4 : w1.cell? ⟨w.heap.size + 1, 1, none⟩ = some (.slice none 0 0) := H1.cellAt 1
    have f3 := H1.frozenAt 0
    have f4 := H1.frozenAt 1
    clear hb1
    go_wp2_with fail
    refine bodyPost_ret (v := .tuple #[.agg #[.int .i64 0, .slice none 0 0], .bool false]) (by simp [results, Try.results94, go_sem, k3, k4]) rfl ?_
    exact rg_no B1 (by omega)

set_option maxRecDepth 100000 in
set_option maxHeartbeats 1000000 in
theorem l1Copy_any (nd : Int) (A : Option Addr) (cp : Nat) (ls : List Lk) (w : World) (hlen : ls.length ≤ 14) (hr : RdL w w.heap.size A ls) :
    Calls Try.prog 96 #[.agg #[.int .i64 nd, .slice A ls.length cp]] w (RG1 nd ls w) := by
  obtain ⟨i0, hi, hz0, hz1, hz2⟩ := info_parts Try.infoLk
  have hX0 : Blk (((w.alloc (.cells #[.int .i64 nd, .slice A ls.length cp] 25)).alloc (.cells #[.int .i64 0, .slice none 0 0] 25)).alloc (.cells #[] 48)) w.heap.size 25 [.int .i64 nd, .slice A ls.length cp] := (Blk.new w #[.int .i64 nd, .slice A ls.length cp] 25).keep (b2 _ _ _)
  have hX1 : Blk (((w.alloc (.cells #[.int .i64 nd, .slice A ls.length cp] 25)).alloc (.cells #[.int .i64 0, .slice none 0 0] 25)).alloc (.cells #[] 48)) (w.heap.size + 1) 25 [.int .i64 0, .slice none 0 0] := by
    have h := Blk.new (w.alloc (.cells #[.int .i64 nd, .slice A ls.length cp] 25)) #[.int .i64 0, .slice none 0 0] 25
    rw [show (w.alloc (.cells #[.int .i64 nd, .slice A ls.length cp] 25)).heap.size = w.heap.size + 1 from by simp] at h
    exact h.keep (bnew _ _)
  have oX : OwL (((w.alloc (.cells #[.int .i64 nd, .slice A ls.length cp] 25)).alloc (.cells #[.int .i64 0, .slice none 0 0] 25)).alloc (.cells #[] 48)) w.heap.size (some ⟨w.heap.size + 1 + 1, 0, none⟩) 0 [] := own_empty' _ w.heap.size (w.heap.size + 1 + 1) (by simp) (by omega)
  have bX : Below w.heap.size w (((w.alloc (.cells #[.int .i64 nd, .slice A ls.length cp] 25)).alloc (.cells #[.int .i64 0, .slice none 0 0] 25)).alloc (.cells #[] 48)) := b3 _ _ _ _
  have rX := hr.on bX
  have hL : ([] : List Lk).length + ls.length ≤ 1048600 := by simp; omega
  have HB := Lib.hid bX.size
  have HL := Lib.hid hL
  clear hL
  go_enter Try.func96, Try.ntmps96
  go_wp2_with (at_builtin; refine wpList_app _ rfl (.tmp 3) (.tmp 5) _ rfl i0 Try.underlying23 hi hz0 hz1 hz2 rfl rfl oX ls rfl rfl rX HL.out HB.out ?_; intro A5 cp5 n5 w5 HN5 O5 G5; have Y0 := hX0.grown G5 (own_ne oX hX0 (by decide)); have Y1 := hX1.grown G5 (own_ne oX hX1 (by decide)); have B5 := below_grownL bX oX (Nat.le_refl _) rfl G5; have y0 := Y0.cellAt 0; have y1 := Y0.cellAt 1; have y2 := Y1.cellAt 0; have y3 := Y1.cellAt 1; have z1 := Y0.frozenAt 1; have z2 := Y1.frozenAt 0; have z3 := Y1.frozenAt 1; simp only [List.getElem?_cons_zero, List.getElem?_cons_succ] at y0 y1 y2 y3)
  refine bodyPost_ret (v := .agg #[.int .i64 nd, .slice A5 n5 cp5]) (by simp [results, Try.results96, go_sem, y2, y3]) rfl ?_
  rw [List.nil_append] at HN5 O5
  have O6 := own_st O5 Y0 (by decide) 1 (.slice A5 n5 cp5)
  have H6 := Y1.far (p := ⟨w.heap.size, 1, none⟩) (by simp) (.slice A5 n5 cp5)
  have B6 := B5.setCell (p := ⟨w.heap.size, 1, none⟩) (Nat.le_refl _) (.slice A5 n5 cp5)
  have hd := res_done O6 H6 B6 (by omega) (.int .i64 nd) (.slice A5 n5 cp5)
  exact ⟨⟨A5, cp5, by rw [HN5.out], hd.1⟩, hd.2⟩

set_option maxRecDepth 100000 in
set_option maxHeartbeats 1000000 in
theorem l1Cost_any (nd : Int) (A : Option Addr) (cp : Nat) (ls : List Lk) (k' : Nat) (c : Int) (w : World) (h14 : ls.length ≤ 14) (hkl : k' < ls.length) (hr : RdL w w.heap.size A ls) :
    Calls Try.prog 72 #[.agg #[.int .i64 nd, .slice A ls.length cp], .int .i64 k', .int .i64 c] w (RG1 nd (lsC ls k' c) w) := by
  have hki : (k' : Int) < (ls.length : Int) := by omega
  have hk0 : (0 : Int) ≤ (k' : Int) := by omega
  have HL := Lib.hid (length_lsC ls k' c)
  go_enter Try.func72, Try.ntmps72
  go_wp2_with fail
  refine (l1Copy_any nd A cp ls _ h14 (hr.on (b2 _ _ _))).mono ?_
  rintro e w1 ⟨⟨B, cq, rfl, ho⟩, hb1⟩
  have H1 : Blk w1 (w.heap.size + 1) 25 [.int .i64 0, .slice none 0 0] := by
    have h := Blk.new (w.alloc (.cells #[.int .i64 nd, .slice A ls.length cp] 25)) #[.int .i64 0, .slice none 0 0] 25
    rw [show (w.alloc (.cells #[.int .i64 nd, .slice A ls.length cp] 25)).heap.size = w.heap.size + 1 from by simp] at h
    exact h.keep hb1
  have B1 := bthen (b2 w (.cells #[.int .i64 nd, .slice A ls.length cp] 25) (.cells #[.int .i64 0, .slice none 0 0] 25)) hb1
  have o1 : OwL w1 w.heap.size B cq ls := ownsRow_base ho (by simp; omega)
  clear hb1 ho
  obtain ⟨gB, hB, hB1, hB2⟩ := o1.some' (by omega)
  subst hB
  have e3 : ∃ v, w1.cell? ⟨gB, k' * 3 + 2, none⟩ = some v := ⟨_, (World.ownsRow.cellAt o1 _ (by omega)).trans (List.getElem?_eq_getElem (by rw [length_cellsL]; omega))⟩
  obtain ⟨v3, e3⟩ := e3
  have f3 := World.ownsRow.frozenAt o1 (k' * 3 + 2)
  have h0 := H1.cellAt 0
  have h1' := H1.cellAt 1
  have y0 := H1.frozenAt 0
  have y1 := H1.frozenAt 1
  have lH := H1.lt
  simp only [List.getElem?_cons_zero, List.getElem?_cons_succ] at h0 h1'
  have hne2 : gB ≠ w.heap.size + 1 := by
    intro e
    subst e
    exact own_ne o1 H1 (by decide) rfl
  have hneG : gB ≠ w1.heap.size := by omega
  have O2 := o1.putC hkl c
  have H2 := H1.far (p := ⟨gB, k' * 3 + 2, none⟩) (Ne.symm hne2) (.int .i64 c)
  have B2 := B1.setCell (p := ⟨gB, k' * 3 + 2, none⟩) hB1 (.int .i64 c)
  have HD := Lib.hid (res_done O2 H2 B2 (by omega) (.int .i64 nd) (.slice (some ⟨gB, 0, none⟩) ls.length cq))
  clear O2 H2 B2 o1 H1 B1
  go_wp2_with fail
  refine bodyPost_ret (v := .agg #[.int .i64 nd, .slice (some ⟨gB, 0, none⟩) ls.length cq]) (by simp [results, Try.results72, go_sem, h0, h1', lH]) rfl ?_
  have hd := HD.out
  exact ⟨⟨some ⟨gB, 0, none⟩, cq, by rw [HL.out], hd.1.keep (bnew _ _)⟩, bthen hd.2 (bnew _ _)⟩

end Go.Proofs.Ytkcapoobbnmdaaa
