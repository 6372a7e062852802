/-
  The walk of the draw of a graph that is seldom spoilt, and of the draws of arguments.
-/
import Derived.Test.YtnndnpckkcgfiaaWK
import Derived.Deep.CutBlock
import Derived.Deep.RegionLaw
namespace Go.Proofs.Ytnndnpckkcgfiaa
open Go.RowKit

theorem own_cell {w : World} {base : Nat} {A : Option Addr} {cp : Nat} {ls : List Lk} (h : OwL w base A cp ls) {k : Nat} (hk : k < ls.length) :
    ∃ g, A = some ⟨g, 0, none⟩ ∧ base ≤ g ∧ g < w.heap.size ∧ w.cell? ⟨g, k * 3, none⟩ = some (.int .i64 (La ls k)) ∧ w.cell? ⟨g, k * 3 + 1, none⟩ = some (.int .i64 (Lb ls k)) ∧ w.cell? ⟨g, k * 3 + 2, none⟩ = some (.int .i64 (Lc ls k)) ∧ ∀ i, w.frozen? ⟨g, i, none⟩ = false := by
  obtain ⟨g, cap, hv, hb, hlt⟩ := World.ownsRow.form h (by omega)
  simp only [Value.slice.injEq] at hv
  obtain ⟨rfl, _, rfl⟩ := hv
  obtain ⟨c1, c2, c3⟩ := cellsL_at ls k hk
  exact ⟨g, rfl, hb, hlt, (World.ownsRow.cellAt h _ (by omega)).trans c1, (World.ownsRow.cellAt h _ (by omega)).trans c2, (World.ownsRow.cellAt h _ (by omega)).trans c3, fun i => World.ownsRow.frozenAt h i⟩
theorem own_at {w : World} {base g cp : Nat} {ls : List Lk} (h : OwL w base (some ⟨g, 0, none⟩) cp ls) {k : Nat} (hk : k < ls.length) :
    g < w.heap.size ∧ w.cell? ⟨g, k * 3, none⟩ = some (.int .i64 (La ls k)) ∧ w.cell? ⟨g, k * 3 + 1, none⟩ = some (.int .i64 (Lb ls k)) ∧ w.cell? ⟨g, k * 3 + 2, none⟩ = some (.int .i64 (Lc ls k)) ∧ ∀ i, w.frozen? ⟨g, i, none⟩ = false := by
  obtain ⟨g', e, _, h2, h3⟩ := own_cell h hk
  injection e with e
  injection e with e
  subst e
  exact ⟨h2, h3⟩
/-- a list of cells that is three times as long as it should be reads as links -/
theorem cells_links : ∀ (n : Nat) (xs : List Value), xs.length = n * 3 → (∀ x ∈ xs, ∃ i, x = .int .i64 i) → ∃ ls : List Lk, ls.length = n ∧ cellsL ls = xs
  | 0, xs, h, _ => ⟨[], rfl, by have : xs = [] := List.eq_nil_of_length_eq_zero (by omega); rw [this]; rfl⟩
  | n + 1, x :: y :: z :: r, h, hi => by
    obtain ⟨a, rfl⟩ := hi x (by simp)
    obtain ⟨b, rfl⟩ := hi y (by simp)
    obtain ⟨c, rfl⟩ := hi z (by simp)
    obtain ⟨ls, h1, h2⟩ := cells_links n r (by simp at h; omega) (fun u hu => hi u (by simp [hu]))
    exact ⟨⟨a, b, c⟩ :: ls, by simp [h1], by simp [cellsL, h2]⟩
  | n + 1, [], h, _ => by simp at h
  | n + 1, [_], h, _ => by simp at h; omega
  | n + 1, [_, _], h, _ => by simp at h; omega
theorem cellsL_ints (ls : List Lk) : ∀ x ∈ cellsL ls, ∃ i, x = Value.int .i64 i := by
  induction ls with
  | nil => intro x hx; simp [cellsL] at hx
  | cons l r ih =>
    intro x hx
    simp only [cellsL, List.mem_cons] at hx
    rcases hx with rfl | rfl | rfl | hx
    · exact ⟨_, rfl⟩
    · exact ⟨_, rfl⟩
    · exact ⟨_, rfl⟩
    · exact ih x hx
/-- one number of an own slice of links put anew: it still reads as links -/
theorem own_put {w : World} {base g cp : Nat} {ls : List Lk} (h : OwL w base (some ⟨g, 0, none⟩) cp ls) (j : Nat) (x : Int) :
    ∃ ls' : List Lk, ls'.length = ls.length ∧ OwL (w.setCell ⟨g, j, none⟩ (.int .i64 x)) base (some ⟨g, 0, none⟩) cp ls' := by
  have h1 := ownsRow_set h j (.int .i64 x)
  obtain ⟨ls', e1, e2⟩ := cells_links ls.length ((cellsL ls).set j (.int .i64 x)) (by rw [List.length_set, length_cellsL]) (fun y hy => by
    rcases List.mem_or_eq_of_mem_set hy with hy | rfl
    · exact cellsL_ints ls y hy
    · exact ⟨_, rfl⟩)
  refine ⟨ls', e1, ?_⟩
  unfold OwL
  rw [e1, e2]
  exact h1

theorem GS.put {w wr : World} {R M G g : Nat} {nd : Int} {cp : Nat} {ls : List Lk} (h : GS w wr R M G nd (some ⟨g, 0, none⟩) cp ls) (j : Nat) (x : Int) :
    ∃ ls' : List Lk, ls'.length = ls.length ∧ GS w (wr.setCell ⟨g, j, none⟩ (.int .i64 x)) R M G nd (some ⟨g, 0, none⟩) cp ls' := by
  obtain ⟨ls', e1, e2⟩ := own_put h.own j x
  have hl := World.ownsRow.lt h.own g rfl
  have hG := own_ne h.own h.g (by decide)
  have hH := own_ne h.own h.h (by decide)
  have hgG : G ≠ g := fun e => hG (by rw [e]; rfl)
  have hgH : w.heap.size ≠ g := fun e => hH (by rw [e]; rfl)
  have hk := h.kept.st (p := ⟨g, j, none⟩) hl.1 (by have := h.rh; simp; omega) (.int .i64 x)
  exact ⟨ls', e1, hk.1, by rw [e1]; exact h.g.far (p := ⟨g, j, none⟩) hgG _, h.h.far (p := ⟨g, j, none⟩) hgH _, e2, hk.2, h.rh, h.hg⟩

theorem three_at (z : Int) (h1 : 0 ≤ z) (h2 : z < 3) : ∃ v : Int, (#[Value.int .i64 0, .int .i64 20, .int .i64 21] : Array Value)[z.toNat]? = some (.int .i64 v) ∧ (∀ h : z.toNat < [Value.int .i64 0, .int .i64 20, .int .i64 21].length, [Value.int .i64 0, .int .i64 20, .int .i64 21][z.toNat]'h = .int .i64 v) := by
  have h3 : z = 0 ∨ z = 1 ∨ z = 2 := by omega
  rcases h3 with rfl | rfl | rfl <;> exact ⟨_, rfl, fun _ => rfl⟩
theorem three_cell {w w4 : World} {R : Nat} {z v : Int} {t : TypeId} (hv : (#[Value.int .i64 0, .int .i64 20, .int .i64 21] : Array Value)[z.toNat]? = some (.int .i64 v))
    (hg : (w.alloc (.cells #[.int .i64 0, .int .i64 20, .int .i64 21] t)).drew.grownBy w4 (some R)) (hR : R < w.heap.size) : w4.cell? ⟨w.heap.size, z.toNat, none⟩ = some (.int .i64 v) :=
  gcell (a := (w.alloc (.cells #[.int .i64 0, .int .i64 20, .int .i64 21] t)).drew) ((World.cell?_alloc_at (w := w) _ _ _ _ rfl).trans hv) hg (by simp; omega)
/-- a drawn graph, perhaps spoilt -/
def Spoilt (R M : Nat) (w : World) (e : Ending) (w' : World) : Prop :=
  ∃ nd A cp ls, e = .returned (.agg #[.int .i64 nd, .slice A ls.length cp]) ∧ OwL w' w.heap.size A cp ls ∧ ls.length ≤ 16 ∧ Rdr w' R M ∧ w.grownBy w' (some R)

set_option maxRecDepth 100000 in
set_option maxHeartbeats 4000000 in
theorem l91Spoilt_any (R M : Nat) (w : World) (h : Rdr w R M) (hM : M ≤ 90000) :
    Calls Try.prog 49 #[.pointer (some ⟨R, 0, none⟩)] w (Spoilt R (M + 1010) w) := by
  have hlt := h.lt
  go_enter Try.func49, Try.ntmps49
  go_wp2_with fail
  refine (l91Graph_any R M _ (h.keep (bnew _ _)) (by omega)).mono ?_
  rintro e w1 ⟨nd, A, cp, ls, rfl, ho1, hl1, hr1, hg1⟩
  have hs1 := hg1.size
  have S : GS w (w1.alloc (.cells #[.int .i64 nd, .slice A ls.length cp] 25)) R (M + 1000) w1.heap.size nd A cp ls := by
    simp at hs1
    refine ⟨hr1.keep (bnew _ _), Blk.new w1 _ _, ?_, ownsRow_keep (ownsRow_base ho1 (by simp)) (bnew _ _), gtrans (gtrans (gbelow (bnew w _) _) hg1) (gbelow (bnew w1 _) _), hlt, by omega⟩
    exact ((Blk.new w #[.int .i64 0, .slice none 0 0] 25).grown hg1 (by simp; omega)).keep (bnew _ _)
  simp at hs1
  clear hr1 hg1
  by_cases h0 : ls.length < 1
  · have hl0 : ((ls.length : Int) == 0) = true := by rw [beq_iff_eq]; omega
    have k1 : (w1.alloc (.cells #[.int .i64 nd, .slice A ls.length cp] 25)).cell? ⟨w.heap.size, 0, none⟩ = some (.int .i64 0) := S.h.cellAt 0
    have k2 : (w1.alloc (.cells #[.int .i64 nd, .slice A ls.length cp] 25)).cell? ⟨w.heap.size, 1, none⟩ = some (.slice none 0 0) := S.h.cellAt 1
    have f1 := S.h.frozenAt 0
    have f2 := S.h.frozenAt 1
    go_wp2_with fail
    refine bodyPost_ret (v := .agg #[.int .i64 nd, .slice A ls.length cp]) (by simp [results, Try.results49, go_sem, k1, k2]) rfl ?_
    have hK := ((S.kept.st (p := ⟨w.heap.size, 0, none⟩) (Nat.le_refl _) hlt (.int .i64 nd)).st (p := ⟨w.heap.size, 1, none⟩) (Nat.le_refl _) hlt (.slice A ls.length cp))
    have hO := own_st (own_st S.own S.h (by decide) 0 (.int .i64 nd)) (S.h.stored 0 (.int .i64 nd)) (by decide) 1 (.slice A ls.length cp)
    exact ⟨nd, A, cp, ls, rfl, hO, by omega, hK.1.more (by omega), hK.2⟩
  · have hl0 : ((ls.length : Int) == 0) = false := by rw [beq_eq_false_iff_ne]; omega
    go_wp2_with fail
    refine (pick_any R (M + 1000) ls.length _ S.rd (by omega)).mono ?_
    rintro e w2 ⟨x, rfl, hx0, hx1, -, hr2, hg2⟩
    have hx := hx1 (by omega)
    obtain ⟨kn, rfl⟩ := Int.eq_ofNat_of_zero_le hx0
    have S2 := S.pick hr2 hg2
    clear hx1 S hr2 hg2 ho1
    generalize w1.heap.size = G at *
    go_wp2_with fail
    refine (pick_any R (M + 1001) 24 _ S2.rd (by omega)).mono ?_
    rintro e w3 ⟨y, rfl, hy0, hy1, -, hr3, hg3⟩
    have S3 := S2.pick hr3 hg3
    clear S2 hr3 hg3
    have hx' : kn < ls.length := by omega
    obtain ⟨gA, hA, hb1, hb2, c1, c2, c3, cf⟩ := own_cell S3.own hx'
    obtain rfl := hA
    have hgG : G ≠ gA := fun e => own_ne S3.own S3.g (by decide) (by rw [e]; rfl)
    have k1 : w3.cell? ⟨G, 1, none⟩ = some (.slice (some ⟨gA, 0, none⟩) ls.length cp) := S3.g.cellAt 1
    have k0 : w3.cell? ⟨G, 0, none⟩ = some (.int .i64 nd) := S3.g.cellAt 0
    have f0 := S3.g.frozenAt 0
    have lG := S3.g.lt
    have HF := Lib.hid cf
    clear cf c1 c2 c3
    go_upto_block 0 with fail
    go_cut [] from 19 to 56 (fun wx => ∃ nd A cp ls, ls.length ≤ 16 ∧ GS w wx R (M + 1010) G nd A cp ls)
    case first =>
      by_cases y0 : y = 0
      · subst y0
        have T3 : GS w w3.drew R (M + 1002) G nd (some ⟨gA, 0, none⟩) cp ls := S3.keep (Below.refl _ _).drew
        have T4 : GS w (w3.alloc (.cells #[.int .i64 0, .int .i64 20, .int .i64 21] 3)).drew R (M + 1002) G nd (some ⟨gA, 0, none⟩) cp ls := S3.keep (bnew _ _).drew
        have hl3 := S3.rd.lt
        go_wp2_with fail
        go_region_with (first
            | (go_at_call 80; (with_reducible refine (pick_any R _ 3 _ T3.rd (by omega)).mono ?_); rintro e w4 ⟨z, rfl, hz0, hz1, -, hr4, hg4⟩; have S4 := T3.pick hr4 hg4; have m1 : w4.cell? ⟨G, 1, none⟩ = some (.slice (some ⟨gA, 0, none⟩) ls.length cp) := S4.g.cellAt 1; have mm := own_at S4.own hx'; have m2 := mm.2.2.2.1; have m3 := mm.2.2.2.2 (kn * 3 + 2); have m4 := mm.1; have m7 := S4.g.lt; clear mm; have m5 : ∀ o, (w4.alloc o).frozen? ⟨gA, kn * 3 + 2, none⟩ = false := fun o => fkeep m3 m4 (bnew _ _); have m6 : ∀ o, (w4.alloc o).cell? ⟨gA, kn * 3 + 2, none⟩ = some (.int .i64 (Lc ls kn)) := fun o => ckeep m2 (bnew _ _); have hz := hz1 (by omega); obtain ⟨v, hv, hv2⟩ := three_at z hz0 hz)
            | (go_at_call 80; (with_reducible refine (pick_any R _ 3 _ T4.rd (by omega)).mono ?_); rintro e w4 ⟨z, rfl, hz0, hz1, -, hr4, hg4⟩; have S4 := T4.pick hr4 hg4; have m1 : w4.cell? ⟨G, 1, none⟩ = some (.slice (some ⟨gA, 0, none⟩) ls.length cp) := S4.g.cellAt 1; have mm := own_at S4.own hx'; have m2 := mm.2.2.2.1; have m3 := mm.2.2.2.2 (kn * 3 + 2); have m4 := mm.1; have m7 := S4.g.lt; clear mm; have m5 : ∀ o, (w4.alloc o).frozen? ⟨gA, kn * 3 + 2, none⟩ = false := fun o => fkeep m3 m4 (bnew _ _); have m6 : ∀ o, (w4.alloc o).cell? ⟨gA, kn * 3 + 2, none⟩ = some (.int .i64 (Lc ls kn)) := fun o => ckeep m2 (bnew _ _); have hz := hz1 (by omega); obtain ⟨v, hv, hv2⟩ := three_at z hz0 hz; have hB := three_cell hv hg4 hl3))
        all_goals
          obtain ⟨ls', e1, S5⟩ := S4.put (kn * 3 + 2) v
          have E1 := Lib.hid e1
          clear e1
          go_wp2_with fail
          go_meet
          first
            | exact ⟨_, _, _, ls', by rw [E1.out]; omega, S5.more (by omega)⟩
            | exact ⟨_, _, _, ls', by rw [E1.out]; omega, (S5.keep (bnew _ _)).more (by omega)⟩
      by_cases y1 : y = 1
      · subst y1
        clear y0
        have T3 : GS w w3.drew R (M + 1002) G nd (some ⟨gA, 0, none⟩) cp ls := S3.keep (Below.refl _ _).drew
        go_wp2_with fail
        go_region_with (first
            | (go_at_call 80; refine (pick_any R _ 10 _ T3.rd (by omega)).mono ?_; rintro e w4 ⟨z, rfl, hz0, hz1, -, hr4, hg4⟩; have S4 := T3.pick hr4 hg4; have m1 : w4.cell? ⟨G, 1, none⟩ = some (.slice (some ⟨gA, 0, none⟩) ls.length cp) := S4.g.cellAt 1; have mm := own_at S4.own hx'; have m2 := mm.2.2.1; have m3 := mm.2.2.2.2 (kn * 3 + 1); clear mm))
        all_goals
          obtain ⟨ls', e1, S5⟩ := S4.put (kn * 3 + 1) z
          have E1 := Lib.hid e1
          clear e1
          go_wp2_with fail
          go_meet
          exact ⟨_, _, _, ls', by rw [E1.out]; omega, S5.more (by omega)⟩
      by_cases y2 : y = 2
      · subst y2
        clear y0 y1
        go_wp2_with fail
        refine (pick_any R (M + 1002) 10 _ S3.rd (by omega)).mono ?_
        rintro e w4 ⟨z, rfl, hz0, hz1, -, hr4, hg4⟩
        have S4 := S3.pick hr4 hg4
        have m0 : w4.cell? ⟨G, 0, none⟩ = some (.int .i64 nd) := S4.g.cellAt 0
        have mf := S4.g.frozenAt 0
        clear k0 k1 f0
        go_wp2_with fail
        go_meet
        exact ⟨z, _, _, ls, by omega, (S4.nodes z).more (by omega)⟩
      by_cases y3 : y = 3
      · subst y3
        clear y0 y1 y2
        obtain ⟨i0, hi, hz0, hz1, hz2⟩ := info_parts Try.infoLk
        have mm := own_at S3.own hx'
        have m1 := mm.2.1
        have m2 := mm.2.2.1
        have m3 := mm.2.2.2.1
        have hfar := Ne.symm (own_ne S3.own S3.g (by decide))
        have d7 : ∀ o, (w3.alloc o).drew.cell? ⟨G, 1, none⟩ = some (.slice (some ⟨gA, 0, none⟩) ls.length cp) := fun o => ckeep k1 (bnew _ _).drew
        have e7 : ∀ o, (w3.alloc o).drew.frozen? ⟨G, 1, none⟩ = false := fun o => fkeep (S3.g.frozenAt 1) lG (bnew _ _).drew
        clear mm
        have D7 := Lib.hid d7
        have E7 := Lib.hid e7
        clear d7 e7
        have s7 := S3.gr.size
        have q0 : (0 : Int) ≤ (kn : Int) := by omega
        go_wp2_with fail
        go_region_law (first
          | (refine step_append_lies _ (by rfl) _ _ _ (by rfl) w.heap.size 52 i0 _ 3 24 Try.underlying23 hi hz0 hz1 hz2 rfl (by omega) _ ls.length (cellsL ls) (by rfl) (World.ownsRow.drew (World.ownsRow.alloc S3.own _)) ⟨w3.heap.size, 0, none⟩ 1 1 _ (by rfl) (by rfl) (World.news_of_block (heap_alloc_new w3 _)) (by simp [Value.oneCell']) (by omega) (by unfold maxLen; omega) (by omega) (by simp; omega) (w3.heap.size + 1) (by simp) ?_; intro g cap w8 hown hgrow hat hlt8; have f8 : w8.frozen? ⟨G, 1, none⟩ = false := (hgrow.frozen_far _ (by simp; omega) hfar).trans (E7.out _); have c8 : w8.cell? ⟨G, 1, none⟩ = some (.slice (some ⟨gA, 0, none⟩) ls.length cp) := (hgrow.cell_far _ (by simp; omega) hfar).trans (D7.out _); have TT := GS.push (S3.keep ((bnew _ _).drew)) hown hgrow; clear hown hgrow hat hlt8))
        all_goals
          go_wp2_with fail
          go_meet
          exact ⟨_, _, _, _, by simp; omega, TT.more (by omega)⟩
      · have t0 : (y == 0) = false := by simpa using y0
        have t1 : (y == 1) = false := by simpa using y1
        have t2 : (y == 2) = false := by simpa using y2
        have t3 : (y == 3) = false := by simpa using y3
        clear y0 y1 y2 y3
        go_wp2_with fail
        go_meet
        exact ⟨_, _, _, ls, by omega, S3.more (by omega)⟩
    case rest =>
      obtain ⟨nd', A', cp', ls', hl', T⟩ := hcut
      clear S3 k0 k1 f0 HF lG hgG hb1 hb2
      have k1 : wc.cell? ⟨G, 0, none⟩ = some (.int .i64 nd') := T.g.cellAt 0
      have k2 : wc.cell? ⟨G, 1, none⟩ = some (.slice A' ls'.length cp') := T.g.cellAt 1
      have k3 : wc.cell? ⟨w.heap.size, 0, none⟩ = some (.int .i64 0) := T.h.cellAt 0
      have k4 : wc.cell? ⟨w.heap.size, 1, none⟩ = some (.slice none 0 0) := T.h.cellAt 1
      have f3 := T.h.frozenAt 0
      have f4 := T.h.frozenAt 1
      go_wp2_with fail
      refine bodyPost_ret (v := .agg #[.int .i64 nd', .slice A' ls'.length cp']) (by simp [results, Try.results49, go_sem, k3, k4]) rfl ?_
      have hK := ((T.kept.st (p := ⟨w.heap.size, 0, none⟩) (Nat.le_refl _) hlt (.int .i64 nd')).st (p := ⟨w.heap.size, 1, none⟩) (Nat.le_refl _) hlt (.slice A' ls'.length cp'))
      have hO := own_st (own_st T.own T.h (by decide) 0 (.int .i64 nd')) (T.h.stored 0 (.int .i64 nd')) (by decide) 1 (.slice A' ls'.length cp')
      exact ⟨nd', A', cp', ls', rfl, hO, hl', hK.1, hK.2⟩

end Go.Proofs.Ytnndnpckkcgfiaa
