/-
  The walks of the reference's l1Without and GraphWithout.
-/
import Derived.Test.YtmkjndfhfhfggaaWS
import Derived.Test.YtmkjndfhfhfggaaWT
namespace Go.Proofs.Ytmkjndfhfhfggaa
open Go.RowKit
set_option maxRecDepth 100000

set_option maxRecDepth 100000 in
set_option maxHeartbeats 4000000 in
theorem l1Without_any (nd : Int) (A : Option Addr) (cp : Nat) (ls : List Lk) (k : Nat) (w : World) (hlen : ls.length ≤ 14) (hcap : ls.length ≤ cp) (hk : k < ls.length) (hr : RdL w w.heap.size A ls) :
    Calls Try.prog 61 #[.agg #[.int .i64 nd, .slice A ls.length cp], .int .i64 k] w (RG1 nd (lsW ls k) w) := by
  obtain ⟨g, o, hA, hg, -⟩ := hr (by omega)
  subst hA
  obtain ⟨i0, hi, hz0, hz1, hz2⟩ := info_parts Try.infoLk
  have rT := (hr.takeL k (by omega))
  have rD := (hr.dropL (k + 1) cp (by omega) hcap)
  have lT : (ls.take k).length = k := by simp; omega
  have lD : (ls.drop (k + 1)).length = ls.length - (k + 1) := by simp
  have HW : Hid (lsW ls k = ls.take k ++ ls.drop (k + 1)) := rfl
  generalize ls.take k = T at *
  generalize ls.drop (k + 1) = E at *
  have LT := Lib.hid lT
  have LD := Lib.hid lD
  clear lT lD
  have bX : Below w.heap.size w (((w.alloc (.cells #[.int .i64 nd, .slice (some ⟨g, o, none⟩) ls.length cp] 25)).alloc (.cells #[.int .i64 0, .slice none 0 0] 25)).alloc (.cells #[] 33)).drew := (b3 _ _ _ _).drew
  have sX : (((w.alloc (.cells #[.int .i64 nd, .slice (some ⟨g, o, none⟩) ls.length cp] 25)).alloc (.cells #[.int .i64 0, .slice none 0 0] 25)).alloc (.cells #[] 33)).heap.size = w.heap.size + 1 + 1 + 1 := by simp
  have oX : OwL (((w.alloc (.cells #[.int .i64 nd, .slice (some ⟨g, o, none⟩) ls.length cp] 25)).alloc (.cells #[.int .i64 0, .slice none 0 0] 25)).alloc (.cells #[] 33)).drew (w.heap.size + 2) (some ⟨w.heap.size + 1 + 1, 0, none⟩) 0 [] := World.ownsRow.drew (own_empty' _ (w.heap.size + 2) (w.heap.size + 1 + 1) (by simp) (by omega))
  have rX : RdL (((w.alloc (.cells #[.int .i64 nd, .slice (some ⟨g, o, none⟩) ls.length cp] 25)).alloc (.cells #[.int .i64 0, .slice none 0 0] 25)).alloc (.cells #[] 33)).drew (((w.alloc (.cells #[.int .i64 nd, .slice (some ⟨g, o, none⟩) ls.length cp] 25)).alloc (.cells #[.int .i64 0, .slice none 0 0] 25)).alloc (.cells #[] 33)).drew.heap.size (some ⟨g, o, none⟩) T := (rT.keep bX).more (by show _ ≤ (((w.alloc (.cells #[.int .i64 nd, .slice (some ⟨g, o, none⟩) ls.length cp] 25)).alloc (.cells #[.int .i64 0, .slice none 0 0] 25)).alloc (.cells #[] 33)).heap.size; rw [sX]; omega)
  have dX : RdL (((w.alloc (.cells #[.int .i64 nd, .slice (some ⟨g, o, none⟩) ls.length cp] 25)).alloc (.cells #[.int .i64 0, .slice none 0 0] 25)).alloc (.cells #[] 33)).drew w.heap.size (if cp = k + 1 then some ⟨g, o, none⟩ else some ⟨g, o + (k + 1) * 3, none⟩) E := rD.keep bX
  have cX : (((w.alloc (.cells #[.int .i64 nd, .slice (some ⟨g, o, none⟩) ls.length cp] 25)).alloc (.cells #[.int .i64 0, .slice none 0 0] 25)).alloc (.cells #[] 33)).drew.cell? ⟨w.heap.size, 1, none⟩ = some (.slice (some ⟨g, o, none⟩) ls.length cp) := by go_simp
  have cX0 : (((w.alloc (.cells #[.int .i64 nd, .slice (some ⟨g, o, none⟩) ls.length cp] 25)).alloc (.cells #[.int .i64 0, .slice none 0 0] 25)).alloc (.cells #[] 33)).drew.cell? ⟨w.heap.size, 0, none⟩ = some (.int .i64 nd) := by go_simp
  have HX1 : Blk (((w.alloc (.cells #[.int .i64 nd, .slice (some ⟨g, o, none⟩) ls.length cp] 25)).alloc (.cells #[.int .i64 0, .slice none 0 0] 25)).alloc (.cells #[] 33)).drew (w.heap.size + 1) 25 [.int .i64 0, .slice none 0 0] := by
    have h := Blk.new (w.alloc (.cells #[.int .i64 nd, .slice (some ⟨g, o, none⟩) ls.length cp] 25)) #[.int .i64 0, .slice none 0 0] 25
    rw [show (w.alloc (.cells #[.int .i64 nd, .slice (some ⟨g, o, none⟩) ls.length cp] 25)).heap.size = w.heap.size + 1 from by simp] at h
    exact h.keep (bnew _ _).drew
  have HX0 : Blk (((w.alloc (.cells #[.int .i64 nd, .slice (some ⟨g, o, none⟩) ls.length cp] 25)).alloc (.cells #[.int .i64 0, .slice none 0 0] 25)).alloc (.cells #[] 33)).drew w.heap.size 25 [.int .i64 nd, .slice (some ⟨g, o, none⟩) ls.length cp] := (Blk.new w #[.int .i64 nd, .slice (some ⟨g, o, none⟩) ls.length cp] 25).keep (b2 _ _ _).drew
  have fX : ∀ i, (((w.alloc (.cells #[.int .i64 nd, .slice (some ⟨g, o, none⟩) ls.length cp] 25)).alloc (.cells #[.int .i64 0, .slice none 0 0] 25)).alloc (.cells #[] 33)).drew.frozen? ⟨w.heap.size, i, none⟩ = false := fun i => fkeep (w := w.alloc (.cells #[.int .i64 nd, .slice (some ⟨g, o, none⟩) ls.length cp] 25)) (by go_simp) (by simp) (b2 _ _ _).drew
  have SX : (((w.alloc (.cells #[.int .i64 nd, .slice (some ⟨g, o, none⟩) ls.length cp] 25)).alloc (.cells #[.int .i64 0, .slice none 0 0] 25)).alloc (.cells #[] 33)).drew.heap.size = w.heap.size + 3 := sX
  have hb : w.heap.size + 2 ≤ (((w.alloc (.cells #[.int .i64 nd, .slice (some ⟨g, o, none⟩) ls.length cp] 25)).alloc (.cells #[.int .i64 0, .slice none 0 0] 25)).alloc (.cells #[] 33)).drew.heap.size := by omega
  have hb0 : w.heap.size ≤ (((w.alloc (.cells #[.int .i64 nd, .slice (some ⟨g, o, none⟩) ls.length cp] 25)).alloc (.cells #[.int .i64 0, .slice none 0 0] 25)).alloc (.cells #[] 33)).drew.heap.size := by omega
  have CX := Lib.hid cX
  have SXh := Lib.hid SX
  have CX0 := Lib.hid cX0
  have FX := Lib.hid fX
  have q0 : (0 : Int) ≤ (k : Int) := by omega
  have q1 : (k : Int) ≤ (cp : Int) := by omega
  have q5 : (0 : Int) ≤ (k : Int) + 1 := by omega
  have q2 : (k : Int) + 1 ≤ (ls.length : Int) := by omega
  have q3 : (ls.length : Int) ≤ (cp : Int) := by omega
  have q4 : IntKind.i64.wrap ((k : Int) + 1) = (k : Int) + 1 := IntWalk.i64_in _ (by omega)
  have hTl : ([] : List Lk).length + T.length ≤ 1048600 := by have := LT.out; simp; omega
  clear cX cX0 fX rT rD hr SX
  go_enter Try.func61, Try.ntmps61
  go_wp2_with fail
  go_region_law (first
    | (refine step_app _ (by rfl) (.tmp 5) (.tmp 9) _ (by rfl) i0 Try.underlying23 hi hz0 hz1 hz2 (by rfl) (by rfl) oX T (by rfl) LT.out.symm rX hTl hb ?_; intro A4 cp4 n4 w4 HN4 O4 G4; rw [List.nil_append] at HN4 O4; have ne4 : ∀ p : Nat, p < w.heap.size + 2 → some p ≠ (Value.slice (some ⟨w.heap.size + 1 + 1, 0, none⟩) ([] : List Lk).length 0).ownBlock := fun p hp e => (by have := own_blk oX _ e.symm; omega); have c4 : w4.cell? ⟨w.heap.size, 1, none⟩ = some (.slice (some ⟨g, o, none⟩) ls.length cp) := G4.cell CX.out (ne4 w.heap.size (by omega)); have c40 : w4.cell? ⟨w.heap.size, 0, none⟩ = some (.int .i64 nd) := G4.cell CX0.out (ne4 w.heap.size (by omega)); have H4 := HX1.grown G4 (Ne.symm (ne4 (w.heap.size + 1) (by omega))); have H40 := HX0.grown G4 (Ne.symm (ne4 w.heap.size (by omega))); have B4 := bX.grown G4 hb0 (fun p hp => by have := own_blk oX _ hp; omega); have E4 := (dX.grown G4 hb0 (fun p hp => by have := own_blk oX _ hp; omega)); have s4 := G4.size; rw [SXh.out] at s4; have E5 := E4.more (by omega : w.heap.size ≤ w4.heap.size))
    | (refine step_app _ (by rfl) (.tmp 10) (.tmp 15) _ (by rfl) i0 Try.underlying23 hi hz0 hz1 hz2 (by rfl) HN4.out O4 E (by rfl) LD.out.symm E5 (by have := LT.out; have := LD.out; omega) (by omega) ?_; intro A5 cp5 n5 w5 HN5 O5 G5; have ne5 : ∀ p : Nat, p < w.heap.size + 2 → some p ≠ (Value.slice A4 T.length cp4).ownBlock := fun p hp e => (by have := own_blk O4 _ e.symm; omega); have c5 := G5.cell c4 (ne5 w.heap.size (by omega)); have c50 := G5.cell c40 (ne5 w.heap.size (by omega)); have H5 := H4.grown G5 (Ne.symm (ne5 (w.heap.size + 1) (by omega))); have f5 : w5.frozen? ⟨w.heap.size, 1, none⟩ = false := (World.grownBy.frozen_far G5 _ (by show w.heap.size < _; omega) (ne5 w.heap.size (by omega))).trans ((World.grownBy.frozen_far G4 _ (by show w.heap.size < _; have := SXh.out; omega) (ne4 w.heap.size (by omega))).trans (FX.out 1)); have H50 := H40.grown G5 (Ne.symm (ne5 w.heap.size (by omega))); have B5 := B4.grown G5 (by omega) (fun p hp => by have := own_blk O4 _ hp; omega); have s5 := G5.size; have hbs : w.heap.size < w5.heap.size := by omega))
  all_goals (
    have O6 := own_st O5 H50 (by decide) 1 (.slice A5 n5 cp5)
    have H6 := H5.far (p := ⟨w.heap.size, 1, none⟩) (by simp) (.slice A5 n5 cp5)
    have H60 := H50.stored 1 (.slice A5 n5 cp5)
    have B6 := B5.setCell (p := ⟨w.heap.size, 1, none⟩) (Nat.le_refl _) (.slice A5 n5 cp5)
    have k0 := H60.cellAt 0
    have k1 := H60.cellAt 1
    have k2 := H6.cellAt 0
    have k3 := H6.cellAt 1
    have f2 := H6.frozenAt 0
    have f3 := H6.frozenAt 1
    simp only [List.set_cons_succ, List.set_cons_zero, List.getElem?_cons_zero, List.getElem?_cons_succ] at k0 k1 k2 k3
    have O7 := own_st (own_st O6 H6 (by decide) 0 (.int .i64 nd)) (H6.stored 0 (.int .i64 nd)) (by decide) 1 (.slice A5 n5 cp5)
    have B7 := (B6.setCell (p := ⟨w.heap.size + 1, 0, none⟩) (Nat.le_succ _) (.int .i64 nd)).setCell (p := ⟨w.heap.size + 1, 1, none⟩) (Nat.le_succ _) (.slice A5 n5 cp5)
    have H7 := ((H6.stored 0 (.int .i64 nd)).stored 1 (.slice A5 n5 cp5))
    have k4 := H7.cellAt 0
    have k5 := H7.cellAt 1
    simp only [List.set_cons_succ, List.set_cons_zero, List.getElem?_cons_zero, List.getElem?_cons_succ] at k4 k5
    clear O6 H60
    go_wp2_with fail
    all_goals (
      refine bodyPost_ret (v := .agg #[.int .i64 nd, .slice A5 n5 cp5]) (by simp [results, Try.results61, go_sem, k4, k5]) rfl ⟨⟨A5, cp5, by rw [HW.out, HN5.out], ?_⟩, B7⟩
      rw [HW.out]
      exact ownsRow_base O7 (by omega)))

end Go.Proofs.Ytmkjndfhfhfggaa
