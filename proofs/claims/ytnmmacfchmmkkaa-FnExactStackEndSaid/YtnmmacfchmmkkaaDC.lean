/-
  The walk of slices.Repeat as impl's distances calls it: a slice of n times -1.
-/
import Derived.Test.YtnmmacfchmmkkaaDB
namespace Go.Proofs.Ytnmmacfchmmkkaa
open Go.RowKit

set_option maxRecDepth 100000 in
set_option maxHeartbeats 2000000 in
theorem rep_any (n : Nat) (h1 : 1 ≤ n) (h8 : n ≤ 8) (b : Nat) (w : World) (hb : w.cell? ⟨b, 0, none⟩ = some (.int .i64 (-1))) (hlt : b < w.heap.size) :
    Calls Try.prog 32 #[.slice (some ⟨b, 0, none⟩) 1 1, .int .i64 n] w fun e w' => (e = .returned (.slice (some ⟨w.heap.size, 0, none⟩) n n) ∧ Blk w' w.heap.size 3 (repC n n)) ∧ Below w.heap.size w w' := by
  obtain ⟨i0, hi, hz0, hz1, hz2⟩ := info_parts Try.infoIn
  have hmk := run_mkI 40 3 i0 Try.underlying40 hi hz0 hz1 hz2 n (by omega)
  clear hi hz0 hz1 hz2
  have q1 : (0 : Int) ≤ (n : Int) := by omega
  have q2 : (n : Int) ≤ 8 := by omega
  have HB := Lib.hid hb
  clear hb
  have HW : Hid (∀ wr : World, Below w.heap.size w wr → wr.cell? ⟨b, 0, none⟩ = some (.int .i64 (-1))) := fun wr h => (h.cell (by exact hlt)).trans HB.out
  go_enter Try.func32, Try.ntmps32
  have HG0 : Blk (w.alloc (.cells (zI n) 3)) w.heap.size 3 (repC n 0) := by
    have h := Blk.new w (zI n) 3
    rw [← repC_zero] at h ⊢
    exact h
  have HB0 := bnew w (.cells (zI n) 3)
  have HM0 : Hid (1 = Nat.min 1 n) := by
    show 1 = min 1 n
    omega
  go_wp2_with (first
    | (go_at_call 33; refine (mul_any n h8 _).mono ?_; rintro e w' ⟨rfl, rfl⟩)
    | ((with_reducible refine wpList_copy_neg rfl (.tmp 31) (.tmp 32) rfl w.heap.size b 0 n 0 n n 1 1 rfl rfl 1 HM0.out HG0 (fun j hj => by obtain rfl : j = 0 := (by omega); exact HW.out _ HB0) (by omega) w.heap.size w HB0 (Nat.le_refl _) ?_); intro w2 HG2 hB2))
  clear HM0 HG0 HB0 hmk
  have HG3 := HG2.out
  clear HG2
  go_loopw [8] (fun i wr => ∃ k : Nat, 1 ≤ k ∧ k ≤ n ∧ i = .int .i64 k ∧ Blk wr w.heap.size 3 (repC n k) ∧ Below w.heap.size w wr) (fun i _ => n - (intOf i).toNat)
  case atStart => exact ⟨1, by omega, by omega, rfl, HG3, hB2⟩
  case round =>
    obtain ⟨k, hk1, hk, rfl, hg, hb⟩ := hrel
    by_cases hlt2 : k < n
    · obtain ⟨m, hm⟩ : ∃ m, m = Nat.min k (n - k) := ⟨_, rfl⟩
      have hm1 : m ≤ k := by rw [hm]; exact Nat.min_le_left _ _
      have hm2 : m ≤ n - k := by rw [hm]; exact Nat.min_le_right _ _
      have hm3 : 1 ≤ m := by
        have : m = min k (n - k) := hm
        omega
      have HM := Lib.hid hm
      clear hm
      have hgd : Blk wr.drew w.heap.size 3 (repC n k) := hg
      have hbd := hb.drew
      have HS : Hid (∀ j, j < m → wr.drew.cell? ⟨w.heap.size, 0 + j, none⟩ = some (.int .i64 (-1))) := fun j hj => by
        rw [Nat.zero_add, hgd.cellAt j]
        exact repC_at (by omega)
      have hne : ¬ n = k := by omega
      have e1 : (0 : Int) ≤ (k : Int) := by omega
      have e2 : (k : Int) ≤ (n : Int) := by omega
      go_wp2_with fail
      go_region_law (refine step_copy_neg (by rfl) (.tmp 41) (.tmp 44) (by rfl) w.heap.size w.heap.size 0 n k (n - k) (n - k) k n (by simp [Act.eval, Act.put]) (by simp [Act.eval, Act.put]) m HM.out hgd HS.out (by omega) w.heap.size w hbd (Nat.le_refl _) ?_; intro w4 HG4 hb4)
      all_goals (
        have q5 : IntKind.i64.wrap ((k : Int) + (m : Int)) = ((k + m : Nat) : Int) := by rw [IntWalk.i64_in _ (by omega)]; omega
        go_simp
        go_roundw
        case rel =>
          repeat apply Exists.intro
          refine ⟨?_, rfl⟩
          exact ⟨k + m, by omega, by omega, by first | rfl | rw [q5] | go_num, HG4.out, hb4⟩
        case measure => first | (rw [q5]; simp [intOf]; omega) | (simp [intOf]; omega))
    · have HK : Hid (k = n) := by show k = n; omega
      go_wp2_with fail
      go_ret
      rw [HK.out] at hg
      exact ⟨⟨rfl, hg⟩, hb⟩

end Go.Proofs.Ytnmmacfchmmkkaa
