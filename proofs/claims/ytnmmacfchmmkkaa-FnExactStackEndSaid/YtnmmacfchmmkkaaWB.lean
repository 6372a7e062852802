/-
  The walk of the program's GraphValid: it answers whether the graph is valid.
-/
import Derived.Test.YtnmmacfchmmkkaaWA
namespace Go.Proofs.Ytnmmacfchmmkkaa
open Go.RowKit

noncomputable def bl (p : Prop) : Bool := @decide p (Classical.propDecidable p)
theorem bl_true {p : Prop} (h : p) : bl p = true := by unfold bl; simp [h]
theorem bl_false {p : Prop} (h : ¬ p) : bl p = false := by unfold bl; simp [h]
theorem rb_true {p : Prop} (h : p) : Ending.returned (.bool true) = .returned (.bool (bl p)) := by rw [bl_true h]
theorem rb_false {p : Prop} (h : ¬ p) : Ending.returned (.bool false) = .returned (.bool (bl p)) := by rw [bl_false h]

set_option maxRecDepth 100000 in
set_option maxHeartbeats 2000000 in
theorem gv_loop (nd : Int) (A : Option Addr) (cp : Nat) (ls : List Lk) (w : World) (hlen : ls.length ≤ 14) (hr : RdL w w.heap.size A ls) (h1 : 1 ≤ nd) (h8 : nd ≤ 8) :
    Calls Try.prog 28 #[.agg #[.int .i64 nd, .slice A ls.length cp]] w fun e w' => e = .returned (.bool (bl (Valid nd ls))) ∧ Below w.heap.size w w' := by
  go_enter Try.func28, Try.ntmps28
  go_wp2_with (go_at_call 29; refine (within_yes h1 h8 _).mono ?_; rintro e w' ⟨rfl, rfl⟩)
  go_loopw [18] (fun i wr => ∃ k : Nat, k ≤ ls.length ∧ i = .int .i64 k ∧ ValidTo nd ls k ∧ Below w.heap.size w wr ∧ wr.cell? ⟨w.heap.size, 0, none⟩ = some (.int .i64 nd) ∧ wr.cell? ⟨w.heap.size, 1, none⟩ = some (.slice A ls.length cp) ∧ w.heap.size < wr.heap.size) (fun i _ => ls.length - (intOf i).toNat)
  case atStart =>
    exact ⟨0, Nat.zero_le _, rfl, ValidTo.zero _ _, (Below.refl _ _).alloc (Nat.le_refl _) _, by simp, by simp, by simp⟩
  case round =>
    obtain ⟨k, hk, rfl, hval, hb, hc0, hc1, hs⟩ := hrel
    by_cases hlt : k < ls.length
    · obtain ⟨ad, o, hA, hbk, hc⟩ := hr (by omega)
      obtain ⟨c1, c2, c3⟩ := hc k hlt
      obtain rfl := hA
      have c1' := (hb.cell (by exact hbk)).trans c1
      have c2' := (hb.cell (by exact hbk)).trans c2
      have c3' := (hb.cell (by exact hbk)).trans c3
      have hbk' : ad < wr.heap.size := by omega
      have HP : Hid (1 ≤ k → wr.cell? ⟨ad, o + (k - 1) * 3, none⟩ = some (.int .i64 (La ls (k - 1))) ∧ wr.cell? ⟨ad, o + (k - 1) * 3 + 1, none⟩ = some (.int .i64 (Lb ls (k - 1)))) := fun hk0 => by
        obtain ⟨p1, p2, _⟩ := hc (k - 1) (by omega)
        exact ⟨(hb.cell (by exact hbk)).trans p1, (hb.cell (by exact hbk)).trans p2⟩
      have HNO : Hid (¬ LkOk nd ls k → ¬ Valid nd ls) := fun h hv => h (hv.ok hlt)
      have HLT : Hid (1 ≤ k → ¬ LkLt ls (k - 1) k → ¬ Valid nd ls) := fun h0 h hv => h (hv.lt (by omega) hlt)
      clear c1 c2 c3 hc
      by_cases a1 : La ls k < 0
      · go_wp2_with fail
        go_ret
        exact ⟨rb_false (HNO.out (fun h => by have := h.1; omega)), hb.alloc (by omega) _⟩
      by_cases a2 : Lb ls k ≤ La ls k
      · go_wp2_with fail
        go_ret
        exact ⟨rb_false (HNO.out (fun h => by have := h.2.1; omega)), hb.alloc (by omega) _⟩
      by_cases a3 : nd ≤ Lb ls k
      · go_wp2_with fail
        go_ret
        exact ⟨rb_false (HNO.out (fun h => by have := h.2.2.1; omega)), hb.alloc (by omega) _⟩
      by_cases a4 : Lc ls k < 1 ∨ 20 < Lc ls k
      · go_wp2_with (go_at_call 29; refine (within_no a4 _).mono ?_; rintro e w' ⟨rfl, rfl⟩)
        go_ret
        exact ⟨rb_false (HNO.out (fun h => by have := h.2.2.2; omega)), hb.alloc (by omega) _⟩
      have hok : LkOk nd ls k := ⟨by omega, by omega, by omega, by omega, by omega⟩
      have a5 : 1 ≤ Lc ls k := by omega
      have a6 : Lc ls k ≤ 20 := by omega
      clear a4 HNO
      go_wp2_with (go_at_call 29; refine (within_yes a5 a6 _).mono ?_; rintro e w' ⟨rfl, rfl⟩)
      by_cases k0 : k < 1
      · have kk : decide (0 < k) = false := by simp; omega
        go_quiet (fail)
        go_wp2_with fail
        go_roundw
        case rel => exact ⟨k + 1, by omega, by go_num, hval.succ hok (by omega), bdN (hb.alloc (by omega) _) _, ckeep hc0 (bnewN _ _ _), ckeep hc1 (bnewN _ _ _), Nat.lt_of_lt_of_le hs (bnewN _ _ _).size⟩
        case measure => simp [intOf]; omega
      have kk : decide (0 < k) = true := by simp; omega
      obtain ⟨p1, p2⟩ := HP.out (by omega)
      have q3 : (1 : Int) ≤ (k : Int) := by omega
      have q4 : ((k : Int) - 1) < (ls.length : Int) := by omega
      have q5 : IntKind.i64.wrap ((k : Int) - 1) = (k : Int) - 1 := IntWalk.i64_in _ (by omega)
      have q6 : k - 1 < ls.length := by omega
      by_cases b1 : La ls k < La ls (k - 1)
      · have t1 : decide (La ls k < La ls (k - 1)) = true := by simpa using b1
        go_quiet (fail)
        go_wp2_with fail
        go_ret
        exact ⟨rb_false (HLT.out (by omega) (fun h => by unfold LkLt at h; omega)), bdN (hb.alloc (by omega) _) _⟩
      have t1 : decide (La ls k < La ls (k - 1)) = false := by simpa using b1
      by_cases b2 : La ls (k - 1) < La ls k
      · have t2 : (La ls (k - 1) == La ls k) = false := by simp; omega
        go_quiet (fail)
        go_wp2_with fail
        go_roundw
        case rel => exact ⟨k + 1, by omega, by go_num, hval.succ hok (fun _ => .inl b2), bdN (hb.alloc (by omega) _) _, ckeep hc0 (bnewN _ _ _), ckeep hc1 (bnewN _ _ _), Nat.lt_of_lt_of_le hs (bnewN _ _ _).size⟩
        case measure => simp [intOf]; omega
      have t2 : (La ls (k - 1) == La ls k) = true := by simp; omega
      by_cases b3 : Lb ls k ≤ Lb ls (k - 1)
      · have t3 : decide (Lb ls k ≤ Lb ls (k - 1)) = true := by simpa using b3
        go_quiet (fail)
        go_wp2_with fail
        go_ret
        exact ⟨rb_false (HLT.out (by omega) (fun h => by unfold LkLt at h; omega)), bdN (hb.alloc (by omega) _) _⟩
      have t3 : decide (Lb ls k ≤ Lb ls (k - 1)) = false := by simpa using b3
      go_quiet (fail)
      go_wp2_with fail
      go_roundw
      case rel => exact ⟨k + 1, by omega, by go_num, hval.succ hok (fun _ => .inr ⟨by omega, by omega⟩), bdN (hb.alloc (by omega) _) _, ckeep hc0 (bnewN _ _ _), ckeep hc1 (bnewN _ _ _), Nat.lt_of_lt_of_le hs (bnewN _ _ _).size⟩
      case measure => simp [intOf]; omega
    · have hk' : k = ls.length := by omega
      have HV : Hid (Valid nd ls) := ⟨h1, h8, hlen, hk' ▸ hval⟩
      clear hk'
      go_wp2_with fail
      go_ret
      exact ⟨rb_true HV.out, hb⟩

set_option maxRecDepth 100000 in
set_option maxHeartbeats 1000000 in
theorem gv_any (nd : Int) (A : Option Addr) (cp : Nat) (ls : List Lk) (w : World) (hlen : ls.length ≤ 9223372036854775807) (hr : RdL w w.heap.size A ls) :
    Calls Try.prog 28 #[.agg #[.int .i64 nd, .slice A ls.length cp]] w fun e w' => e = .returned (.bool (bl (Valid nd ls))) ∧ Below w.heap.size w w' := by
  by_cases h1 : nd < 1 ∨ 8 < nd
  · have HV : Hid (¬ Valid nd ls) := fun h => by have := h.1; have := h.2.1; omega
    go_enter Try.func28, Try.ntmps28
    go_wp2_with (go_at_call 29; refine (within_no h1 _).mono ?_; rintro e w' ⟨rfl, rfl⟩)
    go_ret
    exact ⟨rb_false HV.out, (Below.refl _ _).alloc (Nat.le_refl _) _⟩
  · have a1 : 1 ≤ nd := by omega
    have a2 : nd ≤ 8 := by omega
    by_cases h14 : ls.length ≤ 14
    · exact gv_loop nd A cp ls w h14 hr a1 a2
    · have HV : Hid (¬ Valid nd ls) := fun h => by have := h.2.2.1; omega
      go_enter Try.func28, Try.ntmps28
      go_wp2_with (go_at_call 29; refine (within_yes a1 a2 _).mono ?_; rintro e w' ⟨rfl, rfl⟩)
      go_ret
      exact ⟨rb_false HV.out, (Below.refl _ _).alloc (Nat.le_refl _) _⟩

theorem gv_yes {nd : Int} {ls : List Lk} (hv : Valid nd ls) (A : Option Addr) (cp : Nat) (w : World) (hr : RdL w w.heap.size A ls) :
    Calls Try.prog 28 #[.agg #[.int .i64 nd, .slice A ls.length cp]] w fun e w' => e = .returned (.bool true) ∧ Below w.heap.size w w' :=
  (gv_any nd A cp ls w (by have := hv.2.2.1; omega) hr).mono fun _ _ ⟨he, hw⟩ => ⟨he.trans (rb_true hv).symm, hw⟩
theorem gv_no {nd : Int} {ls : List Lk} (hv : ¬ Valid nd ls) (A : Option Addr) (cp : Nat) (w : World) (hlen : ls.length ≤ 9223372036854775807) (hr : RdL w w.heap.size A ls) :
    Calls Try.prog 28 #[.agg #[.int .i64 nd, .slice A ls.length cp]] w fun e w' => e = .returned (.bool false) ∧ Below w.heap.size w w' :=
  (gv_any nd A cp ls w hlen hr).mono fun _ _ ⟨he, hw⟩ => ⟨he.trans (rb_false hv).symm, hw⟩

end Go.Proofs.Ytnmmacfchmmkkaa
