/-
  The walks of linkOf, GraphLink, l1Link and the reference's GraphLink: the place of the link between two nodes.
-/
import Derived.Test.YtnndnpckkcgfiaaWC
import Derived.Test.YtnndnpckkcgfiaaPB
namespace Go.Proofs.Ytnndnpckkcgfiaa
open Go.RowKit

set_option maxRecDepth 100000 in
set_option maxHeartbeats 1000000 in
theorem clo_any (x y z a b : Int) (ba bb : Nat) (w : World) (ha : w.cell? ⟨ba, 0, none⟩ = some (.int .i64 a)) (hb : w.cell? ⟨bb, 0, none⟩ = some (.int .i64 b)) (h1 : ba < w.heap.size) (h2 : bb < w.heap.size) :
    Calls Try.prog 87 #[.agg #[.int .i64 x, .int .i64 y, .int .i64 z], .pointer (some ⟨ba, 0, none⟩), .pointer (some ⟨bb, 0, none⟩)] w fun e w' => e = .returned (.bool (decide (x = min a b) && decide (y = max a b))) ∧ Below w.heap.size w w' := by
  go_enter Try.func87, Try.ntmps87
  go_wp2_with fail
  all_goals go_ret
  all_goals exact ⟨ret_bool (by rw [Bool.eq_iff_iff]; simp; omega), bnew _ _⟩

theorem clo_yes {ls : List Lk} {a b : Int} {k : Nat} (h : Hit ls a b k) (ba bb : Nat) (w : World) (ha : w.cell? ⟨ba, 0, none⟩ = some (.int .i64 a)) (hb : w.cell? ⟨bb, 0, none⟩ = some (.int .i64 b)) (h1 : ba < w.heap.size) (h2 : bb < w.heap.size) :
    Calls Try.prog 87 #[.agg #[.int .i64 (La ls k), .int .i64 (Lb ls k), .int .i64 (Lc ls k)], .pointer (some ⟨ba, 0, none⟩), .pointer (some ⟨bb, 0, none⟩)] w fun e w' => e = .returned (.bool true) ∧ Below w.heap.size w w' :=
  (clo_any _ _ _ a b ba bb w ha hb h1 h2).mono fun _ _ ⟨he, hw⟩ => ⟨he.trans (ret_bool (by simp [h.1, h.2])), hw⟩
theorem clo_no {ls : List Lk} {a b : Int} {k : Nat} (h : ¬ Hit ls a b k) (ba bb : Nat) (w : World) (ha : w.cell? ⟨ba, 0, none⟩ = some (.int .i64 a)) (hb : w.cell? ⟨bb, 0, none⟩ = some (.int .i64 b)) (h1 : ba < w.heap.size) (h2 : bb < w.heap.size) :
    Calls Try.prog 87 #[.agg #[.int .i64 (La ls k), .int .i64 (Lb ls k), .int .i64 (Lc ls k)], .pointer (some ⟨ba, 0, none⟩), .pointer (some ⟨bb, 0, none⟩)] w fun e w' => e = .returned (.bool false) ∧ Below w.heap.size w w' :=
  (clo_any _ _ _ a b ba bb w ha hb h1 h2).mono fun _ _ ⟨he, hw⟩ => ⟨he.trans (ret_bool (by unfold Hit at h; simpa using h)), hw⟩

set_option maxRecDepth 100000 in
set_option maxHeartbeats 1000000 in
theorem ixf_any (A : Option Addr) (cp : Nat) (ls : List Lk) (a b : Int) (ba bb : Nat) (w : World) (hlen : ls.length ≤ 9223372036854775806) (hr : RdL w w.heap.size A ls)
    (ha : w.cell? ⟨ba, 0, none⟩ = some (.int .i64 a)) (hb : w.cell? ⟨bb, 0, none⟩ = some (.int .i64 b)) (h1 : ba < w.heap.size) (h2 : bb < w.heap.size) :
    Calls Try.prog 86 #[.slice A ls.length cp, .func (.func 87) #[] #[.pointer (some ⟨ba, 0, none⟩), .pointer (some ⟨bb, 0, none⟩)]] w fun e w' => e = .returned (.int .i64 (lkIx ls a b)) ∧ Below w.heap.size w w' := by
  go_enter Try.func86, Try.ntmps86
  go_wp2_with fail
  go_loopw [8] (fun i wr => ∃ k : Nat, k ≤ ls.length ∧ i = .int .i64 k ∧ (∀ j, j < k → ¬ Hit ls a b j) ∧ Below w.heap.size w wr) (fun i _ => ls.length - (intOf i).toNat)
  case atStart => exact ⟨0, Nat.zero_le _, rfl, fun j hj => by omega, Below.refl _ _⟩
  case round =>
    obtain ⟨k, hk, rfl, hno0, hb'⟩ := hrel
    have hno := Lib.hid hno0; clear hno0
    by_cases hlt : k < ls.length
    · obtain ⟨ad, o, hA, hbk, hc⟩ := hr (by omega)
      obtain ⟨c1, c2, c3⟩ := hc k hlt
      obtain rfl := hA
      have c1' := (hb'.cell (by exact hbk)).trans c1
      have c2' := (hb'.cell (by exact hbk)).trans c2
      have c3' := (hb'.cell (by exact hbk)).trans c3
      have HA := Lib.hid ((hb'.cell (by exact h1)).trans ha)
      have HB := Lib.hid ((hb'.cell (by exact h2)).trans hb)
      have hs := hb'.size
      clear c1 c2 c3 hc ha hb
      by_cases hh : Hit ls a b k
      · have HX : Hid (k = lkIx ls a b) := lkIx_eq (.inr ⟨k, hlt, rfl, hh, hno.out⟩)
        go_wp2_with (go_at_call 87; refine (clo_yes hh ba bb _ HA.out HB.out (by omega) (by omega)).mono ?_; rintro e w1 ⟨rfl, hb1⟩)
        go_ret
        exact ⟨ret_int HX.out, hb'.trans (hb1.mono hs)⟩
      · go_wp2_with (go_at_call 87; refine (clo_no hh ba bb _ HA.out HB.out (by omega) (by omega)).mono ?_; rintro e w1 ⟨rfl, hb1⟩)
        go_roundw
        case rel => exact ⟨k + 1, by omega, by go_num, fun j hj => by
          rcases Nat.lt_or_ge j k with h' | h'
          · exact hno.out j h'
          · obtain rfl : j = k := by omega
            exact hh, hb'.trans (hb1.mono hs)⟩
        case measure => simp [intOf]; omega
    · have HX : Hid ((-1 : Int) = lkIx ls a b) := lkIx_eq (.inl ⟨rfl, fun j hj => hno.out j (by omega)⟩)
      go_wp2_with fail
      go_ret
      exact ⟨ret_int HX.out, hb'⟩


end Go.Proofs.Ytnndnpckkcgfiaa
