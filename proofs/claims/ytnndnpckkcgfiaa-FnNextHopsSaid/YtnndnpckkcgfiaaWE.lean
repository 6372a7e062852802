/-
  The walks of linkOf, GraphLink, l1Link and the reference's GraphLink: the place of the link between two nodes.
-/
import Derived.Test.YtnndnpckkcgfiaaWD
namespace Go.Proofs.Ytnndnpckkcgfiaa
open Go.RowKit

set_option maxRecDepth 100000 in
set_option maxHeartbeats 1000000 in
theorem linkOf_any (nd : Int) (A : Option Addr) (cp : Nat) (ls : List Lk) (a b : Int) (w : World) (hlen : ls.length ≤ 9223372036854775806) (hr : RdL w w.heap.size A ls) :
    Calls Try.prog 73 #[.agg #[.int .i64 nd, .slice A ls.length cp], .int .i64 a, .int .i64 b] w fun e w' => e = .returned (.int .i64 (lkIx ls a b)) ∧ Below w.heap.size w w' := by
  go_enter Try.func73, Try.ntmps73
  go_wp2_with fail
  refine (ixf_any A cp ls a b (w.heap.size + 1) (w.heap.size + 1 + 1) _ hlen (hr.on (b3 _ _ _ _)) (by go_simp) (by go_simp) (by simp) (by simp)).mono ?_
  rintro e w1 ⟨rfl, hb1⟩
  go_wp2_with fail
  go_ret
  exact ⟨rfl, bthen (b3 _ _ _ _) hb1⟩

set_option maxRecDepth 100000 in
set_option maxHeartbeats 1000000 in
theorem gLink_yes {nd : Int} {ls : List Lk} (hv : Valid nd ls) (A : Option Addr) (cp : Nat) (a b : Int) (w : World) (hr : RdL w w.heap.size A ls) :
    Calls Try.prog 39 #[.agg #[.int .i64 nd, .slice A ls.length cp], .int .i64 a, .int .i64 b] w fun e w' => e = .returned (.int .i64 (lkIx ls a b)) ∧ Below w.heap.size w w' := by
  have hlen : ls.length ≤ 14 := hv.2.2.1
  go_enter Try.func39, Try.ntmps39
  go_wp2_with fail
  refine (gv_yes hv A cp _ (hr.on (bnew _ _))).mono ?_
  rintro e w1 ⟨rfl, hb1⟩
  obtain ⟨k1, k2⟩ := box2 hb1
  go_wp2_with fail
  refine (linkOf_any nd A cp ls a b _ (by omega) ((hr.on (bnew _ _)).on hb1)).mono ?_
  rintro e w2 ⟨rfl, hb2⟩
  go_wp2_with fail
  go_ret
  exact ⟨rfl, bthen (bthen (bnew _ _) hb1) hb2⟩
set_option maxRecDepth 100000 in
set_option maxHeartbeats 1000000 in
theorem gLink_no {nd : Int} {ls : List Lk} (hv : ¬ Valid nd ls) (A : Option Addr) (cp : Nat) (a b : Int) (w : World) (hlen : ls.length ≤ 9223372036854775806) (hr : RdL w w.heap.size A ls) :
    Calls Try.prog 39 #[.agg #[.int .i64 nd, .slice A ls.length cp], .int .i64 a, .int .i64 b] w fun e w' => e = .returned (.int .i64 (-1)) ∧ Below w.heap.size w w' := by
  go_enter Try.func39, Try.ntmps39
  go_wp2_with fail
  refine (gv_no hv A cp _ (by omega) (hr.on (bnew _ _))).mono ?_
  rintro e w1 ⟨rfl, hb1⟩
  go_wp2_with fail
  go_ret
  exact ⟨rfl, bthen (bnew _ _) hb1⟩

set_option maxRecDepth 100000 in
set_option maxHeartbeats 2000000 in
theorem l1Link_any (nd : Int) (A : Option Addr) (cp : Nat) (ls : List Lk) (a b : Int) (w : World) (hlen : ls.length ≤ 9223372036854775806) (hr : RdL w w.heap.size A ls) :
    Calls Try.prog 83 #[.agg #[.int .i64 nd, .slice A ls.length cp], .int .i64 a, .int .i64 b] w fun e w' => e = .returned (.int .i64 (lkIx ls a b)) ∧ Below w.heap.size w w' := by
  go_enter Try.func83, Try.ntmps83
  go_wp2_with fail
  go_loopw [7] (fun i wr => ∃ k : Nat, k ≤ ls.length ∧ i = .int .i64 k ∧ (∀ j, j < k → ¬ Hit ls a b j) ∧ Below w.heap.size w wr ∧ wr.cell? ⟨w.heap.size, 1, none⟩ = some (.slice A ls.length cp)) (fun i _ => ls.length - (intOf i).toNat)
  case atStart => exact ⟨0, Nat.zero_le _, rfl, fun j hj => by omega, bnew _ _, by go_simp⟩
  case round =>
    obtain ⟨k, hk, rfl, hno0, hb, hc1⟩ := hrel
    have hno := Lib.hid hno0; clear hno0
    by_cases hlt : k < ls.length
    · obtain ⟨ad, o, hA, hbk, hc⟩ := hr (by omega)
      obtain ⟨c1, c2, c3⟩ := hc k hlt
      obtain rfl := hA
      have c1' := (hb.cell (by exact hbk)).trans c1
      have c2' := (hb.cell (by exact hbk)).trans c2
      clear c1 c2 c3 hc
      have HY : Hid (Hit ls a b k → (k : Int) = lkIx ls a b) := fun hh => lkIx_eq (.inr ⟨k, hlt, rfl, hh, hno.out⟩)
      have HN : Hid (¬ Hit ls a b k → ∀ j, j < k + 1 → ¬ Hit ls a b j) := fun hh j hj => by
        rcases Nat.lt_or_ge j k with h' | h'
        · exact hno.out j h'
        · obtain rfl : j = k := by omega
          exact hh
      go_wp2_with fail
      all_goals first | (go_ret; exact ⟨ret_int (HY.out (by unfold Hit; grind)), hb⟩) | (go_roundw; (case rel => exact ⟨k + 1, by omega, by go_num, HN.out (by unfold Hit; grind), hb, hc1⟩); (case measure => simp [intOf]; omega))
    · have HX : Hid ((-1 : Int) = lkIx ls a b) := lkIx_eq (.inl ⟨rfl, fun j hj => hno.out j (by omega)⟩)
      go_wp2_with fail
      go_ret
      exact ⟨ret_int HX.out, hb⟩

end Go.Proofs.Ytnndnpckkcgfiaa
