/-
  The walk of the reference's GraphValid: it answers whether the graph is valid.
-/
import Derived.Test.YtnmmacfchmmkkaaWB
namespace Go.Proofs.Ytnmmacfchmmkkaa
open Go.RowKit

theorem wr_in {n : Int} (h1 : -9223372036854775808 ≤ n) (h2 : n ≤ 9223372036854775807) : wrap64 n = n := IntWalk.wrap64_in n ⟨h1, h2⟩

set_option maxRecDepth 100000 in
set_option maxHeartbeats 2000000 in
theorem sgv_any (nd : Int) (A : Option Addr) (cp : Nat) (ls : List Lk) (w : World) (hlen : ls.length ≤ 9223372036854775806) (hr : RdL w w.heap.size A ls) :
    Calls Try.prog 19 #[.agg #[.int .i64 nd, .slice A ls.length cp]] w fun e w' => e = .returned (.bool (bl (Valid nd ls))) ∧ Below w.heap.size w w' := by
  go_enter Try.func19, Try.ntmps19
  go_wp2_with fail
  go_loopw [3] (fun i wr => ∃ k : Nat, k ≤ ls.length ∧ i = .int .i64 k ∧ (1 ≤ nd → nd ≤ 8 → ValidTo nd ls k) ∧ Below w.heap.size w wr ∧ wr.cell? ⟨w.heap.size, 0, none⟩ = some (.int .i64 nd) ∧ wr.cell? ⟨w.heap.size, 1, none⟩ = some (.slice A ls.length cp) ∧ w.heap.size < wr.heap.size) (fun i _ => ls.length - (intOf i).toNat)
  case atStart =>
    exact ⟨0, Nat.zero_le _, rfl, fun _ _ => ValidTo.zero _ _, (Below.refl _ _).alloc (Nat.le_refl _) _, by simp, by simp, by simp⟩
  case round =>
    obtain ⟨k, hk, rfl, hval0, hb, hc0, hc1, hs⟩ := hrel
    have hval := Lib.hid hval0; clear hval0
    by_cases hlt : k < ls.length
    · obtain ⟨ad, o, hA, hbk, hc⟩ := hr (by omega)
      obtain ⟨c1, c2, c3⟩ := hc k hlt
      obtain rfl := hA
      have c1' := (hb.cell (by exact hbk)).trans c1
      have c2' := (hb.cell (by exact hbk)).trans c2
      have c3' := (hb.cell (by exact hbk)).trans c3
      have hbk' : ad < wr.heap.size := by omega
      have HP : Hid (1 ≤ k → wr.cell? ⟨ad, o + (k - 1) * 3, none⟩ = some (.int .i64 (La ls (k - 1))) ∧ wr.cell? ⟨ad, o + (k - 1) * 3 + 1, none⟩ = some (.int .i64 (Lb ls (k - 1)))) := fun hk0 => by
        obtain ⟨p1, p2, _⟩ := hc (k - 1) (by omega)
        exact ⟨(hb.cell (by exact hbk)).trans p1, (hb.cell (by exact hbk)).trans p2⟩
      have HNO : Hid (¬ (1 ≤ nd ∧ nd ≤ 8 ∧ LkOk nd ls k) → ¬ Valid nd ls) := fun h hv => h ⟨hv.1, hv.2.1, hv.ok hlt⟩
      have HLT : Hid (1 ≤ k → ¬ LkLt ls (k - 1) k → ¬ Valid nd ls) := fun h0 h hv => h (hv.lt (by omega) hlt)
      clear c1 c2 c3 hc
      by_cases a1 : La ls k < 0 ∨ wrap64 (nd - 1) < La ls k
      · go_wp2_with (go_at_call 26; refine (l6In_no a1 _).mono ?_; rintro e w' ⟨rfl, rfl⟩)
        go_ret
        exact ⟨rb_false (HNO.out (fun h => by have h1 := h.1; have h2 := h.2.1; have h3 := h.2.2; unfold LkOk at h3; rw [wr_in (by omega) (by omega)] at a1; omega)), hb.alloc (by omega) _⟩
      have a1a : 0 ≤ La ls k := by omega
      have a1b : La ls k ≤ wrap64 (nd - 1) := by omega
      by_cases a2 : Lb ls k < wrap64 (La ls k + 1) ∨ wrap64 (nd - 1) < Lb ls k
      · go_wp2_with (go_at_call 26; first | ((with_reducible refine (l6In_yes a1a a1b _).mono ?_); rintro e w' ⟨rfl, rfl⟩) | ((with_reducible refine (l6In_no a2 _).mono ?_); rintro e w' ⟨rfl, rfl⟩))
        go_ret
        exact ⟨rb_false (HNO.out (fun h => by have h1 := h.1; have h2 := h.2.1; have h3 := h.2.2; unfold LkOk at h3; rw [wr_in (by omega) (by omega), wr_in (by omega) (by omega)] at a2; omega)), hb.alloc (by omega) _⟩
      have a2a : wrap64 (La ls k + 1) ≤ Lb ls k := by omega
      have a2b : Lb ls k ≤ wrap64 (nd - 1) := by omega
      by_cases a4 : Lc ls k < 1 ∨ 20 < Lc ls k
      · go_wp2_with (go_at_call 26; first | ((with_reducible refine (l6In_yes a1a a1b _).mono ?_); rintro e w' ⟨rfl, rfl⟩) | ((with_reducible refine (l6In_yes a2a a2b _).mono ?_); rintro e w' ⟨rfl, rfl⟩) | ((with_reducible refine (l6In_no a4 _).mono ?_); rintro e w' ⟨rfl, rfl⟩))
        go_ret
        exact ⟨rb_false (HNO.out (fun h => by have h3 := h.2.2; unfold LkOk at h3; omega)), hb.alloc (by omega) _⟩
      have a5 : 1 ≤ Lc ls k := by omega
      have a6 : Lc ls k ≤ 20 := by omega
      have hok : Hid (1 ≤ nd → nd ≤ 8 → LkOk nd ls k) := fun h1 h2 => by
        rw [wr_in (by omega) (by omega)] at a1b a2b
        rw [wr_in (by omega) (by omega)] at a2a
        exact ⟨by omega, by omega, by omega, by omega, by omega⟩
      have hrel' : Hid ((1 ≤ k → LkLt ls (k - 1) k) → (1 ≤ nd → nd ≤ 8 → ValidTo nd ls (k + 1))) := fun h h1 h2 => (hval.out h1 h2).succ (hok.out h1 h2) h
      clear a4 HNO hval hok
      go_wp2_with (go_at_call 26; first | ((with_reducible refine (l6In_yes a1a a1b _).mono ?_); rintro e w' ⟨rfl, rfl⟩) | ((with_reducible refine (l6In_yes a2a a2b _).mono ?_); rintro e w' ⟨rfl, rfl⟩) | ((with_reducible refine (l6In_yes a5 a6 _).mono ?_); rintro e w' ⟨rfl, rfl⟩))
      by_cases k0 : k < 1
      · have kk : decide (0 < k) = false := by simp; omega
        go_quiet (fail)
        go_wp2_with fail
        go_roundw
        case rel => exact ⟨k + 1, by omega, by go_num, hrel'.out (by omega), bdN (hb.alloc (by omega) _) _, ckeep hc0 (bnewN _ _ _), ckeep hc1 (bnewN _ _ _), Nat.lt_of_lt_of_le hs (bnewN _ _ _).size⟩
        case measure => simp [intOf]; omega
      have kk : decide (0 < k) = true := by simp; omega
      obtain ⟨p1, p2⟩ := HP.out (by omega)
      have q3 : (1 : Int) ≤ (k : Int) := by omega
      have q4 : ((k : Int) - 1) < (ls.length : Int) := by omega
      have q5 : IntKind.i64.wrap ((k : Int) - 1) = (k : Int) - 1 := IntWalk.i64_in _ (by omega)
      have q6 : k - 1 < ls.length := by omega
      by_cases b1 : La ls k < La ls (k - 1)
      · have t1 : decide (La ls k < La ls (k - 1)) = true := by simpa using b1
        go_quiet (fail)
        go_wp2_with fail
        go_ret
        exact ⟨rb_false (HLT.out (by omega) (fun h => by unfold LkLt at h; omega)), bdN (hb.alloc (by omega) _) _⟩
      have t1 : decide (La ls k < La ls (k - 1)) = false := by simpa using b1
      by_cases b2 : La ls (k - 1) < La ls k
      · have t2 : (La ls (k - 1) == La ls k) = false := by simp; omega
        go_quiet (fail)
        go_wp2_with fail
        go_roundw
        case rel => exact ⟨k + 1, by omega, by go_num, hrel'.out (fun _ => .inl b2), bdN (hb.alloc (by omega) _) _, ckeep hc0 (bnewN _ _ _), ckeep hc1 (bnewN _ _ _), Nat.lt_of_lt_of_le hs (bnewN _ _ _).size⟩
        case measure => simp [intOf]; omega
      have t2 : (La ls (k - 1) == La ls k) = true := by simp; omega
      by_cases b3 : Lb ls k ≤ Lb ls (k - 1)
      · have t3 : decide (Lb ls k ≤ Lb ls (k - 1)) = true := by simpa using b3
        go_quiet (fail)
        go_wp2_with fail
        go_ret
        exact ⟨rb_false (HLT.out (by omega) (fun h => by unfold LkLt at h; omega)), bdN (hb.alloc (by omega) _) _⟩
      have t3 : decide (Lb ls k ≤ Lb ls (k - 1)) = false := by simpa using b3
      go_quiet (fail)
      go_wp2_with fail
      go_roundw
      case rel => exact ⟨k + 1, by omega, by go_num, hrel'.out (fun _ => .inr ⟨by omega, by omega⟩), bdN (hb.alloc (by omega) _) _, ckeep hc0 (bnewN _ _ _), ckeep hc1 (bnewN _ _ _), Nat.lt_of_lt_of_le hs (bnewN _ _ _).size⟩
      case measure => simp [intOf]; omega
    · have hk' : k = ls.length := by omega
      have HV : Hid (1 ≤ nd → nd ≤ 8 → ls.length ≤ 14 → Valid nd ls) := fun h1 h8 h14 => ⟨h1, h8, h14, hk' ▸ hval.out h1 h8⟩
      clear hk'
      by_cases n1 : nd < 1 ∨ 8 < nd
      · go_wp2_with (go_at_call 26; refine (l6In_no n1 _).mono ?_; rintro e w' ⟨rfl, rfl⟩)
        go_ret
        exact ⟨rb_false (fun h => by have := h.1; have := h.2.1; omega), hb⟩
      have n2 : 1 ≤ nd := by omega
      have n3 : nd ≤ 8 := by omega
      by_cases n4 : ls.length ≤ 14
      · go_wp2_with (go_at_call 26; refine (l6In_yes n2 n3 _).mono ?_; rintro e w' ⟨rfl, rfl⟩)
        go_ret
        exact ⟨(ret_bool (by simp; omega)).trans (rb_true (HV.out n2 n3 n4)), hb⟩
      · go_wp2_with (go_at_call 26; refine (l6In_yes n2 n3 _).mono ?_; rintro e w' ⟨rfl, rfl⟩)
        go_ret
        exact ⟨(ret_bool (by simp; omega)).trans (rb_false (fun h => by have := h.2.2.1; omega)), hb⟩

theorem sgv_yes {nd : Int} {ls : List Lk} (hv : Valid nd ls) (A : Option Addr) (cp : Nat) (w : World) (hr : RdL w w.heap.size A ls) :
    Calls Try.prog 19 #[.agg #[.int .i64 nd, .slice A ls.length cp]] w fun e w' => e = .returned (.bool true) ∧ Below w.heap.size w w' :=
  (sgv_any nd A cp ls w (by have := hv.2.2.1; omega) hr).mono fun _ _ ⟨he, hw⟩ => ⟨he.trans (rb_true hv).symm, hw⟩
theorem sgv_no {nd : Int} {ls : List Lk} (hv : ¬ Valid nd ls) (A : Option Addr) (cp : Nat) (w : World) (hlen : ls.length ≤ 9223372036854775806) (hr : RdL w w.heap.size A ls) :
    Calls Try.prog 19 #[.agg #[.int .i64 nd, .slice A ls.length cp]] w fun e w' => e = .returned (.bool false) ∧ Below w.heap.size w w' :=
  (sgv_any nd A cp ls w hlen hr).mono fun _ _ ⟨he, hw⟩ => ⟨he.trans (rb_false hv).symm, hw⟩

end Go.Proofs.Ytnmmacfchmmkkaa
