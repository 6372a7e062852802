/-
  The walks of the number of shortest paths: pathCount, l2Count, both PathCount.
-/
import Derived.Test.YtnndnpckkcgfiaaFC
import Derived.Test.YtnndnpckkcgfiaaPJ
namespace Go.Proofs.Ytnndnpckkcgfiaa
open Go.RowKit
set_option maxRecDepth 100000

/-- what PathCount answers -/
noncomputable def cntO (nd : Int) (ls : List Lk) (f t : Int) : Int := if bl (Valid nd ls ∧ Nd nd f ∧ Nd nd t) then (cnt nd ls f t : Int) else -1
theorem cntO_yes {nd : Int} {ls : List Lk} {f t : Int} (h : Valid nd ls ∧ Nd nd f ∧ Nd nd t) : cntO nd ls f t = (cnt nd ls f t : Int) := by unfold cntO; rw [bl_true h, if_pos rfl]
theorem cntO_no {nd : Int} {ls : List Lk} {f t : Int} (h : ¬ (Valid nd ls ∧ Nd nd f ∧ Nd nd t)) : cntO nd ls f t = -1 := by unfold cntO; rw [bl_false h]; rfl

set_option maxHeartbeats 4000000 in
theorem pathCount_any {nd : Int} {ls : List Lk} (hv : Valid nd ls) {t : Int} (ht : Nd nd t) : ∀ (n : Nat) (f : Int), Nd nd f → D nd ls t f ≤ n → ∀ (A : Option Addr) (cp : Nat) (w : World), RdL w w.heap.size A ls →
    Calls Try.prog 59 #[.agg #[.int .i64 nd, .slice A ls.length cp], .int .i64 f, .int .i64 t] w fun e w' => e = .returned (.int .i64 (cnt nd ls f t : Nat)) ∧ Below w.heap.size w w' := by
  intro n
  induction n with
  | zero =>
    intro f hf hD A cp w hr
    by_cases hft : f = t
    · subst hft
      rw [cnt_self hv hf]
      have tt : (f == f) = true := by simp
      go_enter Try.func59, Try.ntmps59
      go_wp2_with fail
      go_ret
      exact ⟨rfl, bnew _ _⟩
    · have tt : (f == t) = false := by rw [beq_eq_false_iff_ne]; exact hft
      have S := BG.start (nd := nd) (cp := cp) hr
      have HN := Lib.hid (nextHops_any hv hf ht A cp _ S.rd)
      have HE : Hid (hops nd ls f t = []) := hops_zero hv (by omega)
      have HC : Hid ((cnt nd ls f t : Nat) = 0) := by
        show _ = _; rw [cnt_step hv hft, HE.out]; rfl
      clear hft
      go_enter Try.func59, Try.ntmps59
      go_wp2_with fail
      have HNc := HN.out
      rw [HE.out] at HNc
      refine HNc.mono ?_
      rintro e w2 ⟨⟨E, ce, rfl, oE⟩, hb2⟩
      have B2 := bthen S.bl hb2
      clear HNc
      go_wp2_with fail
      go_loopw [7, 18] (fun c i wr => c = .int .i64 0 ∧ i = .int .i64 0 ∧ Below w.heap.size w wr) (fun _ _ _ => 0)
      case atStart => exact ⟨rfl, rfl, B2⟩
      case round =>
        obtain ⟨rfl, rfl, B3⟩ := hrel
        go_wp2_with fail
        go_ret
        exact ⟨ret_int (by rw [HC.out]; rfl), B3⟩
  | succ n ih =>
    intro f hf hD A cp w hr
    by_cases hft : f = t
    · subst hft
      rw [cnt_self hv hf]
      have tt : (f == f) = true := by simp
      go_enter Try.func59, Try.ntmps59
      go_wp2_with fail
      go_ret
      exact ⟨rfl, bnew _ _⟩
    · have tt : (f == t) = false := by rw [beq_eq_false_iff_ne]; exact hft
      have S := BG.start (nd := nd) (cp := cp) hr
      have HN := Lib.hid (nextHops_any hv hf ht A cp _ S.rd)
      have HI : Hid (∀ k, k < (hops nd ls f t).length → ∀ wr, RdL wr wr.heap.size A ls → Calls Try.prog 59 #[.agg #[.int .i64 nd, .slice A ls.length cp], .int .i64 (Ix (hops nd ls f t) k), .int .i64 t] wr fun e w' => e = .returned (.int .i64 (cnt nd ls (Ix (hops nd ls f t) k) t : Nat)) ∧ Below wr.heap.size wr w') := fun k hk wr hw => by
        have hh := hop_facts hv (Ix_mem hk)
        exact ih _ hh.2.1 (by omega) A cp wr hw
      have HC : Hid (cntTo nd ls f t (hops nd ls f t).length = cnt nd ls f t) := (cnt_step hv hft).symm
      have HB : Hid (∀ k, k < (hops nd ls f t).length → cntTo nd ls f t k + cnt nd ls (Ix (hops nd ls f t) k) t ≤ 16777216) := fun k hk => by
        have h1 := cntTo_le hv hft (k := k + 1) (by omega)
        rw [cntTo_succ] at h1
        exact Nat.le_trans h1 (cnt_bd hv ht hf)
      have HH := Lib.hid (hops_le nd ls f t)
      have hn8 := hv.2.1
      have h14 := hv.2.2.1
      clear ih hft
      go_enter Try.func59, Try.ntmps59
      go_wp2_with fail
      refine HN.out.mono ?_
      rintro e w2 ⟨⟨E, ce, rfl, oE⟩, hb2⟩
      have S2 := S.on hb2
      have e2 := oE.rd
      clear S HN hb2 oE
      go_wp2_with fail
      go_loopw [7, 18] (fun c i wr => ∃ k : Nat, k ≤ (hops nd ls f t).length ∧ i = .int .i64 k ∧ c = .int .i64 (cntTo nd ls f t k : Nat) ∧ BG w wr nd A cp ls ∧ RdI wr wr.heap.size E (hops nd ls f t)) (fun _ i _ => (hops nd ls f t).length - (intOf i).toNat)
      case atStart => exact ⟨0, Nat.zero_le _, rfl, rfl, S2, e2⟩
      case round =>
        obtain ⟨k, hk, rfl, rfl, S3, e3⟩ := hrel
        clear S2 e2
        have c0 := S3.c0
        have c1 := S3.c1
        by_cases hlt : k < (hops nd ls f t).length
        · obtain ⟨eg, eo, hE, heg, hec⟩ := e3 (by omega)
          obtain rfl := hE
          have m1 := hec k hlt
          have hb := HB.out k hlt
          have HIk := Lib.hid (HI.out k hlt wr S3.rd)
          have HSc := Lib.hid (cntTo_succ nd ls f t k)
          have h8 := HH.out
          have q0 : (0 : Int) ≤ (k : Int) := by omega
          have q1 : (k : Int) < ((hops nd ls f t).length : Int) := by omega
          clear hec
          generalize Ix (hops nd ls f t) k = m at *
          generalize cnt nd ls m t = cm at *
          generalize cntTo nd ls f t k = ck at *
          go_wp2_with fail
          refine HIk.out.mono ?_
          rintro e w3 ⟨rfl, hb3⟩
          have S4 := S3.on hb3
          have e4 := e3.on hb3
          go_wp2_with fail
          go_roundw
          case rel => exact ⟨k + 1, by omega, by go_num, by rw [HSc.out]; go_num, S4, e4⟩
          case measure => simp [intOf]; omega
        · obtain rfl : k = (hops nd ls f t).length := by omega
          go_wp2_with fail
          go_ret
          exact ⟨ret_int (by rw [HC.out]), S3.bl⟩

set_option maxHeartbeats 4000000 in
theorem l2Count_any {nd : Int} {ls : List Lk} (hv : Valid nd ls) {t : Int} (ht : Nd nd t) : ∀ (n : Nat) (f : Int), Nd nd f → D nd ls t f ≤ n → ∀ (A : Option Addr) (cp : Nat) (w : World), RdL w w.heap.size A ls →
    Calls Try.prog 61 #[.agg #[.int .i64 nd, .slice A ls.length cp], .int .i64 f, .int .i64 t] w fun e w' => e = .returned (.int .i64 (cnt nd ls f t : Nat)) ∧ Below w.heap.size w w' := by
  intro n
  induction n with
  | zero =>
    intro f hf hD A cp w hr
    by_cases hft : f = t
    · subst hft
      rw [cnt_self hv hf]
      have tt : (f == f) = true := by simp
      go_enter Try.func61, Try.ntmps61
      go_wp2_with fail
      go_ret
      exact ⟨rfl, bnew _ _⟩
    · have tt : (f == t) = false := by rw [beq_eq_false_iff_ne]; exact hft
      have S := BG.start (nd := nd) (cp := cp) hr
      have HN := Lib.hid (l2Hops_any hv hf ht A cp _ S.rd)
      have HE : Hid (hops nd ls f t = []) := hops_zero hv (by omega)
      have HC : Hid ((cnt nd ls f t : Nat) = 0) := by
        show _ = _; rw [cnt_step hv hft, HE.out]; rfl
      clear hft
      go_enter Try.func61, Try.ntmps61
      go_wp2_with fail
      have HNc := HN.out
      rw [HE.out] at HNc
      refine HNc.mono ?_
      rintro e w2 ⟨⟨E, ce, rfl, oE⟩, hb2⟩
      have B2 := bthen S.bl hb2
      clear HNc
      go_wp2_with fail
      go_loopw [7, 9] (fun c i wr => c = .int .i64 0 ∧ i = .int .i64 0 ∧ Below w.heap.size w wr) (fun _ _ _ => 0)
      case atStart => exact ⟨rfl, rfl, B2⟩
      case round =>
        obtain ⟨rfl, rfl, B3⟩ := hrel
        go_wp2_with fail
        go_ret
        exact ⟨ret_int (by rw [HC.out]; rfl), B3⟩
  | succ n ih =>
    intro f hf hD A cp w hr
    by_cases hft : f = t
    · subst hft
      rw [cnt_self hv hf]
      have tt : (f == f) = true := by simp
      go_enter Try.func61, Try.ntmps61
      go_wp2_with fail
      go_ret
      exact ⟨rfl, bnew _ _⟩
    · have tt : (f == t) = false := by rw [beq_eq_false_iff_ne]; exact hft
      have S := BG.start (nd := nd) (cp := cp) hr
      have HN := Lib.hid (l2Hops_any hv hf ht A cp _ S.rd)
      have HI : Hid (∀ k, k < (hops nd ls f t).length → ∀ wr, RdL wr wr.heap.size A ls → Calls Try.prog 61 #[.agg #[.int .i64 nd, .slice A ls.length cp], .int .i64 (Ix (hops nd ls f t) k), .int .i64 t] wr fun e w' => e = .returned (.int .i64 (cnt nd ls (Ix (hops nd ls f t) k) t : Nat)) ∧ Below wr.heap.size wr w') := fun k hk wr hw => by
        have hh := hop_facts hv (Ix_mem hk)
        exact ih _ hh.2.1 (by omega) A cp wr hw
      have HC : Hid (cntTo nd ls f t (hops nd ls f t).length = cnt nd ls f t) := (cnt_step hv hft).symm
      have HB : Hid (∀ k, k < (hops nd ls f t).length → cntTo nd ls f t k + cnt nd ls (Ix (hops nd ls f t) k) t ≤ 16777216) := fun k hk => by
        have h1 := cntTo_le hv hft (k := k + 1) (by omega)
        rw [cntTo_succ] at h1
        exact Nat.le_trans h1 (cnt_bd hv ht hf)
      have HH := Lib.hid (hops_le nd ls f t)
      have hn8 := hv.2.1
      have h14 := hv.2.2.1
      clear ih hft
      go_enter Try.func61, Try.ntmps61
      go_wp2_with fail
      refine HN.out.mono ?_
      rintro e w2 ⟨⟨E, ce, rfl, oE⟩, hb2⟩
      have S2 := S.on hb2
      have e2 := oE.rd
      clear S HN hb2 oE
      go_wp2_with fail
      go_loopw [7, 9] (fun c i wr => ∃ k : Nat, k ≤ (hops nd ls f t).length ∧ i = .int .i64 k ∧ c = .int .i64 (cntTo nd ls f t k : Nat) ∧ BG w wr nd A cp ls ∧ RdI wr wr.heap.size E (hops nd ls f t)) (fun _ i _ => (hops nd ls f t).length - (intOf i).toNat)
      case atStart => exact ⟨0, Nat.zero_le _, rfl, rfl, S2, e2⟩
      case round =>
        obtain ⟨k, hk, rfl, rfl, S3, e3⟩ := hrel
        clear S2 e2
        have c0 := S3.c0
        have c1 := S3.c1
        by_cases hlt : k < (hops nd ls f t).length
        · obtain ⟨eg, eo, hE, heg, hec⟩ := e3 (by omega)
          obtain rfl := hE
          have m1 := hec k hlt
          have hb := HB.out k hlt
          have BD : Below wr.heap.size wr wr.drew := (Below.refl _ _).drew
          have HIk := Lib.hid (HI.out k hlt wr.drew (S3.on BD).rd)
          have HSc := Lib.hid (cntTo_succ nd ls f t k)
          have h8 := HH.out
          have q0 : (0 : Int) ≤ (k : Int) := by omega
          have q1 : (k : Int) < ((hops nd ls f t).length : Int) := by omega
          clear hec
          generalize Ix (hops nd ls f t) k = m at *
          generalize cnt nd ls m t = cm at *
          generalize cntTo nd ls f t k = ck at *
          have qs : IntKind.i64.wrap ((ck : Int) + (cm : Int)) = (ck : Int) + (cm : Int) := IntWalk.i64_in _ (by omega)
          go_wp2_with fail
          go_region_held3 (fun w' => w'.cell? ⟨w.heap.size, 0, none⟩ = some (.int .i64 nd) ∧ w'.cell? ⟨w.heap.size, 1, none⟩ = some (.slice A ls.length cp) ∧ w'.cell? ⟨eg, eo + k, none⟩ = some (.int .i64 m)) (go_keep)
            ((go_at_call 61; refine HIk.out.mono ?_; rintro e w3 ⟨rfl, hb3⟩; have BX := bthen BD hb3; have y0 := ckeep c0 BX; have y1 := ckeep c1 BX; have y2 := ckeep m1 BX))
          all_goals
            clear qs
            have S4 := S3.on BX
            have e4 := e3.on BX
            go_wp2_with fail
            go_roundw
            case rel => exact ⟨k + 1, by omega, by go_num, by rw [HSc.out]; go_num, S4, e4⟩
            case measure => simp [intOf]; omega
        · obtain rfl : k = (hops nd ls f t).length := by omega
          go_wp2_with fail
          go_ret
          exact ⟨ret_int (by rw [HC.out]), S3.bl⟩

set_option maxHeartbeats 1000000 in
theorem gCnt_any (nd : Int) (A : Option Addr) (cp : Nat) (ls : List Lk) (f t : Int) (w : World) (hlen : ls.length ≤ 9223372036854775806) (hr : RdL w w.heap.size A ls) :
    Calls Try.prog 21 #[.agg #[.int .i64 nd, .slice A ls.length cp], .int .i64 f, .int .i64 t] w fun e w' => e = .returned (.int .i64 (cntO nd ls f t)) ∧ Below w.heap.size w w' := by
  have S := BG.start (nd := nd) (cp := cp) hr
  by_cases hf : Valid nd ls ∧ Nd nd f
  · by_cases ht : Nd nd t
    · rw [cntO_yes ⟨hf.1, hf.2, ht⟩]
      go_enter Try.func21, Try.ntmps21
      go_wp2_with fail
      refine (hasNode_yes hf.1 hf.2 A cp _ S.rd).mono ?_
      rintro e w1 ⟨rfl, hb1⟩
      have S1 := S.on hb1
      have c0 := S1.c0
      have c1 := S1.c1
      clear S hb1
      go_wp2_with fail
      refine (hasNode_yes hf.1 ht A cp _ S1.rd).mono ?_
      rintro e w2 ⟨rfl, hb2⟩
      have S2 := S1.on hb2
      clear c0 c1 S1 hb2
      have c0 := S2.c0
      have c1 := S2.c1
      go_wp2_with fail
      refine (pathCount_any hf.1 ht (D nd ls t f).toNat f hf.2 (by omega) A cp _ S2.rd).mono ?_
      rintro e w3 ⟨rfl, hb3⟩
      go_wp2_with fail
      go_ret
      exact ⟨rfl, (S2.on hb3).bl⟩
    · rw [cntO_no (fun h => ht h.2.2)]
      go_enter Try.func21, Try.ntmps21
      go_wp2_with fail
      refine (hasNode_yes hf.1 hf.2 A cp _ S.rd).mono ?_
      rintro e w1 ⟨rfl, hb1⟩
      have S1 := S.on hb1
      have c0 := S1.c0
      have c1 := S1.c1
      clear S hb1
      go_wp2_with fail
      refine (hasNode_no (fun h => ht h.2) A cp _ hlen S1.rd).mono ?_
      rintro e w2 ⟨rfl, hb2⟩
      have B2 := bthen S1.bl hb2
      go_wp2_with fail
      go_ret
      exact ⟨rfl, B2⟩
  · rw [cntO_no (fun h => hf ⟨h.1, h.2.1⟩)]
    go_enter Try.func21, Try.ntmps21
    go_wp2_with fail
    refine (hasNode_no hf A cp _ hlen S.rd).mono ?_
    rintro e w1 ⟨rfl, hb1⟩
    have B1 := bthen S.bl hb1
    go_wp2_with fail
    go_ret
    exact ⟨rfl, B1⟩

set_option maxHeartbeats 1000000 in
theorem sgCnt_any (nd : Int) (A : Option Addr) (cp : Nat) (ls : List Lk) (f t : Int) (w : World) (hlen : ls.length ≤ 9223372036854775806) (hr : RdL w w.heap.size A ls) :
    Calls Try.prog 23 #[.agg #[.int .i64 nd, .slice A ls.length cp], .int .i64 f, .int .i64 t] w fun e w' => e = .returned (.int .i64 (cntO nd ls f t)) ∧ Below w.heap.size w w' := by
  have S := BG.start (nd := nd) (cp := cp) hr
  by_cases h : Valid nd ls ∧ Nd nd f ∧ Nd nd t
  · rw [cntO_yes h]
    go_enter Try.func23, Try.ntmps23
    go_wp2_with fail
    refine (l2Two_yes h.1 h.2.1 h.2.2 A cp _ S.rd).mono ?_
    rintro e w1 ⟨rfl, hb1⟩
    have S1 := S.on hb1
    have c0 := S1.c0
    have c1 := S1.c1
    clear S hb1
    go_wp2_with fail
    refine (l2Count_any h.1 h.2.2 (D nd ls t f).toNat f h.2.1 (by omega) A cp _ S1.rd).mono ?_
    rintro e w3 ⟨rfl, hb3⟩
    go_wp2_with fail
    go_ret
    exact ⟨rfl, (S1.on hb3).bl⟩
  · rw [cntO_no h]
    go_enter Try.func23, Try.ntmps23
    go_wp2_with fail
    refine (l2Two_no h A cp _ hlen S.rd).mono ?_
    rintro e w1 ⟨rfl, hb1⟩
    have B1 := bthen S.bl hb1
    go_wp2_with fail
    go_ret
    exact ⟨rfl, B1⟩

end Go.Proofs.Ytnndnpckkcgfiaa
