/-
  The walks of the shortest path: shortestPath, l2Path, both ShortestPath.
-/
import Derived.Test.YtnndnpckkcgfiaaFC
import Derived.Test.YtnndnpckkcgfiaaPI
namespace Go.Proofs.Ytnndnpckkcgfiaa
open Go.RowKit
set_option maxRecDepth 100000

/-- the path, if there is one -/
noncomputable def pathP (nd : Int) (ls : List Lk) (f t : Int) : List Int := if 0 ≤ D nd ls t f then path nd ls f t else []
theorem pathP_yes {nd : Int} {ls : List Lk} {f t : Int} (h : 0 ≤ D nd ls t f) : pathP nd ls f t = path nd ls f t := by unfold pathP; rw [if_pos h]
theorem pathP_no {nd : Int} {ls : List Lk} {f t : Int} (h : ¬ 0 ≤ D nd ls t f) : pathP nd ls f t = [] := by unfold pathP; rw [if_neg h]
/-- what ShortestPath lists -/
noncomputable def pathO (nd : Int) (ls : List Lk) (f t : Int) : List Int := if bl (Valid nd ls ∧ Nd nd f ∧ Nd nd t) then pathP nd ls f t else []
theorem pathO_yes {nd : Int} {ls : List Lk} {f t : Int} (h : Valid nd ls ∧ Nd nd f ∧ Nd nd t) : pathO nd ls f t = pathP nd ls f t := by unfold pathO; rw [bl_true h, if_pos rfl]
theorem pathO_no {nd : Int} {ls : List Lk} {f t : Int} (h : ¬ (Valid nd ls ∧ Nd nd f ∧ Nd nd t)) : pathO nd ls f t = [] := by unfold pathO; rw [bl_false h]; rfl
theorem pathO_len (nd : Int) (ls : List Lk) (f t : Int) : (pathO nd ls f t).length ≤ 4481 := by
  by_cases h : Valid nd ls ∧ Nd nd f ∧ Nd nd t
  · rw [pathO_yes h]
    by_cases hd : 0 ≤ D nd ls t f
    · rw [pathP_yes hd]
      have h1 := path_len h.1 h.2.2 f h.2.1 hd
      have h2 := D_bd h.1 t f
      omega
    · rw [pathP_no hd]; simp
  · rw [pathO_no h]; simp
/-- a list of one, new -/
theorem oneI (w : World) (o : Obj) (x : Int) : OwI ((w.alloc o).alloc (.cells #[.int .i64 x] 3)) w.heap.size (some ⟨w.heap.size + 1, 0, none⟩) 1 [x] := by
  have h := Blk.new (w.alloc o) #[.int .i64 x] 3
  rw [show (w.alloc o).heap.size = w.heap.size + 1 from by simp] at h
  exact h.own (size := 1) (n := 1) rfl (by omega) (by omega)

set_option maxHeartbeats 4000000 in
theorem shortestPath_any {nd : Int} {ls : List Lk} (hv : Valid nd ls) {f t : Int} (hf : Nd nd f) (ht : Nd nd t) (A : Option Addr) (cp : Nat) (w : World) (hr : RdL w w.heap.size A ls) :
    Calls Try.prog 63 #[.agg #[.int .i64 nd, .slice A ls.length cp], .int .i64 f, .int .i64 t] w (RI (pathP nd ls f t) w) := by
  have h14 := hv.2.2.1
  have hn8 := hv.2.1
  have hn1 := hv.1
  have S := BG.start (nd := nd) (cp := cp) hr
  have BX0 := Blk.new w #[.int .i64 nd, .slice A ls.length cp] 25
  have HD := Lib.hid (dist_any hv ht A cp _ S.rd)
  have HL := Lib.hid (length_dists nd ls t)
  obtain ⟨f', rfl⟩ := Int.eq_ofNat_of_zero_le hf.1
  have hfn := hf.2
  have j0 : (0 : Int) ≤ (f' : Int) := by omega
  by_cases hd : 0 ≤ D nd ls t f'
  · rw [pathP_yes hd]
    have td : decide (D nd ls t f' < 0) = false := by rw [decide_eq_false_iff_not]; omega
    have HW0 : Hid (PWay nd ls f' t [(f' : Int)] f') := PWay.start hf hd
    have HW : Hid (∀ out c, PWay nd ls f' t out c → c ≠ t → PWay nd ls f' t (out ++ [Ix (hops nd ls c t) 0]) (Ix (hops nd ls c t) 0) ∧ 0 < (hops nd ls c t).length ∧ 0 ≤ D nd ls t (Ix (hops nd ls c t) 0) ∧ D nd ls t (Ix (hops nd ls c t) 0) < D nd ls t c) := fun out c h hne => by
      have h1 := PWay.step hv ht h hne
      obtain ⟨pre, e1, e2, hc, h0⟩ := h
      have hh := hop_facts hv (hop1_mem hv hc ht hne h0)
      exact ⟨h1, hops_some hv hc ht hne h0, hh.2.2.2.1, hh.2.2.2.2⟩
    have HLn : Hid (∀ out c, PWay nd ls f' t out c → out.length ≤ 4481) := fun out c h => PWay.len hv hf ht hd h
    have HF : Hid (∀ out, PWay nd ls f' t out t → out = path nd ls f' t) := fun out h => PWay.fin hv ht h
    have HN : Hid (∀ out c, PWay nd ls f' t out c → ∀ wr, RdL wr wr.heap.size A ls → Calls Try.prog 62 #[.agg #[.int .i64 nd, .slice A ls.length cp], .int .i64 c, .int .i64 t] wr (RI (hops nd ls c t) wr)) := fun out c h wr hr => by
      obtain ⟨pre, e1, e2, hc, h0⟩ := h
      exact nextHops_any hv hc ht A cp wr hr
    obtain ⟨i0, hi, hz0, hz1, hz2⟩ := info_parts Try.infoIn
    clear hv hf hd
    generalize path nd ls f' t = P at *
    go_enter Try.func63, Try.ntmps63
    go_wp2_with fail
    refine HD.out.mono ?_
    rintro e w1 ⟨⟨DA, dc, rfl, oD⟩, hb1⟩
    have BX1 := BX0.keep hb1
    have BB1 := bthen S.bl hb1
    obtain ⟨dg, dof, hA1, hg1, hc1⟩ := oD.rd (by rw [HL.out]; omega)
    obtain rfl := hA1
    have m1 := hc1 f' (by rw [HL.out]; omega)
    rw [Ix_D] at m1
    have j1 : (f' : Int) < ((dists nd ls t).length : Int) := by rw [HL.out]; omega
    have T : UT w (w1.alloc (.cells #[.int .i64 f'] 3)) nd A cp ls (some ⟨w1.heap.size, 0, none⟩) 1 [(f' : Int)] none [] :=
      ⟨(Blk.new w1 #[.int .i64 f'] 3).own (size := 1) (n := 1) rfl (by omega) BB1.size, fun h => by simp at h, BX1.keep (bnew _ _), bthen BB1 (bnew _ _)⟩
    clear hc1 oD S BX0 BX1 BB1 hb1 HD
    go_wp2_with fail
    clear m1 td j1
    go_loopw [1, 7] (fun v o wr => ∃ (c : Int) (out : List Int) (B : Option Addr) (cq : Nat), v = .int .i64 c ∧ o = .slice B out.length cq ∧ Hid (PWay nd ls f' t out c) ∧ UT w wr nd A cp ls B cq out none []) (fun v _ _ => (D nd ls t (intOf v)).toNat)
    case atStart => exact ⟨f', [(f' : Int)], _, _, rfl, rfl, HW0, T⟩
    case round =>
      obtain ⟨c, out, B, cq, rfl, rfl, HP, T1⟩ := hrel
      clear T
      have hol := HLn.out out c HP.out
      by_cases hct : c = t
      · subst hct
        have tt : (c != c) = false := by simp
        have HE := Lib.hid (HF.out out HP.out)
        go_wp2_with fail
        go_ret
        exact ⟨⟨B, cq, by rw [← HE.out]; rfl, by rw [← HE.out]; exact T1.ho⟩, T1.bl⟩
      · have tt : (c != t) = true := by simpa using hct
        obtain ⟨hp1, hp2, hp3, hp4⟩ := HW.out out c HP.out hct
        have HP1 := Lib.hid hp1
        have HNc := Lib.hid (HN.out out c HP.out)
        have c0 : wr.cell? ⟨w.heap.size, 0, none⟩ = some (.int .i64 nd) := T1.bx.cellAt 0
        have c1 : wr.cell? ⟨w.heap.size, 1, none⟩ = some (.slice A ls.length cp) := T1.bx.cellAt 1
        clear hp1 hct
        generalize hops nd ls c t = H at *
        go_wp2_with fail
        refine (HNc.out _ ((hr.keep T1.bl).more T1.bl.size)).mono ?_
        rintro e w2 ⟨⟨E, ce, rfl, oE⟩, hb2⟩
        have T2 := T1.on hb2
        obtain ⟨eg, eo, hE, heg, hec⟩ := oE.rd hp2
        obtain rfl := hE
        have m2 := hec 0 hp2
        rw [Nat.add_zero] at m2
        have h0n : (0 : Int) < (H.length : Int) := by omega
        clear hec oE hb2 T1 c0 c1
        generalize Ix H 0 = z at *
        go_wp2_with (at_builtin; refine wpList_appJ _ rfl (.tmp 26) (.tmp 28) 36 rfl i0 Try.underlying36 hi hz0 hz1 hz2 rfl rfl (T2.ho.keep (bnew _ _)) z rfl (by go_simp) (by omega) (by have := T2.bl.size; simp; omega) ?_; intro A5 cp5 n5 w5 HN5 O5 G5 hat5)
        have T5 := (T2.on (bnew w2 (.cells #[.int .i64 z] 3))).app O5 G5 hat5
        go_roundw
        case rel => exact ⟨z, out ++ [z], A5, cp5, rfl, by rw [HN5.out], HP1, T5⟩
        case measure => simp [intOf]; omega
  · rw [pathP_no hd]
    have td : decide (D nd ls t f' < 0) = true := by rw [decide_eq_true_eq]; omega
    clear hd
    go_enter Try.func63, Try.ntmps63
    go_wp2_with fail
    refine HD.out.mono ?_
    rintro e w1 ⟨⟨DA, dc, rfl, oD⟩, hb1⟩
    have BB1 := bthen S.bl hb1
    obtain ⟨dg, dof, hA1, hg1, hc1⟩ := oD.rd (by rw [HL.out]; omega)
    obtain rfl := hA1
    have m1 := hc1 f' (by rw [HL.out]; omega)
    rw [Ix_D] at m1
    have j1 : (f' : Int) < ((dists nd ls t).length : Int) := by rw [HL.out]; omega
    clear hc1 oD
    go_wp2_with fail
    go_ret
    exact RI.nil_ BB1

set_option maxHeartbeats 4000000 in
theorem l2Path_any {nd : Int} {ls : List Lk} (hv : Valid nd ls) {f t : Int} (hf : Nd nd f) (ht : Nd nd t) (A : Option Addr) (cp : Nat) (w : World) (hr : RdL w w.heap.size A ls) :
    Calls Try.prog 64 #[.agg #[.int .i64 nd, .slice A ls.length cp], .int .i64 f, .int .i64 t] w (RI (pathP nd ls f t) w) := by
  have h14 := hv.2.2.1
  have T : UT w ((w.alloc (.cells #[.int .i64 nd, .slice A ls.length cp] 25)).alloc (.cells #[.int .i64 f] 3)) nd A cp ls (some ⟨w.heap.size + 1, 0, none⟩) 1 [f] none [] := ⟨oneI w _ f, fun h => by simp at h, (Blk.new w #[.int .i64 nd, .slice A ls.length cp] 25).keep (bnew _ _), b2 _ _ _⟩
  by_cases hd : 0 ≤ D nd ls t f
  · rw [pathP_yes hd]
    have HW0 : Hid (PWay nd ls f t [f] f) := PWay.start hf hd
    have HW : Hid (∀ out c, PWay nd ls f t out c → c ≠ t → PWay nd ls f t (out ++ [Ix (hops nd ls c t) 0]) (Ix (hops nd ls c t) 0) ∧ 0 < (hops nd ls c t).length ∧ 0 ≤ D nd ls t (Ix (hops nd ls c t) 0) ∧ D nd ls t (Ix (hops nd ls c t) 0) < D nd ls t c) := fun out c h hne => by
      have h1 := PWay.step hv ht h hne
      obtain ⟨pre, e1, e2, hc, h0⟩ := h
      have hh := hop_facts hv (hop1_mem hv hc ht hne h0)
      exact ⟨h1, hops_some hv hc ht hne h0, hh.2.2.2.1, hh.2.2.2.2⟩
    have HLn : Hid (∀ out c, PWay nd ls f t out c → out.length ≤ 4481) := fun out c h => PWay.len hv hf ht hd h
    have HF : Hid (∀ out, PWay nd ls f t out t → out = path nd ls f t) := fun out h => PWay.fin hv ht h
    have HN : Hid (∀ out c, PWay nd ls f t out c → ∀ wr, RdL wr wr.heap.size A ls → Calls Try.prog 66 #[.agg #[.int .i64 nd, .slice A ls.length cp], .int .i64 c, .int .i64 t] wr (RI (hops nd ls c t) wr)) := fun out c h wr hr => by
      obtain ⟨pre, e1, e2, hc, h0⟩ := h
      exact l2Hops_any hv hc ht A cp wr hr
    obtain ⟨i0, hi, hz0, hz1, hz2⟩ := info_parts Try.infoIn
    clear hv hf hd
    generalize path nd ls f t = P at *
    go_enter Try.func64, Try.ntmps64
    go_wp2_with fail
    go_loopw [1, 7] (fun v o wr => ∃ (c : Int) (out : List Int) (B : Option Addr) (cq : Nat), v = .int .i64 c ∧ o = .slice B out.length cq ∧ Hid (PWay nd ls f t out c) ∧ UT w wr nd A cp ls B cq out none []) (fun v _ _ => (D nd ls t (intOf v)).toNat)
    case atStart => exact ⟨f, [f], _, _, rfl, rfl, HW0, T⟩
    case round =>
      obtain ⟨c, out, B, cq, rfl, rfl, HP, T1⟩ := hrel
      clear T
      have hol := HLn.out out c HP.out
      by_cases hct : c = t
      · subst hct
        have tt : (c != c) = false := by simp
        have HE := Lib.hid (HF.out out HP.out)
        go_wp2_with fail
        go_ret
        exact ⟨⟨B, cq, by rw [← HE.out]; rfl, by rw [← HE.out]; exact T1.ho⟩, T1.bl⟩
      · have tt : (c != t) = true := by simpa using hct
        obtain ⟨hp1, hp2, hp3, hp4⟩ := HW.out out c HP.out hct
        have HP1 := Lib.hid hp1
        have HNc := Lib.hid (HN.out out c HP.out)
        have c0 : wr.cell? ⟨w.heap.size, 0, none⟩ = some (.int .i64 nd) := T1.bx.cellAt 0
        have c1 : wr.cell? ⟨w.heap.size, 1, none⟩ = some (.slice A ls.length cp) := T1.bx.cellAt 1
        clear hp1 hct
        generalize hops nd ls c t = H at *
        have ne0 : ((H.length : Int) == 0) = false := by rw [beq_eq_false_iff_ne]; omega
        go_wp2_with fail
        refine (HNc.out _ ((hr.keep T1.bl).more T1.bl.size)).mono ?_
        rintro e w2 ⟨⟨E, ce, rfl, oE⟩, hb2⟩
        have T2 := T1.on hb2
        obtain ⟨eg, eo, hE, heg, hec⟩ := oE.rd hp2
        obtain rfl := hE
        have m2 := hec 0 hp2
        rw [Nat.add_zero] at m2
        have h0n : (0 : Int) < (H.length : Int) := by omega
        clear hec oE hb2 T1 c0 c1
        generalize Ix H 0 = z at *
        go_wp2_with (at_builtin; refine wpList_appJ _ rfl (.tmp 25) (.tmp 27) 36 rfl i0 Try.underlying36 hi hz0 hz1 hz2 rfl rfl (T2.ho.keep (bnew _ _)) z rfl (by go_simp) (by omega) (by have := T2.bl.size; simp; omega) ?_; intro A5 cp5 n5 w5 HN5 O5 G5 hat5)
        have T5 := (T2.on (bnew w2 (.cells #[.int .i64 z] 3))).app O5 G5 hat5
        go_roundw
        case rel => exact ⟨z, out ++ [z], A5, cp5, rfl, by rw [HN5.out], HP1, T5⟩
        case measure => simp [intOf]; omega
  · rw [pathP_no hd]
    have hne : f ≠ t := fun e => by rw [e, D_self hv ht] at hd; omega
    have tt : (f != t) = true := by simpa using hne
    have HN := Lib.hid (fun wr hr => l2Hops_any hv hf ht A cp wr hr)
    have HE : Hid (hops nd ls f t = []) := hops_far hv (by omega)
    clear hne hd
    go_enter Try.func64, Try.ntmps64
    go_wp2_with fail
    go_loopw [1, 7] (fun v o wr => v = .int .i64 f ∧ o = .slice (some ⟨w.heap.size + 1, 0, none⟩) 1 1 ∧ UT w wr nd A cp ls (some ⟨w.heap.size + 1, 0, none⟩) 1 [f] none []) (fun _ _ _ => 0)
    case atStart => exact ⟨rfl, rfl, T⟩
    case round =>
      obtain ⟨rfl, rfl, T1⟩ := hrel
      have c0 : wr.cell? ⟨w.heap.size, 0, none⟩ = some (.int .i64 nd) := T1.bx.cellAt 0
      have c1 : wr.cell? ⟨w.heap.size, 1, none⟩ = some (.slice A ls.length cp) := T1.bx.cellAt 1
      go_wp2_with fail
      have HNc := HN.out _ ((hr.keep T1.bl).more T1.bl.size)
      rw [HE.out] at HNc
      refine HNc.mono ?_
      rintro e w2 ⟨⟨E, ce, rfl, oE⟩, hb2⟩
      have B2 := bthen T1.bl hb2
      clear HNc
      go_wp2_with fail
      go_ret
      exact own_emptyI B2

set_option maxHeartbeats 1000000 in
theorem gPath_any (nd : Int) (A : Option Addr) (cp : Nat) (ls : List Lk) (f t : Int) (w : World) (hlen : ls.length ≤ 9223372036854775806) (hr : RdL w w.heap.size A ls) :
    Calls Try.prog 26 #[.agg #[.int .i64 nd, .slice A ls.length cp], .int .i64 f, .int .i64 t] w (RI (pathO nd ls f t) w) := by
  have S := BG.start (nd := nd) (cp := cp) hr
  by_cases hf : Valid nd ls ∧ Nd nd f
  · by_cases ht : Nd nd t
    · rw [pathO_yes ⟨hf.1, hf.2, ht⟩]
      go_enter Try.func26, Try.ntmps26
      go_wp2_with fail
      refine (hasNode_yes hf.1 hf.2 A cp _ S.rd).mono ?_
      rintro e w1 ⟨rfl, hb1⟩
      have S1 := S.on hb1
      have c0 := S1.c0
      have c1 := S1.c1
      clear S hb1
      go_wp2_with fail
      refine (hasNode_yes hf.1 ht A cp _ S1.rd).mono ?_
      rintro e w2 ⟨rfl, hb2⟩
      have S2 := S1.on hb2
      clear c0 c1 S1 hb2
      have c0 := S2.c0
      have c1 := S2.c1
      go_wp2_with fail
      refine (shortestPath_any hf.1 hf.2 ht A cp _ S2.rd).mono ?_
      intro e w3 h3
      obtain ⟨⟨B, cq, rfl, ho⟩, hb3⟩ := h3.of S2.bl
      go_wp2_with fail
      go_ret
      exact ⟨⟨B, cq, rfl, ho⟩, hb3⟩
    · rw [pathO_no (fun h => ht h.2.2)]
      go_enter Try.func26, Try.ntmps26
      go_wp2_with fail
      refine (hasNode_yes hf.1 hf.2 A cp _ S.rd).mono ?_
      rintro e w1 ⟨rfl, hb1⟩
      have S1 := S.on hb1
      have c0 := S1.c0
      have c1 := S1.c1
      clear S hb1
      go_wp2_with fail
      refine (hasNode_no (fun h => ht h.2) A cp _ hlen S1.rd).mono ?_
      rintro e w2 ⟨rfl, hb2⟩
      have B2 := bthen S1.bl hb2
      go_wp2_with fail
      go_ret
      exact RI.nil_ B2
  · rw [pathO_no (fun h => hf ⟨h.1, h.2.1⟩)]
    go_enter Try.func26, Try.ntmps26
    go_wp2_with fail
    refine (hasNode_no hf A cp _ hlen S.rd).mono ?_
    rintro e w1 ⟨rfl, hb1⟩
    have B1 := bthen S.bl hb1
    go_wp2_with fail
    go_ret
    exact RI.nil_ B1

set_option maxHeartbeats 1000000 in
theorem sgPath_any (nd : Int) (A : Option Addr) (cp : Nat) (ls : List Lk) (f t : Int) (w : World) (hlen : ls.length ≤ 9223372036854775806) (hr : RdL w w.heap.size A ls) :
    Calls Try.prog 27 #[.agg #[.int .i64 nd, .slice A ls.length cp], .int .i64 f, .int .i64 t] w (RI (pathO nd ls f t) w) := by
  have S := BG.start (nd := nd) (cp := cp) hr
  by_cases h : Valid nd ls ∧ Nd nd f ∧ Nd nd t
  · rw [pathO_yes h]
    go_enter Try.func27, Try.ntmps27
    go_wp2_with fail
    refine (l2Two_yes h.1 h.2.1 h.2.2 A cp _ S.rd).mono ?_
    rintro e w1 ⟨rfl, hb1⟩
    have S1 := S.on hb1
    have c0 := S1.c0
    have c1 := S1.c1
    clear S hb1
    go_wp2_with fail
    refine (l2Path_any h.1 h.2.1 h.2.2 A cp _ S1.rd).mono ?_
    intro e w3 h3
    obtain ⟨⟨B, cq, rfl, ho⟩, hb3⟩ := h3.of S1.bl
    go_wp2_with fail
    go_ret
    exact ⟨⟨B, cq, rfl, ho⟩, hb3⟩
  · rw [pathO_no h]
    go_enter Try.func27, Try.ntmps27
    go_wp2_with fail
    refine (l2Two_no h A cp _ hlen S.rd).mono ?_
    rintro e w1 ⟨rfl, hb1⟩
    have B1 := bthen S.bl hb1
    go_wp2_with fail
    go_ret
    exact own_emptyI B1

end Go.Proofs.Ytnndnpckkcgfiaa
