/-
  The walks of both DistancesAfter, of both Affected, of ascending.
-/
import Derived.Test.YtkcapoobbnmdaaaEB
import Derived.Test.YtkcapoobbnmdaaaDM
import Derived.Test.YtkcapoobbnmdaaaPF
namespace Go.Proofs.Ytkcapoobbnmdaaa
open Go.RowKit
set_option maxRecDepth 100000

/-- what DistancesAfter lists -/
noncomputable def afterO (nd : Int) (ls : List Lk) (f k c : Int) : List Int := if bl (Valid nd ls ∧ Lnk ls k ∧ Cst c) then distO nd (lsC ls k.toNat c) f else []
theorem afterO_yes {nd : Int} {ls : List Lk} {f k c : Int} (h : Valid nd ls ∧ Lnk ls k ∧ Cst c) : afterO nd ls f k c = distO nd (lsC ls k.toNat c) f := by unfold afterO; rw [bl_true h, if_pos rfl]
theorem afterO_no {nd : Int} {ls : List Lk} {f k c : Int} (h : ¬ (Valid nd ls ∧ Lnk ls k ∧ Cst c)) : afterO nd ls f k c = [] := by unfold afterO; rw [bl_false h]; rfl
theorem afterO_full {nd : Int} {ls : List Lk} {f k c : Int} (h : Valid nd ls ∧ Lnk ls k ∧ Cst c) (hf : Nd nd f) : afterO nd ls f k c = dists nd (lsC ls k.toNat c) f := by
  rw [afterO_yes h, distO_yes ⟨h.1.lsC h.2.2.1 h.2.2.2, hf⟩]
theorem afterO_out {nd : Int} {ls : List Lk} {f k c : Int} (hf : ¬ Nd nd f) : afterO nd ls f k c = [] := by
  by_cases h : Valid nd ls ∧ Lnk ls k ∧ Cst c
  · rw [afterO_yes h, distO_no (fun h' => hf h'.2)]
  · exact afterO_no h
theorem distO_8 (nd : Int) (ls : List Lk) (f : Int) : (distO nd ls f).length ≤ 8 := by
  by_cases h : Valid nd ls ∧ Nd nd f
  · rw [distO_yes h, length_dists]; have := h.1.2.1; omega
  · rw [distO_no h]; simp
theorem afterO_8 (nd : Int) (ls : List Lk) (f k c : Int) : (afterO nd ls f k c).length ≤ 8 := by
  by_cases h : Valid nd ls ∧ Lnk ls k ∧ Cst c
  · rw [afterO_yes h]; exact distO_8 _ _ _
  · rw [afterO_no h]; simp
theorem after_len (nd : Int) (ls : List Lk) (f k c : Int) : (afterO nd ls f k c).length ≤ (distO nd ls f).length := by
  by_cases h : Valid nd ls ∧ Lnk ls k ∧ Cst c
  · by_cases hf : Nd nd f
    · rw [afterO_full h hf, distO_yes ⟨h.1, hf⟩, length_dists, length_dists]; omega
    · rw [afterO_out hf]; simp
  · rw [afterO_no h]; simp
/-- what Affected lists -/
def difB (xs ys : List Int) (k : Nat) : Bool := decide (Ix ys k ≠ Ix xs k)
noncomputable def affO (nd : Int) (ls : List Lk) (f k c : Int) : List Int := upTo (difB (distO nd ls f) (afterO nd ls f k c)) (afterO nd ls f k c).length
theorem affO_yes {nd : Int} {ls : List Lk} {f k c : Int} (h : Valid nd ls ∧ Lnk ls k ∧ Cst c) (hf : Nd nd f) : affO nd ls f k c = aff nd ls (lsC ls k.toNat c) f := by
  unfold affO aff
  rw [afterO_full h hf, distO_yes ⟨h.1, hf⟩, length_dists]
  refine upTo_congr (fun j _ => ?_)
  unfold difB affB D
  rw [Int.toNat_natCast, Bool.eq_iff_iff]
  simp only [decide_eq_true_eq]
  exact ⟨fun h e => h e.symm, fun h e => h e.symm⟩
theorem affO_no {nd : Int} {ls : List Lk} {f k c : Int} (h : ¬ (Valid nd ls ∧ Lnk ls k ∧ Cst c ∧ Nd nd f)) : affO nd ls f k c = [] := by
  have e : afterO nd ls f k c = [] := by
    by_cases h' : Valid nd ls ∧ Lnk ls k ∧ Cst c
    · exact afterO_out (fun hf => h ⟨h'.1, h'.2.1, h'.2.2, hf⟩)
    · exact afterO_no h'
  unfold affO; rw [e]; rfl
theorem affO_8 (nd : Int) (ls : List Lk) (f k c : Int) : (affO nd ls f k c).length ≤ 8 := Nat.le_trans (upTo_le _ _) (afterO_8 _ _ _ _ _)

set_option maxRecDepth 100000 in
set_option maxHeartbeats 2000000 in
theorem gAfter_any (nd : Int) (A : Option Addr) (cp : Nat) (ls : List Lk) (f k c : Int) (w : World) (hlen : ls.length ≤ 9223372036854775806) (hr : RdL w w.heap.size A ls) :
    Calls Try.prog 69 #[.agg #[.int .i64 nd, .slice A ls.length cp], .int .i64 f, .int .i64 k, .int .i64 c] w (RI (afterO nd ls f k c) w) := by
  by_cases h : Valid nd ls ∧ Lnk ls k ∧ Cst c
  · rw [afterO_yes h]
    obtain ⟨hv, hk, hc1, hc2⟩ := h
    have h14 : ls.length ≤ 14 := hv.2.2.1
    have S := BG.start (nd := nd) (cp := cp) hr
    go_enter Try.func69, Try.ntmps69
    go_wp2_with fail
    refine (gCost_yes hv hk hc1 hc2 A cp _ S.rd).mono ?_
    rintro e w1 ⟨⟨X, cx, rfl, oX⟩, hb1⟩
    have rX := oX.rd.on (bnew w1 (.cells #[.int .i64 nd, .slice X (lsC ls k.toNat c).length cx] 25))
    have B1 := bthen (S.on hb1).bl (bnew w1 (.cells #[.int .i64 nd, .slice X (lsC ls k.toNat c).length cx] 25))
    have HL : Hid ((lsC ls k.toNat c).length ≤ 14) := by show _ ≤ _; rw [length_lsC]; exact h14
    clear S hb1 oX
    go_wp2_with fail
    refine (gDist_any nd X cx (lsC ls k.toNat c) f _ (by have := HL.out; omega) rX).mono ?_
    intro e w2 h2
    obtain ⟨⟨B, cq, rfl, ho⟩, hb2⟩ := h2.of B1
    go_wp2_with fail
    go_ret
    exact ⟨⟨B, cq, rfl, ho⟩, hb2⟩
  · rw [afterO_no h]
    go_enter Try.func69, Try.ntmps69
    go_wp2_with fail
    refine (gCost_no h A cp _ hlen (hr.on (bnew _ _))).mono ?_
    rintro e w1 ⟨⟨X, cx, rfl, oX⟩, hb1⟩
    go_wp2_with fail
    go_ret
    exact RI.nil_ (bthen (bthen (bnew _ _) hb1) (bnew _ _))

theorem l3Ok_yes {nd : Int} {ls : List Lk} (hv : Valid nd ls) {f k c : Int} (hf : Nd nd f) (hk : Lnk ls k) (hc : Cst c) (A : Option Addr) (cp : Nat) (w : World) (hr : RdL w w.heap.size A ls) :
    Calls Try.prog 70 #[.agg #[.int .i64 nd, .slice A ls.length cp], .int .i64 f, .int .i64 k, .int .i64 c] w fun e w' => e = .returned (.bool true) ∧ Below w.heap.size w w' := by
  have S := BG.start (nd := nd) (cp := cp) hr
  go_enter Try.func70, Try.ntmps70
  go_wp2_with fail
  refine (l1Index_yes hv hk A cp _ S.rd).mono ?_
  rintro e w1 ⟨rfl, hb1⟩
  have S1 := S.on hb1
  have c0 := S1.c0
  have c1 := S1.c1
  clear S hb1
  go_wp2_with fail
  refine (l1Node_yes hv hf A ls.length cp _).mono ?_
  rintro e w2 ⟨rfl, hb2⟩
  have S2 := S1.on hb2
  clear c0 c1 S1 hb2
  go_wp2_with fail
  refine (l6In_yes hc.1 hc.2 _).mono ?_
  rintro e w3 ⟨rfl, rfl⟩
  go_wp2_with fail
  go_ret
  exact ⟨rfl, S2.bl⟩
theorem l3Ok_no {nd : Int} {ls : List Lk} {f k c : Int} (h : ¬ (Valid nd ls ∧ Lnk ls k ∧ Cst c ∧ Nd nd f)) (A : Option Addr) (cp : Nat) (w : World) (hlen : ls.length ≤ 9223372036854775806) (hr : RdL w w.heap.size A ls) :
    Calls Try.prog 70 #[.agg #[.int .i64 nd, .slice A ls.length cp], .int .i64 f, .int .i64 k, .int .i64 c] w fun e w' => e = .returned (.bool false) ∧ Below w.heap.size w w' := by
  have S := BG.start (nd := nd) (cp := cp) hr
  by_cases hk : Valid nd ls ∧ Lnk ls k
  · by_cases hf : Nd nd f
    · have hc : c < 1 ∨ 20 < c := by
        by_cases h1 : 1 ≤ c
        · by_cases h2 : c ≤ 20
          · exact absurd ⟨hk.1, hk.2, ⟨h1, h2⟩, hf⟩ h
          · omega
        · omega
      go_enter Try.func70, Try.ntmps70
      go_wp2_with fail
      refine (l1Index_yes hk.1 hk.2 A cp _ S.rd).mono ?_
      rintro e w1 ⟨rfl, hb1⟩
      have S1 := S.on hb1
      have c0 := S1.c0
      have c1 := S1.c1
      clear S hb1
      go_wp2_with fail
      refine (l1Node_yes hk.1 hf A ls.length cp _).mono ?_
      rintro e w2 ⟨rfl, hb2⟩
      have S2 := S1.on hb2
      clear c0 c1 S1 hb2
      go_wp2_with fail
      refine (l6In_no hc _).mono ?_
      rintro e w3 ⟨rfl, rfl⟩
      go_wp2_with fail
      go_ret
      exact ⟨rfl, S2.bl⟩
    · go_enter Try.func70, Try.ntmps70
      go_wp2_with fail
      refine (l1Index_yes hk.1 hk.2 A cp _ S.rd).mono ?_
      rintro e w1 ⟨rfl, hb1⟩
      have S1 := S.on hb1
      have c0 := S1.c0
      have c1 := S1.c1
      clear S hb1
      go_wp2_with fail
      refine (l1Node_no hk.1 hf A ls.length cp _).mono ?_
      rintro e w2 ⟨rfl, hb2⟩
      have B2 := bthen S1.bl hb2
      go_wp2_with fail
      go_ret
      exact ⟨rfl, B2⟩
  · go_enter Try.func70, Try.ntmps70
    go_wp2_with fail
    refine (l1Index_no hk A cp _ hlen S.rd).mono ?_
    rintro e w1 ⟨rfl, hb1⟩
    have B1 := bthen S.bl hb1
    go_wp2_with fail
    go_ret
    exact ⟨rfl, B1⟩


set_option maxRecDepth 100000 in
set_option maxHeartbeats 4000000 in
theorem gAff_any (nd : Int) (A : Option Addr) (cp : Nat) (ls : List Lk) (f k c : Int) (w : World) (hlen : ls.length ≤ 9223372036854775806) (hr : RdL w w.heap.size A ls) :
    Calls Try.prog 29 #[.agg #[.int .i64 nd, .slice A ls.length cp], .int .i64 f, .int .i64 k, .int .i64 c] w (RI (affO nd ls f k c) w) := by
  have E0 := emptyOut w (.cells #[.int .i64 nd, .slice A ls.length cp] 25)
  have BX0 := (Blk.new w #[.int .i64 nd, .slice A ls.length cp] 25).keep (bnew _ (.cells #[] 3))
  have BB0 : Below w.heap.size w ((w.alloc (.cells #[.int .i64 nd, .slice A ls.length cp] 25)).alloc (.cells #[] 3)) := b2 _ _ _
  obtain ⟨i0, hi, hz0, hz1, hz2⟩ := info_parts Try.infoIn
  have HG := Lib.hid (gDist_any nd A cp ls f _ hlen (hr.on BB0))
  have HA := Lib.hid (fun wr h => gAfter_any nd A cp ls f k c wr hlen h)
  have hl1 := after_len nd ls f k c
  have hl2 := afterO_8 nd ls f k c
  unfold affO
  generalize distO nd ls f = L1 at *
  generalize afterO nd ls f k c = L2 at *
  have HLE := Lib.hid (fun j : Nat => upTo_le (difB L1 L2) j)
  go_enter Try.func29, Try.ntmps29
  go_wp2_with fail
  refine HG.out.mono ?_
  rintro e w1 ⟨⟨DA, dc, rfl, oD⟩, hb1⟩
  have T1 : UT w w1 nd A cp ls (some ⟨w.heap.size + 1, 0, none⟩) 0 [] DA L1 := ⟨E0.keep hb1, RdF.start oD (fun k hk => by simp at hk; subst hk; simp), BX0.keep hb1, bthen BB0 hb1⟩
  have c0 : w1.cell? ⟨w.heap.size, 0, none⟩ = some (.int .i64 nd) := T1.bx.cellAt 0
  have c1 : w1.cell? ⟨w.heap.size, 1, none⟩ = some (.slice A ls.length cp) := T1.bx.cellAt 1
  clear E0 BX0 BB0 hb1 oD HG
  go_wp2_with fail
  refine (HA.out _ ((hr.keep T1.bl).more T1.bl.size)).mono ?_
  rintro e w2 ⟨⟨EA, ec, rfl, oE⟩, hb2⟩
  have T : UT2 w w2 nd A cp ls (some ⟨w.heap.size + 1, 0, none⟩) 0 [] DA L1 EA L2 := ⟨T1.on hb2, RdF.start oE (fun k hk => (World.ownsRow.lt T1.ho k (by rw [ownBlk_eq]; exact hk)).2)⟩
  clear c0 c1 T1 hb2 oE HA
  go_wp2_with fail
  go_loopw [9, 23] (fun o i wr => ∃ (j : Nat) (B : Option Addr) (cq : Nat), j ≤ L2.length ∧ i = .int .i64 j ∧ o = .slice B (upTo (difB L1 L2) j).length cq ∧ UT2 w wr nd A cp ls B cq (upTo (difB L1 L2) j) DA L1 EA L2) (fun _ i _ => L2.length - (intOf i).toNat)
  case atStart => exact ⟨0, _, _, Nat.zero_le _, rfl, rfl, T⟩
  case round =>
    obtain ⟨j, B, cq, hj, rfl, rfl, T2⟩ := hrel
    clear T
    by_cases hlt : j < L2.length
    · obtain ⟨g1, o1, hA1, hg1, -, hc1⟩ := T2.t.hd (by omega)
      obtain rfl := hA1
      have d1 := hc1 j (by omega)
      obtain ⟨g2, o2, hA2, hg2, -, hc2⟩ := T2.he (by omega)
      obtain rfl := hA2
      have d2 := hc2 j hlt
      clear hc1 hc2
      have hkl := HLE.out j
      have q0 : (0 : Int) ≤ (j : Int) := by omega
      have q1 : (j : Int) < (L1.length : Int) := by omega
      have q2 : (j : Int) < (L2.length : Int) := by omega
      by_cases hx : Ix L2 j = Ix L1 j
      · have HP := Lib.hid (upTo_no (p := difB L1 L2) (k := j) (by unfold difB; simpa using hx))
        rw [hx] at d2
        clear hx
        generalize Ix L1 j = x at *
        go_wp2_with fail
        go_roundw
        case rel => exact ⟨j + 1, B, cq, by omega, by go_num, by rw [HP.out], by rw [HP.out]; exact T2⟩
        case measure => simp [intOf]; omega
      · have HP := Lib.hid (upTo_yes (p := difB L1 L2) (k := j) (by unfold difB; simpa using hx))
        have tb : (Ix L2 j != Ix L1 j) = true := by simpa using hx
        clear hx
        generalize Ix L1 j = x at *
        generalize Ix L2 j = y at *
        go_wp2_with (at_builtin; refine wpList_appJ _ rfl (.tmp 34) (.tmp 36) 28 rfl i0 Try.underlying28 hi hz0 hz1 hz2 rfl rfl (T2.t.ho.keep (bnew _ _)) j rfl (by go_simp) (by omega) (by have := T2.t.bl.size; simp; omega) ?_; intro A5 cp5 n5 w5 HN5 O5 G5 hat5)
        have T5 := (T2.on (bnew wr (.cells #[.int .i64 j] 3))).app O5 G5 hat5
        go_roundw
        case rel => exact ⟨j + 1, A5, cp5, by omega, by go_num, by rw [HN5.out, HP.out], by rw [HP.out]; exact T5⟩
        case measure => simp [intOf]; omega
    · have HE : Hid (j = L2.length) := by show _ = _; omega
      go_wp2_with fail
      go_ret
      exact ⟨⟨B, cq, by rw [← HE.out]; rfl, by rw [← HE.out]; exact T2.t.ho⟩, T2.t.bl⟩

set_option maxRecDepth 100000 in
set_option maxHeartbeats 4000000 in
theorem sgAff_any (nd : Int) (A : Option Addr) (cp : Nat) (ls : List Lk) (f k c : Int) (w : World) (hlen : ls.length ≤ 9223372036854775806) (hr : RdL w w.heap.size A ls) :
    Calls Try.prog 30 #[.agg #[.int .i64 nd, .slice A ls.length cp], .int .i64 f, .int .i64 k, .int .i64 c] w (RI (affO nd ls f k c) w) := by
  have E0 := emptyOut w (.cells #[.int .i64 nd, .slice A ls.length cp] 25)
  have BX0 := (Blk.new w #[.int .i64 nd, .slice A ls.length cp] 25).keep (bnew _ (.cells #[] 3))
  have BB0 : Below w.heap.size w ((w.alloc (.cells #[.int .i64 nd, .slice A ls.length cp] 25)).alloc (.cells #[] 3)) := b2 _ _ _
  by_cases h : Valid nd ls ∧ Lnk ls k ∧ Cst c ∧ Nd nd f
  · obtain ⟨hv, hk, hc, hf⟩ := h
    obtain ⟨i0, hi, hz0, hz1, hz2⟩ := info_parts Try.infoIn
    have h14 : ls.length ≤ 14 := hv.2.2.1
    have h1 := hv.1
    have h8 := hv.2.1
    have HV : Hid (affO nd ls f k c = upTo (difB (dists nd ls f) (dists nd (lsC ls k.toNat c) f)) (dists nd (lsC ls k.toNat c) f).length) := by
      show _ = _; unfold affO; rw [afterO_full ⟨hv, hk, hc⟩ hf, distO_yes ⟨hv, hf⟩]
    rw [HV.out]
    clear HV
    obtain ⟨k', rfl⟩ := Int.eq_ofNat_of_zero_le hk.1
    rw [Int.toNat_natCast]
    have hkl : k' < ls.length := by have := hk.2; omega
    have HL1 := Lib.hid (length_dists nd ls f)
    have HL2 := Lib.hid (length_dists nd (lsC ls k' c) f)
    have HD1 := Lib.hid (fun wr hr => sdist_any hv hf A cp wr hr)
    have HD2 := Lib.hid (fun X cx wr hr => sdist_any (hv.lsC (k := k') hc.1 hc.2) hf X cx wr hr)
    generalize dists nd ls f = L1 at *
    generalize dists nd (lsC ls k' c) f = L2 at *
    have HLE := Lib.hid (fun j : Nat => upTo_le (difB L1 L2) j)
    go_enter Try.func30, Try.ntmps30
    go_wp2_with fail
    refine (l3Ok_yes hv hf hk hc A cp _ (hr.on BB0)).mono ?_
    rintro e w1 ⟨rfl, hb1⟩
    have E1 := E0.keep hb1
    have BX1 := BX0.keep hb1
    have BB1 := bthen BB0 hb1
    have c0 : w1.cell? ⟨w.heap.size, 0, none⟩ = some (.int .i64 nd) := BX1.cellAt 0
    have c1 : w1.cell? ⟨w.heap.size, 1, none⟩ = some (.slice A ls.length cp) := BX1.cellAt 1
    clear E0 BX0 BB0 hb1
    go_wp2_with fail
    refine (HD1.out _ ((hr.keep BB1).more BB1.size)).mono ?_
    rintro e w2 ⟨⟨DA, dc, rfl, oD⟩, hb2⟩
    have T2 : UT w w2 nd A cp ls (some ⟨w.heap.size + 1, 0, none⟩) 0 [] DA L1 := ⟨E1.keep hb2, RdF.start oD (fun k hk => (World.ownsRow.lt E1 k (by rw [ownBlk_eq]; exact hk)).2), BX1.keep hb2, bthen BB1 hb2⟩
    clear c0 c1 E1 BX1 BB1 hb2 oD HD1
    have c0 : w2.cell? ⟨w.heap.size, 0, none⟩ = some (.int .i64 nd) := T2.bx.cellAt 0
    have c1 : w2.cell? ⟨w.heap.size, 1, none⟩ = some (.slice A ls.length cp) := T2.bx.cellAt 1
    go_wp2_with fail
    refine (l1Cost_any nd A cp ls k' c _ h14 hkl ((hr.keep T2.bl).more T2.bl.size)).mono ?_
    rintro e w3 ⟨⟨X, cx, rfl, oX⟩, hb3⟩
    have T3 := T2.on hb3
    clear c0 c1 T2 hb3
    go_wp2_with fail
    refine (HD2.out X cx _ oX.rd).mono ?_
    rintro e w4 ⟨⟨EA, ec, rfl, oE⟩, hb4⟩
    have T : UT2 w w4 nd A cp ls (some ⟨w.heap.size + 1, 0, none⟩) 0 [] DA L1 EA L2 := ⟨T3.on hb4, RdF.start oE (fun k hk => (World.ownsRow.lt T3.ho k (by rw [ownBlk_eq]; exact hk)).2)⟩
    clear T3 oX hb4 oE HD2
    go_wp2_with fail
    go_loopw [9, 12] (fun o i wr => ∃ (j : Nat) (B : Option Addr) (cq : Nat), j ≤ L2.length ∧ i = .int .i64 j ∧ o = .slice B (upTo (difB L1 L2) j).length cq ∧ UT2 w wr nd A cp ls B cq (upTo (difB L1 L2) j) DA L1 EA L2) (fun _ i _ => L2.length - (intOf i).toNat)
    case atStart => exact ⟨0, _, _, Nat.zero_le _, rfl, rfl, T⟩
    case round =>
      obtain ⟨j, B, cq, hj, rfl, rfl, T2⟩ := hrel
      clear T
      have y0 : wr.cell? ⟨w.heap.size, 0, none⟩ = some (.int .i64 nd) := T2.t.bx.cellAt 0
      by_cases hlt : (j : Int) < nd
      · have z1 : j < L1.length := by have := HL1.out; omega
        have z2 : j < L2.length := by have := HL2.out; omega
        have z8 : j ≤ 8 := by omega
        obtain ⟨g1, o1, hA1, hg1, -, hc1⟩ := T2.t.hd (by omega)
        obtain rfl := hA1
        have d1 := hc1 j z1
        obtain ⟨g2, o2, hA2, hg2, -, hc2⟩ := T2.he (by omega)
        obtain rfl := hA2
        have d2 := hc2 j z2
        clear hc1 hc2
        have hkl := HLE.out j
        have q0 : (0 : Int) ≤ (j : Int) := by omega
        have q1 : (j : Int) < (L1.length : Int) := by omega
        have q2 : (j : Int) < (L2.length : Int) := by omega
        by_cases hx : Ix L2 j = Ix L1 j
        · have HP := Lib.hid (upTo_no (p := difB L1 L2) (k := j) (by unfold difB; simpa using hx))
          rw [hx] at d2
          clear hx
          generalize Ix L1 j = x at *
          go_wp2_with fail
          go_quiet (fail)
          go_wp2_with fail
          go_roundw
          case rel => exact ⟨j + 1, B, cq, by omega, by go_num, by rw [HP.out], by rw [HP.out]; exact T2.on (bdN (Below.refl _ _) _)⟩
          case measure => simp [intOf]; omega
        · have HP := Lib.hid (upTo_yes (p := difB L1 L2) (k := j) (by unfold difB; simpa using hx))
          have tb : (Ix L1 j != Ix L2 j) = true := by simpa using fun e => hx (Eq.symm e)
          clear hx
          generalize Ix L1 j = x at *
          generalize Ix L2 j = y at *
          go_wp2_with fail
          go_quiet (fail)
          go_wp2_with (at_builtin; refine wpList_appJ _ rfl (.tmp 45) (.tmp 47) 28 rfl i0 Try.underlying28 hi hz0 hz1 hz2 rfl rfl ((T2.on (bdN (Below.refl _ wr) _)).t.ho.keep (bnew _ _)) j rfl (by exact (Blk.new (wr.drewN _) #[.int .i64 j] 3).cellAt 0) (by omega) (by have := T2.t.bl.size; simp; omega) ?_; intro A5 cp5 n5 w5 HN5 O5 G5 hat5)
          have T5 := ((T2.on (bdN (Below.refl _ wr) _)).on (bnew _ (.cells #[.int .i64 j] 3))).app O5 G5 hat5
          go_roundw
          case rel => exact ⟨j + 1, A5, cp5, by omega, by go_num, by rw [HN5.out, HP.out], by rw [HP.out]; exact T5⟩
          case measure => simp [intOf]; omega
      · have HE : Hid (j = L2.length) := by show _ = _; have := HL2.out; omega
        go_wp2_with fail
        go_ret
        exact ⟨⟨B, cq, by rw [← HE.out]; rfl, by rw [← HE.out]; exact T2.t.ho⟩, T2.t.bl⟩
  · rw [affO_no h]
    go_enter Try.func30, Try.ntmps30
    go_wp2_with fail
    refine (l3Ok_no h A cp _ hlen (hr.on BB0)).mono ?_
    rintro e w1 ⟨rfl, hb1⟩
    have E1 := E0.keep hb1
    have B1 := bthen BB0 hb1
    go_wp2_with fail
    go_ret
    exact ⟨⟨_, _, rfl, E1⟩, B1⟩


end Go.Proofs.Ytkcapoobbnmdaaa
