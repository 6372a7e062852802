/-
  The walks of stackNodes, l4Nodes and both StackEnd: the nodes that a stack of labels leads over, and the last of them.
-/
import Derived.Test.YtnmmacfchmmkkaaSC
import Derived.Deep.RegionHeld3
import Derived.Deep.CutRange
import Derived.Deep.DeepCutAuto
namespace Go.Proofs.Ytnmmacfchmmkkaa
open Go.RowKit
set_option maxRecDepth 100000

/-- the node behind k labels -/
def ndAt (ls : List Lk) (f : Int) (st : List Lab) : Nat → Int
  | 0 => f
  | k + 1 => stpN ls (ndAt ls f st k) (Kk st k) (Ka st k)
/-- the first k labels lead on -/
def OkTo (nd : Int) (ls : List Lk) (f : Int) (st : List Lab) (k : Nat) : Prop := ∀ j, j < k → StpOk nd ls (ndAt ls f st j) (Kk st j) (Ka st j)
/-- the nodes of the first k labels -/
def nds (ls : List Lk) (f : Int) (st : List Lab) : Nat → List Int
  | 0 => [f]
  | k + 1 => nds ls f st k ++ [ndAt ls f st (k + 1)]
theorem length_nds (ls : List Lk) (f : Int) (st : List Lab) (k : Nat) : (nds ls f st k).length = k + 1 := by
  induction k with
  | zero => rfl
  | succ k ih => simp [nds, ih]
theorem nds_last (ls : List Lk) (f : Int) (st : List Lab) (k : Nat) : Ix (nds ls f st k) k = ndAt ls f st k := by
  cases k with
  | zero => rfl
  | succ k => unfold Ix; simp [nds, length_nds]
theorem ndAt_nd {nd : Int} {ls : List Lk} (hv : Valid nd ls) {f : Int} (hf : Nd nd f) {st : List Lab} : ∀ {k : Nat}, OkTo nd ls f st k → Nd nd (ndAt ls f st k)
  | 0, _ => hf
  | k + 1, h => stpN_nd hv (h k (by omega))
theorem OkTo.zero (nd : Int) (ls : List Lk) (f : Int) (st : List Lab) : OkTo nd ls f st 0 := fun j h => by omega
theorem OkTo.succ {nd : Int} {ls : List Lk} {f : Int} {st : List Lab} {k : Nat} (h : OkTo nd ls f st k) (h' : StpOk nd ls (ndAt ls f st k) (Kk st k) (Ka st k)) : OkTo nd ls f st (k + 1) := fun j hj => by
  rcases Nat.lt_or_ge j k with h1 | h1
  · exact h j h1
  · obtain rfl : j = k := by omega
    exact h'
/-- the whole stack leads somewhere -/
def StkOk (nd : Int) (ls : List Lk) (f : Int) (st : List Lab) : Prop := (Valid nd ls ∧ Nd nd f) ∧ st.length ≤ 8 ∧ OkTo nd ls f st st.length
theorem StpR.yes {nd : Int} {ls : List Lk} {v k a : Int} {w w' : World} {e : Ending} (h : StpR nd ls v k a w e w') (hs : StpOk nd ls v k a) : e = .returned (.tuple #[.int .i64 (stpN ls v k a), .bool true]) ∧ Below w.heap.size w w' := by
  obtain ⟨h1 | h1, hb⟩ := h
  · exact ⟨h1.2, hb⟩
  · exact absurd hs h1.1
theorem StpR.no {nd : Int} {ls : List Lk} {v k a : Int} {w w' : World} {e : Ending} (h : StpR nd ls v k a w e w') (hs : ¬ StpOk nd ls v k a) : (∃ z, e = .returned (.tuple #[.int .i64 z, .bool false])) ∧ Below w.heap.size w w' := by
  obtain ⟨h1 | h1, hb⟩ := h
  · exact absurd h1.1 hs
  · exact ⟨h1.2, hb⟩
/-- what the nodes' walk answers -/
def NdsR (nd : Int) (ls : List Lk) (f : Int) (st : List Lab) (w : World) (e : Ending) (w' : World) : Prop :=
  ((StkOk nd ls f st ∧ ∃ B cq, e = .returned (.tuple #[.slice B ((nds ls f st st.length).length : Nat) cq, .bool true]) ∧ RdI w' w'.heap.size B (nds ls f st st.length)) ∨ (¬ StkOk nd ls f st ∧ ∃ B n cq, e = .returned (.tuple #[.slice B n cq, .bool false]))) ∧ Below w.heap.size w w'
theorem ndsR_no {nd : Int} {ls : List Lk} {f : Int} {st : List Lab} {w w' : World} {B : Option Addr} {n cq : Nat} (h : ¬ StkOk nd ls f st) (hb : Below w.heap.size w w') : NdsR nd ls f st w (.returned (.tuple #[.slice B n cq, .bool false])) w' := ⟨.inr ⟨h, B, n, cq, rfl⟩, hb⟩
theorem ndsR_yes {nd : Int} {ls : List Lk} {f : Int} {st : List Lab} {w w' : World} {B : Option Addr} {n cq : Nat} (h : StkOk nd ls f st) (hn : n = (nds ls f st st.length).length) (hr : RdI w' w'.heap.size B (nds ls f st st.length)) (hb : Below w.heap.size w w') : NdsR nd ls f st w (.returned (.tuple #[.slice B n cq, .bool true])) w' := by
  subst hn; exact ⟨.inl ⟨h, B, cq, rfl, hr⟩, hb⟩
theorem OwI.someS {w : World} {base : Nat} {A : Option Addr} {cp : Nat} {xs : List Int} (h : OwI w base A cp xs) (h0 : 0 < xs.length) : ∃ g, A = some ⟨g, 0, none⟩ ∧ base ≤ g ∧ g < w.heap.size := by
  obtain ⟨g, cap, hv, h1, h2⟩ := World.ownsRow.form h h0
  simp only [Value.slice.injEq] at hv
  exact ⟨g, hv.1, h1, h2⟩

set_option maxHeartbeats 4000000 in
theorem sNodes_long (nd : Int) (A : Option Addr) (cp : Nat) (ls : List Lk) (f : Int) (P : Option Addr) (cq : Nat) (st : List Lab) (w : World) (h : 8 < st.length) (hl : st.length ≤ 1048576) :
    Calls Try.prog 16 #[.agg #[.int .i64 nd, .slice A ls.length cp], .int .i64 f, .slice P st.length cq] w (NdsR nd ls f st w) := by
  have HN : Hid (¬ StkOk nd ls f st) := fun h' => by have := h'.2.1; omega
  have t : decide ((8 : Int) < (st.length : Int)) = true := by rw [decide_eq_true_iff]; omega
  go_enter Try.func16, Try.ntmps16
  go_wp2_with fail
  go_ret2
  exact ndsR_no HN.out (bnew _ _)
set_option maxHeartbeats 4000000 in
theorem sNodes_out (nd : Int) (A : Option Addr) (cp : Nat) (ls : List Lk) (f : Int) (P : Option Addr) (cq : Nat) (st : List Lab) (w : World) (hlen : ls.length ≤ 9223372036854775806) (hr : RdL w w.heap.size A ls) (h : st.length ≤ 8) (h' : ¬ (Valid nd ls ∧ Nd nd f)) :
    Calls Try.prog 16 #[.agg #[.int .i64 nd, .slice A ls.length cp], .int .i64 f, .slice P st.length cq] w (NdsR nd ls f st w) := by
  have HN : Hid (¬ StkOk nd ls f st) := fun hs => h' hs.1
  have t : decide ((8 : Int) < (st.length : Int)) = false := by rw [decide_eq_false_iff_not]; omega
  go_enter Try.func16, Try.ntmps16
  go_wp2_with fail
  refine (hasNode_no h' A cp _ hlen (hr.on (bnew _ _))).mono ?_
  rintro e w1 ⟨rfl, hb1⟩
  go_wp2_with fail
  go_ret2
  exact ndsR_no HN.out (bthen (bnew _ _) hb1)
set_option maxHeartbeats 4000000 in
theorem sNodes_in {nd : Int} {ls : List Lk} (hv : Valid nd ls) {f : Int} (hf : Nd nd f) (A : Option Addr) (cp : Nat) (P : Option Addr) (cq : Nat) (st : List Lab) (w : World) (hr : RdL w w.heap.size A ls) (hp : RdP w w.heap.size P st) (h : st.length ≤ 8) :
    Calls Try.prog 16 #[.agg #[.int .i64 nd, .slice A ls.length cp], .int .i64 f, .slice P st.length cq] w (NdsR nd ls f st w) := by
  have t : decide ((8 : Int) < (st.length : Int)) = false := by rw [decide_eq_false_iff_not]; omega
  obtain ⟨i0, hi, hz0, hz1, hz2⟩ := info_parts Try.infoIn
  go_enter Try.func16, Try.ntmps16
  go_wp2_with fail
  have S := BG.start (nd := nd) (cp := cp) hr
  refine (hasNode_yes hv hf A cp _ S.rd).mono ?_
  rintro e w1 ⟨rfl, hb1⟩
  have S1 := S.on hb1
  have BX1 := (Blk.new w #[.int .i64 nd, .slice A ls.length cp] 32).keep hb1
  have c0 := S1.c0
  have c1 := S1.c1
  have l0 := BX1.lt
  clear S hb1
  go_wp2_with fail
  have T : UT w (w1.alloc (.cells #[.int .i64 f] 3)) nd A cp ls (some ⟨w1.heap.size, 0, none⟩) 1 (nds ls f st 0) none [] :=
    ⟨(Blk.new w1 #[.int .i64 f] 3).own (n := 1) (size := 1) rfl (by omega) S1.bl.size, fun h0 => by simp at h0, BX1.keep (bnew _ _), bthen S1.bl (bnew _ _)⟩
  clear S1 BX1 c0 c1 l0
  go_loopw [8, 26] (fun o i wr => ∃ (k : Nat) (B : Option Addr) (cb : Nat), k ≤ st.length ∧ i = .int .i64 k ∧ o = .slice B (nds ls f st k).length cb ∧ OkTo nd ls f st k ∧ UT w wr nd A cp ls B cb (nds ls f st k) none []) (fun _ i _ => st.length - (intOf i).toNat)
  case atStart => exact ⟨0, _, _, Nat.zero_le _, rfl, rfl, OkTo.zero _ _ _ _, T⟩
  case round =>
    obtain ⟨k, B, cb, hk, rfl, rfl, ho0, T1⟩ := hrel
    clear T
    have HO := Lib.hid ho0
    clear ho0
    by_cases hlt : k < st.length
    · obtain ⟨pg, po, hP, hpg, hpc⟩ := hp (by omega)
      obtain rfl := hP
      obtain ⟨d1, d2⟩ := hpc k hlt
      have d1' := (T1.bl.cell (by exact hpg)).trans d1
      have d2' := (T1.bl.cell (by exact hpg)).trans d2
      clear hpc d1 d2
      obtain ⟨g, hB, hg1, hg2⟩ := T1.ho.someS (by rw [length_nds]; omega)
      obtain rfl := hB
      have m1 := T1.ho.at (i := k) (by rw [length_nds]; omega)
      rw [nds_last] at m1
      have c0 := T1.bx.cellAt 0
      have c1 := T1.bx.cellAt 1
      simp only [List.getElem?_cons_zero, List.getElem?_cons_succ] at c0 c1
      have hs := T1.bl.size
      have lG := T1.bx.lt
      have q0 : (0 : Int) ≤ (k : Int) := by omega
      have q1 : (k : Int) < ((nds ls f st k).length : Int) := by rw [length_nds]; omega
      have q2 : (k : Int) < (st.length : Int) := by omega
      have HNL := Lib.hid (length_nds ls f st k)
      have hnd : Nd nd (ndAt ls f st k) := ndAt_nd hv hf HO.out
      have HS : Hid (StpOk nd ls (ndAt ls f st k) (Kk st k) (Ka st k) → OkTo nd ls f st (k + 1)) := fun h => HO.out.succ h
      have HF : Hid (¬ StpOk nd ls (ndAt ls f st k) (Kk st k) (Ka st k) → ¬ StkOk nd ls f st) := fun h h' => h (h'.2.2 k hlt)
      have HE : Hid (nds ls f st (k + 1) = nds ls f st k ++ [stpN ls (ndAt ls f st k) (Kk st k) (Ka st k)]) := rfl
      generalize ndAt ls f st k = v at *
      generalize Kk st k = kk at *
      generalize Ka st k = aa at *
      have HU : Hid (∀ wx : World, Below wr.heap.size wr wx → Calls Try.prog 24 #[.agg #[.int .i64 nd, .slice A ls.length cp], .int .i64 v, .agg #[.int .i64 kk, .int .i64 aa]] wx (StpR nd ls v kk aa wx)) := fun wx hb => use_any hv hnd kk aa A cp wx ((hr.on T1.bl).on hb)
      by_cases hok : StpOk nd ls v kk aa
      · have HOK := Lib.hid hok
        have BA : Below wr.heap.size wr (wr.alloc (.cells #[.int .i64 kk, .int .i64 aa] 45)).drew := (bnew _ _).drew
        have ZA : Blk (wr.alloc (.cells #[.int .i64 kk, .int .i64 aa] 45)).drew wr.heap.size 45 [.int .i64 kk, .int .i64 aa] := Blk.new wr #[.int .i64 kk, .int .i64 aa] 45
        have HC := Lib.hid ((HU.out _ BA).mono fun _ _ h => StpR.yes h hok)
        clear HU hok
        generalize stpN ls v kk aa = z at *
        go_upto_region 7 with fail
        go_region_held3 (fun w' => w'.cell? ⟨w.heap.size, 0, none⟩ = some (.int .i64 nd) ∧ w'.cell? ⟨w.heap.size, 1, none⟩ = some (.slice A ls.length cp) ∧ w'.cell? ⟨g, k, none⟩ = some (.int .i64 v) ∧ w'.cell? ⟨wr.heap.size, 0, none⟩ = some (.int .i64 kk) ∧ w'.cell? ⟨wr.heap.size, 1, none⟩ = some (.int .i64 aa)) (go_keep)
          ((go_at_call 24; refine HC.out.mono ?_; rintro e w3 ⟨rfl, hb3⟩; have BX := bthen BA hb3; have y0 := ckeep c0 BX; have y1 := ckeep c1 BX; have y2 := ckeep m1 BX; have ZB := ZA.keep hb3; have z0 := ZB.cellAt 0; have z1 := ZB.cellAt 1; simp only [List.getElem?_cons_zero, List.getElem?_cons_succ] at z0 z1))
        all_goals
          have T3 := T1.on BX
          have hn9 : (nds ls f st k).length ≤ 9 := by rw [HNL.out]; omega
          go_wp2_with (at_builtin; refine wpList_appJ _ rfl (.tmp 43) (.tmp 45) 40 rfl i0 Try.underlying40 hi hz0 hz1 hz2 rfl rfl (T3.ho.keep (bnew _ _)) z rfl (by go_simp) (by omega) (by have := T3.bl.size; simp; omega) ?_; intro A5 cp5 n5 w5 HN5 O5 G5 hat5)
          have T5 := (T3.on (bnew w3 (.cells #[.int .i64 z] 3))).app O5 G5 hat5
          go_roundw
          case rel => exact ⟨k + 1, A5, cp5, by omega, by go_num, by rw [HN5.out, HE.out], HS.out HOK.out, by rw [HE.out]; exact T5⟩
          case measure => simp [intOf]; omega
      · have HOK := Lib.hid hok
        have BA : Below wr.heap.size wr (wr.alloc (.cells #[.int .i64 kk, .int .i64 aa] 45)).drew := (bnew _ _).drew
        have ZA : Blk (wr.alloc (.cells #[.int .i64 kk, .int .i64 aa] 45)).drew wr.heap.size 45 [.int .i64 kk, .int .i64 aa] := Blk.new wr #[.int .i64 kk, .int .i64 aa] 45
        have HC := Lib.hid ((HU.out _ BA).mono fun _ _ h => StpR.no h hok)
        clear HU hok
        go_upto_region 7 with fail
        go_region_held3 (fun w' => w'.cell? ⟨w.heap.size, 0, none⟩ = some (.int .i64 nd) ∧ w'.cell? ⟨w.heap.size, 1, none⟩ = some (.slice A ls.length cp) ∧ w'.cell? ⟨g, k, none⟩ = some (.int .i64 v) ∧ w'.cell? ⟨wr.heap.size, 0, none⟩ = some (.int .i64 kk) ∧ w'.cell? ⟨wr.heap.size, 1, none⟩ = some (.int .i64 aa)) (go_keep)
          ((go_at_call 24; refine HC.out.mono ?_; rintro e w3 ⟨⟨z, rfl⟩, hb3⟩; have BX := bthen BA hb3; have y0 := ckeep c0 BX; have y1 := ckeep c1 BX; have y2 := ckeep m1 BX; have ZB := ZA.keep hb3; have z0 := ZB.cellAt 0; have z1 := ZB.cellAt 1; simp only [List.getElem?_cons_zero, List.getElem?_cons_succ] at z0 z1))
        all_goals
          go_wp2_with fail
          go_ret2
          exact ndsR_no (HF.out HOK.out) (bthen T1.bl BX)
    · obtain rfl : k = st.length := by omega
      go_wp2_with fail
      go_ret2
      exact ndsR_yes ⟨⟨hv, hf⟩, h, HO.out⟩ rfl T1.ho.rd T1.bl

set_option maxHeartbeats 4000000 in
theorem l4N_bad {nd : Int} {ls : List Lk} (hv : ¬ Valid nd ls) (A : Option Addr) (cp : Nat) (f : Int) (P : Option Addr) (cq : Nat) (st : List Lab) (w : World) (hlen : ls.length ≤ 9223372036854775806) (hr : RdL w w.heap.size A ls) :
    Calls Try.prog 13 #[.agg #[.int .i64 nd, .slice A ls.length cp], .int .i64 f, .slice P st.length cq] w (NdsR nd ls f st w) := by
  have HN : Hid (¬ StkOk nd ls f st) := fun hs => hv hs.1.1
  have S := (BG.start (nd := nd) (cp := cp) hr).on (bnew _ (.cells #[.int .i64 f] 3))
  go_enter Try.func13, Try.ntmps13
  go_wp2_with fail
  refine (sgv_no hv A cp _ hlen S.rd).mono ?_
  rintro e w1 ⟨rfl, hb1⟩
  go_wp2_with fail
  go_ret2
  exact ndsR_no HN.out (bthen S.bl hb1)
set_option maxHeartbeats 4000000 in
theorem l4N_out {nd : Int} {ls : List Lk} (hv : Valid nd ls) {f : Int} (hf : ¬ Nd nd f) (A : Option Addr) (cp : Nat) (P : Option Addr) (cq : Nat) (st : List Lab) (w : World) (hr : RdL w w.heap.size A ls) :
    Calls Try.prog 13 #[.agg #[.int .i64 nd, .slice A ls.length cp], .int .i64 f, .slice P st.length cq] w (NdsR nd ls f st w) := by
  have HN : Hid (¬ StkOk nd ls f st) := fun hs => hf hs.1.2
  have S := (BG.start (nd := nd) (cp := cp) hr).on (bnew _ (.cells #[.int .i64 f] 3))
  go_enter Try.func13, Try.ntmps13
  go_wp2_with fail
  refine (sgv_yes hv A cp _ S.rd).mono ?_
  rintro e w1 ⟨rfl, hb1⟩
  have S1 := S.on hb1
  have c0 := S1.c0
  have c1 := S1.c1
  clear S hb1
  go_wp2_with fail
  refine (l1Node_no hv hf A ls.length cp _).mono ?_
  rintro e w2 ⟨rfl, hb2⟩
  go_wp2_with fail
  go_ret2
  exact ndsR_no HN.out (bthen S1.bl hb2)
set_option maxHeartbeats 4000000 in
theorem l4N_long {nd : Int} {ls : List Lk} (hv : Valid nd ls) {f : Int} (hf : Nd nd f) (A : Option Addr) (cp : Nat) (P : Option Addr) (cq : Nat) (st : List Lab) (w : World) (hr : RdL w w.heap.size A ls) (h : 8 < st.length) (hl : st.length ≤ 1048576) :
    Calls Try.prog 13 #[.agg #[.int .i64 nd, .slice A ls.length cp], .int .i64 f, .slice P st.length cq] w (NdsR nd ls f st w) := by
  have HN : Hid (¬ StkOk nd ls f st) := fun hs => by have := hs.2.1; omega
  have t : decide ((8 : Int) < (st.length : Int)) = true := by rw [decide_eq_true_iff]; omega
  have S := (BG.start (nd := nd) (cp := cp) hr).on (bnew _ (.cells #[.int .i64 f] 3))
  go_enter Try.func13, Try.ntmps13
  go_wp2_with fail
  refine (sgv_yes hv A cp _ S.rd).mono ?_
  rintro e w1 ⟨rfl, hb1⟩
  have S1 := S.on hb1
  have c0 := S1.c0
  have c1 := S1.c1
  clear S hb1
  go_wp2_with fail
  refine (l1Node_yes hv hf A ls.length cp _).mono ?_
  rintro e w2 ⟨rfl, hb2⟩
  go_wp2_with fail
  go_ret2
  exact ndsR_no HN.out (bthen S1.bl hb2)
set_option maxHeartbeats 4000000 in
theorem l4N_in {nd : Int} {ls : List Lk} (hv : Valid nd ls) {f : Int} (hf : Nd nd f) (A : Option Addr) (cp : Nat) (P : Option Addr) (cq : Nat) (st : List Lab) (w : World) (hr : RdL w w.heap.size A ls) (hp : RdP w w.heap.size P st) (h : st.length ≤ 8) :
    Calls Try.prog 13 #[.agg #[.int .i64 nd, .slice A ls.length cp], .int .i64 f, .slice P st.length cq] w (NdsR nd ls f st w) := by
  have t : decide ((8 : Int) < (st.length : Int)) = false := by rw [decide_eq_false_iff_not]; omega
  obtain ⟨i0, hi, hz0, hz1, hz2⟩ := info_parts Try.infoIn
  have S := (BG.start (nd := nd) (cp := cp) hr).on (bnew _ (.cells #[.int .i64 f] 3))
  go_enter Try.func13, Try.ntmps13
  go_wp2_with fail
  refine (sgv_yes hv A cp _ S.rd).mono ?_
  rintro e w1 ⟨rfl, hb1⟩
  have S1 := S.on hb1
  have c0 := S1.c0
  have c1 := S1.c1
  have BX0 := ((Blk.new w #[.int .i64 nd, .slice A ls.length cp] 32).keep (bnew _ (.cells #[.int .i64 f] 3))).keep hb1
  have BI0 := (Blk.new (w.alloc (.cells #[.int .i64 nd, .slice A ls.length cp] 32)) #[.int .i64 f] 3).keep hb1
  clear S hb1
  go_wp2_with fail
  refine (l1Node_yes hv hf A ls.length cp _).mono ?_
  rintro e w2 ⟨rfl, hb2⟩
  have T : UT w w2 nd A cp ls (some ⟨w.heap.size + 1, 0, none⟩) 1 (nds ls f st 0) none [] :=
    ⟨((by simpa using BI0.keep hb2 : Blk w2 (w.heap.size + 1) 3 [.int .i64 f])).own (n := 1) (size := 1) rfl (by omega) (by omega), fun h0 => by simp at h0, BX0.keep hb2, bthen S1.bl hb2⟩
  clear S1 c0 c1 BX0 BI0 hb2
  go_wp2_with fail
  go_loopw [8, 9] (fun o i wr => ∃ (k : Nat) (B : Option Addr) (cb : Nat), k ≤ st.length ∧ i = .int .i64 k ∧ o = .slice B (nds ls f st k).length cb ∧ OkTo nd ls f st k ∧ UT w wr nd A cp ls B cb (nds ls f st k) none []) (fun _ i _ => st.length - (intOf i).toNat)
  case atStart => exact ⟨0, _, _, Nat.zero_le _, rfl, rfl, OkTo.zero _ _ _ _, T⟩
  case round =>
    obtain ⟨k, B, cb, hk, rfl, rfl, ho0, T1⟩ := hrel
    clear T
    have HO := Lib.hid ho0
    clear ho0
    by_cases hlt : k < st.length
    · obtain ⟨pg, po, hP, hpg, hpc⟩ := hp (by omega)
      obtain rfl := hP
      obtain ⟨d1, d2⟩ := hpc k hlt
      have d1' := (T1.bl.cell (by exact hpg)).trans d1
      have d2' := (T1.bl.cell (by exact hpg)).trans d2
      clear hpc d1 d2
      obtain ⟨g, hB, hg1, hg2⟩ := T1.ho.someS (by rw [length_nds]; omega)
      obtain rfl := hB
      have m1 := T1.ho.at (i := k) (by rw [length_nds]; omega)
      rw [nds_last] at m1
      have c0 := T1.bx.cellAt 0
      have c1 := T1.bx.cellAt 1
      simp only [List.getElem?_cons_zero, List.getElem?_cons_succ] at c0 c1
      have hs := T1.bl.size
      have lG := T1.bx.lt
      have q0 : (0 : Int) ≤ (k : Int) := by omega
      have q1 : (k : Int) < ((nds ls f st k).length : Int) := by rw [length_nds]; omega
      have q2 : (k : Int) < (st.length : Int) := by omega
      have HNL := Lib.hid (length_nds ls f st k)
      have hnd : Nd nd (ndAt ls f st k) := ndAt_nd hv hf HO.out
      have HS : Hid (StpOk nd ls (ndAt ls f st k) (Kk st k) (Ka st k) → OkTo nd ls f st (k + 1)) := fun h => HO.out.succ h
      have HF : Hid (¬ StpOk nd ls (ndAt ls f st k) (Kk st k) (Ka st k) → ¬ StkOk nd ls f st) := fun h h' => h (h'.2.2 k hlt)
      have HE : Hid (nds ls f st (k + 1) = nds ls f st k ++ [stpN ls (ndAt ls f st k) (Kk st k) (Ka st k)]) := rfl
      generalize ndAt ls f st k = v at *
      generalize Kk st k = kk at *
      generalize Ka st k = aa at *
      have HU : Hid (∀ wx : World, Below wr.heap.size wr wx → Calls Try.prog 21 #[.agg #[.int .i64 nd, .slice A ls.length cp], .int .i64 v, .agg #[.int .i64 kk, .int .i64 aa]] wx (StpR nd ls v kk aa wx)) := fun wx hb => step_any hv hnd kk aa A cp wx ((hr.on T1.bl).on hb)
      by_cases hok : StpOk nd ls v kk aa
      · have HOK := Lib.hid hok
        have BA : Below wr.heap.size wr wr.drew := (Below.refl _ _).drew
        have HC := Lib.hid ((HU.out _ BA).mono fun _ _ h => StpR.yes h hok)
        clear HU hok
        generalize stpN ls v kk aa = z at *
        go_upto_region 7 with fail
        go_region_held3 (fun w' => w'.cell? ⟨w.heap.size, 0, none⟩ = some (.int .i64 nd) ∧ w'.cell? ⟨w.heap.size, 1, none⟩ = some (.slice A ls.length cp) ∧ w'.cell? ⟨g, k, none⟩ = some (.int .i64 v) ∧ w'.cell? ⟨pg, po + k * 2, none⟩ = some (.int .i64 kk) ∧ w'.cell? ⟨pg, po + k * 2 + 1, none⟩ = some (.int .i64 aa)) (go_keep)
          ((go_at_call 21; refine HC.out.mono ?_; rintro e w3 ⟨rfl, hb3⟩; have BX := bthen BA hb3; have y0 := ckeep c0 BX; have y1 := ckeep c1 BX; have y2 := ckeep m1 BX; have z0 := ckeep d1' BX; have z1 := ckeep d2' BX))
        all_goals
          have T3 := T1.on BX
          have hn9 : (nds ls f st k).length ≤ 9 := by rw [HNL.out]; omega
          go_wp2_with (at_builtin; refine wpList_appJ _ rfl (.tmp 51) (.tmp 53) 40 rfl i0 Try.underlying40 hi hz0 hz1 hz2 rfl rfl (T3.ho.keep (bnew _ _)) z rfl (by go_simp) (by omega) (by have := T3.bl.size; simp; omega) ?_; intro A5 cp5 n5 w5 HN5 O5 G5 hat5)
          have T5 := (T3.on (bnew w3 (.cells #[.int .i64 z] 3))).app O5 G5 hat5
          go_roundw
          case rel => exact ⟨k + 1, A5, cp5, by omega, by go_num, by rw [HN5.out, HE.out], HS.out HOK.out, by rw [HE.out]; exact T5⟩
          case measure => simp [intOf]; omega
      · have HOK := Lib.hid hok
        have BA : Below wr.heap.size wr wr.drew := (Below.refl _ _).drew
        have HC := Lib.hid ((HU.out _ BA).mono fun _ _ h => StpR.no h hok)
        clear HU hok
        go_upto_region 7 with fail
        go_region_held3 (fun w' => w'.cell? ⟨w.heap.size, 0, none⟩ = some (.int .i64 nd) ∧ w'.cell? ⟨w.heap.size, 1, none⟩ = some (.slice A ls.length cp) ∧ w'.cell? ⟨g, k, none⟩ = some (.int .i64 v) ∧ w'.cell? ⟨pg, po + k * 2, none⟩ = some (.int .i64 kk) ∧ w'.cell? ⟨pg, po + k * 2 + 1, none⟩ = some (.int .i64 aa)) (go_keep)
          ((go_at_call 21; refine HC.out.mono ?_; rintro e w3 ⟨⟨z, rfl⟩, hb3⟩; have BX := bthen BA hb3; have y0 := ckeep c0 BX; have y1 := ckeep c1 BX; have y2 := ckeep m1 BX; have z0 := ckeep d1' BX; have z1 := ckeep d2' BX))
        all_goals
          go_wp2_with fail
          go_ret2
          exact ndsR_no (HF.out HOK.out) (bthen T1.bl BX)
    · obtain rfl : k = st.length := by omega
      go_wp2_with fail
      go_ret2
      exact ndsR_yes ⟨⟨hv, hf⟩, h, HO.out⟩ rfl T1.ho.rd T1.bl

/-- where a packet ends -/
noncomputable def endN (nd : Int) (ls : List Lk) (f : Int) (st : List Lab) : Int := if bl (StkOk nd ls f st) then ndAt ls f st st.length else 0
theorem end_yes {nd : Int} {ls : List Lk} {f : Int} {st : List Lab} (h : StkOk nd ls f st) : (Ending.returned (.tuple #[.int .i64 (ndAt ls f st st.length), .bool true])) = .returned (.tuple #[.int .i64 (endN nd ls f st), .bool (bl (StkOk nd ls f st))]) := by unfold endN; rw [bl_true h]; rfl
theorem end_no {nd : Int} {ls : List Lk} {f : Int} {st : List Lab} (h : ¬ StkOk nd ls f st) : (Ending.returned (.tuple #[.int .i64 0, .bool false])) = .returned (.tuple #[.int .i64 (endN nd ls f st), .bool (bl (StkOk nd ls f st))]) := by unfold endN; rw [bl_false h]; rfl

theorem sNodes_any (nd : Int) (A : Option Addr) (cp : Nat) (ls : List Lk) (f : Int) (P : Option Addr) (cq : Nat) (st : List Lab) (w : World) (hlen : ls.length ≤ 9223372036854775806) (hl : st.length ≤ 1048576) (hr : RdL w w.heap.size A ls) (hp : RdP w w.heap.size P st) :
    Calls Try.prog 16 #[.agg #[.int .i64 nd, .slice A ls.length cp], .int .i64 f, .slice P st.length cq] w (NdsR nd ls f st w) := by
  by_cases h8 : st.length ≤ 8
  · by_cases h : Valid nd ls ∧ Nd nd f
    · exact sNodes_in h.1 h.2 A cp P cq st w hr hp h8
    · exact sNodes_out nd A cp ls f P cq st w hlen hr h8 h
  · exact sNodes_long nd A cp ls f P cq st w (by omega) hl
set_option maxHeartbeats 4000000 in
theorem gEnd_any (nd : Int) (A : Option Addr) (cp : Nat) (ls : List Lk) (f : Int) (P : Option Addr) (cq : Nat) (st : List Lab) (w : World) (hlen : ls.length ≤ 9223372036854775806) (hl : st.length ≤ 1048576) (hr : RdL w w.heap.size A ls) (hp : RdP w w.heap.size P st) :
    Calls Try.prog 9 #[.agg #[.int .i64 nd, .slice A ls.length cp], .int .i64 f, .slice P st.length cq] w fun e w' => e = .returned (.tuple #[.int .i64 (endN nd ls f st), .bool (bl (StkOk nd ls f st))]) ∧ Below w.heap.size w w' := by
  go_enter Try.func9, Try.ntmps9
  go_wp2_with fail
  refine (sNodes_any nd A cp ls f P cq st _ hlen hl (hr.on (bnew _ _)) (hp.on (bnew _ _))).mono ?_
  intro e w1 h1
  obtain ⟨⟨hs, B, cb, rfl, hB⟩ | ⟨hs, B, n, cb, rfl⟩, hb1⟩ := h1
  · have HS := Lib.hid hs
    clear hs
    obtain ⟨g, o, hA, hg, hc⟩ := hB (by rw [length_nds]; omega)
    obtain rfl := hA
    have m1 := hc st.length (by rw [length_nds]; omega)
    rw [nds_last] at m1
    clear hc hB
    rw [length_nds]
    have q0 : (0 : Int) ≤ (st.length : Int) := by omega
    have q1 : (st.length : Int) < (st.length : Int) + 1 := by omega
    have q2 : IntKind.i64.wrap ((st.length : Int) + 1 - 1) = (st.length : Int) := by rw [IntWalk.i64_in _ (by omega)]; omega
    have q3 : IntKind.i64.wrap (st.length : Int) = (st.length : Int) := IntWalk.i64_in _ (by omega)
    go_wp2_with fail
    go_ret2
    exact ⟨end_yes HS.out, bthen (bnew _ _) hb1⟩
  · have HS := Lib.hid hs
    clear hs
    go_wp2_with fail
    go_ret2
    exact ⟨end_no HS.out, bthen (bnew _ _) hb1⟩

theorem l4N_any (nd : Int) (A : Option Addr) (cp : Nat) (ls : List Lk) (f : Int) (P : Option Addr) (cq : Nat) (st : List Lab) (w : World) (hlen : ls.length ≤ 9223372036854775806) (hl : st.length ≤ 1048576) (hr : RdL w w.heap.size A ls) (hp : RdP w w.heap.size P st) :
    Calls Try.prog 13 #[.agg #[.int .i64 nd, .slice A ls.length cp], .int .i64 f, .slice P st.length cq] w (NdsR nd ls f st w) := by
  by_cases hv : Valid nd ls
  · by_cases hf : Nd nd f
    · by_cases h8 : st.length ≤ 8
      · exact l4N_in hv hf A cp P cq st w hr hp h8
      · exact l4N_long hv hf A cp P cq st w hr (by omega) hl
    · exact l4N_out hv hf A cp P cq st w hr
  · exact l4N_bad hv A cp f P cq st w hlen hr
set_option maxHeartbeats 4000000 in
theorem sEnd_any (nd : Int) (A : Option Addr) (cp : Nat) (ls : List Lk) (f : Int) (P : Option Addr) (cq : Nat) (st : List Lab) (w : World) (hlen : ls.length ≤ 9223372036854775806) (hl : st.length ≤ 1048576) (hr : RdL w w.heap.size A ls) (hp : RdP w w.heap.size P st) :
    Calls Try.prog 6 #[.agg #[.int .i64 nd, .slice A ls.length cp], .int .i64 f, .slice P st.length cq] w fun e w' => e = .returned (.tuple #[.int .i64 (endN nd ls f st), .bool (bl (StkOk nd ls f st))]) ∧ Below w.heap.size w w' := by
  go_enter Try.func6, Try.ntmps6
  go_wp2_with fail
  refine (l4N_any nd A cp ls f P cq st _ hlen hl (hr.on (bnew _ _)) (hp.on (bnew _ _))).mono ?_
  intro e w1 h1
  obtain ⟨⟨hs, B, cb, rfl, hB⟩ | ⟨hs, B, n, cb, rfl⟩, hb1⟩ := h1
  · have HS := Lib.hid hs
    clear hs
    obtain ⟨g, o, hA, hg, hc⟩ := hB (by rw [length_nds]; omega)
    obtain rfl := hA
    have m1 := hc st.length (by rw [length_nds]; omega)
    rw [nds_last] at m1
    clear hc hB
    rw [length_nds]
    have q0 : (0 : Int) ≤ (st.length : Int) := by omega
    have q1 : (st.length : Int) < (st.length : Int) + 1 := by omega
    have q2 : IntKind.i64.wrap ((st.length : Int) + 1 - 1) = (st.length : Int) := by rw [IntWalk.i64_in _ (by omega)]; omega
    have q3 : IntKind.i64.wrap (st.length : Int) = (st.length : Int) := IntWalk.i64_in _ (by omega)
    go_wp2_with fail
    go_ret2
    exact ⟨end_yes HS.out, bthen (bnew _ _) hb1⟩
  · have HS := Lib.hid hs
    clear hs
    go_wp2_with fail
    go_ret2
    exact ⟨end_no HS.out, bthen (bnew _ _) hb1⟩

end Go.Proofs.Ytnmmacfchmmkkaa
