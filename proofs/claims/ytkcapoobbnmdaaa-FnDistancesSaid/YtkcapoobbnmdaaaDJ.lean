/-
  The walks of slices.Clone, of both GraphCost, of l1Copy and l1Cost.
-/
import Derived.Test.YtkcapoobbnmdaaaWS
import Derived.Test.YtkcapoobbnmdaaaWT
import Derived.Test.YtkcapoobbnmdaaaPD
import Derived.Deep.RegionWith
import Derived.Lib.SliceRun
namespace Go.Proofs.Ytkcapoobbnmdaaa
open Go.RowKit
set_option maxRecDepth 100000

theorem cellsL_lsC (ls : List Lk) (k : Nat) (c : Int) (hk : k < ls.length) : cellsL (lsC ls k c) = (cellsL ls).set (k * 3 + 2) (.int .i64 c) := by
  unfold lsC
  induction ls generalizing k with
  | nil => simp at hk
  | cons x r ih =>
    cases k with
    | zero => rfl
    | succ k =>
      have h := ih k (by simpa using hk)
      rw [show (k + 1) * 3 + 2 = k * 3 + 2 + 1 + 1 + 1 from by omega]
      simp only [List.set_cons_succ, cellsL, La, Lb, List.getD_cons_succ] at h ⊢
      rw [h]
theorem OwL.putC {w : World} {base g cp : Nat} {ls : List Lk} (h : OwL w base (some ⟨g, 0, none⟩) cp ls) {k : Nat} (hk : k < ls.length) (c : Int) :
    OwL (w.setCell ⟨g, k * 3 + 2, none⟩ (.int .i64 c)) base (some ⟨g, 0, none⟩) cp (lsC ls k c) := by
  have := ownsRow_set h (k * 3 + 2) (.int .i64 c)
  unfold OwL
  rw [length_lsC, cellsL_lsC _ _ _ hk]
  exact this
theorem OwL.some' {w : World} {base : Nat} {A : Option Addr} {cp : Nat} {ls : List Lk} (h : OwL w base A cp ls) (h0 : 0 < ls.length) : ∃ g, A = some ⟨g, 0, none⟩ ∧ base ≤ g ∧ g < w.heap.size := by
  obtain ⟨g, cap, hv, h1, h2⟩ := World.ownsRow.form h h0
  simp only [Value.slice.injEq] at hv
  exact ⟨g, hv.1, h1, h2⟩
/-- a slice of links is handed back, the call's own -/
def RL (ls : List Lk) (w : World) (e : Ending) (w' : World) : Prop :=
  (∃ A cp, e = .returned (.slice A ls.length cp) ∧ OwL w' w.heap.size A cp ls) ∧ Below w.heap.size w w'
theorem below_grownL {w wr w2 : World} {A : Option Addr} {n cp base : Nat} {ls : List Lk} (hb : Below w.heap.size w wr) (ho : OwL wr base A cp ls) (hbase : w.heap.size ≤ base) (hn : n = ls.length) (hg : wr.grownBy w2 (Value.slice A n cp).ownBlock) : Below w.heap.size w w2 := by
  subst hn
  exact hb.grown hg hb.size (fun k hk => Nat.le_trans hbase (World.ownsRow.lt ho k hk).1)

set_option maxRecDepth 100000 in
set_option maxHeartbeats 1000000 in
theorem clone_any (g o cp : Nat) (ls : List Lk) (w : World) (hlen : ls.length ≤ 14) (hr : RdL w w.heap.size (some ⟨g, o, none⟩) ls) :
    Calls Try.prog 102 #[.slice (some ⟨g, o, none⟩) ls.length cp] w (RL ls w) := by
  obtain ⟨i0, hi, hz0, hz1, hz2⟩ := info_parts Try.infoLk
  have oX := own_empty' w w.heap.size w.heap.size rfl (Nat.le_refl _)
  have rX := hr.on (bnew w (.cells #[] 48))
  have bX := bnew w (.cells #[] 48)
  have sX : w.heap.size ≤ (w.alloc (.cells #[] 48)).heap.size := bX.size
  have hL : ([] : List Lk).length + ls.length ≤ 1048600 := by simp; omega
  have qN : ∀ (w : World) (a : Option Addr) (n c n' c' : Nat), (binOp .eql 23 (.slice a n c) (.slice none n' c')).run Try.prog w = .ok (.bool a.isNone) w := fun w a n c n' c' => Lib.run_eql_slice_nil w _ _ a n c n' c' Try.underlying23
  go_enter Try.func102, Try.ntmps102
  go_wp2_with (at_builtin; refine wpList_app _ rfl (.tmp 5) (.tmp 6) _ rfl i0 Try.underlying23 hi hz0 hz1 hz2 rfl rfl oX ls rfl rfl rX hL sX ?_; intro A5 cp5 n5 w5 HN5 O5 G5)
  go_ret
  rw [List.nil_append] at HN5 O5
  exact ⟨⟨A5, cp5, by rw [HN5.out]; rfl, O5⟩, below_grownL bX oX (Nat.le_refl _) rfl G5⟩

/-- a graph in a variable at block G, its slice the call's own; the result's block H is as it was laid -/
def GV (w : World) (H : Nat) (nd : Int) (ls : List Lk) (s : Value) (wx : World) : Prop :=
  ∃ G B cq, s = .pointer (some ⟨G, 0, none⟩) ∧ Blk wx G 25 [.int .i64 nd, .slice B ls.length cq] ∧ Blk wx H 25 [.int .i64 0, .slice none 0 0] ∧ OwL wx w.heap.size B cq ls ∧ Below w.heap.size w wx ∧ w.heap.size ≤ H ∧ H < G
theorem gvA {w w1 w2 : World} {H : Nat} {nd : Int} {ls : List Lk} {B : Option Addr} {cq : Nat} (ho : OwL w2 w1.heap.size B cq ls) (hb : Below w1.heap.size w1 w2) (hh : Blk w1 H 25 [.int .i64 0, .slice none 0 0]) (hb1 : Below w.heap.size w w1) (hH : w.heap.size ≤ H) :
    GV w H nd ls (.pointer (some ⟨w2.heap.size, 0, none⟩)) (w2.alloc (.cells #[.int .i64 nd, .slice B ls.length cq] 25)) :=
  ⟨w2.heap.size, B, cq, rfl, Blk.new _ _ _, (hh.keep hb).keep (bnew _ _), ownsRow_base (ho.keep (bnew _ _)) hb1.size, bthen hb1 (bthen hb (bnew _ _)), hH, Nat.lt_of_lt_of_le hh.lt hb.size⟩
theorem gvB {w w1 w2 : World} {H G : Nat} {nd : Int} {ls : List Lk} {B : Option Addr} {cq : Nat} (ho : OwL w2 w1.heap.size B cq ls) (hb : Below w1.heap.size w1 w2) (hz : Blk w2 G 25 [.int .i64 0, .slice none 0 0]) (hG : H < G) (hh : Blk w1 H 25 [.int .i64 0, .slice none 0 0]) (hb1 : Below w.heap.size w w1) (hH : w.heap.size ≤ H) :
    GV w H nd ls (.pointer (some ⟨G, 0, none⟩)) ((w2.setCell ⟨G, 0, none⟩ (.int .i64 nd)).setCell ⟨G, 1, none⟩ (.slice B ls.length cq)) :=
  ⟨G, B, cq, rfl, (hz.stored 0 _).stored 1 _, ((hh.keep hb).far (p := ⟨G, 0, none⟩) (by simp; omega) _).far (p := ⟨G, 1, none⟩) (by simp; omega) _, ownsRow_base (own_st (own_st ho hz (by decide) 0 _) (hz.stored 0 _) (by decide) 1 _) hb1.size,
    ((bthen hb1 hb).setCell (p := ⟨G, 0, none⟩) (by simp; omega) _).setCell (p := ⟨G, 1, none⟩) (by simp; omega) _, hH, hG⟩
set_option maxRecDepth 100000 in
set_option maxHeartbeats 1000000 in
theorem gCost_yes {nd : Int} {ls : List Lk} (hv : Valid nd ls) {k c : Int} (hk : Lnk ls k) (h1 : 1 ≤ c) (h20 : c ≤ 20) (A : Option Addr) (cp : Nat) (w : World) (hr : RdL w w.heap.size A ls) :
    Calls Try.prog 94 #[.agg #[.int .i64 nd, .slice A ls.length cp], .int .i64 k, .int .i64 c] w (RG nd (lsC ls k.toNat c) true w) := by
  have h14 : ls.length ≤ 14 := hv.2.2.1
  obtain ⟨k', rfl⟩ := Int.eq_ofNat_of_zero_le hk.1
  have hkl : k' < ls.length := by have := hk.2; omega
  have hki : (k' : Int) < (ls.length : Int) := hk.2
  have hk0 : (0 : Int) ≤ (k' : Int) := hk.1
  obtain ⟨g, o, hA, hg, -⟩ := hr (by omega)
  subst hA
  go_enter Try.func94, Try.ntmps94
  go_wp2_with fail
  refine (hasLink_yes hv hk (some ⟨g, o, none⟩) cp _ (hr.on (b2 _ _ _))).mono ?_
  rintro e w1 ⟨rfl, hb1⟩
  have k0 : w1.cell? ⟨w.heap.size, 0, none⟩ = some (.int .i64 nd) := ckeep (by go_simp) hb1
  have k1 : w1.cell? ⟨w.heap.size, 1, none⟩ = some (.slice (some ⟨g, o, none⟩) ls.length cp) := ckeep (by go_simp) hb1
  have r1 := (hr.on (b2 w (.cells #[.int .i64 nd, .slice (some ⟨g, o, none⟩) ls.length cp] 25) (.cells #[.int .i64 0, .slice none 0 0] 25))).on hb1
  have H1 : Blk w1 (w.heap.size + 1) 25 [.int .i64 0, .slice none 0 0] := by
    have h := Blk.new (w.alloc (.cells #[.int .i64 nd, .slice (some ⟨g, o, none⟩) ls.length cp] 25)) #[.int .i64 0, .slice none 0 0] 25
    rw [show (w.alloc (.cells #[.int .i64 nd, .slice (some ⟨g, o, none⟩) ls.length cp] 25)).heap.size = w.heap.size + 1 from by simp] at h
    exact h.keep hb1
  have B1 := bthen (b2 w (.cells #[.int .i64 nd, .slice (some ⟨g, o, none⟩) ls.length cp] 25) (.cells #[.int .i64 0, .slice none 0 0] 25)) hb1
  clear hb1
  go_wp2_with fail
  refine (within_yes h1 h20 _).mono ?_
  rintro e w' ⟨rfl, rfl⟩
  have r1d : RdL w1.drew w1.drew.heap.size (some ⟨g, o, none⟩) ls := r1
  have r1a : RdL (w1.alloc (.cells #[.int .i64 0, .slice none 0 0] 25)).drew (w1.alloc (.cells #[.int .i64 0, .slice none 0 0] 25)).drew.heap.size (some ⟨g, o, none⟩) ls := r1.on ((bnew _ _).drew)
  have BA : Below w1.heap.size w1 (w1.alloc (.cells #[.int .i64 0, .slice none 0 0] 25)).drew := (bnew _ _).drew
  have BD : Below w1.heap.size w1 w1.drew := (Below.refl _ _).drew
  have l0 : w.heap.size < w1.heap.size := by have := H1.lt; omega
  have ZA : Blk (w1.alloc (.cells #[.int .i64 0, .slice none 0 0] 25)).drew w1.heap.size 25 [.int .i64 0, .slice none 0 0] := (Blk.new w1 #[.int .i64 0, .slice none 0 0] 25)
  have HCx : Hid (lsC ls (k' : Int).toNat c = lsC ls k' c) := by show _ = _; rw [Int.toNat_natCast]
  go_upto_region 3 with fail
  go_cut [8] from 9 (fun s wx => GV w (w.heap.size + 1) nd ls s wx)
  case first =>
    go_region_with (first
      | (go_at_call 102; refine (clone_any g o cp ls _ h14 r1d).mono ?_; rintro e w2 ⟨⟨B, cq, rfl, ho⟩, hb2⟩; have hb3 := bthen BD hb2; have k0' := ckeep k0 hb3; have k1' := ckeep k1 hb3; have l2 : w.heap.size < w2.heap.size := Nat.lt_of_lt_of_le l0 hb3.size)
      | (go_at_call 102; refine (clone_any g o cp ls _ h14 r1a).mono ?_; rintro e w2 ⟨⟨B, cq, rfl, ho⟩, hb2⟩; have hb3 := bthen BA hb2; have k0' := ckeep k0 hb3; have k1' := ckeep k1 hb3; have ZB := ZA.keep hb2; have z0 := ZB.cellAt 0; have z1 := ZB.cellAt 1; have y0 := ZB.frozenAt 0; have y1 := ZB.frozenAt 1; have l2 : w.heap.size < w2.heap.size := Nat.lt_of_lt_of_le l0 hb3.size; have l3 : w1.heap.size < w2.heap.size := ZB.lt; simp only [List.getElem?_cons_zero, List.getElem?_cons_succ] at z0 z1))
    all_goals
      go_wp2_with fail
      go_meet
      first | exact gvA (w1 := w1) ho hb3 H1 B1 (by omega) | exact gvB (w1 := w1) (ownsRow_base ho BA.size) hb3 ZB (by have := H1.lt; omega) H1 B1 (by omega)
  case rest =>
    obtain ⟨G, B, cq, rfl, GW, HW, OW, BW, lH, hHG⟩ := hcut
    clear k0 k1 r1 H1 r1d r1a BA BD ZA l0 B1
    obtain ⟨gB, hB, hB1, hB2⟩ := OW.some' (by omega)
    subst hB
    have g0 : wc.cell? ⟨G, 0, none⟩ = some (.int .i64 nd) := GW.cellAt 0
    have g1 : wc.cell? ⟨G, 1, none⟩ = some (.slice (some ⟨gB, 0, none⟩) ls.length cq) := GW.cellAt 1
    have e3 : ∃ v, wc.cell? ⟨gB, k' * 3 + 2, none⟩ = some v := ⟨_, (World.ownsRow.cellAt OW _ (by omega)).trans (List.getElem?_eq_getElem (by rw [length_cellsL]; omega))⟩
    obtain ⟨v3, e3⟩ := e3
    have f3 := World.ownsRow.frozenAt OW (k' * 3 + 2)
    have hne : gB ≠ G := by
      intro e
      subst e
      exact own_ne OW GW (by decide) rfl
    have hne2 : gB ≠ w.heap.size + 1 := by
      intro e
      subst e
      exact own_ne OW HW (by decide) rfl
    have O2 := OW.putC hkl c
    have H2 := HW.far (p := ⟨gB, k' * 3 + 2, none⟩) (Ne.symm hne2) (.int .i64 c)
    have G2 := GW.far (p := ⟨gB, k' * 3 + 2, none⟩) (Ne.symm hne) (.int .i64 c)
    have B2 := BW.setCell (p := ⟨gB, k' * 3 + 2, none⟩) hB1 (.int .i64 c)
    have h0 := H2.cellAt 0
    have h1' := H2.cellAt 1
    have y0 := H2.frozenAt 0
    have y1 := H2.frozenAt 1
    have g0' := G2.cellAt 0
    have g1' := G2.cellAt 1
    simp only [List.getElem?_cons_zero, List.getElem?_cons_succ] at h0 h1' g0' g1'
    have HD := Lib.hid (res_done O2 H2 B2 lH (.int .i64 nd) (.slice (some ⟨gB, 0, none⟩) ls.length cq))
    clear OW HW GW BW O2 H2 G2 B2
    go_wp2_with fail
    refine bodyPost_ret (v := .tuple #[.agg #[.int .i64 nd, .slice (some ⟨gB, 0, none⟩) ls.length cq], .bool true]) (by simp [results, Try.results94, go_sem, h0, h1']) rfl ?_
    have hd := HD.out
    rw [HCx.out]
    exact ⟨⟨some ⟨gB, 0, none⟩, cq, by rw [length_lsC], hd.1⟩, hd.2⟩

end Go.Proofs.Ytkcapoobbnmdaaa
