/-
  The walk of the program's distances.
-/
import Derived.Test.YtnmmacfchmmkkaaDC
import Derived.Test.YtnmmacfchmmkkaaPF
import Derived.Deep.CutRange
import Derived.Deep.CutBlock
import Derived.Deep.DeepCutAuto
namespace Go.Proofs.Ytnmmacfchmmkkaa
open Go.RowKit

theorem ints_at {d : List Int} {i : Nat} (h : i < d.length) : (ints d)[i]? = some (.int .i64 (Ix d i)) := by
  unfold ints Ix; simp [h]
theorem ints_set (d : List Int) (j : Nat) (v : Int) : (ints d).set j (.int .i64 v) = ints (d.set j v) := by
  unfold ints; rw [List.map_set]
theorem repC_d0 (n f : Nat) : (repC n n).set f (.int .i64 0) = ints (d0 n f) := by
  rw [repC_full, ints_set]; unfold d0; simp

/-- the test of a step of the relaxation -/
def tstB (x y c : Int) : Bool := decide (0 ≤ x) && (decide (y < 0) || decide (x + c < y))
theorem tst_a {x y c : Int} (h1 : 0 ≤ x) (h2 : y < 0) : tstB x y c = true := by unfold tstB; simp [h1, h2]
theorem tst_b {x y c : Int} (h2 : ¬ y < 0) (h3 : decide (x + c < y) = false) : tstB x y c = false := by unfold tstB; simp [h2, h3]
theorem tst_c {x y c : Int} (h1 : 0 ≤ x) (h3 : decide (x + c < y) = true) : tstB x y c = true := by unfold tstB; simp [h1, h3]
theorem tst_d {x y c : Int} (h1 : ¬ 0 ≤ x) : tstB x y c = false := by unfold tstB; simp [h1]
theorem stepB_yes {d : List Int} {i j : Nat} {c : Int} (h : tstB (Ix d i) (Ix d j) c = true) : stepB d i j c = d.set j (Ix d i + c) := by
  unfold tstB at h
  simp at h
  unfold stepB
  rw [if_pos (by simpa using h)]
  simp
theorem stepB_no {d : List Int} {i j : Nat} {c : Int} (h : tstB (Ix d i) (Ix d j) c = false) : stepB d i j c = d := by
  have h' : ¬ tstB (Ix d i) (Ix d j) c = true := by rw [h]; simp
  unfold tstB at h'
  simp at h'
  unfold stepB
  rw [if_neg (by simpa using h')]

theorem OwI.at {w : World} {base G cq : Nat} {d : List Int} (h : OwI w base (some ⟨G, 0, none⟩) cq d) {i : Nat} (hi : i < d.length) : w.cell? ⟨G, i, none⟩ = some (.int .i64 (Ix d i)) :=
  (World.ownsRow.cellAt h i (by omega)).trans (ints_at hi)
theorem OwI.put {w : World} {base G cq : Nat} {d : List Int} (h : OwI w base (some ⟨G, 0, none⟩) cq d) (j : Nat) (v : Int) : OwI (w.setCell ⟨G, j, none⟩ (.int .i64 v)) base (some ⟨G, 0, none⟩) cq (d.set j v) := by
  have := ownsRow_set h j (.int .i64 v)
  unfold OwI
  rw [List.length_set, List.map_set]
  exact this
theorem OwI.ltB {w : World} {base G cq : Nat} {d : List Int} (h : OwI w base (some ⟨G, 0, none⟩) cq d) : base ≤ G ∧ G < w.heap.size := World.ownsRow.lt h G rfl

/-- the distances under way: d in block G; the graph's variable; a link's variable at block L -/
structure DT (w wr : World) (G cq n : Nat) (A : Option Addr) (cp : Nat) (ls : List Lk) (d : List Int) : Prop where
  g : OwI wr w.heap.size (some ⟨G, 0, none⟩) cq d
  b : Blk wr w.heap.size 32 [.int .i64 n, .slice A ls.length cp]
  bl : Below w.heap.size w wr
  lt : w.heap.size < G
  len : d.length = n
theorem DT.keep {w wr w1 : World} {G cq n : Nat} {A : Option Addr} {cp : Nat} {ls : List Lk} {d : List Int} (h : DT w wr G cq n A cp ls d) (hb : Below wr.heap.size wr w1) : DT w w1 G cq n A cp ls d :=
  ⟨h.g.keep hb, h.b.keep hb, bthen h.bl hb, h.lt, h.len⟩
theorem DT.put {w wr : World} {G cq n : Nat} {A : Option Addr} {cp : Nat} {ls : List Lk} {d : List Int} (h : DT w wr G cq n A cp ls d) (j : Nat) (v : Int) : DT w (wr.setCell ⟨G, j, none⟩ (.int .i64 v)) G cq n A cp ls (d.set j v) := by
  have hlt := h.lt
  exact ⟨h.g.put j v, h.b.far (p := ⟨G, j, none⟩) (by simp; omega) _, h.bl.setCell (p := ⟨G, j, none⟩) (by simp; omega) _, hlt, by rw [List.length_set]; exact h.len⟩
structure DL (w wr : World) (G cq n : Nat) (A : Option Addr) (cp : Nat) (ls : List Lk) (d : List Int) (L i j : Nat) (c : Int) : Prop where
  t : DT w wr G cq n A cp ls d
  l : Blk wr L 54 [.int .i64 i, .int .i64 j, .int .i64 c]
  gl : G < L
theorem DL.keep {w wr w1 : World} {G cq n : Nat} {A : Option Addr} {cp : Nat} {ls : List Lk} {d : List Int} {L i j : Nat} {c : Int} (h : DL w wr G cq n A cp ls d L i j c) (hb : Below wr.heap.size wr w1) : DL w w1 G cq n A cp ls d L i j c :=
  ⟨h.t.keep hb, h.l.keep hb, h.gl⟩
theorem DL.put {w wr : World} {G cq n : Nat} {A : Option Addr} {cp : Nat} {ls : List Lk} {d : List Int} {L i j : Nat} {c : Int} (h : DL w wr G cq n A cp ls d L i j c) (k : Nat) (v : Int) : DL w (wr.setCell ⟨G, k, none⟩ (.int .i64 v)) G cq n A cp ls (d.set k v) L i j c :=
  ⟨h.t.put k v, h.l.far (p := ⟨G, k, none⟩) (by simp; have := h.gl; omega) _, h.gl⟩
/-- the distances are handed back, their slice the call's own -/
def RI (xs : List Int) (w : World) (e : Ending) (w' : World) : Prop :=
  (∃ A cp, e = .returned (.slice A xs.length cp) ∧ OwI w' w.heap.size A cp xs) ∧ Below w.heap.size w w'

set_option maxRecDepth 100000 in
set_option maxHeartbeats 4000000 in
theorem dist_any {nd : Int} {ls : List Lk} (hv : Valid nd ls) {f : Int} (hf : Nd nd f) (A : Option Addr) (cp : Nat) (w : World) (hr : RdL w w.heap.size A ls) :
    Calls Try.prog 30 #[.agg #[.int .i64 nd, .slice A ls.length cp], .int .i64 f] w (RI (dists nd ls f) w) := by
  obtain ⟨n, rfl⟩ := Int.eq_ofNat_of_zero_le (by have := hv.1; omega : 0 ≤ nd)
  obtain ⟨f', rfl⟩ := Int.eq_ofNat_of_zero_le hf.1
  have h14 : ls.length ≤ 14 := hv.2.2.1
  have hn1 : 1 ≤ n := by have := hv.1; omega
  have hn8 : n ≤ 8 := by have := hv.2.1; omega
  have hfn : (f' : Int) < (n : Int) := hf.2
  have hf0 : (0 : Int) ≤ (f' : Int) := hf.1
  have HV := Lib.hid hv
  clear hv
  go_enter Try.func30, Try.ntmps30
  go_wp2_with fail
  refine (rep_any n hn1 hn8 (w.heap.size + 1) _ (by go_simp) (by simp)).mono ?_
  rintro e w1 ⟨⟨rfl, hg1⟩, hb1⟩
  rw [show ((w.alloc (.cells #[.int .i64 n, .slice A ls.length cp] 32)).alloc (.cells #[.int .i64 (-1)] 3)).heap.size = w.heap.size + 1 + 1 from by simp] at hg1
  have T1 : DT w w1 (w.heap.size + 1 + 1) n n A cp ls (List.replicate n (-1)) := by
    rw [repC_full] at hg1
    have ho := hg1.own (base := w.heap.size) (size := 1) (n := n) (by unfold ints; simp) (by omega) (by omega)
    exact ⟨by unfold OwI; rw [List.length_replicate]; exact ho, (Blk.new w #[.int .i64 n, .slice A ls.length cp] 32).keep (bthen (bnew _ _) hb1), bthen (b2 _ _ _) hb1, by omega, by simp⟩
  have c0 : ∃ v, w1.cell? ⟨w.heap.size + 1 + 1, f', none⟩ = some v := ⟨_, (hg1.cellAt f').trans (repC_at (by omega))⟩
  obtain ⟨v0, c0⟩ := c0
  have f0 := hg1.frozenAt f'
  have b0 : w1.cell? ⟨w.heap.size, 0, none⟩ = some (.int .i64 n) := T1.b.cellAt 0
  have lG := hg1.lt
  clear hg1 hb1
  go_wp2_with fail
  have T2 := T1.put f' 0
  rw [show (List.replicate n (-1)).set f' 0 = d0 n f' from by unfold d0; simp] at T2
  clear T1 c0 f0 b0 lG
  go_loopw [17] (fun i wr => ∃ r : Nat, r ≤ n ∧ i = .int .i64 r ∧ DT w wr (w.heap.size + 1 + 1) n n A cp ls (rnds ls r (d0 n f'))) (fun i _ => n - (intOf i).toNat)
  case atStart => exact ⟨0, Nat.zero_le _, rfl, T2⟩
  case round =>
    obtain ⟨r, hrn, rfl, T⟩ := hrel
    have HT : Hid (Bd (rnds ls r (d0 n f')) (560 * r)) := by
      have := Bd.rnds HV.out (Bd.d0 n f') r
      rwa [Int.zero_add] at this
    by_cases hlt : r < n
    · have y1 : wr.cell? ⟨w.heap.size, 1, none⟩ = some (.slice A ls.length cp) := T.b.cellAt 1
      obtain ⟨wo, hwo⟩ : ∃ wo : World, wo = wr := ⟨_, rfl⟩
      subst hwo
      go_wp2_with fail
      go_loopw [22] (fun i wr => ∃ k : Nat, k ≤ ls.length ∧ i = .int .i64 k ∧ DT w wr (w.heap.size + 1 + 1) n n A cp ls (rndK ls k (rnds ls r (d0 n f')))) (fun i _ => ls.length - (intOf i).toNat)
      case atStart => exact ⟨0, Nat.zero_le _, rfl, T⟩
      case round =>
        obtain ⟨k, hk, rfl, S⟩ := hrel
        clear T y1
        by_cases hlk : k < ls.length
        · obtain ⟨ad, o, hA, hbk, hc⟩ := hr (by omega)
          obtain ⟨c1, c2, c3⟩ := hc k hlk
          obtain rfl := hA
          have hlo := HV.out.ok hlk
          unfold LkOk at hlo
          have HR : Hid (rndK ls (k + 1) (rnds ls r (d0 n f')) = relax (rndK ls k (rnds ls r (d0 n f'))) (La ls k) (Lb ls k) (Lc ls k)) := rfl
          have HBd : Hid (Bd (rndK ls k (rnds ls r (d0 n f'))) 5040) := (Bd.rndK HV.out HT.out (k := k) (by omega)).mono (by omega)
          generalize rndK ls k (rnds ls r (d0 n f')) = d at *
          generalize Lc ls k = c at *
          have c1' := (S.bl.cell (by exact hbk)).trans c1
          have c2' := (S.bl.cell (by exact hbk)).trans c2
          have c3' := (S.bl.cell (by exact hbk)).trans c3
          clear c1 c2 c3 hc
          obtain ⟨i, hi⟩ := Int.eq_ofNat_of_zero_le hlo.1
          obtain ⟨j, hj⟩ := Int.eq_ofNat_of_zero_le (by omega : 0 ≤ Lb ls k)
          rw [hi] at c1'
          rw [hj] at c2'
          rw [hi, hj] at hlo HR
          clear hi hj
          have hic : c ≤ 20 := hlo.2.2.2.2
          have hic1 : 1 ≤ c := hlo.2.2.2.1
          have hij : i < j := by omega
          have hjn : j < n := by omega
          clear hlo
          have x1 : wr.cell? ⟨w.heap.size + 1 + 1, i, none⟩ = some (.int .i64 (Ix d i)) := S.g.at (by rw [S.len]; omega)
          have x2 : wr.cell? ⟨w.heap.size + 1 + 1, j, none⟩ = some (.int .i64 (Ix d j)) := S.g.at (by rw [S.len]; omega)
          have lG := S.g.ltB.2
          have hbw := S.bl.size
          have i1 : (i : Int) < (n : Int) := by omega
          have j1 : (j : Int) < (n : Int) := by omega
          have i0 : (0 : Int) ≤ (i : Int) := by omega
          have j0 : (0 : Int) ≤ (j : Int) := by omega
          have bi := HBd.out i
          have bj := HBd.out j
          generalize hx : Ix d i = x at *
          generalize hy : Ix d j = y at *
          have HX := Lib.hid hx
          have HY := Lib.hid hy
          clear hx hy
          have DL0 : DL w (wr.alloc (.cells #[.int .i64 i, .int .i64 j, .int .i64 c] 54)) (w.heap.size + 1 + 1) n n (some ⟨ad, o, none⟩) cp ls d wr.heap.size i j c := ⟨S.keep (bnew _ _), Blk.new _ _ _, lG⟩
          go_upto_region 8 with fail
          go_cut [55] from 23 to 110 (fun s wx => s = .bool (tstB x y c) ∧ DL w wx (w.heap.size + 1 + 1) n n (some ⟨ad, o, none⟩) cp ls d wr.heap.size i j c)
          case first =>
            have q5 : IntKind.i64.wrap (x + c) = x + c := IntWalk.i64_in _ (by omega)
            by_cases t1 : 0 ≤ x
            · have t1' : decide (0 ≤ x) = true := by simpa using t1
              by_cases t2 : y < 0
              · have t2' : decide (y < 0) = true := by simpa using t2
                have HZ := Lib.hid (tst_a (c := c) t1 t2)
                go_quiet (fail)
                go_wp2_with fail
                go_meet
                exact ⟨by rw [HZ.out], DL0.keep (bdN (Below.refl _ _) _)⟩
              · have t2' : decide (y < 0) = false := by simpa using t2
                cases t3 : decide (x + c < y)
                · have HZ := Lib.hid (tst_b t2 t3)
                  go_quiet (fail)
                  go_wp2_with fail
                  go_meet
                  exact ⟨by rw [HZ.out], DL0.keep (bdN (Below.refl _ _) _)⟩
                · have HZ := Lib.hid (tst_c t1 t3)
                  go_quiet (fail)
                  go_wp2_with fail
                  go_meet
                  exact ⟨by rw [HZ.out], DL0.keep (bdN (Below.refl _ _) _)⟩
            · have t1' : decide (0 ≤ x) = false := by simpa using t1
              have HZ := Lib.hid (tst_d (y := y) (c := c) t1)
              go_quiet (fail)
              go_wp2_with fail
              go_meet
              exact ⟨by rw [HZ.out], DL0.keep (bdN (Below.refl _ _) _)⟩
          case rest =>
            obtain ⟨rfl, S1⟩ := hcut
            have HZ : Hid (tstB (Ix d i) (Ix d j) c = tstB x y c) := by show _ = _; rw [HX.out, HY.out]
            clear DL0 x1 x2 S c1' c2' c3' lG hbw
            go_upto_if 55 with fail
            go_cut [] from 23 to 110 (fun wx => DL w wx (w.heap.size + 1 + 1) n n (some ⟨ad, o, none⟩) cp ls (stepB d i j c) wr.heap.size i j c)
            case first =>
              have m1 : wc.cell? ⟨w.heap.size + 1 + 1, i, none⟩ = some (.int .i64 x) := (S1.t.g.at (by rw [S1.t.len]; omega)).trans (by rw [HX.out])
              have m2 : wc.cell? ⟨w.heap.size + 1 + 1, j, none⟩ = some (.int .i64 y) := (S1.t.g.at (by rw [S1.t.len]; omega)).trans (by rw [HY.out])
              have l1 : wc.cell? ⟨wr.heap.size, 0, none⟩ = some (.int .i64 i) := S1.l.cellAt 0
              have l2 : wc.cell? ⟨wr.heap.size, 1, none⟩ = some (.int .i64 j) := S1.l.cellAt 1
              have l3 : wc.cell? ⟨wr.heap.size, 2, none⟩ = some (.int .i64 c) := S1.l.cellAt 2
              have fj := World.ownsRow.frozenAt S1.t.g j
              have q5 : IntKind.i64.wrap (x + c) = x + c := IntWalk.i64_in _ (by omega)
              cases hz : tstB x y c
              · rw [hz] at HZ
                go_wp2_with fail
                go_meet
                rw [stepB_no HZ.out]
                exact S1
              · rw [hz] at HZ
                have HP : Hid (DL w (wc.drew.setCell ⟨w.heap.size + 1 + 1, j, none⟩ (.int .i64 (x + c))) (w.heap.size + 1 + 1) n n (some ⟨ad, o, none⟩) cp ls (stepB d i j c) wr.heap.size i j c) := by
                  show DL _ _ _ _ _ _ _ _ _ _ _ _ _
                  rw [stepB_yes HZ.out, HX.out]
                  exact (S1.keep (Below.refl _ _).drew).put j (x + c)
                go_wp2_with fail
                go_still_tail 12, (by kernel_rfl)
                change wpList _ _ _ _ _ wc.drew
                go_wp2_with fail
                go_meet
                exact HP.out
            case rest =>
              have bi2 := (HBd.out.stepB (a := i) (b := j) (c := c) (by omega) hic) i
              have bj2 := (HBd.out.stepB (a := i) (b := j) (c := c) (by omega) hic) j
              have HR2 : Hid (rndK ls (k + 1) (rnds ls r (d0 n f')) = stepB (stepB d i j c) j i c) := HR.out
              have S2 := hcut; clear hcut
              clear HZ HX HY S1 bi bj HBd HR
              generalize stepB d i j c = e at *
              generalize hx : Ix e j = x2 at *
              generalize hy : Ix e i = y2 at *
              have HX := Lib.hid hx
              have HY := Lib.hid hy
              clear hx hy
              have m1 : wc.cell? ⟨w.heap.size + 1 + 1, i, none⟩ = some (.int .i64 y2) := (S2.t.g.at (by rw [S2.t.len]; omega)).trans (by rw [HY.out])
              have m2 : wc.cell? ⟨w.heap.size + 1 + 1, j, none⟩ = some (.int .i64 x2) := (S2.t.g.at (by rw [S2.t.len]; omega)).trans (by rw [HX.out])
              have l1 : wc.cell? ⟨wr.heap.size, 0, none⟩ = some (.int .i64 i) := S2.l.cellAt 0
              have l2 : wc.cell? ⟨wr.heap.size, 1, none⟩ = some (.int .i64 j) := S2.l.cellAt 1
              have l3 : wc.cell? ⟨wr.heap.size, 2, none⟩ = some (.int .i64 c) := S2.l.cellAt 2
              go_upto_region 10 with fail
              go_cut [97] from 23 to 110 (fun s wx => s = .bool (tstB x2 y2 c) ∧ DL w wx (w.heap.size + 1 + 1) n n (some ⟨ad, o, none⟩) cp ls e wr.heap.size i j c)
              case first =>
                have q5 : IntKind.i64.wrap (x2 + c) = x2 + c := IntWalk.i64_in _ (by omega)
                by_cases t1 : 0 ≤ x2
                · have t1' : decide (0 ≤ x2) = true := by simpa using t1
                  by_cases t2 : y2 < 0
                  · have t2' : decide (y2 < 0) = true := by simpa using t2
                    have HZ := Lib.hid (tst_a (c := c) t1 t2)
                    go_quiet (fail)
                    go_wp2_with fail
                    go_meet
                    exact ⟨by rw [HZ.out], S2.keep (bdN (Below.refl _ _) _)⟩
                  · have t2' : decide (y2 < 0) = false := by simpa using t2
                    cases t3 : decide (x2 + c < y2)
                    · have HZ := Lib.hid (tst_b t2 t3)
                      go_quiet (fail)
                      go_wp2_with fail
                      go_meet
                      exact ⟨by rw [HZ.out], S2.keep (bdN (Below.refl _ _) _)⟩
                    · have HZ := Lib.hid (tst_c t1 t3)
                      go_quiet (fail)
                      go_wp2_with fail
                      go_meet
                      exact ⟨by rw [HZ.out], S2.keep (bdN (Below.refl _ _) _)⟩
                · have t1' : decide (0 ≤ x2) = false := by simpa using t1
                  have HZ := Lib.hid (tst_d (y := y2) (c := c) t1)
                  go_quiet (fail)
                  go_wp2_with fail
                  go_meet
                  exact ⟨by rw [HZ.out], S2.keep (bdN (Below.refl _ _) _)⟩
              case rest =>
                obtain ⟨rfl, S3⟩ := hcut
                have HZ : Hid (tstB (Ix e j) (Ix e i) c = tstB x2 y2 c) := by show _ = _; rw [HX.out, HY.out]
                clear m1 m2 l1 l2 l3 S2
                have m1 : wc.cell? ⟨w.heap.size + 1 + 1, i, none⟩ = some (.int .i64 y2) := (S3.t.g.at (by rw [S3.t.len]; omega)).trans (by rw [HY.out])
                have m2 : wc.cell? ⟨w.heap.size + 1 + 1, j, none⟩ = some (.int .i64 x2) := (S3.t.g.at (by rw [S3.t.len]; omega)).trans (by rw [HX.out])
                have l1 : wc.cell? ⟨wr.heap.size, 0, none⟩ = some (.int .i64 i) := S3.l.cellAt 0
                have l2 : wc.cell? ⟨wr.heap.size, 1, none⟩ = some (.int .i64 j) := S3.l.cellAt 1
                have l3 : wc.cell? ⟨wr.heap.size, 2, none⟩ = some (.int .i64 c) := S3.l.cellAt 2
                have fi := World.ownsRow.frozenAt S3.t.g i
                have q5 : IntKind.i64.wrap (x2 + c) = x2 + c := IntWalk.i64_in _ (by omega)
                cases hz : tstB x2 y2 c
                · rw [hz] at HZ
                  go_wp2_with fail
                  go_roundw
                  case rel => exact ⟨k + 1, by omega, by go_num, by rw [HR2.out, stepB_no HZ.out]; exact S3.t⟩
                  case measure => simp [intOf]; omega
                · rw [hz] at HZ
                  have HP : Hid (DT w (wc.drew.setCell ⟨w.heap.size + 1 + 1, i, none⟩ (.int .i64 (x2 + c))) (w.heap.size + 1 + 1) n n (some ⟨ad, o, none⟩) cp ls (rndK ls (k + 1) (rnds ls r (d0 n f')))) := by
                    show DT _ _ _ _ _ _ _ _ _
                    rw [HR2.out, stepB_yes HZ.out, HX.out]
                    exact ((S3.keep (Below.refl _ _).drew).put i (x2 + c)).t
                  go_wp2_with fail
                  go_still_tail 12, (by kernel_rfl)
                  change wpList _ _ _ _ _ wc.drew
                  go_wp2_with fail
                  go_roundw
                  case rel => exact ⟨k + 1, by omega, by go_num, HP.out⟩
                  case measure => simp [intOf]; omega
        · have HK : Hid (k = ls.length) := by show k = ls.length; omega
          have HE : Hid (rndK ls k (rnds ls r (d0 n f')) = rnds ls (r + 1) (d0 n f')) := by rw [HK.out]; rfl
          go_wp2_with fail
          go_roundw
          case rel => exact ⟨r + 1, by omega, by go_num, by rw [← HE.out]; exact S⟩
          case measure => simp [intOf]; omega
    · have HK : Hid (r = n) := by show r = n; omega
      have HE : Hid (rnds ls r (d0 n f') = dists n ls f') := by show _ = _; rw [HK.out]; unfold dists; rw [Int.toNat_natCast]
      go_wp2_with fail
      go_ret
      rw [HE.out] at T
      have hl := T.len
      exact ⟨⟨some ⟨w.heap.size + 1 + 1, 0, none⟩, n, by rw [hl]; rfl, T.g⟩, T.bl⟩

end Go.Proofs.Ytnmmacfchmmkkaa
