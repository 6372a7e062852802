/-
  The walk of the reference's l2Distances.
-/
import Derived.Test.YtnmmacfchmmkkaaDD
import Derived.Test.YtnmmacfchmmkkaaDE
namespace Go.Proofs.Ytnmmacfchmmkkaa
open Go.RowKit

set_option maxRecDepth 100000 in
set_option maxHeartbeats 4000000 in
theorem sdist_any {nd : Int} {ls : List Lk} (hv : Valid nd ls) {f : Int} (hf : Nd nd f) (A : Option Addr) (cp : Nat) (w : World) (hr : RdL w w.heap.size A ls) :
    Calls Try.prog 27 #[.agg #[.int .i64 nd, .slice A ls.length cp], .int .i64 f] w (RI (dists nd ls f) w) := by
  obtain ⟨n, rfl⟩ := Int.eq_ofNat_of_zero_le (by have := hv.1; omega : 0 ≤ nd)
  obtain ⟨f', rfl⟩ := Int.eq_ofNat_of_zero_le hf.1
  have h14 : ls.length ≤ 14 := hv.2.2.1
  have hn1 : 1 ≤ n := by have := hv.1; omega
  have hn8 : n ≤ 8 := by have := hv.2.1; omega
  have hfn : (f' : Int) < (n : Int) := hf.2
  have hf0 : (0 : Int) ≤ (f' : Int) := hf.1
  have HV := Lib.hid hv
  clear hv
  obtain ⟨i0, hi, hz0, hz1, hz2⟩ := info_parts Try.infoIn
  go_enter Try.func27, Try.ntmps27
  go_wp2_with fail
  go_loopw [5, 6] (fun d i wr => ∃ (k : Nat) (B : Option Addr) (cq : Nat), k ≤ n ∧ i = .int .i64 k ∧ d = .slice B k cq ∧ OwI wr (w.heap.size + 1) B cq (List.replicate k (-1)) ∧ Blk wr w.heap.size 32 [.int .i64 n, .slice A ls.length cp] ∧ Below w.heap.size w wr) (fun _ i _ => n - (intOf i).toNat)
  case atStart =>
    refine ⟨0, some ⟨w.heap.size + 1, 0, none⟩, 0, Nat.zero_le _, rfl, rfl, ?_, (Blk.new w #[.int .i64 n, .slice A ls.length cp] 32).keep (bnew _ _), b2 _ _ _⟩
    exact ⟨rfl, .inr ⟨w.heap.size + 1, 0, #[], rfl, Nat.le_refl _, by have := heap_alloc_new (w.alloc (.cells #[.int .i64 n, .slice A ls.length cp] 32)) (.cells #[] 3); rwa [show (w.alloc (.cells #[.int .i64 n, .slice A ls.length cp] 32)).heap.size = w.heap.size + 1 from by simp] at this, Nat.le_refl _, by unfold maxLen; omega, rfl, rfl⟩⟩
  case round =>
    obtain ⟨k, B, cq, hk, rfl, rfl, ho, hbx, hb⟩ := hrel
    have y0 : wr.cell? ⟨w.heap.size, 0, none⟩ = some (.int .i64 n) := hbx.cellAt 0
    by_cases hkn : k < n
    · have hl0 := hbx.lt
      go_wp2_with (at_builtin; refine wpList_appI _ rfl (.tmp 17) (.tmp 18) 40 rfl i0 Try.underlying40 hi hz0 hz1 hz2 rfl (List.length_replicate ..).symm (ho.keep (bnew _ _)) (-1) rfl (by go_simp) (by rw [List.length_replicate]; omega) (by simp; omega) ?_; intro A5 cp5 n5 w5 HN5 O5 G5)
      have HB5 := hbx.keep (bnew wr (.cells #[.int .i64 (-1)] 3))
      have OK := ho.keep (bnew wr (.cells #[.int .i64 (-1)] 3))
      have BB5 := HB5.grownI G5 (ownI_ne OK HB5 (by decide))
      have BL5 := below_grownI (bthen hb (bnew wr (.cells #[.int .i64 (-1)] 3))) (ownsRow_base (base' := w.heap.size) OK (by omega)) rfl G5
      rw [← List.replicate_succ'] at HN5 O5
      rw [List.length_replicate] at HN5
      go_roundw
      case rel => exact ⟨k + 1, A5, cp5, by omega, by go_num, by rw [HN5.out], O5, BB5, BL5⟩
      case measure => simp [intOf]; omega
    · obtain rfl : n = k := by omega
      obtain ⟨G, cap, hv, hg1, hg2⟩ := World.ownsRow.form ho (by rw [List.length_replicate]; omega)
      rw [List.length_replicate] at hv
      simp only [Value.slice.injEq] at hv
      obtain ⟨rfl, -, rfl⟩ := hv
      have T1 : DT w wr G cq n A cp ls (List.replicate n (-1)) := ⟨ownsRow_base ho (by omega), hbx, hb, by omega, by simp⟩
      have c0 : wr.cell? ⟨G, f', none⟩ = some (.int .i64 (Ix (List.replicate n (-1)) f')) := T1.g.at (by simp; omega)
      have f0 := World.ownsRow.frozenAt T1.g f'
      clear hg1 ho hb hbx
      go_wp2_with fail
      have T2 := T1.put f' 0
      rw [show (List.replicate n (-1)).set f' 0 = d0 n f' from by unfold d0; simp] at T2
      clear T1 c0 f0
      go_loopw [7] (fun i wr => ∃ r : Nat, r ≤ n ∧ i = .int .i64 r ∧ DT w wr G cq n A cp ls (rnds ls r (d0 n f'))) (fun i _ => n - (intOf i).toNat)
      case atStart => exact ⟨0, Nat.zero_le _, rfl, T2⟩
      case round =>
        obtain ⟨r, hrn, rfl, T⟩ := hrel
        have HT : Hid (Bd (rnds ls r (d0 n f')) (560 * r)) := by
          have := Bd.rnds HV.out (Bd.d0 n f') r
          rwa [Int.zero_add] at this
        have y0 : wr.cell? ⟨w.heap.size, 0, none⟩ = some (.int .i64 n) := T.b.cellAt 0
        by_cases hlt : r < n
        · obtain ⟨wo, hwo⟩ : ∃ wo : World, wo = wr := ⟨_, rfl⟩
          subst hwo
          go_wp2_with fail
          go_loopw [8] (fun i wr => ∃ k : Nat, k ≤ ls.length ∧ i = .int .i64 k ∧ DT w wr G cq n A cp ls (rndK ls k (rnds ls r (d0 n f')))) (fun i _ => ls.length - (intOf i).toNat)
          case atStart => exact ⟨0, Nat.zero_le _, rfl, T⟩
          case round =>
            obtain ⟨k, hk, rfl, S⟩ := hrel
            clear T y0
            have y1 : wr.cell? ⟨w.heap.size, 1, none⟩ = some (.slice A ls.length cp) := S.b.cellAt 1
            by_cases hlk : k < ls.length
            · obtain ⟨ad, o, hA, hbk, hc⟩ := hr (by omega)
              obtain ⟨c1, c2, c3⟩ := hc k hlk
              obtain rfl := hA
              have hlo := HV.out.ok hlk
              unfold LkOk at hlo
              have HR : Hid (rndK ls (k + 1) (rnds ls r (d0 n f')) = relax (rndK ls k (rnds ls r (d0 n f'))) (La ls k) (Lb ls k) (Lc ls k)) := rfl
              have HBd : Hid (Bd (rndK ls k (rnds ls r (d0 n f'))) 5040) := (Bd.rndK HV.out HT.out (k := k) (by omega)).mono (by omega)
              generalize rndK ls k (rnds ls r (d0 n f')) = d at *
              generalize Lc ls k = c at *
              have c1' := (S.bl.cell (by exact hbk)).trans c1
              have c2' := (S.bl.cell (by exact hbk)).trans c2
              have c3' := (S.bl.cell (by exact hbk)).trans c3
              clear c1 c2 c3 hc
              obtain ⟨i, hi⟩ := Int.eq_ofNat_of_zero_le hlo.1
              obtain ⟨j, hj⟩ := Int.eq_ofNat_of_zero_le (by omega : 0 ≤ Lb ls k)
              rw [hi] at c1'
              rw [hj] at c2'
              rw [hi, hj] at hlo HR
              clear hi hj
              have hic : c ≤ 20 := hlo.2.2.2.2
              have hic1 : 1 ≤ c := hlo.2.2.2.1
              have hij : i < j := by omega
              have hjn : j < n := by omega
              clear hlo
              have x1 : wr.cell? ⟨G, i, none⟩ = some (.int .i64 (Ix d i)) := S.g.at (by rw [S.len]; omega)
              have x2 : wr.cell? ⟨G, j, none⟩ = some (.int .i64 (Ix d j)) := S.g.at (by rw [S.len]; omega)
              have lG := S.g.ltB.2
              have lw := S.b.lt
              have hbw := S.bl.size
              have i1 : (i : Int) < (n : Int) := by omega
              have j1 : (j : Int) < (n : Int) := by omega
              have i0 : (0 : Int) ≤ (i : Int) := by omega
              have j0 : (0 : Int) ≤ (j : Int) := by omega
              have bi := HBd.out i
              have bj := HBd.out j
              generalize hx : Ix d i = x at *
              generalize hy : Ix d j = y at *
              have HX := Lib.hid hx
              have HY := Lib.hid hy
              clear hx hy
              have DL0 : DL w (wr.alloc (.cells #[.int .i64 i, .int .i64 j, .int .i64 c] 54)) G cq n (some ⟨ad, o, none⟩) cp ls d wr.heap.size i j c := ⟨S.keep (bnew _ _), Blk.new _ _ _, lG⟩
              go_upto_region 14 with fail
              go_cut [70] from 29 to 124 (fun s wx => s = .bool (tstB x y c) ∧ DL w wx G cq n (some ⟨ad, o, none⟩) cp ls d wr.heap.size i j c)
              case first =>
                have q5 : IntKind.i64.wrap (x + c) = x + c := IntWalk.i64_in _ (by omega)
                by_cases t1 : 0 ≤ x
                · have t1' : decide (0 ≤ x) = true := by simpa using t1
                  by_cases t2 : y < 0
                  · have t2' : decide (y < 0) = true := by simpa using t2
                    have HZ := Lib.hid (tst_a (c := c) t1 t2)
                    go_quiet (fail)
                    go_wp2_with fail
                    go_meet
                    exact ⟨by rw [HZ.out], DL0.keep (bdN (Below.refl _ _) _)⟩
                  · have t2' : decide (y < 0) = false := by simpa using t2
                    cases t3 : decide (x + c < y)
                    · have HZ := Lib.hid (tst_b t2 t3)
                      go_quiet (fail)
                      go_wp2_with fail
                      go_meet
                      exact ⟨by rw [HZ.out], DL0.keep (bdN (Below.refl _ _) _)⟩
                    · have HZ := Lib.hid (tst_c t1 t3)
                      go_quiet (fail)
                      go_wp2_with fail
                      go_meet
                      exact ⟨by rw [HZ.out], DL0.keep (bdN (Below.refl _ _) _)⟩
                · have t1' : decide (0 ≤ x) = false := by simpa using t1
                  have HZ := Lib.hid (tst_d (y := y) (c := c) t1)
                  go_quiet (fail)
                  go_wp2_with fail
                  go_meet
                  exact ⟨by rw [HZ.out], DL0.keep (bdN (Below.refl _ _) _)⟩
              case rest =>
                obtain ⟨rfl, S1⟩ := hcut
                have HZ : Hid (tstB (Ix d i) (Ix d j) c = tstB x y c) := by show _ = _; rw [HX.out, HY.out]
                clear DL0 x1 x2 S c1' c2' c3' lG hbw
                go_upto_if 70 with fail
                go_cut [] from 29 to 124 (fun wx => DL w wx G cq n (some ⟨ad, o, none⟩) cp ls (stepB d i j c) wr.heap.size i j c)
                case first =>
                  have m1 : wc.cell? ⟨G, i, none⟩ = some (.int .i64 x) := (S1.t.g.at (by rw [S1.t.len]; omega)).trans (by rw [HX.out])
                  have m2 : wc.cell? ⟨G, j, none⟩ = some (.int .i64 y) := (S1.t.g.at (by rw [S1.t.len]; omega)).trans (by rw [HY.out])
                  have l1 : wc.cell? ⟨wr.heap.size, 0, none⟩ = some (.int .i64 i) := S1.l.cellAt 0
                  have l2 : wc.cell? ⟨wr.heap.size, 1, none⟩ = some (.int .i64 j) := S1.l.cellAt 1
                  have l3 : wc.cell? ⟨wr.heap.size, 2, none⟩ = some (.int .i64 c) := S1.l.cellAt 2
                  have fj := World.ownsRow.frozenAt S1.t.g j
                  have q5 : IntKind.i64.wrap (x + c) = x + c := IntWalk.i64_in _ (by omega)
                  cases hz : tstB x y c
                  · rw [hz] at HZ
                    go_wp2_with fail
                    go_meet
                    rw [stepB_no HZ.out]
                    exact S1
                  · rw [hz] at HZ
                    have HP : Hid (DL w (wc.drew.setCell ⟨G, j, none⟩ (.int .i64 (x + c))) G cq n (some ⟨ad, o, none⟩) cp ls (stepB d i j c) wr.heap.size i j c) := by
                      show DL _ _ _ _ _ _ _ _ _ _ _ _ _
                      rw [stepB_yes HZ.out, HX.out]
                      exact (S1.keep (Below.refl _ _).drew).put j (x + c)
                    go_wp2_with fail
                    go_still_tail 12, (by kernel_rfl)
                    change wpList _ _ _ _ _ wc.drew
                    go_wp2_with fail
                    go_meet
                    exact HP.out
                case rest =>
                  have bi2 := (HBd.out.stepB (a := i) (b := j) (c := c) (by omega) hic) i
                  have bj2 := (HBd.out.stepB (a := i) (b := j) (c := c) (by omega) hic) j
                  have HR2 : Hid (rndK ls (k + 1) (rnds ls r (d0 n f')) = stepB (stepB d i j c) j i c) := HR.out
                  have S2 := hcut; clear hcut
                  clear HZ HX HY S1 bi bj HBd HR
                  generalize stepB d i j c = e at *
                  generalize hx : Ix e j = x2 at *
                  generalize hy : Ix e i = y2 at *
                  have HX := Lib.hid hx
                  have HY := Lib.hid hy
                  clear hx hy
                  have m1 : wc.cell? ⟨G, i, none⟩ = some (.int .i64 y2) := (S2.t.g.at (by rw [S2.t.len]; omega)).trans (by rw [HY.out])
                  have m2 : wc.cell? ⟨G, j, none⟩ = some (.int .i64 x2) := (S2.t.g.at (by rw [S2.t.len]; omega)).trans (by rw [HX.out])
                  have l1 : wc.cell? ⟨wr.heap.size, 0, none⟩ = some (.int .i64 i) := S2.l.cellAt 0
                  have l2 : wc.cell? ⟨wr.heap.size, 1, none⟩ = some (.int .i64 j) := S2.l.cellAt 1
                  have l3 : wc.cell? ⟨wr.heap.size, 2, none⟩ = some (.int .i64 c) := S2.l.cellAt 2
                  go_upto_region 16 with fail
                  go_cut [112] from 29 to 124 (fun s wx => s = .bool (tstB x2 y2 c) ∧ DL w wx G cq n (some ⟨ad, o, none⟩) cp ls e wr.heap.size i j c)
                  case first =>
                    have q5 : IntKind.i64.wrap (x2 + c) = x2 + c := IntWalk.i64_in _ (by omega)
                    by_cases t1 : 0 ≤ x2
                    · have t1' : decide (0 ≤ x2) = true := by simpa using t1
                      by_cases t2 : y2 < 0
                      · have t2' : decide (y2 < 0) = true := by simpa using t2
                        have HZ := Lib.hid (tst_a (c := c) t1 t2)
                        go_quiet (fail)
                        go_wp2_with fail
                        go_meet
                        exact ⟨by rw [HZ.out], S2.keep (bdN (Below.refl _ _) _)⟩
                      · have t2' : decide (y2 < 0) = false := by simpa using t2
                        cases t3 : decide (x2 + c < y2)
                        · have HZ := Lib.hid (tst_b t2 t3)
                          go_quiet (fail)
                          go_wp2_with fail
                          go_meet
                          exact ⟨by rw [HZ.out], S2.keep (bdN (Below.refl _ _) _)⟩
                        · have HZ := Lib.hid (tst_c t1 t3)
                          go_quiet (fail)
                          go_wp2_with fail
                          go_meet
                          exact ⟨by rw [HZ.out], S2.keep (bdN (Below.refl _ _) _)⟩
                    · have t1' : decide (0 ≤ x2) = false := by simpa using t1
                      have HZ := Lib.hid (tst_d (y := y2) (c := c) t1)
                      go_quiet (fail)
                      go_wp2_with fail
                      go_meet
                      exact ⟨by rw [HZ.out], S2.keep (bdN (Below.refl _ _) _)⟩
                  case rest =>
                    obtain ⟨rfl, S3⟩ := hcut
                    have HZ : Hid (tstB (Ix e j) (Ix e i) c = tstB x2 y2 c) := by show _ = _; rw [HX.out, HY.out]
                    clear m1 m2 l1 l2 l3 S2
                    have m1 : wc.cell? ⟨G, i, none⟩ = some (.int .i64 y2) := (S3.t.g.at (by rw [S3.t.len]; omega)).trans (by rw [HY.out])
                    have m2 : wc.cell? ⟨G, j, none⟩ = some (.int .i64 x2) := (S3.t.g.at (by rw [S3.t.len]; omega)).trans (by rw [HX.out])
                    have l1 : wc.cell? ⟨wr.heap.size, 0, none⟩ = some (.int .i64 i) := S3.l.cellAt 0
                    have l2 : wc.cell? ⟨wr.heap.size, 1, none⟩ = some (.int .i64 j) := S3.l.cellAt 1
                    have l3 : wc.cell? ⟨wr.heap.size, 2, none⟩ = some (.int .i64 c) := S3.l.cellAt 2
                    have fi := World.ownsRow.frozenAt S3.t.g i
                    have q5 : IntKind.i64.wrap (x2 + c) = x2 + c := IntWalk.i64_in _ (by omega)
                    cases hz : tstB x2 y2 c
                    · rw [hz] at HZ
                      go_wp2_with fail
                      go_roundw
                      case rel => exact ⟨k + 1, by omega, by go_num, by rw [HR2.out, stepB_no HZ.out]; exact S3.t⟩
                      case measure => simp [intOf]; omega
                    · rw [hz] at HZ
                      have HP : Hid (DT w (wc.drew.setCell ⟨G, i, none⟩ (.int .i64 (x2 + c))) G cq n (some ⟨ad, o, none⟩) cp ls (rndK ls (k + 1) (rnds ls r (d0 n f')))) := by
                        show DT _ _ _ _ _ _ _ _ _
                        rw [HR2.out, stepB_yes HZ.out, HX.out]
                        exact ((S3.keep (Below.refl _ _).drew).put i (x2 + c)).t
                      go_wp2_with fail
                      go_still_tail 12, (by kernel_rfl)
                      change wpList _ _ _ _ _ wc.drew
                      go_wp2_with fail
                      go_roundw
                      case rel => exact ⟨k + 1, by omega, by go_num, HP.out⟩
                      case measure => simp [intOf]; omega
            · have HK : Hid (k = ls.length) := by show k = ls.length; omega
              have HE : Hid (rndK ls k (rnds ls r (d0 n f')) = rnds ls (r + 1) (d0 n f')) := by rw [HK.out]; rfl
              go_wp2_with fail
              go_roundw
              case rel => exact ⟨r + 1, by omega, by go_num, by rw [← HE.out]; exact S⟩
              case measure => simp [intOf]; omega
        · have HK : Hid (r = n) := by show r = n; omega
          have HE : Hid (rnds ls r (d0 n f') = dists n ls f') := by show _ = _; rw [HK.out]; unfold dists; rw [Int.toNat_natCast]
          go_wp2_with fail
          go_ret
          rw [HE.out] at T
          have hl := T.len
          exact ⟨⟨some ⟨G, 0, none⟩, cq, by rw [hl]; rfl, T.g⟩, T.bl⟩

end Go.Proofs.Ytnmmacfchmmkkaa
