/-
  The walks of both LinkUsed.
-/
import Derived.Test.YtnndnpckkcgfiaaDG
import Derived.Deep.RegionHeld3
namespace Go.Proofs.Ytnndnpckkcgfiaa
open Go.RowKit
set_option maxRecDepth 100000

/-- two lists of distances and a link lie in slices and a variable -/
def TwoL (w : World) (d1 d2 : List Int) (a b c : Int) (s1 s2 s3 : Value) (wx : World) : Prop :=
  ∃ A1 q1 A2 q2 L, s1 = .slice A1 d1.length q1 ∧ s2 = .slice A2 d2.length q2 ∧ s3 = .pointer (some ⟨L, 0, none⟩) ∧ RdI wx wx.heap.size A1 d1 ∧ RdI wx wx.heap.size A2 d2 ∧ Blk wx L 52 [.int .i64 a, .int .i64 b, .int .i64 c] ∧ Below w.heap.size w wx
theorem own_neI {w : World} {base : Nat} {A : Option Addr} {cp : Nat} {xs : List Int} (h : OwI w base A cp xs) {g : Nat} {t : TypeId} {cs : List Value} (hb : Blk w g t cs) (hne : t ≠ 3) : (Value.slice A xs.length cp).ownBlock ≠ some g := by
  rcases h.2 with ⟨hn, _⟩ | ⟨g', cap, cur, hv, _, hh, _⟩
  · rw [hn]; simp [Value.ownBlock]
  · rw [hv]
    intro he
    have : g' = g := by simpa [Value.ownBlock] using he
    subst this
    unfold Blk at hb
    rw [hb] at hh
    injection hh with hh
    injection hh with _ hh
    exact hne hh
theorem own_stI {w : World} {base : Nat} {A : Option Addr} {cp : Nat} {xs : List Int} (h : OwI w base A cp xs) {g : Nat} {t : TypeId} {cs : List Value} (hb : Blk w g t cs) (hne : t ≠ 3) (i : Nat) (u : Value) :
    OwI (w.setCell ⟨g, i, none⟩ u) base A cp xs := by
  have hgr : w.grownBy (w.setCell ⟨g, i, none⟩ u) (some g) := ⟨rfl, rfl, rfl, by simp [World.setCell], fun k hk hne => Below.heap_setCell _ _ _ _ (by rintro rfl; exact hne rfl)⟩
  exact World.ownsRow.kept h hgr (.inr (own_neI h hb hne))
theorem tlA {W w7 : World} {da db : List Int} {A1 A2 : Option Addr} {q1 q2 b1 b2 : Nat} {i j c : Int} (o1 : OwI w7 b1 A1 q1 da) (o2 : OwI w7 b2 A2 q2 db) (B7 : Below W.heap.size W w7) :
    TwoL W da db i j c (.slice A1 da.length q1) (.slice A2 db.length q2) (.pointer (some ⟨w7.heap.size, 0, none⟩)) (w7.alloc (.cells #[.int .i64 i, .int .i64 j, .int .i64 c] 52)) :=
  ⟨A1, q1, A2, q2, w7.heap.size, rfl, rfl, rfl, o1.rd.on (bnew _ _), o2.rd.on (bnew _ _), Blk.new w7 #[.int .i64 i, .int .i64 j, .int .i64 c] 52, bthen B7 (bnew _ _)⟩
theorem tlB {W w7 : World} {da db : List Int} {A1 A2 : Option Addr} {q1 q2 b1 b2 L : Nat} {i j c : Int} (o1 : OwI w7 b1 A1 q1 da) (o2 : OwI w7 b2 A2 q2 db) (B7 : Below W.heap.size W w7) (hz : Blk w7 L 52 [.int .i64 0, .int .i64 0, .int .i64 0]) (hL : W.heap.size ≤ L) :
    TwoL W da db i j c (.slice A1 da.length q1) (.slice A2 db.length q2) (.pointer (some ⟨L, 0, none⟩)) (((w7.setCell ⟨L, 0, none⟩ (.int .i64 i)).setCell ⟨L, 1, none⟩ (.int .i64 j)).setCell ⟨L, 2, none⟩ (.int .i64 c)) := by
  have h1 := hz.stored 0 (.int .i64 i)
  have h2 := h1.stored 1 (.int .i64 j)
  have h3 := h2.stored 2 (.int .i64 c)
  have hb := ((B7.setCell (p := ⟨L, 0, none⟩) hL (.int .i64 i)).setCell (p := ⟨L, 1, none⟩) hL (.int .i64 j)).setCell (p := ⟨L, 2, none⟩) hL (.int .i64 c)
  exact ⟨A1, q1, A2, q2, L, rfl, rfl, rfl, (own_stI (own_stI (own_stI o1 hz (by decide) 0 _) h1 (by decide) 1 _) h2 (by decide) 2 _).rd, (own_stI (own_stI (own_stI o2 hz (by decide) 0 _) h1 (by decide) 1 _) h2 (by decide) 2 _).rd, h3, hb⟩
theorem Ix_D2 (nd : Int) (ls : List Lk) (u : Int) (v : Nat) : Ix (dists nd ls u) v = D nd ls u v := by unfold D; rw [Int.toNat_natCast]
/-- what LinkUsed answers -/
noncomputable def luO (nd : Int) (ls : List Lk) (f t k : Int) : Bool := bl (Valid nd ls ∧ Nd nd f ∧ Nd nd t ∧ Lnk ls k) && usedB nd ls f t k.toNat
theorem luO_yes {nd : Int} {ls : List Lk} {f t k : Int} (h : Valid nd ls ∧ Nd nd f ∧ Nd nd t ∧ Lnk ls k) : luO nd ls f t k = usedB nd ls f t k.toNat := by unfold luO; rw [bl_true h]; rfl
theorem luO_no {nd : Int} {ls : List Lk} {f t k : Int} (h : ¬ (Valid nd ls ∧ Nd nd f ∧ Nd nd t ∧ Lnk ls k)) : luO nd ls f t k = false := by unfold luO; rw [bl_false h]; rfl
/-- the tests, as the walk writes them -/
theorem used_a {nd : Int} {ls : List Lk} {f t : Int} {k : Nat} (h : D nd ls f t < 0) : usedB nd ls f t k = false := by
  unfold usedB; simp; omega
theorem used_b {nd : Int} {ls : List Lk} {f t : Int} {k : Nat} (h : D nd ls f (La ls k) < 0) : usedB nd ls f t k = false := by
  unfold usedB; simp; omega
theorem used_c {nd : Int} {ls : List Lk} {f t : Int} {k : Nat} (h1 : ¬ D nd ls f t < 0) (h2 : ¬ D nd ls f (La ls k) < 0) :
    usedB nd ls f t k = ((D nd ls f (La ls k) + Lc ls k + D nd ls t (Lb ls k) == D nd ls f t) || (D nd ls f (Lb ls k) + Lc ls k + D nd ls t (La ls k) == D nd ls f t)) := by
  rw [Bool.eq_iff_iff, usedB_iff]; simp; omega

set_option maxRecDepth 100000 in
set_option maxHeartbeats 4000000 in
theorem linkUsed_yes {nd : Int} {ls : List Lk} (hv : Valid nd ls) {f t : Int} (hf : Nd nd f) (ht : Nd nd t) {k : Nat} (hk : k < ls.length) (A : Option Addr) (cp : Nat) (w : World) (hr : RdL w w.heap.size A ls) :
    Calls Try.prog 71 #[.agg #[.int .i64 nd, .slice A ls.length cp], .int .i64 f, .int .i64 t, .int .i64 k] w fun e w' => e = .returned (.bool (usedB nd ls f t k)) ∧ Below w.heap.size w w' := by
  have h1 := hv.1
  obtain ⟨ea, eb, hne, hc1, hc20⟩ := ends_nd hv hk
  obtain ⟨ga, go, hA, hga, hcells⟩ := hr (by omega)
  subst hA
  obtain ⟨d1, d2, d3⟩ := hcells k hk
  clear hcells
  obtain ⟨t', rfl⟩ := Int.eq_ofNat_of_zero_le ht.1
  have htn := ht.2
  have HA := @used_a nd ls f t' k
  have HB := @used_b nd ls f t' k
  have HC := @used_c nd ls f t' k
  obtain ⟨i, hi⟩ := Int.eq_ofNat_of_zero_le ea.1
  obtain ⟨j, hj⟩ := Int.eq_ofNat_of_zero_le eb.1
  rw [hi] at d1 HB HC ea
  rw [hj] at d2 HC eb
  clear hi hj hne
  have hin := ea.2
  have hjn := eb.2
  have b1 := D_bd hv f t'
  have b2 := D_bd hv f i
  have b3 := D_bd hv f j
  have b4 := D_bd hv t' i
  have b5 := D_bd hv t' j
  have HL1 := Lib.hid (length_dists nd ls f)
  have HL2 := Lib.hid (length_dists nd ls t')
  have HA := Lib.hid HA
  have HB := Lib.hid HB
  have HC := Lib.hid HC
  have hki : (k : Int) < (ls.length : Int) := by omega
  have hk0 : (0 : Int) ≤ (k : Int) := by omega
  generalize Lc ls k = c at *
  go_enter Try.func71, Try.ntmps71
  go_wp2_with fail
  have S0 := BG.start (nd := nd) (cp := cp) hr
  have e1 : (w.alloc (.cells #[.int .i64 nd, .slice (some ⟨ga, go, none⟩) ls.length cp] 25)).cell? ⟨ga, go + k * 3, none⟩ = some (.int .i64 i) := ckeep d1 (bnew _ _)
  have e2 : (w.alloc (.cells #[.int .i64 nd, .slice (some ⟨ga, go, none⟩) ls.length cp] 25)).cell? ⟨ga, go + k * 3 + 1, none⟩ = some (.int .i64 j) := ckeep d2 (bnew _ _)
  have e3 : (w.alloc (.cells #[.int .i64 nd, .slice (some ⟨ga, go, none⟩) ls.length cp] 25)).cell? ⟨ga, go + k * 3 + 2, none⟩ = some (.int .i64 c) := ckeep d3 (bnew _ _)
  clear d1 d2 d3
  generalize w.alloc (.cells #[.int .i64 nd, .slice (some ⟨ga, go, none⟩) ls.length cp] 25) = W at *
  have HBL : Hid (∀ wx : World, Below W.heap.size W wx → Below w.heap.size w wx) := fun wx h => bthen S0.bl h
  have c0 := S0.c0
  have c1 := S0.c1
  have lG : w.heap.size < W.heap.size := World.block_lt_of_cell? W _ c0
  have lg : ga < W.heap.size := World.block_lt_of_cell? W _ e1
  have n1 : ¬ w.heap.size = W.heap.size := by omega
  have n2 : ¬ W.heap.size = w.heap.size := by omega
  have n3 : ¬ ga = W.heap.size := by omega
  have n4 : ¬ W.heap.size = ga := by omega
  have BD : Below W.heap.size W W.drew := (Below.refl _ _).drew
  have BA : Below W.heap.size W (W.alloc (.cells #[.int .i64 0, .int .i64 0, .int .i64 0] 52)).drew := (bnew _ _).drew
  have ZA : Blk (W.alloc (.cells #[.int .i64 0, .int .i64 0, .int .i64 0] 52)).drew W.heap.size 52 [.int .i64 0, .int .i64 0, .int .i64 0] := Blk.new W #[.int .i64 0, .int .i64 0, .int .i64 0] 52
  have H1a : Hid (Calls Try.prog 52 #[.agg #[.int .i64 nd, .slice (some ⟨ga, go, none⟩) ls.length cp], .int .i64 f] W.drew (RI (dists nd ls f) W.drew)) := dist_any hv hf _ cp _ (S0.on BD).rd
  have H1b : Hid (Calls Try.prog 52 #[.agg #[.int .i64 nd, .slice (some ⟨ga, go, none⟩) ls.length cp], .int .i64 f] (W.alloc (.cells #[.int .i64 0, .int .i64 0, .int .i64 0] 52)).drew (RI (dists nd ls f) (W.alloc (.cells #[.int .i64 0, .int .i64 0, .int .i64 0] 52)).drew)) := dist_any hv hf _ cp _ (S0.on BA).rd
  have H2 : Hid (∀ wr : World, Below W.heap.size W wr → Calls Try.prog 52 #[.agg #[.int .i64 nd, .slice (some ⟨ga, go, none⟩) ls.length cp], .int .i64 t'] wr (RI (dists nd ls t') wr)) := fun wr hb => dist_any hv ht _ cp wr (S0.on hb).rd
  generalize hG : w.heap.size = G at *
  go_upto_region 1 with fail
  go_cut [9, 10, 11] from 12 (fun s1 s2 s3 wx => TwoL W (dists nd ls f) (dists nd ls t') i j c s1 s2 s3 wx)
  case first =>
    clear HL1 HL2 HA HB HC b1 b2 b3 b4 b5 hr hv S0 hG
    generalize dists nd ls f = da at *
    generalize dists nd ls t' = db at *
    go_region_held3 (fun w' => w'.cell? ⟨G, 0, none⟩ = some (.int .i64 nd) ∧ w'.cell? ⟨G, 1, none⟩ = some (.slice (some ⟨ga, go, none⟩) ls.length cp) ∧ w'.cell? ⟨ga, go + k * 3, none⟩ = some (.int .i64 i) ∧ w'.cell? ⟨ga, go + k * 3 + 1, none⟩ = some (.int .i64 j) ∧ w'.cell? ⟨ga, go + k * 3 + 2, none⟩ = some (.int .i64 c)) (go_keep)
      (first
        | (go_at_call_of 52 (Value.int IntKind.i64 f); refine H1a.out.mono ?_; rintro e w6 ⟨⟨A1, q1, rfl, o1⟩, hb6⟩; have B6 := bthen BD hb6; have x0 := ckeep c0 B6; have x1 := ckeep c1 B6; have x2 := ckeep e1 B6; have x3 := ckeep e2 B6; have x4 := ckeep e3 B6; have k1 := Nat.lt_of_lt_of_le lG B6.size; have k2 := Nat.lt_of_lt_of_le lg B6.size; have n5 : ¬ G = w6.heap.size := (by omega); have n6 : ¬ w6.heap.size = G := (by omega); have n7 : ¬ ga = w6.heap.size := (by omega); have n8 : ¬ w6.heap.size = ga := (by omega); have BZ := bthen B6 (bnew w6 (.cells #[.int .i64 0, .int .i64 0, .int .i64 0] 52)); have ZZ : Blk (w6.alloc (.cells #[.int .i64 0, .int .i64 0, .int .i64 0] 52)) w6.heap.size 52 [.int .i64 0, .int .i64 0, .int .i64 0] := Blk.new w6 #[.int .i64 0, .int .i64 0, .int .i64 0] 52; have HX1 := Lib.hid (H2.out _ B6); have HX2 := Lib.hid (H2.out _ BZ))
        | (go_at_call_of 52 (Value.int IntKind.i64 f); refine H1b.out.mono ?_; rintro e w6 ⟨⟨A1, q1, rfl, o1⟩, hb6⟩; have B6 := bthen BA hb6; have x0 := ckeep c0 B6; have x1 := ckeep c1 B6; have x2 := ckeep e1 B6; have x3 := ckeep e2 B6; have x4 := ckeep e3 B6; have ZB := ZA.keep hb6; have z0 := ZB.cellAt 0; have z1 := ZB.cellAt 1; have z2 := ZB.cellAt 2; have y0 := ZB.frozenAt 0; have y1 := ZB.frozenAt 1; have y2 := ZB.frozenAt 2; simp only [List.getElem?_cons_zero, List.getElem?_cons_succ] at z0 z1 z2; have HX3 := Lib.hid (H2.out _ B6))
        | (go_at_call_of 52 (Value.int IntKind.i64 t'); refine HX1.out.mono ?_; rintro e w7 ⟨⟨A2, q2, rfl, o2⟩, hb7⟩; have B7 := bthen B6 hb7; have x0 := ckeep c0 B7; have x1 := ckeep c1 B7; have x2 := ckeep e1 B7; have x3 := ckeep e2 B7; have x4 := ckeep e3 B7; have r3 := o1.keep hb7; have k3 := Nat.lt_of_lt_of_le k1 hb7.size; have k4 := Nat.lt_of_lt_of_le k2 hb7.size)
        | (go_at_call_of 52 (Value.int IntKind.i64 t'); refine HX2.out.mono ?_; rintro e w7 ⟨⟨A2, q2, rfl, o2⟩, hb7⟩; have B7 := bthen BZ hb7; have x0 := ckeep c0 B7; have x1 := ckeep c1 B7; have x2 := ckeep e1 B7; have x3 := ckeep e2 B7; have x4 := ckeep e3 B7; have r3 := (o1.keep (bnew _ _)).keep hb7; have ZC := ZZ.keep hb7; have z0 := ZC.cellAt 0; have z1 := ZC.cellAt 1; have z2 := ZC.cellAt 2; have y0 := ZC.frozenAt 0; have y1 := ZC.frozenAt 1; have y2 := ZC.frozenAt 2; simp only [List.getElem?_cons_zero, List.getElem?_cons_succ] at z0 z1 z2)
        | (go_at_call_of 52 (Value.int IntKind.i64 t'); refine HX3.out.mono ?_; rintro e w7 ⟨⟨A2, q2, rfl, o2⟩, hb7⟩; have B7 := bthen B6 hb7; have x0 := ckeep c0 B7; have x1 := ckeep c1 B7; have x2 := ckeep e1 B7; have x3 := ckeep e2 B7; have x4 := ckeep e3 B7; have r3 := o1.keep hb7; have ZC := ZB.keep hb7; have z0 := ZC.cellAt 0; have z1 := ZC.cellAt 1; have z2 := ZC.cellAt 2; have y0 := ZC.frozenAt 0; have y1 := ZC.frozenAt 1; have y2 := ZC.frozenAt 2; simp only [List.getElem?_cons_zero, List.getElem?_cons_succ] at z0 z1 z2))
    all_goals
      go_wp2_with fail
      go_meet
      first | exact tlA r3 o2 B7 | exact tlB r3 o2 B7 ZC (Nat.le_refl _) | exact tlB r3 o2 B7 ZC B6.size
  case rest =>
    obtain ⟨A1, q1, A2, q2, L, rfl, rfl, rfl, rF, rT, BK, BL⟩ := hcut
    clear H1a H1b H2 BD BA ZA n1 n2 n3 n4 c0 c1 e1 e2 e3 S0
    subst hG
    obtain ⟨g1, o1, hA1, hg1, hc1⟩ := rF (by rw [HL1.out]; omega)
    obtain ⟨g2, o2, hA2, hg2, hc2⟩ := rT (by rw [HL2.out]; omega)
    obtain rfl := hA1
    obtain rfl := hA2
    have m1 := hc1 t' (by rw [HL1.out]; omega)
    have m2 := hc1 i (by rw [HL1.out]; omega)
    have m3 := hc1 j (by rw [HL1.out]; omega)
    have m4 := hc2 i (by rw [HL2.out]; omega)
    have m5 := hc2 j (by rw [HL2.out]; omega)
    rw [Ix_D2] at m1 m2 m3 m4 m5
    clear hc1 hc2 rF rT
    have z0 := BK.cellAt 0
    have z1 := BK.cellAt 1
    have z2 := BK.cellAt 2
    simp only [List.getElem?_cons_zero, List.getElem?_cons_succ] at z0 z1 z2
    have i1 : (t' : Int) < ((dists nd ls f).length : Int) := by rw [HL1.out]; omega
    have i2 : (i : Int) < ((dists nd ls f).length : Int) := by rw [HL1.out]; omega
    have i3 : (j : Int) < ((dists nd ls f).length : Int) := by rw [HL1.out]; omega
    have i4 : (i : Int) < ((dists nd ls t').length : Int) := by rw [HL2.out]; omega
    have i5 : (j : Int) < ((dists nd ls t').length : Int) := by rw [HL2.out]; omega
    have j1 : (0 : Int) ≤ (t' : Int) := by omega
    have j2 : (0 : Int) ≤ (i : Int) := by omega
    have j3 : (0 : Int) ≤ (j : Int) := by omega
    generalize (dists nd ls f).length = k1 at *
    generalize (dists nd ls t').length = k2 at *
    have BLL := HBL.out _ BL
    generalize D nd ls f t' = x at *
    generalize D nd ls f i = y at *
    generalize D nd ls f j = y2 at *
    generalize D nd ls t' i = v at *
    generalize D nd ls t' j = v2 at *
    have q1' : IntKind.i64.wrap (y + c) = y + c := IntWalk.i64_in _ (by omega)
    have q2' : IntKind.i64.wrap (y + c + v2) = y + c + v2 := IntWalk.i64_in _ (by omega)
    have q3' : IntKind.i64.wrap (y2 + c) = y2 + c := IntWalk.i64_in _ (by omega)
    have q4' : IntKind.i64.wrap (y2 + c + v) = y2 + c + v := IntWalk.i64_in _ (by omega)
    cases t1 : decide (x < 0)
    · have u1 : 0 ≤ x := by simpa using t1
      cases t2 : decide (y < 0)
      · have u2 : 0 ≤ y := by simpa using t2
        have HU := Lib.hid (HC.out (by omega) (by omega))
        clear HA HB HC
        cases t3 : (y + c + v2 == x)
        · cases t4 : (y2 + c + v == x)
          · rw [t3, t4] at HU
            go_wp2_with fail
            go_quiet (fail)
            go_wp2_with fail
            go_ret
            exact ⟨ret_bool (by rw [HU.out]; rfl), bdN BLL _⟩
          · rw [t3, t4] at HU
            go_wp2_with fail
            go_quiet (fail)
            go_wp2_with fail
            go_ret
            exact ⟨ret_bool (by rw [HU.out]; rfl), bdN BLL _⟩
        · rw [t3] at HU
          go_wp2_with fail
          go_quiet (fail)
          go_wp2_with fail
          go_ret
          exact ⟨ret_bool (by rw [HU.out]; rfl), bdN BLL _⟩
      · have HU := Lib.hid (HB.out (by simpa using t2))
        clear HA HB HC
        go_wp2_with fail
        go_ret
        exact ⟨ret_bool HU.out.symm, BLL⟩
    · have HU := Lib.hid (HA.out (by simpa using t1))
      clear HA HB HC
      go_wp2_with fail
      go_ret
      exact ⟨ret_bool HU.out.symm, BLL⟩

theorem linkUsed_no {nd : Int} {ls : List Lk} {f t k : Int} (h : ¬ (Valid nd ls ∧ Nd nd f ∧ Nd nd t ∧ Lnk ls k)) (A : Option Addr) (cp : Nat) (w : World) (hlen : ls.length ≤ 9223372036854775806) (hr : RdL w w.heap.size A ls) :
    Calls Try.prog 38 #[.agg #[.int .i64 nd, .slice A ls.length cp], .int .i64 f, .int .i64 t, .int .i64 k] w fun e w' => e = .returned (.bool false) ∧ Below w.heap.size w w' := by
  by_cases hf : Valid nd ls ∧ Nd nd f
  · by_cases ht : Nd nd t
    · have hn : ¬ (Valid nd ls ∧ Lnk ls k) := fun hn => h ⟨hf.1, hf.2, ht, hn.2⟩
      go_enter Try.func38, Try.ntmps38
      go_wp2_with fail
      have S := BG.start (nd := nd) (cp := cp) hr
      refine (hasNode_yes hf.1 hf.2 A cp _ S.rd).mono ?_
      rintro e w1 ⟨rfl, hb1⟩
      have S1 := S.on hb1
      have c0 := S1.c0
      have c1 := S1.c1
      clear S hb1
      go_wp2_with fail
      refine (hasNode_yes hf.1 ht A cp _ S1.rd).mono ?_
      rintro e w2 ⟨rfl, hb2⟩
      have S2 := S1.on hb2
      clear c0 c1 S1 hb2
      have c0 := S2.c0
      have c1 := S2.c1
      go_wp2_with fail
      refine (hasLink_no hn A cp _ hlen S2.rd).mono ?_
      rintro e w3 ⟨rfl, hb3⟩
      have B := bthen S2.bl hb3
      go_wp2_with fail
      go_ret
      exact ⟨rfl, B⟩
    · have ht' : ¬ (Valid nd ls ∧ Nd nd t) := fun h' => ht h'.2
      go_enter Try.func38, Try.ntmps38
      go_wp2_with fail
      have S := BG.start (nd := nd) (cp := cp) hr
      refine (hasNode_yes hf.1 hf.2 A cp _ S.rd).mono ?_
      rintro e w1 ⟨rfl, hb1⟩
      have S1 := S.on hb1
      have c0 := S1.c0
      have c1 := S1.c1
      clear S hb1
      go_wp2_with fail
      refine (hasNode_no ht' A cp _ hlen S1.rd).mono ?_
      rintro e w2 ⟨rfl, hb2⟩
      have B := bthen S1.bl hb2
      go_wp2_with fail
      go_ret
      exact ⟨rfl, B⟩
  · go_enter Try.func38, Try.ntmps38
    go_wp2_with fail
    refine (hasNode_no hf A cp _ hlen (hr.on (bnew _ _))).mono ?_
    rintro e w1 ⟨rfl, hb1⟩
    have B := bthen (bnew _ _) hb1
    go_wp2_with fail
    go_ret
    exact ⟨rfl, B⟩
theorem gLinkUsed_any (nd : Int) (A : Option Addr) (cp : Nat) (ls : List Lk) (f t k : Int) (w : World) (hlen : ls.length ≤ 9223372036854775806) (hr : RdL w w.heap.size A ls) :
    Calls Try.prog 38 #[.agg #[.int .i64 nd, .slice A ls.length cp], .int .i64 f, .int .i64 t, .int .i64 k] w fun e w' => e = .returned (.bool (luO nd ls f t k)) ∧ Below w.heap.size w w' := by
  by_cases h : Valid nd ls ∧ Nd nd f ∧ Nd nd t ∧ Lnk ls k
  · rw [luO_yes h]
    obtain ⟨hv, hf, ht, hk⟩ := h
    have h1 := hv.1
    obtain ⟨k', rfl⟩ := Int.eq_ofNat_of_zero_le hk.1
    rw [Int.toNat_natCast]
    have hk' : k' < ls.length := by have := hk.2; omega
    go_enter Try.func38, Try.ntmps38
    go_wp2_with fail
    have S := BG.start (nd := nd) (cp := cp) hr
    refine (hasNode_yes hv hf A cp _ S.rd).mono ?_
    rintro e w1 ⟨rfl, hb1⟩
    have S1 := S.on hb1
    have c0 := S1.c0
    have c1 := S1.c1
    clear S hb1
    go_wp2_with fail
    refine (hasNode_yes hv ht A cp _ S1.rd).mono ?_
    rintro e w2 ⟨rfl, hb2⟩
    have S2 := S1.on hb2
    clear c0 c1 S1 hb2
    have c0 := S2.c0
    have c1 := S2.c1
    go_wp2_with fail
    refine (hasLink_yes hv hk A cp _ S2.rd).mono ?_
    rintro e w3 ⟨rfl, hb3⟩
    have S3 := S2.on hb3
    clear c0 c1 S2 hb3
    have c0 := S3.c0
    have c1 := S3.c1
    go_wp2_with fail
    refine (linkUsed_yes hv hf ht hk' A cp _ S3.rd).mono ?_
    rintro e w4 ⟨rfl, hb4⟩
    have B := bthen S3.bl hb4
    go_wp2_with fail
    go_ret
    exact ⟨rfl, B⟩
  · rw [luO_no h]; exact linkUsed_no h A cp w hlen hr

set_option maxRecDepth 100000 in
set_option maxHeartbeats 4000000 in
theorem l2Used_yes {nd : Int} {ls : List Lk} (hv : Valid nd ls) {f t : Int} (hf : Nd nd f) (ht : Nd nd t) {k : Nat} (hk : k < ls.length) (A : Option Addr) (cp : Nat) (w : World) (hr : RdL w w.heap.size A ls) :
    Calls Try.prog 76 #[.agg #[.int .i64 nd, .slice A ls.length cp], .int .i64 f, .int .i64 t, .int .i64 k] w fun e w' => e = .returned (.bool (usedB nd ls f t k)) ∧ Below w.heap.size w w' := by
  have h1 := hv.1
  obtain ⟨ea, eb, hne, hc1, hc20⟩ := ends_nd hv hk
  obtain ⟨t', rfl⟩ := Int.eq_ofNat_of_zero_le ht.1
  have htn := ht.2
  have HA := @used_a nd ls f t' k
  have HB := @used_b nd ls f t' k
  have HC := @used_c nd ls f t' k
  have hki : (k : Int) < (ls.length : Int) := by omega
  have hk0 : (0 : Int) ≤ (k : Int) := by omega
  have HL1 := Lib.hid (length_dists nd ls f)
  have HL2 := Lib.hid (length_dists nd ls t')
  go_enter Try.func76, Try.ntmps76
  go_wp2_with fail
  have S := BG.start (nd := nd) (cp := cp) hr
  refine (sdist_any hv hf A cp _ S.rd).mono ?_
  rintro e w3 ⟨⟨A1, q1, rfl, o1⟩, hb3⟩
  have S3 := S.on hb3
  have r1 := o1.rd
  clear S hb3 o1
  have c0 := S3.c0
  have c1 := S3.c1
  go_wp2_with fail
  refine (sdist_any hv ht A cp _ S3.rd).mono ?_
  rintro e w4 ⟨⟨A2, q2, rfl, o2⟩, hb4⟩
  have S4 := S3.on hb4
  have BLL := S4.bl
  have rF := r1.on hb4
  have rT := o2.rd
  clear c0 c1 S3 hb4 o2 r1
  have c0 := S4.c0
  have c1 := S4.c1
  obtain ⟨ga, go, hA, hga, hcells⟩ := S4.rd (by omega)
  obtain rfl := hA
  obtain ⟨d1, d2, d3⟩ := hcells k hk
  clear hcells
  obtain ⟨i, hi⟩ := Int.eq_ofNat_of_zero_le ea.1
  obtain ⟨j, hj⟩ := Int.eq_ofNat_of_zero_le eb.1
  rw [hi] at d1 HB HC ea
  rw [hj] at d2 HC eb
  clear hi hj hne
  have hin := ea.2
  have hjn := eb.2
  have b1 := D_bd hv f t'
  have b2 := D_bd hv f i
  have b3 := D_bd hv f j
  have b4 := D_bd hv t' i
  have b5 := D_bd hv t' j
  have HA := Lib.hid HA
  have HB := Lib.hid HB
  have HC := Lib.hid HC
  generalize Lc ls k = c at *
  obtain ⟨g1, o1, hA1, hg1, hc1⟩ := rF (by rw [HL1.out]; omega)
  obtain ⟨g2, o2, hA2, hg2, hc2⟩ := rT (by rw [HL2.out]; omega)
  obtain rfl := hA1
  obtain rfl := hA2
  have m1 := hc1 t' (by rw [HL1.out]; omega)
  have m2 := hc1 i (by rw [HL1.out]; omega)
  have m3 := hc1 j (by rw [HL1.out]; omega)
  have m4 := hc2 i (by rw [HL2.out]; omega)
  have m5 := hc2 j (by rw [HL2.out]; omega)
  rw [Ix_D2] at m1 m2 m3 m4 m5
  clear hc1 hc2 rF rT
  have i1 : (t' : Int) < ((dists nd ls f).length : Int) := by rw [HL1.out]; omega
  have i2 : (i : Int) < ((dists nd ls f).length : Int) := by rw [HL1.out]; omega
  have i3 : (j : Int) < ((dists nd ls f).length : Int) := by rw [HL1.out]; omega
  have i4 : (i : Int) < ((dists nd ls t').length : Int) := by rw [HL2.out]; omega
  have i5 : (j : Int) < ((dists nd ls t').length : Int) := by rw [HL2.out]; omega
  have j1 : (0 : Int) ≤ (t' : Int) := by omega
  have j2 : (0 : Int) ≤ (i : Int) := by omega
  have j3 : (0 : Int) ≤ (j : Int) := by omega
  generalize (dists nd ls f).length = k1 at *
  generalize (dists nd ls t').length = k2 at *
  generalize D nd ls f t' = x at *
  generalize D nd ls f i = y at *
  generalize D nd ls f j = y2 at *
  generalize D nd ls t' i = v at *
  generalize D nd ls t' j = v2 at *
  have q1' : IntKind.i64.wrap (y + c) = y + c := IntWalk.i64_in _ (by omega)
  have q2' : IntKind.i64.wrap (y + c + v2) = y + c + v2 := IntWalk.i64_in _ (by omega)
  have q3' : IntKind.i64.wrap (y2 + c) = y2 + c := IntWalk.i64_in _ (by omega)
  have q4' : IntKind.i64.wrap (y2 + c + v) = y2 + c + v := IntWalk.i64_in _ (by omega)
  have lg : ga < w4.heap.size := World.block_lt_of_cell? w4 _ d1
  have l1 : g1 < w4.heap.size := hg1
  have l2 : g2 < w4.heap.size := hg2
  have BK := bthen BLL (bnew w4 (.cells #[.int .i64 i, .int .i64 j, .int .i64 c] 52))
  cases t1 : decide (x < 0)
  · have u1 : 0 ≤ x := by simpa using t1
    cases t2 : decide (y < 0)
    · have u2 : 0 ≤ y := by simpa using t2
      have HU := Lib.hid (HC.out (by omega) (by omega))
      clear HA HB HC
      cases t3 : (y + c + v2 == x)
      · cases t4 : (y2 + c + v == x)
        · rw [t3, t4] at HU
          go_wp2_with fail
          go_quiet (fail)
          go_wp2_with fail
          go_ret
          exact ⟨ret_bool (by rw [HU.out]; rfl), bdN BK _⟩
        · rw [t3, t4] at HU
          go_wp2_with fail
          go_quiet (fail)
          go_wp2_with fail
          go_ret
          exact ⟨ret_bool (by rw [HU.out]; rfl), bdN BK _⟩
      · rw [t3] at HU
        go_wp2_with fail
        go_quiet (fail)
        go_wp2_with fail
        go_ret
        exact ⟨ret_bool (by rw [HU.out]; rfl), bdN BK _⟩
    · have HU := Lib.hid (HB.out (by simpa using t2))
      clear HA HB HC
      go_wp2_with fail
      go_ret
      exact ⟨ret_bool HU.out.symm, BK⟩
  · have HU := Lib.hid (HA.out (by simpa using t1))
    clear HA HB HC
    go_wp2_with fail
    go_ret
    exact ⟨ret_bool HU.out.symm, BK⟩

theorem sgLinkUsed_any (nd : Int) (A : Option Addr) (cp : Nat) (ls : List Lk) (f t k : Int) (w : World) (hlen : ls.length ≤ 9223372036854775806) (hr : RdL w w.heap.size A ls) :
    Calls Try.prog 43 #[.agg #[.int .i64 nd, .slice A ls.length cp], .int .i64 f, .int .i64 t, .int .i64 k] w fun e w' => e = .returned (.bool (luO nd ls f t k)) ∧ Below w.heap.size w w' := by
  by_cases h2 : Valid nd ls ∧ Nd nd f ∧ Nd nd t
  · have S := BG.start (nd := nd) (cp := cp) hr
    obtain ⟨hv, hf, ht⟩ := h2
    by_cases hk : Lnk ls k
    · rw [luO_yes ⟨hv, hf, ht, hk⟩]
      obtain ⟨k', rfl⟩ := Int.eq_ofNat_of_zero_le hk.1
      rw [Int.toNat_natCast]
      have hk' : k' < ls.length := by have := hk.2; omega
      go_enter Try.func43, Try.ntmps43
      go_wp2_with fail
      refine (l2Two_yes hv hf ht A cp _ S.rd).mono ?_
      rintro e w1 ⟨rfl, hb1⟩
      have S1 := S.on hb1
      have c0 := S1.c0
      have c1 := S1.c1
      clear S hb1
      go_wp2_with fail
      refine (l1Index_yes hv hk A cp _ S1.rd).mono ?_
      rintro e w2 ⟨rfl, hb2⟩
      have S2 := S1.on hb2
      clear c0 c1 S1 hb2
      have c0 := S2.c0
      have c1 := S2.c1
      go_wp2_with fail
      refine (l2Used_yes hv hf ht hk' A cp _ S2.rd).mono ?_
      rintro e w3 ⟨rfl, hb3⟩
      have B := bthen S2.bl hb3
      go_wp2_with fail
      go_ret
      exact ⟨rfl, B⟩
    · rw [luO_no (fun h => hk h.2.2.2)]
      go_enter Try.func43, Try.ntmps43
      go_wp2_with fail
      refine (l2Two_yes hv hf ht A cp _ S.rd).mono ?_
      rintro e w1 ⟨rfl, hb1⟩
      have S1 := S.on hb1
      have c0 := S1.c0
      have c1 := S1.c1
      clear S hb1
      go_wp2_with fail
      refine (l1Index_no (fun h => hk h.2) A cp _ hlen S1.rd).mono ?_
      rintro e w2 ⟨rfl, hb2⟩
      have B := bthen S1.bl hb2
      go_wp2_with fail
      go_ret
      exact ⟨rfl, B⟩
  · rw [luO_no (fun h => h2 ⟨h.1, h.2.1, h.2.2.1⟩)]
    go_enter Try.func43, Try.ntmps43
    go_wp2_with fail
    refine (l2Two_no h2 A cp _ hlen (hr.on (bnew _ _))).mono ?_
    rintro e w1 ⟨rfl, hb1⟩
    have B := bthen (bnew _ _) hb1
    go_wp2_with fail
    go_ret
    exact ⟨rfl, B⟩

end Go.Proofs.Ytnndnpckkcgfiaa
