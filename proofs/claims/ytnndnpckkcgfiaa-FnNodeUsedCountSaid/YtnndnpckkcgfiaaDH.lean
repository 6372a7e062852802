/-
  The walks of both NodeUsed.
-/
import Derived.Test.YtnndnpckkcgfiaaDG
import Derived.Deep.RegionWith
namespace Go.Proofs.Ytnndnpckkcgfiaa
open Go.RowKit
set_option maxRecDepth 100000

/-- two lists of distances lie in slices -/
def TwoD (w : World) (d1 d2 : List Int) (s1 s2 : Value) (wx : World) : Prop :=
  ∃ A1 q1 A2 q2, s1 = .slice A1 d1.length q1 ∧ s2 = .slice A2 d2.length q2 ∧ RdI wx wx.heap.size A1 d1 ∧ RdI wx wx.heap.size A2 d2 ∧ Below w.heap.size w wx
/-- what NodeUsed answers -/
noncomputable def nuO (nd : Int) (ls : List Lk) (f t n : Int) : Bool := bl (Valid nd ls ∧ Nd nd f ∧ Nd nd t ∧ Nd nd n) && nusedB nd ls f t n
theorem nuO_yes {nd : Int} {ls : List Lk} {f t n : Int} (h : Valid nd ls ∧ Nd nd f ∧ Nd nd t ∧ Nd nd n) : nuO nd ls f t n = nusedB nd ls f t n := by unfold nuO; rw [bl_true h]; rfl
theorem nuO_no {nd : Int} {ls : List Lk} {f t n : Int} (h : ¬ (Valid nd ls ∧ Nd nd f ∧ Nd nd t ∧ Nd nd n)) : nuO nd ls f t n = false := by unfold nuO; rw [bl_false h]; rfl
theorem nused_impl {nd : Int} {ls : List Lk} (h : Valid nd ls) {f t n : Int} (hf : Nd nd f) (ht : Nd nd t) (hn : Nd nd n) :
    nusedB nd ls f t n = (decide (0 ≤ D nd ls f t) && (decide (0 ≤ D nd ls f n) && (D nd ls f n + D nd ls t n == D nd ls f t))) := by
  rw [Bool.eq_iff_iff, nusedB_iff' h hf ht hn]; simp
theorem nused_spec {nd : Int} {ls : List Lk} {f t n : Int} :
    nusedB nd ls f t n = (decide (0 ≤ D nd ls f n) && (decide (0 ≤ D nd ls t n) && (D nd ls f n + D nd ls t n == D nd ls f t))) := by
  rw [Bool.eq_iff_iff, nusedB_iff]; simp
theorem Ix_Dn (nd : Int) (ls : List Lk) (u : Int) (v : Nat) : Ix (dists nd ls u) v = D nd ls u v := by unfold D; rw [Int.toNat_natCast]

set_option maxRecDepth 100000 in
set_option maxHeartbeats 2000000 in
theorem nodeUsed_yes {nd : Int} {ls : List Lk} (hv : Valid nd ls) {f t n : Int} (hf : Nd nd f) (ht : Nd nd t) (hn : Nd nd n) (A : Option Addr) (cp : Nat) (w : World) (hr : RdL w w.heap.size A ls) :
    Calls Try.prog 16 #[.agg #[.int .i64 nd, .slice A ls.length cp], .int .i64 f, .int .i64 t, .int .i64 n] w fun e w' => e = .returned (.bool (nusedB nd ls f t n)) ∧ Below w.heap.size w w' := by
  have h1 := hv.1
  obtain ⟨t', rfl⟩ := Int.eq_ofNat_of_zero_le ht.1
  obtain ⟨n', rfl⟩ := Int.eq_ofNat_of_zero_le hn.1
  have htn := ht.2
  have hnn := hn.2
  have HU := Lib.hid (nused_impl hv hf ht hn)
  have b1 := D_bd hv f t'
  have b2 := D_bd hv f n'
  have b3 := D_bd hv t' n'
  have hl1 := length_dists nd ls f
  have hl2 := length_dists nd ls t'
  have HL1 := Lib.hid hl1
  have HL2 := Lib.hid hl2
  clear hl1 hl2
  go_enter Try.func16, Try.ntmps16
  go_wp2_with fail
  have S := BG.start (nd := nd) (cp := cp) hr
  refine (hasNode_yes hv hf A cp _ S.rd).mono ?_
  rintro e w1 ⟨rfl, hb1⟩
  have S1 := S.on hb1
  have c0 := S1.c0
  have c1 := S1.c1
  clear S hb1
  go_wp2_with fail
  refine (hasNode_yes hv ht A cp _ S1.rd).mono ?_
  rintro e w2 ⟨rfl, hb2⟩
  have S2 := S1.on hb2
  clear c0 c1 S1 hb2
  have c0 := S2.c0
  have c1 := S2.c1
  go_wp2_with fail
  refine (hasNode_yes hv hn A cp _ S2.rd).mono ?_
  rintro e w3 ⟨rfl, hb3⟩
  have S3 := (S2.on hb3).dr
  have c0' := (S2.on hb3).c0
  have c1' := (S2.on hb3).c1
  clear c0 c1 S2 hb3
  go_upto_region 3 with fail
  go_cut [9, 10] from 11 (fun s9 s10 wx => TwoD w (dists nd ls f) (dists nd ls t') s9 s10 wx)
  case first =>
    go_region_with (first
      | (go_at_call_of 52 (Value.int IntKind.i64 f); refine (dist_any hv hf A cp _ S3.rd).mono ?_; rintro e wF ⟨⟨AF, qF, rfl, oF⟩, hbF⟩; have SF := S3.on hbF; have c0F := SF.c0; have c1F := SF.c1)
      | (go_at_call_of 52 (Value.int IntKind.i64 t'); refine (dist_any hv ht A cp _ SF.rd).mono ?_; rintro e wT ⟨⟨AT, qT, rfl, oT⟩, hbT⟩; have rF := oF.rd.on hbT; have rT := oT.rd; have BL := bthen SF.bl hbT)
      | (go_at_call_of 52 (Value.int IntKind.i64 t'); refine (dist_any hv ht A cp _ S3.rd).mono ?_; rintro e wT ⟨⟨AT, qT, rfl, oT⟩, hbT⟩; have ST := S3.on hbT; have c0T := ST.c0; have c1T := ST.c1)
      | (go_at_call_of 52 (Value.int IntKind.i64 f); refine (dist_any hv hf A cp _ ST.rd).mono ?_; rintro e wF ⟨⟨AF, qF, rfl, oF⟩, hbF⟩; have rT := oT.rd.on hbF; have rF := oF.rd; have BL := bthen ST.bl hbF))
    all_goals
      go_wp2_with fail
      go_meet
      exact ⟨AF, qF, AT, qT, rfl, rfl, rF, rT, BL⟩
  case rest =>
    obtain ⟨A1, q1, A2, q2, rfl, rfl, rF, rT, BL⟩ := hcut
    clear S3 c0' c1'
    obtain ⟨g1, o1, hA1, hg1, hc1⟩ := rF (by rw [HL1.out]; omega)
    obtain ⟨g2, o2, hA2, hg2, hc2⟩ := rT (by rw [HL2.out]; omega)
    obtain rfl := hA1
    obtain rfl := hA2
    have m1 := hc1 t' (by rw [HL1.out]; omega)
    have m2 := hc1 n' (by rw [HL1.out]; omega)
    have m3 := hc2 n' (by rw [HL2.out]; omega)
    rw [Ix_Dn] at m1 m2 m3
    clear hc1 hc2 rF rT
    generalize D nd ls f t' = x at *
    generalize D nd ls f n' = y at *
    generalize D nd ls t' n' = z at *
    have i1 : (t' : Int) < ((dists nd ls f).length : Int) := by rw [HL1.out]; omega
    have i2 : (n' : Int) < ((dists nd ls f).length : Int) := by rw [HL1.out]; omega
    have i3 : (n' : Int) < ((dists nd ls t').length : Int) := by rw [HL2.out]; omega
    have i4 : (0 : Int) ≤ (t' : Int) := by omega
    have i5 : (0 : Int) ≤ (n' : Int) := by omega
    generalize (dists nd ls f).length = k1 at *
    generalize (dists nd ls t').length = k2 at *
    have q5 : IntKind.i64.wrap (y + z) = y + z := IntWalk.i64_in _ (by omega)
    cases t1 : decide (0 ≤ x)
    · rw [t1] at HU
      go_wp2_with fail
      go_quiet (fail)
      go_wp2_with fail
      go_ret
      exact ⟨ret_bool (by rw [HU.out]; rfl), bdN BL _⟩
    · cases t2 : decide (0 ≤ y)
      · rw [t1, t2] at HU
        go_wp2_with fail
        go_quiet (fail)
        go_wp2_with fail
        go_ret
        exact ⟨ret_bool (by rw [HU.out]; rfl), bdN BL _⟩
      · cases t3 : (y + z == x)
        · rw [t1, t2, t3] at HU
          go_wp2_with fail
          go_quiet (fail)
          go_wp2_with fail
          go_ret
          exact ⟨ret_bool (by rw [HU.out]; rfl), bdN BL _⟩
        · rw [t1, t2, t3] at HU
          go_wp2_with fail
          go_quiet (fail)
          go_wp2_with fail
          go_ret
          exact ⟨ret_bool (by rw [HU.out]; rfl), bdN BL _⟩

theorem nodeUsed_no {nd : Int} {ls : List Lk} {f t n : Int} (h : ¬ (Valid nd ls ∧ Nd nd f ∧ Nd nd t ∧ Nd nd n)) (A : Option Addr) (cp : Nat) (w : World) (hlen : ls.length ≤ 9223372036854775806) (hr : RdL w w.heap.size A ls) :
    Calls Try.prog 16 #[.agg #[.int .i64 nd, .slice A ls.length cp], .int .i64 f, .int .i64 t, .int .i64 n] w fun e w' => e = .returned (.bool false) ∧ Below w.heap.size w w' := by
  by_cases hf : Valid nd ls ∧ Nd nd f
  · by_cases ht : Nd nd t
    · have hn : ¬ (Valid nd ls ∧ Nd nd n) := fun hn => h ⟨hf.1, hf.2, ht, hn.2⟩
      go_enter Try.func16, Try.ntmps16
      go_wp2_with fail
      have S := BG.start (nd := nd) (cp := cp) hr
      refine (hasNode_yes hf.1 hf.2 A cp _ S.rd).mono ?_
      rintro e w1 ⟨rfl, hb1⟩
      have S1 := S.on hb1
      have c0 := S1.c0
      have c1 := S1.c1
      clear S hb1
      go_wp2_with fail
      refine (hasNode_yes hf.1 ht A cp _ S1.rd).mono ?_
      rintro e w2 ⟨rfl, hb2⟩
      have S2 := S1.on hb2
      clear c0 c1 S1 hb2
      have c0 := S2.c0
      have c1 := S2.c1
      go_wp2_with fail
      refine (hasNode_no hn A cp _ hlen S2.rd).mono ?_
      rintro e w3 ⟨rfl, hb3⟩
      have B := bthen S2.bl hb3
      go_wp2_with fail
      go_ret
      exact ⟨rfl, B⟩
    · have ht' : ¬ (Valid nd ls ∧ Nd nd t) := fun h' => ht h'.2
      go_enter Try.func16, Try.ntmps16
      go_wp2_with fail
      have S := BG.start (nd := nd) (cp := cp) hr
      refine (hasNode_yes hf.1 hf.2 A cp _ S.rd).mono ?_
      rintro e w1 ⟨rfl, hb1⟩
      have S1 := S.on hb1
      have c0 := S1.c0
      have c1 := S1.c1
      clear S hb1
      go_wp2_with fail
      refine (hasNode_no ht' A cp _ hlen S1.rd).mono ?_
      rintro e w2 ⟨rfl, hb2⟩
      have B := bthen S1.bl hb2
      go_wp2_with fail
      go_ret
      exact ⟨rfl, B⟩
  · go_enter Try.func16, Try.ntmps16
    go_wp2_with fail
    refine (hasNode_no hf A cp _ hlen (hr.on (bnew _ _))).mono ?_
    rintro e w1 ⟨rfl, hb1⟩
    have B := bthen (bnew _ _) hb1
    go_wp2_with fail
    go_ret
    exact ⟨rfl, B⟩
theorem nodeUsed_any (nd : Int) (A : Option Addr) (cp : Nat) (ls : List Lk) (f t n : Int) (w : World) (hlen : ls.length ≤ 9223372036854775806) (hr : RdL w w.heap.size A ls) :
    Calls Try.prog 16 #[.agg #[.int .i64 nd, .slice A ls.length cp], .int .i64 f, .int .i64 t, .int .i64 n] w fun e w' => e = .returned (.bool (nuO nd ls f t n)) ∧ Below w.heap.size w w' := by
  by_cases h : Valid nd ls ∧ Nd nd f ∧ Nd nd t ∧ Nd nd n
  · rw [nuO_yes h]; exact nodeUsed_yes h.1 h.2.1 h.2.2.1 h.2.2.2 A cp w hr
  · rw [nuO_no h]; exact nodeUsed_no h A cp w hlen hr

set_option maxRecDepth 100000 in
set_option maxHeartbeats 2000000 in
theorem snodeUsed_yes {nd : Int} {ls : List Lk} (hv : Valid nd ls) {f t n : Int} (hf : Nd nd f) (ht : Nd nd t) (hn : Nd nd n) (A : Option Addr) (cp : Nat) (w : World) (hr : RdL w w.heap.size A ls) :
    Calls Try.prog 17 #[.agg #[.int .i64 nd, .slice A ls.length cp], .int .i64 f, .int .i64 t, .int .i64 n] w fun e w' => e = .returned (.bool (nusedB nd ls f t n)) ∧ Below w.heap.size w w' := by
  have h1 := hv.1
  obtain ⟨t', rfl⟩ := Int.eq_ofNat_of_zero_le ht.1
  obtain ⟨n', rfl⟩ := Int.eq_ofNat_of_zero_le hn.1
  have htn := ht.2
  have hnn := hn.2
  have HU := Lib.hid (nused_spec (nd := nd) (ls := ls) (f := f) (t := t') (n := n'))
  have b1 := D_bd hv f t'
  have b2 := D_bd hv f n'
  have b3 := D_bd hv t' n'
  have hl1 := length_dists nd ls f
  have hl2 := length_dists nd ls t'
  have HL1 := Lib.hid hl1
  have HL2 := Lib.hid hl2
  clear hl1 hl2
  go_enter Try.func17, Try.ntmps17
  go_wp2_with fail
  have S := BG.start (nd := nd) (cp := cp) hr
  refine (l2Two_yes hv hf ht A cp _ S.rd).mono ?_
  rintro e w1 ⟨rfl, hb1⟩
  have S1 := S.on hb1
  have c0 := S1.c0
  have c1 := S1.c1
  clear S hb1
  go_wp2_with fail
  refine (l1Node_yes hv hn A ls.length cp _).mono ?_
  rintro e w2 ⟨rfl, hb2⟩
  have S2 := S1.on hb2
  clear c0 c1 S1 hb2
  have c0 := S2.c0
  have c1 := S2.c1
  go_wp2_with fail
  refine (sdist_any hv hf A cp _ S2.rd).mono ?_
  rintro e w3 ⟨⟨A1, q1, rfl, o1⟩, hb3⟩
  have S3 := S2.on hb3
  have r1 := o1.rd
  clear c0 c1 S2 hb3 o1
  have c0 := S3.c0
  have c1 := S3.c1
  go_wp2_with fail
  refine (sdist_any hv ht A cp _ S3.rd).mono ?_
  rintro e w4 ⟨⟨A2, q2, rfl, o2⟩, hb4⟩
  have BL := bthen S3.bl hb4
  have rF := r1.on hb4
  have rT := o2.rd
  clear c0 c1 S3 hb4 o2 r1
  obtain ⟨g1, o1, hA1, hg1, hc1⟩ := rF (by rw [HL1.out]; omega)
  obtain ⟨g2, o2, hA2, hg2, hc2⟩ := rT (by rw [HL2.out]; omega)
  obtain rfl := hA1
  obtain rfl := hA2
  have m1 := hc1 t' (by rw [HL1.out]; omega)
  have m2 := hc1 n' (by rw [HL1.out]; omega)
  have m3 := hc2 n' (by rw [HL2.out]; omega)
  rw [Ix_Dn] at m1 m2 m3
  clear hc1 hc2 rF rT
  generalize D nd ls f t' = x at *
  generalize D nd ls f n' = y at *
  generalize D nd ls t' n' = z at *
  have i1 : (t' : Int) < ((dists nd ls f).length : Int) := by rw [HL1.out]; omega
  have i2 : (n' : Int) < ((dists nd ls f).length : Int) := by rw [HL1.out]; omega
  have i3 : (n' : Int) < ((dists nd ls t').length : Int) := by rw [HL2.out]; omega
  have i4 : (0 : Int) ≤ (t' : Int) := by omega
  have i5 : (0 : Int) ≤ (n' : Int) := by omega
  generalize (dists nd ls f).length = k1 at *
  generalize (dists nd ls t').length = k2 at *
  have q5 : IntKind.i64.wrap (y + z) = y + z := IntWalk.i64_in _ (by omega)
  cases t1 : decide (0 ≤ y)
  · rw [t1] at HU
    go_wp2_with fail
    go_quiet (fail)
    go_wp2_with fail
    go_ret
    exact ⟨ret_bool (by rw [HU.out]; rfl), bdN BL _⟩
  · cases t2 : decide (0 ≤ z)
    · rw [t1, t2] at HU
      go_wp2_with fail
      go_quiet (fail)
      go_wp2_with fail
      go_ret
      exact ⟨ret_bool (by rw [HU.out]; rfl), bdN BL _⟩
    · cases t3 : (y + z == x)
      · rw [t1, t2, t3] at HU
        go_wp2_with fail
        go_quiet (fail)
        go_wp2_with fail
        go_ret
        exact ⟨ret_bool (by rw [HU.out]; rfl), bdN BL _⟩
      · rw [t1, t2, t3] at HU
        go_wp2_with fail
        go_quiet (fail)
        go_wp2_with fail
        go_ret
        exact ⟨ret_bool (by rw [HU.out]; rfl), bdN BL _⟩

theorem snodeUsed_no {nd : Int} {ls : List Lk} {f t n : Int} (h : ¬ (Valid nd ls ∧ Nd nd f ∧ Nd nd t ∧ Nd nd n)) (A : Option Addr) (cp : Nat) (w : World) (hlen : ls.length ≤ 9223372036854775806) (hr : RdL w w.heap.size A ls) :
    Calls Try.prog 17 #[.agg #[.int .i64 nd, .slice A ls.length cp], .int .i64 f, .int .i64 t, .int .i64 n] w fun e w' => e = .returned (.bool false) ∧ Below w.heap.size w w' := by
  by_cases h2 : Valid nd ls ∧ Nd nd f ∧ Nd nd t
  · have hn : ¬ Nd nd n := fun hn => h ⟨h2.1, h2.2.1, h2.2.2, hn⟩
    go_enter Try.func17, Try.ntmps17
    go_wp2_with fail
    have S := BG.start (nd := nd) (cp := cp) hr
    refine (l2Two_yes h2.1 h2.2.1 h2.2.2 A cp _ S.rd).mono ?_
    rintro e w1 ⟨rfl, hb1⟩
    have S1 := S.on hb1
    have c0 := S1.c0
    have c1 := S1.c1
    clear S hb1
    go_wp2_with fail
    refine (l1Node_no h2.1 hn A ls.length cp _).mono ?_
    rintro e w2 ⟨rfl, hb2⟩
    have B := bthen S1.bl hb2
    go_wp2_with fail
    go_ret
    exact ⟨rfl, B⟩
  · go_enter Try.func17, Try.ntmps17
    go_wp2_with fail
    refine (l2Two_no h2 A cp _ hlen (hr.on (bnew _ _))).mono ?_
    rintro e w1 ⟨rfl, hb1⟩
    have B := bthen (bnew _ _) hb1
    go_wp2_with fail
    go_ret
    exact ⟨rfl, B⟩
theorem snodeUsed_any (nd : Int) (A : Option Addr) (cp : Nat) (ls : List Lk) (f t n : Int) (w : World) (hlen : ls.length ≤ 9223372036854775806) (hr : RdL w w.heap.size A ls) :
    Calls Try.prog 17 #[.agg #[.int .i64 nd, .slice A ls.length cp], .int .i64 f, .int .i64 t, .int .i64 n] w fun e w' => e = .returned (.bool (nuO nd ls f t n)) ∧ Below w.heap.size w w' := by
  by_cases h : Valid nd ls ∧ Nd nd f ∧ Nd nd t ∧ Nd nd n
  · rw [nuO_yes h]; exact snodeUsed_yes h.1 h.2.1 h.2.2.1 h.2.2.2 A cp w hr
  · rw [nuO_no h]; exact snodeUsed_no h A cp w hlen hr

end Go.Proofs.Ytnndnpckkcgfiaa
