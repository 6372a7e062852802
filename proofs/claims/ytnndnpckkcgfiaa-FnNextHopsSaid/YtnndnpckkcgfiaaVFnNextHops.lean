/-
  The walk of the law FnNextHops: next hops are the neighbours on shortest paths.
-/
import Derived.Test.YtnndnpckkcgfiaaFC
import Derived.Test.YtnndnpckkcgfiaaWO
import Derived.Test.YtnndnpckkcgfiaaEB
import Derived.Test.YtnndnpckkcgfiaaEC
import Derived.Test.YtnndnpckkcgfiaaPF
import Derived.Deep.RegionHeld3
namespace Go.Proofs.Ytnndnpckkcgfiaa.fnNextHops
open Go.RowKit

theorem count {nd : Int} {ls : List Lk} (hv : Valid nd ls) {x y : Int} : ∃ F : Nat → Nat, F 0 = 0 ∧ F (nbr nd ls x).length = (hops nd ls x y).length ∧ ∀ k, k < (nbr nd ls x).length → F k ≤ k ∧ (Ix (nbr nd ls x) k ∈ hops nd ls x y → F (k + 1) = F k + 1) ∧ (Ix (nbr nd ls x) k ∉ hops nd ls x y → F (k + 1) = F k) := by
  refine ⟨fun k => (((nbr nd ls x).take k).filter (fun m => decide (m ∈ hops nd ls x y))).length, by simp, ?_, fun k hk => ⟨?_, fun h => ?_, fun h => ?_⟩⟩
  · show (((nbr nd ls x).take (nbr nd ls x).length).filter _).length = _
    rw [List.take_length]
    refine ((List.perm_ext_iff_of_nodup ((upTo_nodup _ _).filter _) (hops_nodup _ _ _ _)).2 (fun a => ?_)).length_eq
    rw [List.mem_filter, decide_eq_true_eq]
    exact ⟨fun h => h.2, fun h => ⟨hops_sub hv h, h⟩⟩
  · exact Nat.le_trans (List.length_filter_le _ _) (List.length_take_le _ _)
  · show (((nbr nd ls x).take (k + 1)).filter _).length = _
    rw [take_Ix hk, List.filter_append, List.length_append, List.filter_cons_of_pos (by simpa using h)]
    rfl
  · show (((nbr nd ls x).take (k + 1)).filter _).length = _
    rw [take_Ix hk, List.filter_append, List.length_append, List.filter_cons_of_neg (by simpa using h)]
    rfl


set_option maxRecDepth 100000 in
set_option maxHeartbeats 4000000 in
theorem walk (A : Option Addr) (cp : Nat) (bs : List Int) (w : World) (hr : RdB w w.heap.size A bs) (hl : bs.length ≤ 9223372036854775807 ∧ bs.length ≤ cp) :
    Calls Try.prog 11 #[.slice A bs.length cp] w fun e w' => e = .returned (.bool true) ∧ Below w.heap.size w w' := by
  obtain ⟨hl, hcp⟩ := hl
  by_cases h20 : bs.length ≤ 1048576
  · go_enter Try.func11, Try.ntmps11
    go_wp2_with fail
    refine (drawNextHops_any A cp bs _ hr hl hcp).mono ?_
    rintro e w1 ⟨nd, A2, cp2, ls, x, y, rfl, hg⟩
    have S := LS.of_drawn (nd := nd) hg
    have hlen := S.len
    have hdl : (hopsO nd ls x y).length ≤ 14 := Nat.le_trans (hopsO_8 _ _ _ _) (by omega)
    clear hr hg
    go_wp2_with fail
    refine (gHops_any nd A2 cp2 ls x y _ (by omega) S.rd).mono ?_
    rintro e w2 ⟨⟨B, cb, rfl, ho2⟩, hb2⟩
    have S2 := S.on hb2
    have r2 := ho2.rd
    have c0 := S2.c0
    have c1 := S2.c1
    clear S hb2 ho2
    go_wp2_with fail
    refine (sgHops_any nd A2 cp2 ls x y _ (by omega) S2.rd).mono ?_
    rintro e w3 ⟨⟨C, cc, rfl, ho3⟩, hb3⟩
    have S3 := S2.on hb3
    have r3 := r2.on hb3
    have q3 := ho3.rd
    clear S2 hb3 c0 c1 ho3 r2
    have c0 := S3.c0
    have c1 := S3.c1
    go_wp2_with fail
    refine (sameI_yes B C cb cc _ _ (by omega) r3 q3).mono ?_
    rintro e w4 ⟨rfl, hb4⟩
    have S4 := S3.on hb4
    have r4 := r3.on hb4
    have q4 := q3.on hb4
    clear S3 hb4 c0 c1 r3 q3
    have c0 := S4.c0
    have c1 := S4.c1
    by_cases hv : Valid nd ls
    · by_cases hx : Nd nd x
      · by_cases hy : Nd nd y
        · have tx1 : decide (x < 0) = false := by rw [decide_eq_false_iff_not]; have := hx.1; omega
          have tx2 : decide (nd ≤ x) = false := by rw [decide_eq_false_iff_not]; have := hx.2; omega
          have ty1 : decide (y < 0) = false := by rw [decide_eq_false_iff_not]; have := hy.1; omega
          have ty2 : decide (nd ≤ y) = false := by rw [decide_eq_false_iff_not]; have := hy.2; omega
          go_wp2_with fail
          refine (sgv_yes hv A2 cp2 _ S4.rd).mono ?_
          rintro e w5 ⟨rfl, hb5⟩
          have S5 := S4.on hb5
          have r5 := r4.on hb5
          have q5 := q4.on hb5
          clear S4 r4 q4 c0 c1 hb5
          have c0 := S5.c0
          have c1 := S5.c1
          rw [hopsO_yes ⟨hv, hx, hy⟩] at r5 q5 hdl ⊢
          have hn1 := hv.1
          have hn8 := hv.2.1
          have hlen14 : ls.length ≤ 14 := hv.2.2.1
          have hnb := nbr_le nd ls x
          have hnb8 : (nbr nd ls x).length ≤ 8 := by omega
          obtain ⟨F, F0, FE, FS⟩ := count hv (x := x) (y := y)
          have HFS := Lib.hid FS
          have HFE := Lib.hid FE
          have HLN : Hid (((dists nd ls y).length : Int) = nd) := by show _ = _; have := length_dists nd ls y; omega
          have HDI : Hid (∀ v : Nat, Ix (dists nd ls y) v = D nd ls y v) := fun v => by unfold D; rw [Int.toNat_natCast]
          have HB : Hid (∀ v, -1 ≤ D nd ls y v ∧ D nd ls y v ≤ 4480) := fun v => D_bd hv y v
          have HQ := Lib.hid (show (hops nd ls x y).Pairwise (· < ·) from upTo_pw _ _)
          have HF : Hid (∀ k, k < (nbr nd ls x).length → ∃ m kk : Nat, Ix (nbr nd ls x) k = m ∧ (m : Int) < nd ∧ kk < ls.length ∧ lkIx ls x m = kk ∧ Lc ls kk ≤ 20 ∧ 1 ≤ Lc ls kk ∧ ((m : Int) ∈ hops nd ls x y ↔ 0 ≤ D nd ls y m ∧ D nd ls y m + Lc ls kk = D nd ls y x)) := fun k hk => by
            have hf := nbr_facts hv (Ix_mem hk)
            obtain ⟨m, hm⟩ := Int.eq_ofNat_of_zero_le hf.2.1.1
            rw [hm] at hf ⊢
            obtain ⟨kk, hkk⟩ := Int.eq_ofNat_of_zero_le hf.2.2.2.1
            rw [hkk, Int.toNat_natCast] at hf
            refine ⟨m, kk, rfl, hf.2.1.2, hf.2.2.2.2.1, hkk, hf.2.2.2.2.2.2.2, hf.2.2.2.2.2.2.1, ?_⟩
            rw [mem_hops hv]
            constructor
            · rintro ⟨c, ha, h1, h2⟩
              have := ((adj_iff hv).1 ha).2
              rw [hkk, Int.toNat_natCast] at this
              rw [this]
              exact ⟨h1, h2⟩
            · rintro ⟨h1, h2⟩
              exact ⟨_, hf.2.2.2.2.2.1, h1, h2⟩
          have HN : Hid (∀ wx, RdL wx wx.heap.size A2 ls → Calls Try.prog 46 #[.agg #[.int .i64 nd, .slice A2 ls.length cp2], .int .i64 x] wx (RI (nbr nd ls x) wx)) := fun wx hr => by
            have := gNbr_any nd A2 cp2 ls x wx (by omega) hr
            rwa [nbrO_yes hv] at this
          have HDS : Hid (∀ wx, RdL wx wx.heap.size A2 ls → Calls Try.prog 45 #[.agg #[.int .i64 nd, .slice A2 ls.length cp2], .int .i64 y] wx (RI (dists nd ls y) wx)) := fun wx hr => by
            have := gDist_any nd A2 cp2 ls y wx (by omega) hr
            rwa [distO_yes ⟨hv, hy⟩] at this
          have HG : Hid (∀ a b wx, RdL wx wx.heap.size A2 ls → Calls Try.prog 39 #[.agg #[.int .i64 nd, .slice A2 ls.length cp2], .int .i64 a, .int .i64 b] wx fun e w' => e = .returned (.int .i64 (lkIx ls a b)) ∧ Below wx.heap.size wx w') := fun a b wx hr => gLink_yes hv A2 cp2 a b wx hr
          have hx0 := hx.1
          have hxn := hx.2
          have HDX : Hid (∃ x' : Nat, x = x' ∧ x.toNat = x') := ⟨x.toNat, by omega, rfl⟩
          clear q5 hv hnb FE FS
          generalize hops nd ls x y = R at *
          generalize nbr nd ls x = T at *
          generalize dists nd ls y = DL at *
          generalize D nd ls y = Dy at *
          generalize w1.heap.size = G at *
          go_wp2_with fail
          refine (HDS.out _ S5.rd).mono ?_
          rintro e w6 ⟨⟨DD, dc, rfl, oD⟩, hb6⟩
          have S6 := S5.on hb6
          have r6 := r5.on hb6
          have d6 := oD.rd
          clear S5 r5 c0 c1 oD hb6 HDS
          have c0 := S6.c0
          have c1 := S6.c1
          go_wp2_with fail
          refine (HN.out _ S6.rd).mono ?_
          rintro e w7 ⟨⟨E, ce, rfl, oE⟩, hb7⟩
          have S7 := S6.on hb7
          have r7 := r6.on hb7
          have d7 := d6.on hb7
          have e7 := oE.rd
          clear S6 r6 d6 c0 c1 oE hb7 HN
          go_wp2_with fail
          go_loopw [10, 11] (fun n i wr => ∃ k : Nat, k ≤ T.length ∧ n = .int .i64 (F k : Nat) ∧ i = .int .i64 k ∧ LS w wr G nd A2 cp2 ls ∧ RdI wr wr.heap.size B R ∧ RdI wr wr.heap.size DD DL ∧ RdI wr wr.heap.size E T) (fun _ i _ => T.length - (intOf i).toNat)
          case atStart => exact ⟨0, by omega, by rw [F0]; rfl, rfl, S7, r7, d7, e7⟩
          case round =>
            obtain ⟨k, hk, rfl, rfl, S, rd, dd, ed⟩ := hrel
            clear S7 r7 d7 e7
            by_cases hlk : k < T.length
            · obtain ⟨m, kk, hm, hmn, hkk, hix, hc20, hc1, hmem⟩ := HF.out k hlk
              obtain ⟨hFk, hFy, hFn⟩ := HFS.out k hlk
              rw [hm] at hFy hFn
              have HFY := Lib.hid hFy
              have HFN := Lib.hid hFn
              have HMEM := Lib.hid hmem
              clear hFy hFn hmem
              have H1 : Hid (∀ wx, Below wr.heap.size wr wx → Calls Try.prog 39 #[.agg #[.int .i64 nd, .slice A2 ls.length cp2], .int .i64 x, .int .i64 (m : Nat)] wx fun e w' => e = .returned (.int .i64 (kk : Nat)) ∧ Below wx.heap.size wx w') := fun wx hb => by
                rw [← hix]; exact HG.out _ _ wx (S.on hb).rd
              obtain ⟨eg, eo, hE, heg, hec⟩ := ed (by omega)
              obtain rfl := hE
              have f1 := hec k hlk
              rw [hm] at f1
              obtain ⟨bg, bo, hB, hbg, hbc⟩ := dd (by have := HLN.out; omega)
              obtain rfl := hB
              have m1 := hbc m (by have := HLN.out; omega)
              rw [HDI.out m] at m1
              have m4 : wr.cell? ⟨bg, bo + x.toNat, none⟩ = some (.int .i64 (Dy x)) := by
                obtain ⟨x', hx', hxt⟩ := HDX.out
                have := hbc x' (by have := HLN.out; omega)
                rw [HDI.out x', ← hx', ← hxt] at this
                exact this
              have db := HB.out (m : Int)
              have dbx := HB.out x
              obtain ⟨ga, go, hA, hga, hgc⟩ := S.rd (by omega)
              obtain rfl := hA
              have m3 := (hgc kk hkk).2.2
              clear hec hbc hgc hix
              have c0 := S.c0
              have c1 := S.c1
              generalize Dy (m : Int) = d at *
              generalize Dy x = dx at *
              generalize Lc ls kk = c at *
              have q0 : (0 : Int) ≤ (k : Int) := by omega
              have q1 : (k : Int) < (T.length : Int) := by omega
              have q2 : (0 : Int) ≤ (m : Int) := by omega
              have q3 : (m : Int) < (DL.length : Int) := by have := HLN.out; omega
              have q4 : (0 : Int) ≤ (kk : Int) := by omega
              have q5 : (kk : Int) < (ls.length : Int) := by omega
              have q6 : x < (DL.length : Int) := by have := HLN.out; omega
              have BD : Below wr.heap.size wr wr.drew := (Below.refl _ _).drew
              have hF16 : F k ≤ 8 := by omega
              go_wp2_with fail
              go_region_held3 (fun w' => w'.cell? ⟨G, 0, none⟩ = some (.int .i64 nd) ∧ w'.cell? ⟨G, 1, none⟩ = some (.slice (some ⟨ga, go, none⟩) ls.length cp2) ∧ w'.cell? ⟨eg, eo + k, none⟩ = some (.int .i64 (m : Nat)) ∧ w'.cell? ⟨ga, go + kk * 3 + 2, none⟩ = some (.int .i64 c)) (go_keep)
                ((go_at_call 39; refine (H1.out _ BD).mono ?_; rintro e w6 ⟨rfl, hb6⟩; have BX := bthen BD hb6; have e0 := ckeep c0 BX; have e1 := ckeep c1 BX; have e2 := ckeep f1 BX; have e3 := ckeep m3 BX))
              all_goals
                have S7 := S.on BX
                have rd7 := rd.on BX
                have dd7 := dd.on BX
                have ed7 := ed.on BX
                have f1' := ckeep f1 BX
                have m1' := ckeep m1 BX
                have m4' := ckeep m4 BX
                have HI : Hid (∀ (v : Bool) wx, decide ((m : Int) ∈ R) = v → RdI wx wx.heap.size B R → Calls Try.prog 40 #[.slice B R.length cb, .int .i64 (m : Nat)] wx fun e w' => e = .returned (.bool v) ∧ Below wx.heap.size wx w') := fun v wx hv hr => by
                  rw [← hv]; exact hasI_any B cb R (m : Int) wx (by omega) hr
                clear S rd dd ed c0 c1 f1 m1 m3 m4 e0 e1 e2 e3 hb6 BX BD H1
                by_cases hd : 0 ≤ d
                · obtain ⟨d', rfl⟩ := Int.eq_ofNat_of_zero_le hd
                  by_cases he : (d' : Int) + c = dx
                  · have hin : decide ((m : Int) ∈ R) = true := by rw [decide_eq_true_eq]; exact HMEM.out.2 ⟨hd, he⟩
                    have hFk1 := HFY.out (HMEM.out.2 ⟨hd, he⟩)
                    subst he
                    have tl : decide ((d' : Int) + c ≤ (d' : Int)) = false := by rw [decide_eq_false_iff_not]; omega
                    have tl2 : decide (c ≤ 0) = false := by rw [decide_eq_false_iff_not]; omega
                    clear hd
                    go_wp2_with fail
                    go_quiet (fail)
                    go_wp2_with fail
                    go_region_held3 (fun w' => w'.cell? ⟨eg, eo + k, none⟩ = some (.int .i64 (m : Nat)) ∧ w'.cell? ⟨bg, bo + m, none⟩ = some (.int .i64 (d' : Nat)) ∧ w'.cell? ⟨bg, bo + x.toNat, none⟩ = some (.int .i64 ((d' : Nat) + c))) (go_keep)
                      ((go_at_call 40; refine (HI.out true _ hin (rd7.on (bdN (Below.refl _ _) _))).mono ?_; rintro e w8 ⟨rfl, hb8⟩; have BY := (bdN (Below.refl _ _) _).trans hb8; have e0 := ckeep f1' BY; have e1 := ckeep m1' BY; have e2 := ckeep m4' BY))
                    all_goals
                      go_wp2_with fail
                      go_roundw
                      case rel => exact ⟨k + 1, by omega, by rw [hFk1]; go_num, by go_num, S7.on BY, rd7.on BY, dd7.on BY, ed7.on BY⟩
                      case measure => simp [intOf]; omega
                  · have hni : ¬ (m : Int) ∈ R := fun h => he (HMEM.out.1 h).2
                    have hin : decide ((m : Int) ∈ R) = false := decide_eq_false hni
                    have hFk1 := HFN.out hni
                    have tf : ((d' : Int) + c == dx) = false := by rw [beq_eq_false_iff_ne]; exact he
                    have qw : IntKind.i64.wrap ((d' : Int) + c) = (d' : Int) + c := IntWalk.i64_in _ (by omega)
                    have tfw : (IntKind.i64.wrap ((d' : Int) + c) == dx) = false := by rw [qw]; exact tf
                    clear hd hni he qw
                    go_wp2_with fail
                    go_quiet (fail)
                    go_wp2_with fail
                    refine wp_region_held_drew (S := fun w' => w'.cell? ⟨eg, eo + k, none⟩ = some (.int .i64 (m : Nat))) (by kernel_rfl) ?_ (fun hHeld1_0 => ?_)
                    · exact (by first | exact ckeep f1' (bdN (Below.refl _ _) _) | exact ckeep f1' (bdN (Below.refl _ _) _).drew)
                    refine wpAnyH_take (i := 0) (v := ?v1_0) rfl (by kernel_rfl) (by kernel_rfl) (by kernel_rfl) (fun _ _ _ h => h) (Or.inl ⟨by kernel_rfl, ?y1_0⟩) (by assumption) ?r1_0
                    case y1_0 => intro w hSw; (try dsimp only at hSw); go_simp; (try with_reducible rfl)
                    try simp only [Act.put, List.setIfInBounds_toArray]
                    refine wpAnyH_take (i := 1) (v := ?v1_1) rfl (by kernel_rfl) (by kernel_rfl) (by kernel_rfl) (fun _ _ _ h => h) (Or.inl ⟨by kernel_rfl, ?y1_1⟩) (by assumption) ?r1_1
                    case y1_1 => intro w hSw; (try dsimp only at hSw); go_simp; (try with_reducible rfl)
                    try simp only [Act.put]
                    refine wpAnyH_take (i := 2) (v := ?v1_2) rfl (by kernel_rfl) (by kernel_rfl) (by kernel_rfl) (fun _ _ _ h => h) (Or.inl ⟨by kernel_rfl, ?y1_2⟩) (by assumption) ?r1_2
                    case y1_2 => intro w hSw; (try dsimp only at hSw); go_simp; (try with_reducible rfl)
                    try simp only [Act.put]
                    refine wpAnyH_take (i := 3) (v := ?v1_3) rfl (by kernel_rfl) (by kernel_rfl) (by kernel_rfl) (fun _ _ _ h => h) (Or.inl ⟨by kernel_rfl, ?y1_3⟩) (by assumption) ?r1_3
                    case y1_3 => intro w hSw; (try dsimp only at hSw); go_simp; (try with_reducible rfl)
                    try simp only [Act.put]
                    refine wpAnyH_take (i := 4) (v := ?v1_4) rfl (by kernel_rfl) (by kernel_rfl) (by kernel_rfl) (fun _ _ _ h => h) (Or.inl ⟨by kernel_rfl, ?y1_4⟩) (by assumption) ?r1_4
                    case y1_4 => intro w hSw; (try dsimp only at hSw); go_simp; (try with_reducible rfl)
                    try simp only [Act.put]
                    refine wpAnyH_take (i := 5) (v := ?v1_5) rfl (by kernel_rfl) (by kernel_rfl) (by kernel_rfl) (fun _ _ _ h => h) (Or.inl ⟨by kernel_rfl, ?y1_5⟩) (by assumption) ?r1_5
                    case y1_5 => intro w hSw; (try dsimp only at hSw); go_simp; (try with_reducible rfl)
                    try simp only [Act.put]
                    refine wpAnyH_ready (rs := [6]) (by kernel_rfl) (by simp) ?_
                    refine AllReadyH.cons rfl (fun K hK => ?_) AllReadyH.nil
                    go_simp
                    (go_at_call 40; refine (HI.out false _ hin (by first | exact rd7.on (bdN (Below.refl _ _) _) | exact rd7.on (bdN (Below.refl _ _) _).drew)).mono ?_; rintro e w8 ⟨rfl, hb8⟩; have BY : Below w6.heap.size w6 w8 := (by first | exact (bdN (Below.refl _ _) _).trans hb8 | exact (bdN (Below.refl _ _) _).drew.trans hb8))
                    go_wp2_with fail
                    refine hK.out _ _ ?_ (fun hHeld1_1 => ?_)
                    · exact ckeep f1' BY
                    clear hK K
                    try simp only [Act.put, List.setIfInBounds_toArray]
                    refine wpAnyH_take (i := 7) (v := ?v1_7) rfl (by kernel_rfl) (by kernel_rfl) (by kernel_rfl) (fun _ _ _ h => h) (Or.inl ⟨by kernel_rfl, ?y1_7⟩) (by assumption) ?r1_7
                    case y1_7 => intro w hSw; (try dsimp only at hSw); go_simp; (try with_reducible rfl)
                    try simp only [Act.put]
                    refine wpAnyH_take (i := 8) (v := ?v1_8) rfl (by kernel_rfl) (by kernel_rfl) (by kernel_rfl) (fun _ _ _ h => h) (Or.inl ⟨by kernel_rfl, ?y1_8⟩) (by assumption) ?r1_8
                    case y1_8 => intro w hSw; (try dsimp only at hSw); go_simp; (try with_reducible rfl)
                    try simp only [Act.put]
                    refine wpAnyH_take (i := 9) (v := ?v1_9) rfl (by kernel_rfl) (by kernel_rfl) (by kernel_rfl) (fun _ _ _ h => h) (Or.inl ⟨by kernel_rfl, ?y1_9⟩) (by assumption) ?r1_9
                    case y1_9 => intro w hSw; (try dsimp only at hSw); go_simp; (try with_reducible rfl)
                    try simp only [Act.put]
                    refine wpAnyH_take (i := 10) (v := ?v1_10) rfl (by kernel_rfl) (by kernel_rfl) (by kernel_rfl) (fun _ _ _ h => h) (Or.inl ⟨by kernel_rfl, ?y1_10⟩) (by assumption) ?r1_10
                    case y1_10 => intro w hSw; (try dsimp only at hSw); go_simp; (try with_reducible rfl)
                    try simp only [Act.put]
                    refine wpAnyH_take (i := 11) (v := undef) rfl (by kernel_rfl) (by kernel_rfl) (by kernel_rfl) (fun _ _ _ h => h) (Or.inr ⟨by kernel_rfl, by kernel_rfl⟩) (by assumption) ?r1_11
                    try simp only [Act.put]
                    refine wpAnyH_take (i := 12) (v := undef) rfl (by kernel_rfl) (by kernel_rfl) (by kernel_rfl) (fun _ _ _ h => h) (Or.inr ⟨by kernel_rfl, by kernel_rfl⟩) (by assumption) ?r1_12
                    try simp only [Act.put]
                    refine wpAnyH_take (i := 13) (v := undef) rfl (by kernel_rfl) (by kernel_rfl) (by kernel_rfl) (fun _ _ _ h => h) (Or.inr ⟨by kernel_rfl, by kernel_rfl⟩) (by assumption) ?r1_13
                    try simp only [Act.put]
                    refine wpAnyH_take (i := 14) (v := undef) rfl (by kernel_rfl) (by kernel_rfl) (by kernel_rfl) (fun _ _ _ h => h) (Or.inr ⟨by kernel_rfl, by kernel_rfl⟩) (by assumption) ?r1_14
                    try simp only [Act.put]
                    refine wpAnyH_take (i := 15) (v := undef) rfl (by kernel_rfl) (by kernel_rfl) (by kernel_rfl) (fun _ _ _ h => h) (Or.inr ⟨by kernel_rfl, by kernel_rfl⟩) (by assumption) ?r1_15
                    try simp only [Act.put]
                    refine wpAnyH_take (i := 16) (v := undef) rfl (by kernel_rfl) (by kernel_rfl) (by kernel_rfl) (fun _ _ _ h => h) (Or.inr ⟨by kernel_rfl, by kernel_rfl⟩) (by assumption) ?r1_16
                    try simp only [Act.put]
                    refine wpAnyH_take (i := 17) (v := undef) rfl (by kernel_rfl) (by kernel_rfl) (by kernel_rfl) (fun _ _ _ h => h) (Or.inr ⟨by kernel_rfl, by kernel_rfl⟩) (by assumption) ?r1_17
                    try simp only [Act.put]
                    refine wpAnyH_take (i := 18) (v := undef) rfl (by kernel_rfl) (by kernel_rfl) (by kernel_rfl) (fun _ _ _ h => h) (Or.inr ⟨by kernel_rfl, by kernel_rfl⟩) (by assumption) ?r1_18
                    try simp only [Act.put]
                    refine wpAnyH_take (i := 19) (v := undef) rfl (by kernel_rfl) (by kernel_rfl) (by kernel_rfl) (fun _ _ _ h => h) (Or.inr ⟨by kernel_rfl, by kernel_rfl⟩) (by assumption) ?r1_19
                    try simp only [Act.put]
                    refine wpAnyH_take (i := 20) (v := undef) rfl (by kernel_rfl) (by kernel_rfl) (by kernel_rfl) (fun _ _ _ h => h) (Or.inr ⟨by kernel_rfl, by kernel_rfl⟩) (by assumption) ?r1_20
                    try simp only [Act.put]
                    refine wpAnyH_take (i := 21) (v := undef) rfl (by kernel_rfl) (by kernel_rfl) (by kernel_rfl) (fun _ _ _ h => h) (Or.inr ⟨by kernel_rfl, by kernel_rfl⟩) (by assumption) ?r1_21
                    try simp only [Act.put]
                    refine wpAnyH_take (i := 22) (v := undef) rfl (by kernel_rfl) (by kernel_rfl) (by kernel_rfl) (fun _ _ _ h => h) (Or.inr ⟨by kernel_rfl, by kernel_rfl⟩) (by assumption) ?r1_22
                    try simp only [Act.put]
                    refine wpAnyH_take (i := 23) (v := ?v1_23) rfl (by kernel_rfl) (by kernel_rfl) (by kernel_rfl) (fun _ _ _ h => h) (Or.inl ⟨by kernel_rfl, ?y1_23⟩) (by assumption) ?r1_23
                    case y1_23 => intro w hSw; (try dsimp only at hSw); go_simp; (try with_reducible rfl)
                    try simp only [Act.put]
                    refine wpAnyH_take (i := 24) (v := ?v1_24) rfl (by kernel_rfl) (by kernel_rfl) (by kernel_rfl) (fun _ _ _ h => h) (Or.inl ⟨by kernel_rfl, ?y1_24⟩) (by assumption) ?r1_24
                    case y1_24 => intro w hSw; (try dsimp only at hSw); go_simp; (try with_reducible rfl)
                    simp only [Act.put, List.getElem_toArray, List.getElem_cons_succ, List.getElem_cons_zero, List.setIfInBounds_toArray, List.set_cons_zero, List.set_cons_succ]
                    refine wpAnyH_done (by kernel_rfl) ?_ _
                    go_wp2_with fail
                    go_roundw
                    case rel => exact ⟨k + 1, by omega, by rw [hFk1], by go_num, S7.on BY, rd7.on BY, dd7.on BY, ed7.on BY⟩
                    case measure => simp [intOf]; omega
                · obtain rfl : d = -1 := by omega
                  have hni : ¬ (m : Int) ∈ R := fun h => hd (HMEM.out.1 h).1
                  have hin : decide ((m : Int) ∈ R) = false := decide_eq_false hni
                  have hFk1 := HFN.out hni
                  clear hd hni
                  go_wp2_with fail
                  go_quiet (fail)
                  go_wp2_with fail
                  refine wp_region_held_drew (S := fun w' => w'.cell? ⟨eg, eo + k, none⟩ = some (.int .i64 (m : Nat))) (by kernel_rfl) ?_ (fun hHeld2_0 => ?_)
                  · exact (by first | exact ckeep f1' (bdN (Below.refl _ _) _) | exact ckeep f1' (bdN (Below.refl _ _) _).drew)
                  refine wpAnyH_take (i := 0) (v := ?v2_0) rfl (by kernel_rfl) (by kernel_rfl) (by kernel_rfl) (fun _ _ _ h => h) (Or.inl ⟨by kernel_rfl, ?y2_0⟩) (by assumption) ?r2_0
                  case y2_0 => intro w hSw; (try dsimp only at hSw); go_simp; (try with_reducible rfl)
                  try simp only [Act.put, List.setIfInBounds_toArray]
                  refine wpAnyH_take (i := 1) (v := ?v2_1) rfl (by kernel_rfl) (by kernel_rfl) (by kernel_rfl) (fun _ _ _ h => h) (Or.inl ⟨by kernel_rfl, ?y2_1⟩) (by assumption) ?r2_1
                  case y2_1 => intro w hSw; (try dsimp only at hSw); go_simp; (try with_reducible rfl)
                  try simp only [Act.put]
                  refine wpAnyH_take (i := 2) (v := ?v2_2) rfl (by kernel_rfl) (by kernel_rfl) (by kernel_rfl) (fun _ _ _ h => h) (Or.inl ⟨by kernel_rfl, ?y2_2⟩) (by assumption) ?r2_2
                  case y2_2 => intro w hSw; (try dsimp only at hSw); go_simp; (try with_reducible rfl)
                  try simp only [Act.put]
                  refine wpAnyH_take (i := 3) (v := ?v2_3) rfl (by kernel_rfl) (by kernel_rfl) (by kernel_rfl) (fun _ _ _ h => h) (Or.inl ⟨by kernel_rfl, ?y2_3⟩) (by assumption) ?r2_3
                  case y2_3 => intro w hSw; (try dsimp only at hSw); go_simp; (try with_reducible rfl)
                  try simp only [Act.put]
                  refine wpAnyH_take (i := 4) (v := ?v2_4) rfl (by kernel_rfl) (by kernel_rfl) (by kernel_rfl) (fun _ _ _ h => h) (Or.inl ⟨by kernel_rfl, ?y2_4⟩) (by assumption) ?r2_4
                  case y2_4 => intro w hSw; (try dsimp only at hSw); go_simp; (try with_reducible rfl)
                  try simp only [Act.put]
                  refine wpAnyH_take (i := 5) (v := ?v2_5) rfl (by kernel_rfl) (by kernel_rfl) (by kernel_rfl) (fun _ _ _ h => h) (Or.inl ⟨by kernel_rfl, ?y2_5⟩) (by assumption) ?r2_5
                  case y2_5 => intro w hSw; (try dsimp only at hSw); go_simp; (try with_reducible rfl)
                  try simp only [Act.put]
                  refine wpAnyH_ready (rs := [6]) (by kernel_rfl) (by simp) ?_
                  refine AllReadyH.cons rfl (fun K hK => ?_) AllReadyH.nil
                  go_simp
                  (go_at_call 40; refine (HI.out false _ hin (by first | exact rd7.on (bdN (Below.refl _ _) _) | exact rd7.on (bdN (Below.refl _ _) _).drew)).mono ?_; rintro e w8 ⟨rfl, hb8⟩; have BY : Below w6.heap.size w6 w8 := (by first | exact (bdN (Below.refl _ _) _).trans hb8 | exact (bdN (Below.refl _ _) _).drew.trans hb8))
                  go_wp2_with fail
                  refine hK.out _ _ ?_ (fun hHeld2_1 => ?_)
                  · exact ckeep f1' BY
                  clear hK K
                  try simp only [Act.put, List.setIfInBounds_toArray]
                  refine wpAnyH_take (i := 7) (v := ?v2_7) rfl (by kernel_rfl) (by kernel_rfl) (by kernel_rfl) (fun _ _ _ h => h) (Or.inl ⟨by kernel_rfl, ?y2_7⟩) (by assumption) ?r2_7
                  case y2_7 => intro w hSw; (try dsimp only at hSw); go_simp; (try with_reducible rfl)
                  try simp only [Act.put]
                  refine wpAnyH_take (i := 8) (v := ?v2_8) rfl (by kernel_rfl) (by kernel_rfl) (by kernel_rfl) (fun _ _ _ h => h) (Or.inl ⟨by kernel_rfl, ?y2_8⟩) (by assumption) ?r2_8
                  case y2_8 => intro w hSw; (try dsimp only at hSw); go_simp; (try with_reducible rfl)
                  try simp only [Act.put]
                  refine wpAnyH_take (i := 9) (v := ?v2_9) rfl (by kernel_rfl) (by kernel_rfl) (by kernel_rfl) (fun _ _ _ h => h) (Or.inl ⟨by kernel_rfl, ?y2_9⟩) (by assumption) ?r2_9
                  case y2_9 => intro w hSw; (try dsimp only at hSw); go_simp; (try with_reducible rfl)
                  try simp only [Act.put]
                  refine wpAnyH_take (i := 10) (v := ?v2_10) rfl (by kernel_rfl) (by kernel_rfl) (by kernel_rfl) (fun _ _ _ h => h) (Or.inl ⟨by kernel_rfl, ?y2_10⟩) (by assumption) ?r2_10
                  case y2_10 => intro w hSw; (try dsimp only at hSw); go_simp; (try with_reducible rfl)
                  try simp only [Act.put]
                  refine wpAnyH_take (i := 11) (v := undef) rfl (by kernel_rfl) (by kernel_rfl) (by kernel_rfl) (fun _ _ _ h => h) (Or.inr ⟨by kernel_rfl, by kernel_rfl⟩) (by assumption) ?r2_11
                  try simp only [Act.put]
                  refine wpAnyH_take (i := 12) (v := undef) rfl (by kernel_rfl) (by kernel_rfl) (by kernel_rfl) (fun _ _ _ h => h) (Or.inr ⟨by kernel_rfl, by kernel_rfl⟩) (by assumption) ?r2_12
                  try simp only [Act.put]
                  refine wpAnyH_take (i := 13) (v := undef) rfl (by kernel_rfl) (by kernel_rfl) (by kernel_rfl) (fun _ _ _ h => h) (Or.inr ⟨by kernel_rfl, by kernel_rfl⟩) (by assumption) ?r2_13
                  try simp only [Act.put]
                  refine wpAnyH_take (i := 14) (v := undef) rfl (by kernel_rfl) (by kernel_rfl) (by kernel_rfl) (fun _ _ _ h => h) (Or.inr ⟨by kernel_rfl, by kernel_rfl⟩) (by assumption) ?r2_14
                  try simp only [Act.put]
                  refine wpAnyH_take (i := 15) (v := undef) rfl (by kernel_rfl) (by kernel_rfl) (by kernel_rfl) (fun _ _ _ h => h) (Or.inr ⟨by kernel_rfl, by kernel_rfl⟩) (by assumption) ?r2_15
                  try simp only [Act.put]
                  refine wpAnyH_take (i := 16) (v := undef) rfl (by kernel_rfl) (by kernel_rfl) (by kernel_rfl) (fun _ _ _ h => h) (Or.inr ⟨by kernel_rfl, by kernel_rfl⟩) (by assumption) ?r2_16
                  try simp only [Act.put]
                  refine wpAnyH_take (i := 17) (v := undef) rfl (by kernel_rfl) (by kernel_rfl) (by kernel_rfl) (fun _ _ _ h => h) (Or.inr ⟨by kernel_rfl, by kernel_rfl⟩) (by assumption) ?r2_17
                  try simp only [Act.put]
                  refine wpAnyH_take (i := 18) (v := undef) rfl (by kernel_rfl) (by kernel_rfl) (by kernel_rfl) (fun _ _ _ h => h) (Or.inr ⟨by kernel_rfl, by kernel_rfl⟩) (by assumption) ?r2_18
                  try simp only [Act.put]
                  refine wpAnyH_take (i := 19) (v := undef) rfl (by kernel_rfl) (by kernel_rfl) (by kernel_rfl) (fun _ _ _ h => h) (Or.inr ⟨by kernel_rfl, by kernel_rfl⟩) (by assumption) ?r2_19
                  try simp only [Act.put]
                  refine wpAnyH_take (i := 20) (v := undef) rfl (by kernel_rfl) (by kernel_rfl) (by kernel_rfl) (fun _ _ _ h => h) (Or.inr ⟨by kernel_rfl, by kernel_rfl⟩) (by assumption) ?r2_20
                  try simp only [Act.put]
                  refine wpAnyH_take (i := 21) (v := undef) rfl (by kernel_rfl) (by kernel_rfl) (by kernel_rfl) (fun _ _ _ h => h) (Or.inr ⟨by kernel_rfl, by kernel_rfl⟩) (by assumption) ?r2_21
                  try simp only [Act.put]
                  refine wpAnyH_take (i := 22) (v := undef) rfl (by kernel_rfl) (by kernel_rfl) (by kernel_rfl) (fun _ _ _ h => h) (Or.inr ⟨by kernel_rfl, by kernel_rfl⟩) (by assumption) ?r2_22
                  try simp only [Act.put]
                  refine wpAnyH_take (i := 23) (v := ?v2_23) rfl (by kernel_rfl) (by kernel_rfl) (by kernel_rfl) (fun _ _ _ h => h) (Or.inl ⟨by kernel_rfl, ?y2_23⟩) (by assumption) ?r2_23
                  case y2_23 => intro w hSw; (try dsimp only at hSw); go_simp; (try with_reducible rfl)
                  try simp only [Act.put]
                  refine wpAnyH_take (i := 24) (v := ?v2_24) rfl (by kernel_rfl) (by kernel_rfl) (by kernel_rfl) (fun _ _ _ h => h) (Or.inl ⟨by kernel_rfl, ?y2_24⟩) (by assumption) ?r2_24
                  case y2_24 => intro w hSw; (try dsimp only at hSw); go_simp; (try with_reducible rfl)
                  simp only [Act.put, List.getElem_toArray, List.getElem_cons_succ, List.getElem_cons_zero, List.setIfInBounds_toArray, List.set_cons_zero, List.set_cons_succ]
                  refine wpAnyH_done (by kernel_rfl) ?_ _
                  go_wp2_with fail
                  go_roundw
                  case rel => exact ⟨k + 1, by omega, by rw [hFk1], by go_num, S7.on BY, rd7.on BY, dd7.on BY, ed7.on BY⟩
                  case measure => simp [intOf]; omega
            · obtain rfl : k = T.length := by omega
              rw [HFE.out]
              have tn : ((R.length : Int) == (R.length : Int)) = true := by simp
              go_wp2_with fail
              refine (asc_any B cb R _ (by omega) HQ.out rd).mono ?_
              rintro e w7 ⟨rfl, hb7⟩
              go_wp2_with fail
              go_ret
              exact ⟨rfl, bthen S.bl hb7⟩
        · have tx1 : decide (x < 0) = false := by rw [decide_eq_false_iff_not]; have := hx.1; omega
          have tx2 : decide (nd ≤ x) = false := by rw [decide_eq_false_iff_not]; have := hx.2; omega
          go_wp2_with fail
          refine (sgv_yes hv A2 cp2 _ S4.rd).mono ?_
          rintro e w5 ⟨rfl, hb5⟩
          have S5 := S4.on hb5
          have r5 := r4.on hb5
          have q5 := q4.on hb5
          clear S4 r4 q4 c0 c1 hb5
          have c0 := S5.c0
          have c1 := S5.c1
          by_cases h0 : y < 0
          · have t1 : decide (y < 0) = true := by rw [decide_eq_true_eq]; exact h0
            clear h0
            go_wp2_with fail
            refine (sameI_yes B C cb cc _ _ (by omega) r5 q5).mono ?_
            rintro e w6 ⟨rfl, hb6⟩
            go_wp2_with fail
            go_ret
            exact ⟨rfl, (S5.on hb6).bl⟩
          · have t1 : decide (y < 0) = false := by rw [decide_eq_false_iff_not]; exact h0
            have t2 : decide (nd ≤ y) = true := by
              rw [decide_eq_true_eq]
              by_cases h : y < nd
              · exact absurd ⟨by omega, h⟩ hy
              · omega
            clear h0
            go_wp2_with fail
            refine (sameI_yes B C cb cc _ _ (by omega) r5 q5).mono ?_
            rintro e w6 ⟨rfl, hb6⟩
            go_wp2_with fail
            go_ret
            exact ⟨rfl, (S5.on hb6).bl⟩
      · go_wp2_with fail
        refine (sgv_yes hv A2 cp2 _ S4.rd).mono ?_
        rintro e w5 ⟨rfl, hb5⟩
        have S5 := S4.on hb5
        have r5 := r4.on hb5
        have q5 := q4.on hb5
        clear S4 r4 q4 c0 c1 hb5
        have c0 := S5.c0
        have c1 := S5.c1
        by_cases h0 : x < 0
        · have t1 : decide (x < 0) = true := by rw [decide_eq_true_eq]; exact h0
          clear h0
          go_wp2_with fail
          refine (sameI_yes B C cb cc _ _ (by omega) r5 q5).mono ?_
          rintro e w6 ⟨rfl, hb6⟩
          go_wp2_with fail
          go_ret
          exact ⟨rfl, (S5.on hb6).bl⟩
        · have t1 : decide (x < 0) = false := by rw [decide_eq_false_iff_not]; exact h0
          have t2 : decide (nd ≤ x) = true := by
            rw [decide_eq_true_eq]
            by_cases h : x < nd
            · exact absurd ⟨by omega, h⟩ hx
            · omega
          clear h0
          go_wp2_with fail
          refine (sameI_yes B C cb cc _ _ (by omega) r5 q5).mono ?_
          rintro e w6 ⟨rfl, hb6⟩
          go_wp2_with fail
          go_ret
          exact ⟨rfl, (S5.on hb6).bl⟩
    · go_wp2_with fail
      refine (sgv_no hv A2 cp2 _ (by omega) S4.rd).mono ?_
      rintro e w5 ⟨rfl, hb5⟩
      have S5 := S4.on hb5
      have r5 := r4.on hb5
      have q5 := q4.on hb5
      clear S4 r4 q4 c0 c1 hb5
      go_wp2_with fail
      refine (sameI_yes B C cb cc _ _ (by omega) r5 q5).mono ?_
      rintro e w6 ⟨rfl, hb6⟩
      go_wp2_with fail
      go_ret
      exact ⟨rfl, (S5.on hb6).bl⟩
  · have h20' : (1048576 : Int) < (bs.length : Int) := by omega
    go_enter Try.func11, Try.ntmps11
    go_wp2_with fail
    go_ret
    exact ⟨rfl, Below.refl _ _⟩

end Go.Proofs.Ytnndnpckkcgfiaa.fnNextHops
