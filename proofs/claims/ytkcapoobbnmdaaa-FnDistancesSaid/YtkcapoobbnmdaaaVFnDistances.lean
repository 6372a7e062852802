/-
  The walk of the law FnDistances: distances satisfy the equation of shortest paths.
-/
import Derived.Test.YtkcapoobbnmdaaaEI
import Derived.Test.YtkcapoobbnmdaaaDG
import Derived.Test.YtkcapoobbnmdaaaWO
import Derived.Test.YtkcapoobbnmdaaaFB
import Derived.Test.YtkcapoobbnmdaaaPF
import Derived.Deep.RegionHeld3
namespace Go.Proofs.Ytkcapoobbnmdaaa.fnDistances
open Go.RowKit

theorem best {nd : Int} {ls : List Lk} (hv : Valid nd ls) {x j b0 : Int} (hx : Nd nd x) (hj : Nd nd j) (hb : b0 = if j = x then 0 else -1) : ∃ P : Int → Nat → Prop, P b0 0 ∧ (∀ b k, P b k → -1 ≤ b ∧ b ≤ 5000) ∧
    (∀ b k, k < (nbr nd ls j).length → P b k → 0 ≤ D nd ls x (Ix (nbr nd ls j) k) → (b < 0 ∨ D nd ls x (Ix (nbr nd ls j) k) + Lc ls (lkIx ls j (Ix (nbr nd ls j) k)).toNat < b) → P (D nd ls x (Ix (nbr nd ls j) k) + Lc ls (lkIx ls j (Ix (nbr nd ls j) k)).toNat) (k + 1)) ∧
    (∀ b k, k < (nbr nd ls j).length → P b k → (D nd ls x (Ix (nbr nd ls j) k) < 0 ∨ (0 ≤ b ∧ b ≤ D nd ls x (Ix (nbr nd ls j) k) + Lc ls (lkIx ls j (Ix (nbr nd ls j) k)).toNat)) → P b (k + 1)) ∧
    ∀ b, P b (nbr nd ls j).length → b = D nd ls x j := by
  refine ⟨fun b k => -1 ≤ b ∧ b ≤ 5000 ∧ (0 ≤ b0 → 0 ≤ b ∧ b ≤ b0) ∧ (∀ i, i < k → 0 ≤ D nd ls x (Ix (nbr nd ls j) i) → 0 ≤ b ∧ b ≤ D nd ls x (Ix (nbr nd ls j) i) + Lc ls (lkIx ls j (Ix (nbr nd ls j) i)).toNat) ∧
    (0 ≤ b → b = b0 ∨ ∃ i, i < (nbr nd ls j).length ∧ 0 ≤ D nd ls x (Ix (nbr nd ls j) i) ∧ b = D nd ls x (Ix (nbr nd ls j) i) + Lc ls (lkIx ls j (Ix (nbr nd ls j) i)).toNat), ?_, fun b k h => ⟨h.1, h.2.1⟩, ?_, ?_, ?_⟩
  · have : b0 = 0 ∨ b0 = -1 := by rw [hb]; split <;> simp
    exact ⟨by omega, by omega, fun h => ⟨h, Int.le_refl _⟩, fun i hi => absurd hi (by omega), fun _ => .inl rfl⟩
  · rintro b k hk ⟨h1, h2, h3, h4, h5⟩ hd hc
    have hf := nbr_facts hv (Ix_mem hk)
    have hbd := D_bd hv x (Ix (nbr nd ls j) k)
    refine ⟨by omega, by omega, fun h0 => ?_, fun i hi hdi => ?_, fun _ => .inr ⟨k, hk, hd, rfl⟩⟩
    · have := h3 h0; omega
    · by_cases e : i = k
      · subst e; omega
      · have := h4 i (by omega) hdi; omega
  · rintro b k hk ⟨h1, h2, h3, h4, h5⟩ hc
    refine ⟨h1, h2, h3, fun i hi hdi => ?_, h5⟩
    by_cases e : i = k
    · subst e; omega
    · exact h4 i (by omega) hdi
  · rintro b ⟨h1, h2, h3, h4, h5⟩
    have hlo : 0 ≤ b → 0 ≤ D nd ls x j ∧ D nd ls x j ≤ b := fun h0 => by
      rcases h5 h0 with e | ⟨i, hi, hd, e⟩
      · by_cases hjx : j = x
        · subst hjx; rw [D_self hv hj]; omega
        · rw [if_neg hjx] at hb; omega
      · have hf := nbr_facts hv (Ix_mem hi)
        have := D_link hv hx (Adj.symm hf.2.2.2.2.2.1) hd
        omega
    have hup : 0 ≤ D nd ls x j → 0 ≤ b ∧ b ≤ D nd ls x j := fun h0 => by
      by_cases hjx : j = x
      · subst hjx
        rw [if_pos rfl] at hb
        have := h3 (by omega)
        rw [D_self hv hj]
        omega
      · obtain ⟨m, e, ha, hm0, hme⟩ := D_step hv hj hx hjx (by rw [D_symm hv hj hx]; exact h0)
        obtain ⟨i, hi, rfl⟩ := mem_Ix ((mem_nbr hv).2 ⟨e, ha⟩)
        have hf := nbr_facts hv (Ix_mem hi)
        have e2 := ((adj_iff hv).1 ha).2
        rw [D_symm hv hf.2.1 hx] at hm0
        rw [D_symm hv hf.2.1 hx, D_symm hv hj hx] at hme
        have := h4 i hi hm0
        omega
    have := (D_bd hv x j).1
    omega


set_option maxRecDepth 100000 in
set_option maxHeartbeats 4000000 in
theorem walk (A : Option Addr) (cp : Nat) (bs : List Int) (w : World) (hr : RdB w w.heap.size A bs) (hl : bs.length ≤ 9223372036854775807 ∧ bs.length ≤ cp) :
    Calls Try.prog 10 #[.slice A bs.length cp] w fun e w' => e = .returned (.bool true) ∧ Below w.heap.size w w' := by
  obtain ⟨hl, hcp⟩ := hl
  by_cases h20 : bs.length ≤ 1048576
  · go_enter Try.func10, Try.ntmps10
    go_wp2_with fail
    refine (drawDistances_any A cp bs _ hr hl hcp).mono ?_
    rintro e w1 ⟨nd, A2, cp2, ls, x, rfl, hg⟩
    have S := LS.of_drawn (nd := nd) hg
    have hlen := S.len
    have hdl : (distO nd ls x).length ≤ 14 := Nat.le_trans (distO_8 _ _ _) (by omega)
    clear hr hg
    go_wp2_with fail
    refine (gDist_any nd A2 cp2 ls x _ (by omega) S.rd).mono ?_
    rintro e w2 ⟨⟨B, cb, rfl, ho2⟩, hb2⟩
    have S2 := S.on hb2
    have r2 := ho2.rd
    have c0 := S2.c0
    have c1 := S2.c1
    clear S hb2 ho2
    go_wp2_with fail
    refine (sgDist_any nd A2 cp2 ls x _ (by omega) S2.rd).mono ?_
    rintro e w3 ⟨⟨C, cc, rfl, ho3⟩, hb3⟩
    have S3 := S2.on hb3
    have r3 := r2.on hb3
    have q3 := ho3.rd
    clear S2 hb3 c0 c1 ho3 r2
    have c0 := S3.c0
    have c1 := S3.c1
    go_wp2_with fail
    refine (sameI_yes B C cb cc _ _ (by omega) r3 q3).mono ?_
    rintro e w4 ⟨rfl, hb4⟩
    have S4 := S3.on hb4
    have r4 := r3.on hb4
    have q4 := q3.on hb4
    clear S3 hb4 c0 c1 r3 q3
    have c0 := S4.c0
    have c1 := S4.c1
    by_cases h : Valid nd ls ∧ Nd nd x
    · obtain ⟨hv, hx⟩ := h
      rw [distO_yes ⟨hv, hx⟩] at r4 q4 hdl ⊢
      have hn1 := hv.1
      have hn8 := hv.2.1
      have hl4 := length_dists nd ls x
      have ne0 : (((dists nd ls x).length : Int) == 0) = false := by rw [beq_eq_false_iff_ne]; omega
      have HL : Hid (∀ m, (nbr nd ls m).length ≤ 8) := fun m => by have := nbr_le nd ls m; omega
      have HD : Hid (∀ v : Nat, Ix (dists nd ls x) v = D nd ls x v) := fun v => by unfold D; rw [Int.toNat_natCast]
      have HP := Lib.hid (fun (j : Int) (hj : Nd nd j) b0 hb => best hv (j := j) (b0 := b0) hx hj hb)
      have HF : Hid (∀ (j : Nat), (j : Int) < nd → ∀ k, k < (nbr nd ls j).length → ∃ m kk : Nat, Ix (nbr nd ls j) k = m ∧ (m : Int) < nd ∧ kk < ls.length ∧ lkIx ls j m = kk ∧ Lc ls kk ≤ 20 ∧ 1 ≤ Lc ls kk) := fun j hj k hk => by
        have hf := nbr_facts hv (Ix_mem hk)
        obtain ⟨m, hm⟩ := Int.eq_ofNat_of_zero_le hf.2.1.1
        rw [hm] at hf ⊢
        obtain ⟨kk, hkk⟩ := Int.eq_ofNat_of_zero_le hf.2.2.2.1
        rw [hkk, Int.toNat_natCast] at hf
        exact ⟨m, kk, rfl, hf.2.1.2, hf.2.2.2.2.1, hkk, hf.2.2.2.2.2.2.2, hf.2.2.2.2.2.2.1⟩
      have HB : Hid (∀ v, -1 ≤ D nd ls x v ∧ D nd ls x v ≤ 4480) := fun v => D_bd hv x v
      have HN : Hid (∀ m wx, RdL wx wx.heap.size A2 ls → Calls Try.prog 36 #[.agg #[.int .i64 nd, .slice A2 ls.length cp2], .int .i64 m] wx (RI (nbr nd ls m) wx)) := fun m wx hr => by
        have := gNbr_any nd A2 cp2 ls m wx (by omega) hr
        rwa [nbrO_yes hv] at this
      have HG : Hid (∀ a b wx, RdL wx wx.heap.size A2 ls → Calls Try.prog 20 #[.agg #[.int .i64 nd, .slice A2 ls.length cp2], .int .i64 a, .int .i64 b] wx fun e w' => e = .returned (.int .i64 (lkIx ls a b)) ∧ Below wx.heap.size wx w') := fun a b wx hr => gLink_yes hv A2 cp2 a b wx hr
      have hlen14 : ls.length ≤ 14 := hv.2.2.1
      have HLN : Hid (((dists nd ls x).length : Int) = nd) := by show _ = _; omega
      clear hl4
      clear q4 hv hdl
      generalize dists nd ls x = R at *
      generalize D nd ls x = Dx at *
      generalize w1.heap.size = G at *
      go_wp2_with fail
      go_loopw [7] (fun i wr => ∃ j : Nat, (j : Int) ≤ nd ∧ i = .int .i64 j ∧ LS w wr G nd A2 cp2 ls ∧ RdI wr wr.heap.size B R) (fun i _ => nd.toNat - (intOf i).toNat)
      case atStart => exact ⟨0, by omega, rfl, S4, r4⟩
      case round =>
        obtain ⟨j, hj, rfl, S, rd⟩ := hrel
        clear S4 r4 c0 c1
        have c0 := S.c0
        have c1 := S.c1
        by_cases hlt : (j : Int) < nd
        · obtain ⟨b0, hb0⟩ : ∃ b0 : Int, b0 = if (j : Int) = x then 0 else -1 := ⟨_, rfl⟩
          obtain ⟨P, P0, PB, PY, PN, PE⟩ := HP.out (j : Int) ⟨by omega, hlt⟩ b0 hb0
          have HPB := Lib.hid PB
          have HPY := Lib.hid PY
          have HPN := Lib.hid PN
          have HPE := Lib.hid PE
          have HFj := Lib.hid (HF.out j hlt)
          have HNj := Lib.hid (HN.out (j : Int))
          have hl8 := HL.out (j : Int)
          clear PB PY PN PE
          generalize nbr nd ls (j : Int) = T at *
          by_cases hjx : (j : Int) = x
          case' pos =>
            rw [if_pos hjx] at hb0
            subst hjx
            have t1 : ((j : Int) == (j : Int)) = true := by simp
          case' neg =>
            rw [if_neg hjx] at hb0
            have t1 : ((j : Int) == x) = false := by rw [beq_eq_false_iff_ne]; exact hjx
            clear hjx
          all_goals
            subst hb0
            go_wp2_with fail
            refine (HNj.out _ S.rd).mono ?_
            rintro e w5 ⟨⟨E, ce, rfl, oE⟩, hb5⟩
            have S5 := S.on hb5
            have rd5 := rd.on hb5
            have e5 := oE.rd
            clear S rd c0 c1 hb5 oE HNj
            go_wp2_with fail
            go_loopw [8, 10] (fun b i wr => ∃ (k : Nat) (b' : Int), k ≤ T.length ∧ b = .int .i64 b' ∧ i = .int .i64 k ∧ P b' k ∧ LS w wr G nd A2 cp2 ls ∧ RdI wr wr.heap.size B R ∧ RdI wr wr.heap.size E T) (fun _ i _ => T.length - (intOf i).toNat)
            case atStart => exact ⟨0, _, by omega, rfl, rfl, P0, S5, rd5, e5⟩
            case round =>
              obtain ⟨k, b, hk, rfl, rfl, hP, S6, rd6, e6⟩ := hrel
              clear S5 rd5 e5 P0
              by_cases hlk : k < T.length
              · obtain ⟨m, kk, hm, hmn, hkk, hix, hc20, hc1⟩ := HFj.out k hlk
                have pb := HPB.out b k hP
                have py := Lib.hid (HPY.out b k hlk hP)
                have pn := Lib.hid (HPN.out b k hlk hP)
                rw [hm] at py pn
                rw [hix, Int.toNat_natCast] at py pn
                have H1 : Hid (∀ wx, Below wr.heap.size wr wx → Calls Try.prog 20 #[.agg #[.int .i64 nd, .slice A2 ls.length cp2], .int .i64 j, .int .i64 (m : Nat)] wx fun e w' => e = .returned (.int .i64 (kk : Nat)) ∧ Below wx.heap.size wx w') := fun wx hb => by
                  rw [← hix]; exact HG.out _ _ wx (S6.on hb).rd
                obtain ⟨eg, eo, hE, heg, hec⟩ := e6 (by omega)
                obtain rfl := hE
                have f1 := hec k hlk
                rw [hm] at f1
                obtain ⟨bg, bo, hB, hbg, hbc⟩ := rd6 (by have := HLN.out; omega)
                obtain rfl := hB
                have m1 := hbc m (by have := HLN.out; omega)
                rw [HD.out m] at m1
                have db := HB.out (m : Int)
                obtain ⟨ga, go, hA, hga, hgc⟩ := S6.rd (by omega)
                obtain rfl := hA
                have m3 := (hgc kk hkk).2.2
                clear hec hbc hgc hix hm hP
                have c0 := S6.c0
                have c1 := S6.c1
                generalize Dx (m : Int) = d at *
                generalize Lc ls kk = c at *
                have q0 : (0 : Int) ≤ (k : Int) := by omega
                have q1 : (k : Int) < (T.length : Int) := by omega
                have q2 : (0 : Int) ≤ (m : Int) := by omega
                have q3 : (m : Int) < (R.length : Int) := by have := HLN.out; omega
                have q4 : (0 : Int) ≤ (kk : Int) := by omega
                have q5 : (kk : Int) < (ls.length : Int) := by omega
                have BD : Below wr.heap.size wr wr.drew := (Below.refl _ _).drew
                go_wp2_with fail
                go_region_held3 (fun w' => w'.cell? ⟨G, 0, none⟩ = some (.int .i64 nd) ∧ w'.cell? ⟨G, 1, none⟩ = some (.slice (some ⟨ga, go, none⟩) ls.length cp2) ∧ w'.cell? ⟨eg, eo + k, none⟩ = some (.int .i64 (m : Nat)) ∧ w'.cell? ⟨ga, go + kk * 3 + 2, none⟩ = some (.int .i64 c)) (go_keep)
                  ((go_at_call 20; refine (H1.out _ BD).mono ?_; rintro e w6 ⟨rfl, hb6⟩; have BX := bthen BD hb6; have e0 := ckeep c0 BX; have e1 := ckeep c1 BX; have e2 := ckeep f1 BX; have e3 := ckeep m3 BX))
                all_goals
                  have S7 := S6.on BX
                  have rd7 := rd6.on BX
                  have e7 := e6.on BX
                  have f1' := ckeep f1 BX
                  have m1' := ckeep m1 BX
                  clear S6 rd6 e6 c0 c1 f1 m1 m3 e0 e1 e2 e3 hb6 BX BD H1
                  by_cases hd : 0 ≤ d
                  · have u1 : decide (0 ≤ d) = true := by rw [decide_eq_true_eq]; exact hd
                    by_cases hb : b < 0
                    · have u2 : decide (b < 0) = true := by rw [decide_eq_true_eq]; exact hb
                      have hP' := py.out hd (.inl hb)
                      clear py pn hb
                      go_wp2_with fail
                      go_roundw
                      case rel => exact ⟨k + 1, _, by omega, by go_num, by go_num, hP', S7, rd7, e7⟩
                      case measure => simp [intOf]; omega
                    · have u2 : decide (b < 0) = false := by rw [decide_eq_false_iff_not]; exact hb
                      by_cases hv : d + c < b
                      · have u3 : decide (d + c < b) = true := by rw [decide_eq_true_eq]; exact hv
                        have hP' := py.out hd (.inr hv)
                        clear py pn
                        go_wp2_with fail
                        go_roundw
                        case rel => exact ⟨k + 1, _, by omega, by go_num, by go_num, hP', S7, rd7, e7⟩
                        case measure => simp [intOf]; omega
                      · have u3 : decide (d + c < b) = false := by rw [decide_eq_false_iff_not]; exact hv
                        have hP' := pn.out (.inr ⟨by omega, by omega⟩)
                        clear py pn
                        go_wp2_with fail
                        go_roundw
                        case rel => exact ⟨k + 1, _, by omega, rfl, by go_num, hP', S7, rd7, e7⟩
                        case measure => simp [intOf]; omega
                  · have u1 : decide (0 ≤ d) = false := by rw [decide_eq_false_iff_not]; exact hd
                    have hP' := pn.out (.inl (by omega))
                    clear py pn
                    go_wp2_with fail
                    go_roundw
                    case rel => exact ⟨k + 1, _, by omega, rfl, by go_num, hP', S7, rd7, e7⟩
                    case measure => simp [intOf]; omega
              · obtain rfl : k = T.length := by omega
                have hb := HPE.out b hP
                subst hb
                obtain ⟨bg, bo, hB, hbg, hbc⟩ := rd6 (by have := HLN.out; omega)
                obtain rfl := hB
                have m1 := hbc j (by have := HLN.out; omega)
                rw [HD.out j] at m1
                clear hbc hP
                have q2 : (0 : Int) ≤ (j : Int) := by omega
                have q3 : (j : Int) < (R.length : Int) := by have := HLN.out; omega
                generalize Dx (j : Int) = d at *
                go_wp2_with fail
                go_roundw
                case rel => exact ⟨j + 1, by omega, by go_num, S6, rd6⟩
                case measure => simp [intOf]; omega
        · have he : ((R.length : Int) == nd) = true := by rw [beq_iff_eq]; exact HLN.out
          go_wp2_with fail
          go_ret
          exact ⟨rfl, S.bl⟩
    · rw [distO_no h] at r4 q4 hdl ⊢
      go_wp2_with fail
      refine (sameI_yes B C cb cc _ _ (by omega) r4 q4).mono ?_
      rintro e w5 ⟨rfl, hb5⟩
      go_wp2_with fail
      go_ret
      exact ⟨rfl, (S4.on hb5).bl⟩
  · have h20' : (1048576 : Int) < (bs.length : Int) := by omega
    go_enter Try.func10, Try.ntmps10
    go_wp2_with fail
    go_ret
    exact ⟨rfl, Below.refl _ _⟩

end Go.Proofs.Ytkcapoobbnmdaaa.fnDistances
