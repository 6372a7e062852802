/-
  The walk of the law FnDistancesLink: linked nodes have similar distances.
-/
import Derived.Test.YtnkcldophdbehaaDG
import Derived.Test.YtnkcldophdbehaaWO
namespace Go.Proofs.Ytnkcldophdbehaa.fnDistancesLink
open Go.RowKit

set_option maxRecDepth 100000 in
set_option maxHeartbeats 2000000 in
theorem walk (A : Option Addr) (cp : Nat) (bs : List Int) (w : World) (hr : RdB w w.heap.size A bs) (hl : bs.length ≤ 9223372036854775807 ∧ bs.length ≤ cp) :
    Calls Try.prog 14 #[.slice A bs.length cp] w fun e w' => e = .returned (.bool true) ∧ Below w.heap.size w w' := by
  obtain ⟨hl, hcp⟩ := hl
  by_cases h20 : bs.length ≤ 1048576
  · go_enter Try.func14, Try.ntmps14
    go_wp2_with fail
    refine (drawDistances_any A cp bs _ hr hl hcp).mono ?_
    rintro e w1 ⟨nd, A2, cp2, ls, x, rfl, hg⟩
    have S := LS.of_drawn (nd := nd) hg
    have hlen := S.len
    clear hr hg
    go_wp2_with fail
    refine (gDist_any nd A2 cp2 ls x _ (by omega) S.rd).mono ?_
    rintro e w2 ⟨⟨B, cb, rfl, ho2⟩, hb2⟩
    have S2 := S.on hb2
    have r2 := ho2.rd
    have c0 := S2.c0
    have c1 := S2.c1
    clear S hb2 ho2
    go_wp2_with fail
    refine (sgDist_any nd A2 cp2 ls x _ (by omega) S2.rd).mono ?_
    rintro e w3 ⟨⟨C, cc, rfl, ho3⟩, hb3⟩
    have S3 := S2.on hb3
    have r3 := r2.on hb3
    have q3 := ho3.rd
    clear S2 hb3 c0 c1 ho3 r2
    have c0 := S3.c0
    have c1 := S3.c1
    have hdl : (distO nd ls x).length ≤ 8 := by
      by_cases h : Valid nd ls ∧ Nd nd x
      · rw [distO_yes h, length_dists]; have := h.1.2.1; omega
      · rw [distO_no h]; simp
    go_wp2_with fail
    refine (sameI_yes B C cb cc _ _ (by omega) r3 q3).mono ?_
    rintro e w4 ⟨rfl, hb4⟩
    have S4 := S3.on hb4
    have r4 := r3.on hb4
    have q4 := q3.on hb4
    clear S3 hb4 c0 c1 r3 q3
    by_cases h : Valid nd ls ∧ Nd nd x
    · have HD : ∀ k, k < ls.length → Ix (distO nd ls x) (La ls k).toNat = D nd ls x (La ls k) ∧ Ix (distO nd ls x) (Lb ls k).toNat = D nd ls x (Lb ls k) := fun k hk => by
        rw [distO_yes h]; exact ⟨rfl, rfl⟩
      have hn : (distO nd ls x).length = nd.toNat := by rw [distO_yes h, length_dists]
      generalize distO nd ls x = d at *
      have hn1 := h.1.1
      have hd1 : 1 ≤ d.length := by omega
      have HN := Lib.hid hn
      have HD := Lib.hid HD
      clear hn
      have c0 := S4.c0
      have c1 := S4.c1
      obtain ⟨G, hG⟩ : ∃ G, G = w1.heap.size := ⟨_, rfl⟩
      rw [← hG] at S4 c0 c1 ⊢
      clear hG
      go_wp2_with fail
      go_loopw [7] (fun i wr => ∃ k : Nat, k ≤ ls.length ∧ i = .int .i64 k ∧ LS w wr G nd A2 cp2 ls ∧ RdI wr wr.heap.size B d) (fun i _ => ls.length - (intOf i).toNat)
      case atStart => exact ⟨0, Nat.zero_le _, rfl, S4, r4⟩
      case round =>
        obtain ⟨k, hk, rfl, T, rd⟩ := hrel
        clear c0 c1
        have c1 := T.c1
        by_cases hlt : k < ls.length
        · obtain ⟨g, o, hA, hg, hc⟩ := T.rd (by omega)
          obtain rfl := hA
          obtain ⟨d1, d2, d3⟩ := hc k hlt
          clear hc
          obtain ⟨bg, bo, hB, hbg, hcb⟩ := rd (by omega)
          obtain rfl := hB
          have ok := h.1.ok hlt
          unfold LkOk at ok
          obtain ⟨e1, e2⟩ := HD.out k hlt
          have b1 := D_bd h.1 x (La ls k)
          have b2 := D_bd h.1 x (Lb ls k)
          have ha := adj_at (ls := ls) hlt
          have l1 := D_link h.1 h.2 ha
          have l2 := D_link h.1 h.2 ha.symm
          obtain ⟨i, hi⟩ := Int.eq_ofNat_of_zero_le ok.1
          obtain ⟨j, hj⟩ := Int.eq_ofNat_of_zero_le (by omega : 0 ≤ Lb ls k)
          rw [hi] at d1 ok e1 b1 l1 l2
          rw [hj] at d2 ok e2 b2 l1 l2
          clear hi hj
          rw [Int.toNat_natCast] at e1 e2
          have f1 := hcb i (by have := HN.out; omega)
          have f2 := hcb j (by have := HN.out; omega)
          rw [e1] at f1
          rw [e2] at f2
          generalize Lc ls k = c at *
          generalize D nd ls x i = u at *
          generalize D nd ls x j = v at *
          clear e1 e2 hcb ha
          have i1 : (i : Int) < (d.length : Int) := by have := HN.out; omega
          have j1 : (j : Int) < (d.length : Int) := by have := HN.out; omega
          have q0 : (0 : Int) ≤ (k : Int) := by omega
          by_cases hu : u < 0
          · obtain rfl : u = -1 := by omega
            obtain rfl : v = -1 := by
              by_cases hv : 0 ≤ v
              · have := (l2 hv).1; omega
              · omega
            have hc1 : 1 ≤ c := ok.2.2.2.1
            clear l1 l2 b1 b2 ok hu
            go_wp2_with fail
            go_roundw
            case rel => exact ⟨k + 1, by omega, by go_num, T, rd⟩
            case measure => simp [intOf]; omega
          · have h1 := l1 (by omega)
            have h2 := l2 h1.1
            obtain ⟨h3, h4⟩ := h1
            obtain ⟨h5, h6⟩ := h2
            have hc20 : c ≤ 20 := ok.2.2.2.2
            have hc1 : 1 ≤ c := ok.2.2.2.1
            obtain ⟨-, b3⟩ := b1
            obtain ⟨-, b4⟩ := b2
            have t1 : decide (u < 0) = false := by simp; omega
            have t2 : decide (v < 0) = false := by simp; omega
            have t3 : decide (c < u - v) = false := by simp; omega
            have t4 : decide (c < v - u) = false := by simp; omega
            clear l1 l2 ok hu
            by_cases hm : v ≤ u
            · go_wp2_with fail
              go_roundw
              case rel => exact ⟨k + 1, by omega, by go_num, T, rd⟩
              case measure => simp [intOf]; omega
            · go_wp2_with fail
              go_roundw
              case rel => exact ⟨k + 1, by omega, by go_num, T, rd⟩
              case measure => simp [intOf]; omega
        · go_wp2_with fail
          go_ret
          exact ⟨rfl, T.bl⟩
    · have hn : distO nd ls x = [] := distO_no h
      rw [hn] at r4 q4 ⊢
      clear hn hdl
      go_wp2_with fail
      refine (sameI_yes B C cb cc [] _ (by simp) r4 q4).mono ?_
      rintro e w5 ⟨rfl, hb5⟩
      go_wp2_with fail
      go_ret
      exact ⟨rfl, (S4.on hb5).bl⟩
  · go_enter Try.func14, Try.ntmps14
    go_wp2_with fail
    go_ret
    exact ⟨rfl, Below.refl _ _⟩

end Go.Proofs.Ytnkcldophdbehaa.fnDistancesLink
