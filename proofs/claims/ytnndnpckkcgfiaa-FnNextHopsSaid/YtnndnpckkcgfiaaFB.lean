/-
  The walks of neighbours and of both GraphNeighbours.
-/
import Derived.Test.YtnndnpckkcgfiaaEA
import Derived.Test.YtnndnpckkcgfiaaEB
import Derived.Test.YtnndnpckkcgfiaaFA
import Derived.Test.YtnndnpckkcgfiaaPH
import Derived.Test.YtnndnpckkcgfiaaSH
import Derived.Sort.OwnSortedInts
namespace Go.Proofs.Ytnndnpckkcgfiaa
open Go.RowKit
set_option maxRecDepth 100000

/-- sorted -/
def srt (xs : List Int) : List Int := xs.mergeSort fun x y => decide (x ≤ y)
theorem srt_perm (xs : List Int) : (srt xs).Perm xs := List.mergeSort_perm _ _
theorem srt_pw (xs : List Int) : (srt xs).Pairwise (· ≤ ·) := by
  have := List.pairwise_mergeSort (le := fun x y : Int => decide (x ≤ y)) (fun a b c h1 h2 => by simp at *; omega) (fun a b => by simp; omega) xs
  exact this.imp (fun {a b} h => by simpa using h)
theorem srt_len (xs : List Int) : (srt xs).length = xs.length := (srt_perm xs).length_eq
set_option maxHeartbeats 1000000 in
theorem sort_own {w : World} {base : Nat} {A : Option Addr} {cp : Nat} {xs : List Int} (ho : OwI w base A cp xs) (hl : xs.length ≤ 100) :
    Calls Try.prog 89 #[.slice A xs.length cp] w fun e w' => e = .returned (.tuple #[]) ∧ OwI w' base A cp (srt xs) ∧ w.grownBy w' (Value.slice A xs.length cp).ownBlock := by
  rcases ho.2 with ⟨hv, h0⟩ | ⟨g, cap, cur, hv, hb, hg, h1, h2, h3, h4⟩
  · simp only [Value.slice.injEq] at hv
    obtain ⟨rfl, _, rfl⟩ := hv
    have : xs = [] := List.eq_nil_of_length_eq_zero h0
    subst this
    refine (Try.slices_Sort_int_none none 0 w).mono ?_
    rintro e w' ⟨rfl, rfl⟩
    exact ⟨rfl, by unfold srt; simpa using ho, World.grownBy.refl _ _⟩
  · simp only [Value.slice.injEq] at hv
    obtain ⟨rfl, _, rfl⟩ := hv
    have hlt : g < w.heap.size := (Array.getElem?_eq_some_iff.1 hg).1
    refine (Try.slices_Sort_int g 0 _ xs w (holds_of_blockI hg (by simpa using h4)) hlt (by omega)).mono ?_
    rintro e w' ⟨rfl, n, os, rfl⟩
    refine ⟨rfl, ?_, grownBy_sortedI _⟩
    have := ownsRow_sortedI (n := n) (os := os) (ts := srt xs) (srt_len xs) hb hg h1 h2 h3
    unfold OwI
    rw [srt_len]
    exact this

/-- what GraphNeighbours lists -/
noncomputable def nbrO (nd : Int) (ls : List Lk) (n : Int) : List Int := if bl (Valid nd ls) then nbr nd ls n else []
theorem nbrO_yes {nd : Int} {ls : List Lk} {n : Int} (h : Valid nd ls) : nbrO nd ls n = nbr nd ls n := by unfold nbrO; rw [bl_true h, if_pos rfl]
theorem nbrO_no {nd : Int} {ls : List Lk} {n : Int} (h : ¬ Valid nd ls) : nbrO nd ls n = [] := by unfold nbrO; rw [bl_false h]; rfl
theorem nbrO_8 (nd : Int) (ls : List Lk) (n : Int) : (nbrO nd ls n).length ≤ 8 := by
  by_cases h : Valid nd ls
  · rw [nbrO_yes h]; have := nbr_le nd ls n; have := h.2.1; omega
  · rw [nbrO_no h]; simp

set_option maxHeartbeats 4000000 in
theorem neighbours_any {nd : Int} {ls : List Lk} (hv : Valid nd ls) (n : Int) (A : Option Addr) (cp : Nat) (w : World) (hr : RdL w w.heap.size A ls) :
    Calls Try.prog 78 #[.agg #[.int .i64 nd, .slice A ls.length cp], .int .i64 n] w (RI (nbr nd ls n) w) := by
  have h14 := hv.2.2.1
  have T : UT w ((w.alloc (.cells #[.int .i64 nd, .slice A ls.length cp] 25)).alloc (.cells #[] 3)) nd A cp ls (some ⟨w.heap.size + 1, 0, none⟩) 0 [] none [] := ⟨emptyOut w _, fun h => by simp at h, (Blk.new w #[.int .i64 nd, .slice A ls.length cp] 25).keep (bnew _ _), b2 _ _ _⟩
  have HLE := Lib.hid (fun k : Nat => nb0_le ls n k)
  have HN := Lib.hid (nb0_len hv n)
  have HS : Hid (srt (nb0 ls n ls.length) = nbr nd ls n) := nb0_sorted hv n (srt_perm _) (srt_pw _)
  obtain ⟨i0, hi, hz0, hz1, hz2⟩ := info_parts Try.infoIn
  clear hv
  go_enter Try.func78, Try.ntmps78
  go_wp2_with fail
  go_loopw [5, 14] (fun o i wr => ∃ (k : Nat) (B : Option Addr) (cq : Nat), k ≤ ls.length ∧ i = .int .i64 k ∧ o = .slice B (nb0 ls n k).length cq ∧ UT w wr nd A cp ls B cq (nb0 ls n k) none []) (fun _ i _ => ls.length - (intOf i).toNat)
  case atStart => exact ⟨0, _, _, Nat.zero_le _, rfl, rfl, T⟩
  case round =>
    obtain ⟨k, B, cq, hk, rfl, rfl, T1⟩ := hrel
    clear T
    by_cases hlt : k < ls.length
    · obtain ⟨ga, go, hA, hga, hc⟩ := hr (by omega)
      obtain rfl := hA
      obtain ⟨d1, d2, d3⟩ := hc k hlt
      clear hc
      have d1' := (T1.bl.cell (by exact hga)).trans d1
      have d2' := (T1.bl.cell (by exact hga)).trans d2
      have d3' := (T1.bl.cell (by exact hga)).trans d3
      have HA : Hid (La ls k = n → nb0 ls n (k + 1) = nb0 ls n k ++ [Lb ls k]) := fun h => nb0_a h
      have HB : Hid (La ls k ≠ n → Lb ls k = n → nb0 ls n (k + 1) = nb0 ls n k ++ [La ls k]) := fun h h' => nb0_b h h'
      have HC : Hid (La ls k ≠ n → Lb ls k ≠ n → nb0 ls n (k + 1) = nb0 ls n k) := fun h h' => nb0_c h h'
      have hkl := HLE.out k
      have q0 : (0 : Int) ≤ (k : Int) := by omega
      have q1 : (k : Int) < (ls.length : Int) := by omega
      clear d1 d2 d3
      generalize La ls k = x at *
      generalize Lb ls k = y at *
      generalize Lc ls k = z at *
      have T2 := T1.on (bnew wr (.cells #[.int .i64 x, .int .i64 y, .int .i64 z] 52))
      go_wp2_with fail
      by_cases h1 : x = n
      · refine (other_a h1 y z _).mono ?_
        rintro e w2 ⟨rfl, hb2⟩
        have T3 := T2.on hb2
        have HP := Lib.hid (HA.out h1)
        clear T1 T2 d1' d2' d3' HA HB HC h1 hb2
        go_wp2_with (at_builtin; refine wpList_appJ _ rfl (.tmp 25) (.tmp 27) 36 rfl i0 Try.underlying36 hi hz0 hz1 hz2 rfl rfl (T3.ho.keep (bnew _ _)) y rfl (by go_simp) (by omega) (by have := T3.bl.size; simp; omega) ?_; intro A5 cp5 n5 w5 HN5 O5 G5 hat5)
        have T5 := (T3.on (bnew w2 (.cells #[.int .i64 y] 3))).app O5 G5 hat5
        go_roundw
        case rel => exact ⟨k + 1, A5, cp5, by omega, by go_num, by rw [HN5.out, HP.out], by rw [HP.out]; exact T5⟩
        case measure => simp [intOf]; omega
      · by_cases h2 : y = n
        · refine (other_b h1 h2 z _).mono ?_
          rintro e w2 ⟨rfl, hb2⟩
          have T3 := T2.on hb2
          have HP := Lib.hid (HB.out h1 h2)
          clear T1 T2 d1' d2' d3' HA HB HC h1 h2 hb2
          go_wp2_with (at_builtin; refine wpList_appJ _ rfl (.tmp 25) (.tmp 27) 36 rfl i0 Try.underlying36 hi hz0 hz1 hz2 rfl rfl (T3.ho.keep (bnew _ _)) x rfl (by go_simp) (by omega) (by have := T3.bl.size; simp; omega) ?_; intro A5 cp5 n5 w5 HN5 O5 G5 hat5)
          have T5 := (T3.on (bnew w2 (.cells #[.int .i64 x] 3))).app O5 G5 hat5
          go_roundw
          case rel => exact ⟨k + 1, A5, cp5, by omega, by go_num, by rw [HN5.out, HP.out], by rw [HP.out]; exact T5⟩
          case measure => simp [intOf]; omega
        · refine (other_c h1 h2 z _).mono ?_
          rintro e w2 ⟨rfl, hb2⟩
          have T3 := T2.on hb2
          have HP := Lib.hid (HC.out h1 h2)
          clear T1 T2 d1' d2' d3' HA HB HC h1 h2 hb2
          go_wp2_with fail
          go_roundw
          case rel => exact ⟨k + 1, B, cq, by omega, by go_num, by rw [HP.out], by rw [HP.out]; exact T3⟩
          case measure => simp [intOf]; omega
    · obtain rfl : k = ls.length := by omega
      have hkl := HLE.out ls.length
      go_wp2_with fail
      refine (sort_own T1.ho (by omega)).mono ?_
      rintro e w3 ⟨rfl, o3, g3⟩
      have B3 := below_grownI T1.bl T1.ho rfl g3
      rw [HS.out] at o3
      go_wp2_with fail
      go_ret
      exact ⟨⟨B, cq, by rw [HN.out]; rfl, o3⟩, B3⟩

set_option maxHeartbeats 1000000 in
theorem gNbr_any (nd : Int) (A : Option Addr) (cp : Nat) (ls : List Lk) (n : Int) (w : World) (hlen : ls.length ≤ 9223372036854775806) (hr : RdL w w.heap.size A ls) :
    Calls Try.prog 46 #[.agg #[.int .i64 nd, .slice A ls.length cp], .int .i64 n] w (RI (nbrO nd ls n) w) := by
  by_cases h : Valid nd ls ∧ Nd nd n
  · rw [nbrO_yes h.1]
    go_enter Try.func46, Try.ntmps46
    go_wp2_with fail
    have S := BG.start (nd := nd) (cp := cp) hr
    refine (hasNode_yes h.1 h.2 A cp _ S.rd).mono ?_
    rintro e w1 ⟨rfl, hb1⟩
    have S1 := S.on hb1
    have c0 := S1.c0
    have c1 := S1.c1
    clear S hb1
    go_wp2_with fail
    refine (neighbours_any h.1 n A cp _ S1.rd).mono ?_
    intro e w2 h2
    obtain ⟨⟨B, cq, rfl, ho⟩, hb2⟩ := h2.of S1.bl
    go_wp2_with fail
    go_ret
    exact ⟨⟨B, cq, rfl, ho⟩, hb2⟩
  · have HE : Hid (nbrO nd ls n = []) := by
      show _ = _
      by_cases hv : Valid nd ls
      · rw [nbrO_yes hv]; exact nbr_out hv (fun hn => h ⟨hv, hn⟩)
      · exact nbrO_no hv
    rw [HE.out]
    go_enter Try.func46, Try.ntmps46
    go_wp2_with fail
    refine (hasNode_no h A cp _ hlen (hr.on (bnew _ _))).mono ?_
    rintro e w1 ⟨rfl, hb1⟩
    go_wp2_with fail
    go_ret
    exact RI.nil_ (bthen (bnew _ _) hb1)


end Go.Proofs.Ytnndnpckkcgfiaa
