/-
  The walks of the laws' marks on slices of links: each cell is written with a number of its own, and read back.
-/
import Derived.Test.YtnndnpckkcgfiaaWT
namespace Go.Proofs.Ytnndnpckkcgfiaa
open Go.RowKit
set_option maxRecDepth 100000

/-- the marks 1, 2, 3, .. -/
def mkL : Nat → List Lk
  | 0 => []
  | n + 1 => mkL n ++ [⟨1 + 3 * n, 1 + 3 * n + 1, 1 + 3 * n + 1 + 1⟩]
theorem length_mkL (n : Nat) : (mkL n).length = n := by
  induction n with
  | zero => rfl
  | succ n ih => unfold mkL; rw [List.length_append, ih]; rfl
theorem mkL_get {n i : Nat} (h : i < n) : (mkL n)[i]? = some ⟨1 + 3 * i, 1 + 3 * i + 1, 1 + 3 * i + 1 + 1⟩ := by
  induction n with
  | zero => omega
  | succ n ih =>
    unfold mkL
    rcases Nat.lt_or_ge i n with h' | h'
    · rw [List.getElem?_append_left (by rw [length_mkL]; exact h'), ih h']
    · obtain rfl : i = n := by omega
      rw [List.getElem?_append_right (by rw [length_mkL]; omega), length_mkL]
      simp
theorem mkL_at {n i : Nat} (h : i < n) : La (mkL n) i = 1 + 3 * i ∧ Lb (mkL n) i = 1 + 3 * i + 1 ∧ Lc (mkL n) i = 1 + 3 * i + 1 + 1 := by
  have := mkL_get h
  unfold La Lb Lc
  rw [List.getD_eq_getElem?_getD, this]
  exact ⟨rfl, rfl, rfl⟩
theorem mkL_step (ls : List Lk) (i : Nat) (h : i < ls.length) : (mkL i ++ ls.drop i).set i ⟨1 + 3 * i, 1 + 3 * i + 1, 1 + 3 * i + 1 + 1⟩ = mkL (i + 1) ++ ls.drop (i + 1) := by
  rw [List.set_append_right _ _ (by rw [length_mkL]; omega), length_mkL, Nat.sub_self]
  rw [List.drop_eq_getElem_cons h, List.set_cons_zero]
  show _ = (mkL i ++ [_]) ++ _
  rw [List.append_assoc]
  rfl

theorem OwL.put3 {w : World} {base g cp : Nat} {ls : List Lk} (h : OwL w base (some ⟨g, 0, none⟩) cp ls) {j : Nat} (hj : j < ls.length) (a b c : Int) :
    OwL (((w.setCell ⟨g, j * 3, none⟩ (.int .i64 a)).setCell ⟨g, j * 3 + 1, none⟩ (.int .i64 b)).setCell ⟨g, j * 3 + 2, none⟩ (.int .i64 c)) base (some ⟨g, 0, none⟩) cp (ls.set j ⟨a, b, c⟩) := by
  have := ownsRow_set (ownsRow_set (ownsRow_set h (j * 3) (.int .i64 a)) (j * 3 + 1) (.int .i64 b)) (j * 3 + 2) (.int .i64 c)
  unfold OwL
  rw [List.length_set, cellsL_set _ _ _ hj]
  exact this
theorem gset {w0 w1 : World} {g : Nat} (h : w0.grownBy w1 (some g)) (j : Nat) (u : Value) : w0.grownBy (w1.setCell ⟨g, j, none⟩ u) (some g) := by
  refine ⟨h.os, h.tape, h.output, Nat.le_trans h.size (by simp [World.setCell]), fun k hk hne => ?_⟩
  rw [Below.heap_setCell _ _ _ _ (by rintro rfl; exact hne rfl)]
  exact h.block k hk hne
theorem OwL.some_ {w : World} {base : Nat} {A : Option Addr} {cp : Nat} {ls : List Lk} (h : OwL w base A cp ls) (h0 : 0 < ls.length) : ∃ g, A = some ⟨g, 0, none⟩ ∧ base ≤ g ∧ g < w.heap.size := by
  obtain ⟨g, cap, hv, h1, h2⟩ := World.ownsRow.form h h0
  simp only [Value.slice.injEq] at hv
  exact ⟨g, hv.1, h1, h2⟩
theorem int_eq {a b : Int} (h : a = b) : Value.int .i64 a = .int .i64 b := by rw [h]

/-- what a mark leaves behind -/
def MarkedL (w : World) (base : Nat) (A : Option Addr) (cp n : Nat) (e : Ending) (w' : World) : Prop :=
  e = .returned (.int .i64 (1 + 3 * n)) ∧ OwL w' base A cp (mkL n) ∧ w.grownBy w' (Value.slice A n cp).ownBlock

set_option maxRecDepth 100000 in
set_option maxHeartbeats 1000000 in
theorem markLS_any (A : Option Addr) (cp : Nat) (ls : List Lk) (base : Nat) (k : Int) (w : World) (hk : k = 1) (hlen : ls.length ≤ 1048576) (ho : OwL w base A cp ls) :
    Calls Try.prog 69 #[.slice A ls.length cp, .int .i64 k] w (MarkedL w base A cp ls.length) := by
  subst hk
  rcases Nat.eq_zero_or_pos ls.length with h0 | h0
  · have : ls = [] := List.eq_nil_of_length_eq_zero h0
    subst this
    go_enter Try.func69, Try.ntmps69
    go_wp2_with fail
    go_loopw [1, 5] (fun s i wr => s = .int .i64 1 ∧ i = .int .i64 0 ∧ wr = w) (fun _ _ _ => 0)
    case atStart => exact ⟨rfl, rfl, rfl⟩
    case round =>
      obtain ⟨rfl, rfl, rfl⟩ := hrel
      go_wp2_with fail
      go_ret
      exact ⟨rfl, ho, World.grownBy.refl _ _⟩
  · obtain ⟨g, rfl, hg1, hg2⟩ := ho.some_ h0
    go_enter Try.func69, Try.ntmps69
    go_wp2_with fail
    go_loopw [1, 5] (fun s i wr => ∃ j : Nat, j ≤ ls.length ∧ s = .int .i64 (1 + 3 * j) ∧ i = .int .i64 j ∧ OwL wr base (some ⟨g, 0, none⟩) cp (mkL j ++ ls.drop j) ∧ w.grownBy wr (some g)) (fun _ i _ => ls.length - (intOf i).toNat)
    case atStart => exact ⟨0, Nat.zero_le _, by rfl, rfl, ho, World.grownBy.refl _ _⟩
    case round =>
      obtain ⟨j, hj, rfl, rfl, hw, hgr⟩ := hrel
      by_cases hlt : j < ls.length
      · have hl : (mkL j ++ ls.drop j).length = ls.length := by rw [List.length_append, length_mkL, List.length_drop]; omega
        have hn := hw.put3 (j := j) (by rw [hl]; exact hlt) (1 + 3 * j) (1 + 3 * j + 1) (1 + 3 * j + 1 + 1)
        rw [mkL_step ls j hlt] at hn
        have hl3 : (cellsL (mkL j ++ ls.drop j)).length = ls.length * 3 := by rw [length_cellsL, hl]
        have e1 : ∃ v, wr.cell? ⟨g, j * 3, none⟩ = some v := ⟨_, (World.ownsRow.cellAt hw _ (by rw [hl]; omega)).trans (List.getElem?_eq_getElem (by rw [hl3]; omega))⟩
        have e2 : ∃ v, wr.cell? ⟨g, j * 3 + 1, none⟩ = some v := ⟨_, (World.ownsRow.cellAt hw _ (by rw [hl]; omega)).trans (List.getElem?_eq_getElem (by rw [hl3]; omega))⟩
        have e3 : ∃ v, wr.cell? ⟨g, j * 3 + 2, none⟩ = some v := ⟨_, (World.ownsRow.cellAt hw _ (by rw [hl]; omega)).trans (List.getElem?_eq_getElem (by rw [hl3]; omega))⟩
        obtain ⟨v1, e1⟩ := e1
        obtain ⟨v2, e2⟩ := e2
        obtain ⟨v3, e3⟩ := e3
        have f1 := World.ownsRow.frozenAt hw (j * 3)
        have f2 := World.ownsRow.frozenAt hw (j * 3 + 1)
        have f3 := World.ownsRow.frozenAt hw (j * 3 + 2)
        have HN := Lib.hid hn
        have HG := Lib.hid (gset (gset (gset hgr (j * 3) (.int .i64 (1 + 3 * j))) (j * 3 + 1) (.int .i64 (1 + 3 * j + 1))) (j * 3 + 2) (.int .i64 (1 + 3 * j + 1 + 1)))
        clear hl hl3 hn hw hgr
        have q0 : (0 : Int) ≤ (j : Int) := by omega
        have q1 : (j : Int) ≤ 1048576 := by omega
        go_wp2_with fail
        go_roundw
        case rel => exact ⟨j + 1, by omega, int_eq (by omega), by go_num, HN.out, HG.out⟩
        case measure => simp [intOf]; omega
      · obtain rfl : j = ls.length := by omega
        have HW := Lib.hid hw
        clear hw
        go_wp2_with fail
        go_ret
        refine ⟨rfl, ?_, hgr⟩
        have := HW.out
        rw [List.drop_length, List.append_nil] at this
        unfold OwL at *
        rw [length_mkL] at *
        exact this


set_option maxRecDepth 100000 in
set_option maxHeartbeats 1000000 in
theorem markG_any (nd : Int) (A : Option Addr) (cp : Nat) (ls : List Lk) (base : Nat) (k : Int) (w : World) (hk : k = 1) (hlen : ls.length ≤ 1048576) (ho : OwL w base A cp ls) :
    Calls Try.prog 34 #[.agg #[.int .i64 nd, .slice A ls.length cp], .int .i64 k] w (MarkedL w base A cp ls.length) := by
  have HK := Lib.hid hk; clear hk
  go_enter Try.func34, Try.ntmps34
  go_wp2_with fail
  refine (markLS_any A cp ls base k _ HK.out hlen (ho.keep (bnew _ _))).mono ?_
  rintro e w1 ⟨rfl, ho1, hg1⟩
  go_wp2_with fail
  go_ret
  exact ⟨rfl, ho1, gtrans (gbelow (bnew _ _) _) hg1⟩

end Go.Proofs.Ytnndnpckkcgfiaa
