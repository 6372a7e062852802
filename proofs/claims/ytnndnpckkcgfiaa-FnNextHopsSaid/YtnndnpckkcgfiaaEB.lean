/-
  The walks of the laws' helpers on lists of integers: dist, hasInt, eqIntS, markIntS, heldIntS; of the reference's GraphReach.
-/
import Derived.Test.YtnndnpckkcgfiaaEA
namespace Go.Proofs.Ytnndnpckkcgfiaa
open Go.RowKit
set_option maxRecDepth 100000

theorem emptyOut (w : World) (o : Obj) : OwI ((w.alloc o).alloc (.cells #[] 3)) w.heap.size (some ⟨w.heap.size + 1, 0, none⟩) 0 [] := by
  have h := heap_alloc_new (w.alloc o) (.cells #[] 3)
  rw [show (w.alloc o).heap.size = w.heap.size + 1 from by simp] at h
  exact ⟨rfl, .inr ⟨w.heap.size + 1, 0, #[], rfl, by omega, h, Nat.le_refl _, by unfold maxLen; omega, rfl, rfl⟩⟩

set_option maxRecDepth 100000 in
set_option maxHeartbeats 1000000 in
theorem distL_any {nd : Int} {ls : List Lk} (hv : Valid nd ls) {x y : Int} (hx : Nd nd x) (hy : Nd nd y) (A : Option Addr) (cp : Nat) (w : World) (hr : RdL w w.heap.size A ls) :
    Calls Try.prog 20 #[.agg #[.int .i64 nd, .slice A ls.length cp], .int .i64 x, .int .i64 y] w fun e w' => e = .returned (.int .i64 (D nd ls x y)) ∧ Below w.heap.size w w' := by
  have h14 : ls.length ≤ 14 := hv.2.2.1
  have h1 := hv.1
  have HG := gDist_any nd A cp ls x (w.alloc (.cells #[.int .i64 nd, .slice A ls.length cp] 25)) (by omega) (hr.on (bnew _ _))
  rw [distO_yes ⟨hv, hx⟩] at HG
  have HG := Lib.hid HG
  obtain ⟨y', rfl⟩ := Int.eq_ofNat_of_zero_le hy.1
  have hyn := hy.2
  have hl := length_dists nd ls x
  go_enter Try.func20, Try.ntmps20
  go_wp2_with fail
  refine HG.out.mono ?_
  rintro e w1 ⟨⟨B, cq, rfl, ho⟩, hb1⟩
  obtain ⟨g, o, hB, hg, hc⟩ := ho.rd (by omega)
  obtain rfl := hB
  have c1 := hc y' (by omega)
  rw [show Ix (dists nd ls x) y' = D nd ls x y' from by unfold D; rw [Int.toNat_natCast]] at c1
  have q0 : (0 : Int) ≤ (y' : Int) := by omega
  have q1 : (y' : Int) < ((dists nd ls x).length : Int) := by omega
  have B1 := bthen (bnew w (.cells #[.int .i64 nd, .slice A ls.length cp] 25)) hb1
  clear hc ho hb1 hl HG
  generalize (dists nd ls x).length = m at *
  generalize hz : D nd ls x y' = z at *
  have HZ := Lib.hid hz
  clear hz
  go_wp2_with fail
  go_ret
  exact ⟨ret_int HZ.out.symm, B1⟩

set_option maxRecDepth 100000 in
set_option maxHeartbeats 1000000 in
theorem hasI_any (A : Option Addr) (ca : Nat) (xs : List Int) (x : Int) (w : World) (hlen : xs.length ≤ 9223372036854775806) (hr : RdI w w.heap.size A xs) :
    Calls Try.prog 40 #[.slice A xs.length ca, .int .i64 x] w fun e w' => e = .returned (.bool (decide (x ∈ xs))) ∧ Below w.heap.size w w' := by
  go_enter Try.func40, Try.ntmps40
  go_wp2_with fail
  go_loopw [5] (fun i wr => ∃ k : Nat, k ≤ xs.length ∧ i = .int .i64 k ∧ Hid (∀ j, j < k → Ix xs j ≠ x) ∧ Below w.heap.size w wr) (fun i _ => xs.length - (intOf i).toNat)
  case atStart => exact ⟨0, Nat.zero_le _, rfl, fun j hj => by omega, Below.refl _ _⟩
  case round =>
    obtain ⟨k, hk, rfl, hno, hb⟩ := hrel
    by_cases hlt : k < xs.length
    · obtain ⟨ad, o, hA, hbk, hc⟩ := hr (by omega)
      have c1 := hc k hlt
      obtain rfl := hA
      have c1' := (hb.cell (by exact hbk)).trans c1
      clear c1 hc
      have q1 : (0 : Int) ≤ (k : Int) := by omega
      have q2 : (k : Int) < (xs.length : Int) := by omega
      by_cases he : Ix xs k = x
      · have HM : Hid (true = decide (x ∈ xs)) := by
          show _ = _
          have : x ∈ xs := by rw [← he]; unfold Ix; simp [hlt]
          simp [this]
        rw [he] at c1'
        go_wp2_with fail
        go_ret
        exact ⟨ret_bool HM.out, hb⟩
      · have t1 : (Ix xs k == x) = false := by simpa using he
        have HN : Hid (∀ j, j < k + 1 → Ix xs j ≠ x) := fun j hj => by
          rcases Nat.lt_or_ge j k with h' | h'
          · exact hno.out j h'
          · obtain rfl : j = k := by omega
            exact he
        clear he
        go_wp2_with fail
        go_roundw
        case rel => exact ⟨k + 1, by omega, by go_num, HN, hb⟩
        case measure => simp [intOf]; omega
    · have HM : Hid (false = decide (x ∈ xs)) := by
        show _ = _
        have : x ∉ xs := fun hm => by
          obtain ⟨j, hj, e⟩ := List.getElem_of_mem hm
          exact hno.out j (by omega) (by rw [← e]; simp [Ix, hj])
        simp [this]
      go_wp2_with fail
      go_ret
      exact ⟨ret_bool HM.out, hb⟩

set_option maxRecDepth 100000 in
set_option maxHeartbeats 1000000 in
theorem eqI_any (A B : Option Addr) (ca cb : Nat) (xs : List Int) (w : World) (hlen : xs.length ≤ 9223372036854775806) (hr : RdI w w.heap.size A xs) (hq : RdI w w.heap.size B xs) :
    Calls Try.prog 32 #[.slice A xs.length ca, .slice B xs.length cb] w fun e w' => e = .returned (.bool true) ∧ Below w.heap.size w w' := by
  go_enter Try.func32, Try.ntmps32
  go_wp2_with fail
  go_loopw [5] (fun i wr => ∃ k : Nat, k ≤ xs.length ∧ i = .int .i64 k ∧ Below w.heap.size w wr) (fun i _ => xs.length - (intOf i).toNat)
  case atStart => exact ⟨0, Nat.zero_le _, rfl, Below.refl _ _⟩
  case round =>
    obtain ⟨k, hk, rfl, hb⟩ := hrel
    by_cases hlt : k < xs.length
    · obtain ⟨ad, o, hA, hbk, hc⟩ := hr (by omega)
      have c1 := hc k hlt
      obtain rfl := hA
      have c1' := (hb.cell (by exact hbk)).trans c1
      obtain ⟨bd, p, hB, hbk', hd⟩ := hq (by omega)
      have d1 := hd k hlt
      obtain rfl := hB
      have d1' := (hb.cell (by exact hbk')).trans d1
      have hs := hb.size
      clear c1 hc d1 hd
      have q1 : (0 : Int) ≤ (k : Int) := by omega
      have q2 : (k : Int) < (xs.length : Int) := by omega
      go_wp2_with fail
      go_quiet (fail)
      go_wp2_with fail
      go_roundw
      case rel => exact ⟨k + 1, by omega, by go_num, bdN hb _⟩
      case measure => simp [intOf]; omega
    · go_wp2_with fail
      go_ret
      exact ⟨rfl, hb⟩

/-- the marks 1, 2, 3, .. -/
def mkI : Nat → List Int
  | 0 => []
  | n + 1 => mkI n ++ [1 + (n : Int)]
theorem length_mkI (n : Nat) : (mkI n).length = n := by
  induction n with
  | zero => rfl
  | succ n ih => unfold mkI; rw [List.length_append, ih]; rfl
theorem mkI_at {n i : Nat} (h : i < n) : Ix (mkI n) i = 1 + (i : Int) := by
  unfold Ix
  rw [List.getD_eq_getElem?_getD]
  induction n with
  | zero => omega
  | succ n ih =>
    unfold mkI
    rcases Nat.lt_or_ge i n with h' | h'
    · rw [List.getElem?_append_left (by rw [length_mkI]; exact h'), ih h']
    · obtain rfl : i = n := by omega
      rw [List.getElem?_append_right (by rw [length_mkI]; omega), length_mkI]
      simp
theorem mkI_step (xs : List Int) (i : Nat) (h : i < xs.length) : (mkI i ++ xs.drop i).set i (1 + (i : Int)) = mkI (i + 1) ++ xs.drop (i + 1) := by
  rw [List.set_append_right _ _ (by rw [length_mkI]; omega), length_mkI, Nat.sub_self]
  rw [List.drop_eq_getElem_cons h, List.set_cons_zero]
  show _ = (mkI i ++ [_]) ++ _
  rw [List.append_assoc]
  rfl
theorem gsetI {w0 w1 : World} {g : Nat} (h : w0.grownBy w1 (some g)) (j : Nat) (u : Value) : w0.grownBy (w1.setCell ⟨g, j, none⟩ u) (some g) := by
  refine ⟨h.os, h.tape, h.output, Nat.le_trans h.size (by simp [World.setCell]), fun k hk hne => ?_⟩
  rw [Below.heap_setCell _ _ _ _ (by rintro rfl; exact hne rfl)]
  exact h.block k hk hne
theorem OwI.some_ {w : World} {base : Nat} {A : Option Addr} {cp : Nat} {xs : List Int} (h : OwI w base A cp xs) (h0 : 0 < xs.length) : ∃ g, A = some ⟨g, 0, none⟩ ∧ base ≤ g ∧ g < w.heap.size := by
  obtain ⟨g, cap, hv, h1, h2⟩ := World.ownsRow.form h h0
  simp only [Value.slice.injEq] at hv
  exact ⟨g, hv.1, h1, h2⟩

/-- what a mark leaves behind -/
def MarkedI (w : World) (base : Nat) (A : Option Addr) (cp n : Nat) (e : Ending) (w' : World) : Prop :=
  e = .returned (.int .i64 (1 + (n : Int))) ∧ OwI w' base A cp (mkI n) ∧ w.grownBy w' (Value.slice A n cp).ownBlock

set_option maxRecDepth 100000 in
set_option maxHeartbeats 1000000 in
theorem markIS_any (A : Option Addr) (cp : Nat) (xs : List Int) (base : Nat) (k : Int) (w : World) (hk : k = 1) (hlen : xs.length ≤ 1048576) (ho : OwI w base A cp xs) :
    Calls Try.prog 35 #[.slice A xs.length cp, .int .i64 k] w (MarkedI w base A cp xs.length) := by
  subst hk
  rcases Nat.eq_zero_or_pos xs.length with h0 | h0
  · have : xs = [] := List.eq_nil_of_length_eq_zero h0
    subst this
    go_enter Try.func35, Try.ntmps35
    go_wp2_with fail
    go_loopw [1, 5] (fun s i wr => s = .int .i64 1 ∧ i = .int .i64 0 ∧ wr = w) (fun _ _ _ => 0)
    case atStart => exact ⟨rfl, rfl, rfl⟩
    case round =>
      obtain ⟨rfl, rfl, rfl⟩ := hrel
      go_wp2_with fail
      go_ret
      exact ⟨rfl, ho, World.grownBy.refl _ _⟩
  · obtain ⟨g, rfl, hg1, hg2⟩ := ho.some_ h0
    go_enter Try.func35, Try.ntmps35
    go_wp2_with fail
    go_loopw [1, 5] (fun s i wr => ∃ j : Nat, j ≤ xs.length ∧ s = .int .i64 (1 + (j : Int)) ∧ i = .int .i64 j ∧ OwI wr base (some ⟨g, 0, none⟩) cp (mkI j ++ xs.drop j) ∧ w.grownBy wr (some g)) (fun _ i _ => xs.length - (intOf i).toNat)
    case atStart => exact ⟨0, Nat.zero_le _, by rfl, rfl, ho, World.grownBy.refl _ _⟩
    case round =>
      obtain ⟨j, hj, rfl, rfl, hw, hgr⟩ := hrel
      by_cases hlt : j < xs.length
      · have hl : (mkI j ++ xs.drop j).length = xs.length := by rw [List.length_append, length_mkI, List.length_drop]; omega
        have hn := hw.put j (1 + (j : Int))
        rw [mkI_step xs j hlt] at hn
        have e1 : ∃ v, wr.cell? ⟨g, j, none⟩ = some v := ⟨_, hw.at (by rw [hl]; exact hlt)⟩
        obtain ⟨v1, e1⟩ := e1
        have f1 := World.ownsRow.frozenAt hw j
        have HN := Lib.hid hn
        have HG := Lib.hid (gsetI hgr j (.int .i64 (1 + (j : Int))))
        clear hl hn hw hgr
        have q0 : (0 : Int) ≤ (j : Int) := by omega
        have q1 : (j : Int) ≤ 1048576 := by omega
        go_wp2_with fail
        go_roundw
        case rel => exact ⟨j + 1, by omega, congrArg (Value.int .i64) (by omega), by go_num, HN.out, HG.out⟩
        case measure => simp [intOf]; omega
      · obtain rfl : j = xs.length := by omega
        have HW := Lib.hid hw
        clear hw
        go_wp2_with fail
        go_ret
        refine ⟨rfl, ?_, hgr⟩
        have := HW.out
        rw [List.drop_length, List.append_nil] at this
        unfold OwI at *
        rw [length_mkI] at *
        exact this
set_option maxRecDepth 100000 in
set_option maxHeartbeats 1000000 in
theorem heldIS_any (A : Option Addr) (cp n : Nat) (k : Int) (w : World) (hk : k = 1) (hlen : n ≤ 1048576) (hr : RdI w w.heap.size A (mkI n)) :
    Calls Try.prog 36 #[.slice A n cp, .int .i64 k] w fun e w' => e = .returned (.int .i64 (1 + (n : Int))) ∧ Below w.heap.size w w' := by
  subst hk
  go_enter Try.func36, Try.ntmps36
  go_wp2_with fail
  go_loopw [1, 5] (fun s i wr => ∃ j : Nat, j ≤ n ∧ s = .int .i64 (1 + (j : Int)) ∧ i = .int .i64 j ∧ Below w.heap.size w wr) (fun _ i _ => n - (intOf i).toNat)
  case atStart => exact ⟨0, Nat.zero_le _, by rfl, rfl, Below.refl _ _⟩
  case round =>
    obtain ⟨j, hj, rfl, rfl, hb⟩ := hrel
    by_cases hlt : j < n
    · obtain ⟨ad, o, hA, hbk, hc⟩ := hr (by rw [length_mkI]; omega)
      have c1 := hc j (by rw [length_mkI]; omega)
      obtain rfl := hA
      rw [mkI_at hlt] at c1
      have c1' := (hb.cell (by exact hbk)).trans c1
      clear c1 hc
      have q0 : (0 : Int) ≤ (j : Int) := by omega
      have q1 : (j : Int) ≤ 1048576 := by omega
      go_wp2_with fail
      go_roundw
      case rel => exact ⟨j + 1, by omega, congrArg (Value.int .i64) (by omega), by go_num, hb⟩
      case measure => simp [intOf]; omega
    · obtain rfl : j = n := by omega
      go_wp2_with fail
      go_ret
      exact ⟨rfl, hb⟩

/-- as UT, with a second list that is read -/
structure UT2 (w wr : World) (nd : Int) (A : Option Addr) (cp : Nat) (ls : List Lk) (B : Option Addr) (cq : Nat) (out : List Int) (DA : Option Addr) (d : List Int) (EA : Option Addr) (e : List Int) : Prop where
  t : UT w wr nd A cp ls B cq out DA d
  he : RdF wr EA e B
theorem UT2.on {w wr w1 : World} {nd : Int} {A : Option Addr} {cp : Nat} {ls : List Lk} {B : Option Addr} {cq : Nat} {out : List Int} {DA : Option Addr} {d : List Int} {EA : Option Addr} {e : List Int} (h : UT2 w wr nd A cp ls B cq out DA d EA e) (hb : Below wr.heap.size wr w1) : UT2 w w1 nd A cp ls B cq out DA d EA e :=
  ⟨h.t.on hb, h.he.on hb⟩
theorem UT2.app {w wr w1 : World} {nd : Int} {A : Option Addr} {cp : Nat} {ls : List Lk} {B B' : Option Addr} {cq cq' : Nat} {out out' : List Int} {DA : Option Addr} {d : List Int} {EA : Option Addr} {e : List Int} (h : UT2 w wr nd A cp ls B cq out DA d EA e)
    (ho : OwI w1 w.heap.size B' cq' out') (hg : wr.grownBy w1 (Value.slice B out.length cq).ownBlock) (hat : B'.map (·.block) = B.map (·.block) ∨ B'.map (·.block) = some wr.heap.size) : UT2 w w1 nd A cp ls B' cq' out' DA d EA e :=
  ⟨h.t.app ho hg hat, h.he.app hg hat⟩

set_option maxRecDepth 100000 in
set_option maxHeartbeats 1000000 in
theorem asc_any (A : Option Addr) (ca : Nat) (xs : List Int) (w : World) (hlen : xs.length ≤ 9223372036854775806) (hp : xs.Pairwise (· < ·)) (hr : RdI w w.heap.size A xs) :
    Calls Try.prog 47 #[.slice A xs.length ca] w fun e w' => e = .returned (.bool true) ∧ Below w.heap.size w w' := by
  have HP : Hid (∀ j, j + 1 < xs.length → Ix xs j < Ix xs (j + 1)) := fun j hj => by
    have := List.pairwise_iff_getElem.1 hp j (j + 1) (by omega) hj (by omega)
    simpa [Ix, hj, show j < xs.length from by omega] using this
  clear hp
  go_enter Try.func47, Try.ntmps47
  go_wp2_with fail
  go_loopw [3] (fun i wr => ∃ k : Nat, 1 ≤ k ∧ (k ≤ xs.length ∨ k = 1) ∧ i = .int .i64 k ∧ Below w.heap.size w wr) (fun i _ => xs.length - (intOf i).toNat)
  case atStart => exact ⟨1, by omega, .inr rfl, rfl, Below.refl _ _⟩
  case round =>
    obtain ⟨k, hk1, hk, rfl, hb⟩ := hrel
    by_cases hlt : k < xs.length
    · clear hk
      obtain ⟨j, rfl⟩ : ∃ j, k = j + 1 := ⟨k - 1, by omega⟩
      obtain ⟨ad, o, hA, hbk, hc⟩ := hr (by omega)
      have c1 := hc j (by omega)
      have c2 := hc (j + 1) hlt
      obtain rfl := hA
      have c1' := (hb.cell (by exact hbk)).trans c1
      have c2' := (hb.cell (by exact hbk)).trans c2
      have hs := hb.size
      have hxy := HP.out j hlt
      clear c1 c2 hc
      generalize Ix xs j = x at *
      generalize Ix xs (j + 1) = y at *
      have tb : decide (y ≤ x) = false := by simp; omega
      clear hxy
      have q1 : (0 : Int) ≤ (j : Int) := by omega
      have q2 : (j : Int) + 1 < (xs.length : Int) := by omega
      have q3 : IntKind.i64.wrap ((j : Int) + 1 - 1) = (j : Int) := by rw [show (j : Int) + 1 - 1 = j from by omega]; exact IntWalk.i64_in _ (by omega)
      go_wp2_with fail
      go_quiet (fail)
      go_wp2_with fail
      go_roundw
      case rel => exact ⟨j + 1 + 1, by omega, by omega, by go_num, bdN hb _⟩
      case measure => simp [intOf]; omega
    · go_wp2_with fail
      go_ret
      exact ⟨rfl, hb⟩

end Go.Proofs.Ytnndnpckkcgfiaa
