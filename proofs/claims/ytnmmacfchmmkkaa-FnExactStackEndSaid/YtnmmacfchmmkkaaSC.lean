/-
  The walks of a label's step and of both StackEnd.
-/
import Derived.Test.YtnmmacfchmmkkaaSA
import Derived.Test.YtnmmacfchmmkkaaFA
import Derived.Test.YtnmmacfchmmkkaaEA
import Derived.Test.YtnmmacfchmmkkaaWP
import Derived.Deep.RegionHeld3
namespace Go.Proofs.Ytnmmacfchmmkkaa
open Go.RowKit
set_option maxRecDepth 100000

/-- a label leads on from node v -/
def StpOk (nd : Int) (ls : List Lk) (v k a : Int) : Prop := (k = 1 ∧ Nd nd a ∧ 0 ≤ D nd ls v a) ∨ (k = 2 ∧ Lnk ls a ∧ (La ls a.toNat = v ∨ Lb ls a.toNat = v))
/-- where to -/
def stpN (ls : List Lk) (v k a : Int) : Int := if k = 1 then a else if La ls a.toNat = v then Lb ls a.toNat else La ls a.toNat
theorem stpN_nd {nd : Int} {ls : List Lk} (hv : Valid nd ls) {v k a : Int} (h : StpOk nd ls v k a) : Nd nd (stpN ls v k a) := by
  unfold stpN
  rcases h with ⟨rfl, h, _⟩ | ⟨rfl, h, _⟩
  · rw [if_pos rfl]; exact h
  · rw [if_neg (by decide)]
    obtain ⟨ea, eb, _⟩ := ends_nd hv (k := a.toNat) (by have := h.1; have := h.2; omega)
    split
    · exact eb
    · exact ea
/-- the step fits or not, and what the walk says of it -/
def StpR (nd : Int) (ls : List Lk) (v k a : Int) (w : World) (e : Ending) (w' : World) : Prop :=
  ((StpOk nd ls v k a ∧ e = .returned (.tuple #[.int .i64 (stpN ls v k a), .bool true])) ∨ (¬ StpOk nd ls v k a ∧ ∃ z, e = .returned (.tuple #[.int .i64 z, .bool false]))) ∧ Below w.heap.size w w'
theorem stpR_yes {nd : Int} {ls : List Lk} {v k a z : Int} {w w' : World} (h : StpOk nd ls v k a) (hz : z = stpN ls v k a) (hb : Below w.heap.size w w') : StpR nd ls v k a w (.returned (.tuple #[.int .i64 z, .bool true])) w' := by
  subst hz; exact ⟨.inl ⟨h, rfl⟩, hb⟩
theorem stpR_no {nd : Int} {ls : List Lk} {v k a z : Int} {w w' : World} (h : ¬ StpOk nd ls v k a) (hb : Below w.heap.size w w') : StpR nd ls v k a w (.returned (.tuple #[.int .i64 z, .bool false])) w' := ⟨.inr ⟨h, z, rfl⟩, hb⟩
/-- the two boxes of a call with a graph and a label -/
structure GL (w wr : World) (nd : Int) (A : Option Addr) (cp : Nat) (ls : List Lk) (k a : Int) : Prop where
  c0 : wr.cell? ⟨w.heap.size, 0, none⟩ = some (.int .i64 nd)
  c1 : wr.cell? ⟨w.heap.size, 1, none⟩ = some (.slice A ls.length cp)
  l0 : wr.cell? ⟨w.heap.size + 1, 0, none⟩ = some (.int .i64 k)
  l1 : wr.cell? ⟨w.heap.size + 1, 1, none⟩ = some (.int .i64 a)
  rd : RdL wr wr.heap.size A ls
  bl : Below w.heap.size w wr
theorem GL.on {w wr w1 : World} {nd : Int} {A : Option Addr} {cp : Nat} {ls : List Lk} {k a : Int} (h : GL w wr nd A cp ls k a) (hb : Below wr.heap.size wr w1) : GL w w1 nd A cp ls k a :=
  ⟨ckeep h.c0 hb, ckeep h.c1 hb, ckeep h.l0 hb, ckeep h.l1 hb, h.rd.on hb, bthen h.bl hb⟩
theorem GL.start {w : World} {nd : Int} {A : Option Addr} {cp : Nat} {ls : List Lk} {k a : Int} (hr : RdL w w.heap.size A ls) : GL w ((w.alloc (.cells #[.int .i64 nd, .slice A ls.length cp] 32)).alloc (.cells #[.int .i64 k, .int .i64 a] 45)) nd A cp ls k a :=
  ⟨by go_simp, by go_simp, by go_simp, by go_simp, hr.on (b2 _ _ _), b2 _ _ _⟩

set_option maxHeartbeats 4000000 in
theorem use_node {nd : Int} {ls : List Lk} (hv : Valid nd ls) {v a : Int} (hn : Nd nd v) (ha : Nd nd a) (A : Option Addr) (cp : Nat) (w : World) (hr : RdL w w.heap.size A ls) :
    Calls Try.prog 24 #[.agg #[.int .i64 nd, .slice A ls.length cp], .int .i64 v, .agg #[.int .i64 1, .int .i64 a]] w (StpR nd ls v 1 a w) := by
  have hn8 := hv.2.1
  have hn1 := hv.1
  obtain ⟨a', rfl⟩ := Int.eq_ofNat_of_zero_le ha.1
  have han := ha.2
  have HL := Lib.hid (length_dists nd ls v)
  have S := (GL.start (k := 1) (a := (a' : Int)) (nd := nd) (cp := cp) hr).on (Below.refl _ _).drew
  have m0 := S.c0
  have m1 := S.c1
  have m2 := S.l1
  have hs : StpOk nd ls v 1 (a' : Int) ↔ 0 ≤ D nd ls v a' := ⟨fun h => (by rcases h with ⟨_, _, h⟩ | ⟨h, _⟩; exact h; exact absurd h (by decide)), fun h => .inl ⟨rfl, ha, h⟩⟩
  have HS := Lib.hid hs
  have hw : IntKind.i64.wrap (nd - 1) = nd - 1 := IntWalk.i64_in _ (by omega)
  have HN : Hid (stpN ls v 1 (a' : Int) = a') := by show _ = _; unfold stpN; rw [if_pos rfl]
  clear hs
  go_enter Try.func24, Try.ntmps24
  go_wp2_with fail
  cases t : decide (0 ≤ D nd ls v a')
  · have hno : ¬ StpOk nd ls v 1 (a' : Int) := fun h => by have := HS.out.1 h; simp at t; omega
    have HNO := Lib.hid hno
    clear hno
    refine wp_region_held_drew (S := fun w' => w'.cell? ⟨w.heap.size, 0, none⟩ = some (.int .i64 nd) ∧ w'.cell? ⟨w.heap.size, 1, none⟩ = some (.slice A ls.length cp) ∧ w'.cell? ⟨w.heap.size + 1, 1, none⟩ = some (.int .i64 (a' : Nat))) (by kernel_rfl) ?_ (fun hHeld1_0 => ?_)
    · exact ⟨m0, m1, m2⟩
    refine wpAnyH_take (i := 0) (v := ?v1_0) rfl (by kernel_rfl) (by kernel_rfl) (by kernel_rfl) (fun _ _ _ h => h) (Or.inl ⟨by kernel_rfl, ?y1_0⟩) (by assumption) ?r1_0
    case y1_0 => intro w hSw; (try dsimp only at hSw); go_simp; (try with_reducible rfl)
    try simp only [Act.put, List.setIfInBounds_toArray]
    refine wpAnyH_take (i := 1) (v := ?v1_1) rfl (by kernel_rfl) (by kernel_rfl) (by kernel_rfl) (fun _ _ _ h => h) (Or.inl ⟨by kernel_rfl, ?y1_1⟩) (by assumption) ?r1_1
    case y1_1 => intro w hSw; (try dsimp only at hSw); go_simp; (try with_reducible rfl)
    try simp only [Act.put]
    refine wpAnyH_take (i := 2) (v := ?v1_2) rfl (by kernel_rfl) (by kernel_rfl) (by kernel_rfl) (fun _ _ _ h => h) (Or.inl ⟨by kernel_rfl, ?y1_2⟩) (by assumption) ?r1_2
    case y1_2 => intro w hSw; (try dsimp only at hSw); go_simp; (try with_reducible rfl)
    try simp only [Act.put]
    refine wpAnyH_take (i := 3) (v := ?v1_3) rfl (by kernel_rfl) (by kernel_rfl) (by kernel_rfl) (fun _ _ _ h => h) (Or.inl ⟨by kernel_rfl, ?y1_3⟩) (by assumption) ?r1_3
    case y1_3 => intro w hSw; (try dsimp only at hSw); go_simp; (try with_reducible rfl)
    try simp only [Act.put]
    refine wpAnyH_take (i := 4) (v := ?v1_4) rfl (by kernel_rfl) (by kernel_rfl) (by kernel_rfl) (fun _ _ _ h => h) (Or.inl ⟨by kernel_rfl, ?y1_4⟩) (by assumption) ?r1_4
    case y1_4 => intro w hSw; (try dsimp only at hSw); go_simp; (try with_reducible rfl)
    try simp only [Act.put]
    refine wpAnyH_take (i := 5) (v := ?v1_5) rfl (by kernel_rfl) (by kernel_rfl) (by kernel_rfl) (fun _ _ _ h => h) (Or.inl ⟨by kernel_rfl, ?y1_5⟩) (by assumption) ?r1_5
    case y1_5 => intro w hSw; (try dsimp only at hSw); go_simp; (try with_reducible rfl)
    try simp only [Act.put]
    refine wpAnyH_take (i := 6) (v := ?v1_6) rfl (by kernel_rfl) (by kernel_rfl) (by kernel_rfl) (fun _ _ _ h => h) (Or.inl ⟨by kernel_rfl, ?y1_6⟩) (by assumption) ?r1_6
    case y1_6 => intro w hSw; (try dsimp only at hSw); go_simp; (try with_reducible rfl)
    try simp only [Act.put]
    refine wpAnyH_ready (rs := [7]) (by kernel_rfl) (by simp) ?_
    refine AllReadyH.cons rfl (fun K hK => ?_) AllReadyH.nil
    go_simp
    (go_at_call 29; refine (within_yes (by omega) (by omega) _).mono ?_; rintro e w2 ⟨rfl, rfl⟩)
    go_wp2_with fail
    refine hK.out _ _ ?_ (fun hHeld1_1 => ?_)
    · exact ⟨m0, m1, m2⟩
    clear hK K
    try simp only [Act.put, List.setIfInBounds_toArray]
    refine wpAnyH_take (i := 8) (v := ?v1_8) rfl (by kernel_rfl) (by kernel_rfl) (by kernel_rfl) (fun _ _ _ h => h) (Or.inl ⟨by kernel_rfl, ?y1_8⟩) (by assumption) ?r1_8
    case y1_8 => intro w hSw; (try dsimp only at hSw); go_simp; (try with_reducible rfl)
    try simp only [Act.put]
    refine wpAnyH_take (i := 9) (v := ?v1_9) rfl (by kernel_rfl) (by kernel_rfl) (by kernel_rfl) (fun _ _ _ h => h) (Or.inl ⟨by kernel_rfl, ?y1_9⟩) (by assumption) ?r1_9
    case y1_9 => intro w hSw; (try dsimp only at hSw); go_simp; (try with_reducible rfl)
    try simp only [Act.put]
    refine wpAnyH_take (i := 10) (v := ?v1_10) rfl (by kernel_rfl) (by kernel_rfl) (by kernel_rfl) (fun _ _ _ h => h) (Or.inl ⟨by kernel_rfl, ?y1_10⟩) (by assumption) ?r1_10
    case y1_10 => intro w hSw; (try dsimp only at hSw); go_simp; (try with_reducible rfl)
    try simp only [Act.put]
    refine wpAnyH_take (i := 12) (v := ?v1_12) rfl (by kernel_rfl) (by kernel_rfl) (by kernel_rfl) (fun _ _ _ h => h) (Or.inl ⟨by kernel_rfl, ?y1_12⟩) (by assumption) ?r1_12
    case y1_12 => intro w hSw; (try dsimp only at hSw); go_simp; (try with_reducible rfl)
    try simp only [Act.put]
    refine wpAnyH_take (i := 13) (v := ?v1_13) rfl (by kernel_rfl) (by kernel_rfl) (by kernel_rfl) (fun _ _ _ h => h) (Or.inl ⟨by kernel_rfl, ?y1_13⟩) (by assumption) ?r1_13
    case y1_13 => intro w hSw; (try dsimp only at hSw); go_simp; (try with_reducible rfl)
    try simp only [Act.put]
    refine wpAnyH_ready (rs := [11]) (by kernel_rfl) (by simp) ?_
    refine AllReadyH.cons rfl (fun K hK => ?_) AllReadyH.nil
    go_simp
    (go_at_call 30; refine (dist_any hv hn A cp _ S.rd).mono ?_; rintro e w3 ⟨⟨DD, dc, rfl, oD⟩, hb3⟩; have S3 := S.on hb3; obtain ⟨dg, dof, hDD, hdg, hdc⟩ := oD.rd (by rw [HL.out]; omega); obtain rfl := hDD; have x1 := hdc a' (by rw [HL.out]; omega); rw [show Ix (dists nd ls v) a' = D nd ls v a' from (by unfold D; rw [Int.toNat_natCast])] at x1; have j0 : (0 : Int) ≤ (a' : Int) := (by omega); have j1 : (a' : Int) < ((dists nd ls v).length : Int) := (by rw [HL.out]; omega); have y0 := S3.c0; have y1 := S3.c1; have y2 := S3.l1; clear hdc oD hb3)
    go_wp2_with fail
    refine hK.out _ _ ?_ (fun hHeld1_2 => ?_)
    · exact ⟨y0, y1, y2⟩
    clear hK K
    try simp only [Act.put, List.setIfInBounds_toArray]
    refine wpAnyH_take (i := 14) (v := ?v1_14) rfl (by kernel_rfl) (by kernel_rfl) (by kernel_rfl) (fun _ _ _ h => h) (Or.inl ⟨by kernel_rfl, ?y1_14⟩) (by assumption) ?r1_14
    case y1_14 => intro w hSw; (try dsimp only at hSw); go_simp; (try with_reducible rfl)
    try simp only [Act.put]
    refine wpAnyH_take (i := 18) (v := ?v1_18) rfl (by kernel_rfl) (by kernel_rfl) (by kernel_rfl) (fun _ _ _ h => h) (Or.inl ⟨by kernel_rfl, ?y1_18⟩) (by assumption) ?r1_18
    case y1_18 => intro w hSw; (try dsimp only at hSw); go_simp; (try with_reducible rfl)
    try simp only [Act.put]
    refine wpAnyH_ready (rs := [15]) (by kernel_rfl) (by simp) ?_
    refine AllReadyH.cons rfl (fun K hK => ?_) AllReadyH.nil
    go_simp
    refine hK.out _ _ ?_ (fun hHeld1_3 => ?_)
    · exact ⟨y0, y1, y2⟩
    clear hK K
    try simp only [Act.put, List.setIfInBounds_toArray]
    refine wpAnyH_take (i := 16) (v := ?v1_16) rfl (by kernel_rfl) (by kernel_rfl) (by kernel_rfl) (fun _ _ _ h => h) (Or.inl ⟨by kernel_rfl, ?y1_16⟩) (by assumption) ?r1_16
    case y1_16 => intro w hSw; (try dsimp only at hSw); go_simp; (try with_reducible rfl)
    try simp only [Act.put]
    refine wpAnyH_take (i := 17) (v := ?v1_17) rfl (by kernel_rfl) (by kernel_rfl) (by kernel_rfl) (fun _ _ _ h => h) (Or.inl ⟨by kernel_rfl, ?y1_17⟩) (by assumption) ?r1_17
    case y1_17 => intro w hSw; (try dsimp only at hSw); go_simp; (try with_reducible rfl)
    try simp only [Act.put]
    refine wpAnyH_take (i := 19) (v := ?v1_19) rfl (by kernel_rfl) (by kernel_rfl) (by kernel_rfl) (fun _ _ _ h => h) (Or.inl ⟨by kernel_rfl, ?y1_19⟩) (by assumption) ?r1_19
    case y1_19 => intro w hSw; (try dsimp only at hSw); go_simp; (try with_reducible rfl)
    simp only [Act.put, List.getElem_toArray, List.getElem_cons_succ, List.getElem_cons_zero, List.setIfInBounds_toArray, List.set_cons_zero, List.set_cons_succ]
    refine wpAnyH_done (by kernel_rfl) ?_ _
    go_wp2_with fail
    go_ret2
    exact stpR_no HNO.out S3.bl
  · have hyes : StpOk nd ls v 1 (a' : Int) := HS.out.2 (by simpa using t)
    have HYES := Lib.hid hyes
    clear hyes
    refine wp_region_held_drew (S := fun w' => w'.cell? ⟨w.heap.size, 0, none⟩ = some (.int .i64 nd) ∧ w'.cell? ⟨w.heap.size, 1, none⟩ = some (.slice A ls.length cp) ∧ w'.cell? ⟨w.heap.size + 1, 1, none⟩ = some (.int .i64 (a' : Nat))) (by kernel_rfl) ?_ (fun hHeld2_0 => ?_)
    · exact ⟨m0, m1, m2⟩
    refine wpAnyH_take (i := 0) (v := ?v2_0) rfl (by kernel_rfl) (by kernel_rfl) (by kernel_rfl) (fun _ _ _ h => h) (Or.inl ⟨by kernel_rfl, ?y2_0⟩) (by assumption) ?r2_0
    case y2_0 => intro w hSw; (try dsimp only at hSw); go_simp; (try with_reducible rfl)
    try simp only [Act.put, List.setIfInBounds_toArray]
    refine wpAnyH_take (i := 1) (v := ?v2_1) rfl (by kernel_rfl) (by kernel_rfl) (by kernel_rfl) (fun _ _ _ h => h) (Or.inl ⟨by kernel_rfl, ?y2_1⟩) (by assumption) ?r2_1
    case y2_1 => intro w hSw; (try dsimp only at hSw); go_simp; (try with_reducible rfl)
    try simp only [Act.put]
    refine wpAnyH_take (i := 2) (v := ?v2_2) rfl (by kernel_rfl) (by kernel_rfl) (by kernel_rfl) (fun _ _ _ h => h) (Or.inl ⟨by kernel_rfl, ?y2_2⟩) (by assumption) ?r2_2
    case y2_2 => intro w hSw; (try dsimp only at hSw); go_simp; (try with_reducible rfl)
    try simp only [Act.put]
    refine wpAnyH_take (i := 3) (v := ?v2_3) rfl (by kernel_rfl) (by kernel_rfl) (by kernel_rfl) (fun _ _ _ h => h) (Or.inl ⟨by kernel_rfl, ?y2_3⟩) (by assumption) ?r2_3
    case y2_3 => intro w hSw; (try dsimp only at hSw); go_simp; (try with_reducible rfl)
    try simp only [Act.put]
    refine wpAnyH_take (i := 4) (v := ?v2_4) rfl (by kernel_rfl) (by kernel_rfl) (by kernel_rfl) (fun _ _ _ h => h) (Or.inl ⟨by kernel_rfl, ?y2_4⟩) (by assumption) ?r2_4
    case y2_4 => intro w hSw; (try dsimp only at hSw); go_simp; (try with_reducible rfl)
    try simp only [Act.put]
    refine wpAnyH_take (i := 5) (v := ?v2_5) rfl (by kernel_rfl) (by kernel_rfl) (by kernel_rfl) (fun _ _ _ h => h) (Or.inl ⟨by kernel_rfl, ?y2_5⟩) (by assumption) ?r2_5
    case y2_5 => intro w hSw; (try dsimp only at hSw); go_simp; (try with_reducible rfl)
    try simp only [Act.put]
    refine wpAnyH_take (i := 6) (v := ?v2_6) rfl (by kernel_rfl) (by kernel_rfl) (by kernel_rfl) (fun _ _ _ h => h) (Or.inl ⟨by kernel_rfl, ?y2_6⟩) (by assumption) ?r2_6
    case y2_6 => intro w hSw; (try dsimp only at hSw); go_simp; (try with_reducible rfl)
    try simp only [Act.put]
    refine wpAnyH_ready (rs := [7]) (by kernel_rfl) (by simp) ?_
    refine AllReadyH.cons rfl (fun K hK => ?_) AllReadyH.nil
    go_simp
    (go_at_call 29; refine (within_yes (by omega) (by omega) _).mono ?_; rintro e w2 ⟨rfl, rfl⟩)
    go_wp2_with fail
    refine hK.out _ _ ?_ (fun hHeld2_1 => ?_)
    · exact ⟨m0, m1, m2⟩
    clear hK K
    try simp only [Act.put, List.setIfInBounds_toArray]
    refine wpAnyH_take (i := 8) (v := ?v2_8) rfl (by kernel_rfl) (by kernel_rfl) (by kernel_rfl) (fun _ _ _ h => h) (Or.inl ⟨by kernel_rfl, ?y2_8⟩) (by assumption) ?r2_8
    case y2_8 => intro w hSw; (try dsimp only at hSw); go_simp; (try with_reducible rfl)
    try simp only [Act.put]
    refine wpAnyH_take (i := 9) (v := ?v2_9) rfl (by kernel_rfl) (by kernel_rfl) (by kernel_rfl) (fun _ _ _ h => h) (Or.inl ⟨by kernel_rfl, ?y2_9⟩) (by assumption) ?r2_9
    case y2_9 => intro w hSw; (try dsimp only at hSw); go_simp; (try with_reducible rfl)
    try simp only [Act.put]
    refine wpAnyH_take (i := 10) (v := ?v2_10) rfl (by kernel_rfl) (by kernel_rfl) (by kernel_rfl) (fun _ _ _ h => h) (Or.inl ⟨by kernel_rfl, ?y2_10⟩) (by assumption) ?r2_10
    case y2_10 => intro w hSw; (try dsimp only at hSw); go_simp; (try with_reducible rfl)
    try simp only [Act.put]
    refine wpAnyH_take (i := 12) (v := ?v2_12) rfl (by kernel_rfl) (by kernel_rfl) (by kernel_rfl) (fun _ _ _ h => h) (Or.inl ⟨by kernel_rfl, ?y2_12⟩) (by assumption) ?r2_12
    case y2_12 => intro w hSw; (try dsimp only at hSw); go_simp; (try with_reducible rfl)
    try simp only [Act.put]
    refine wpAnyH_take (i := 13) (v := ?v2_13) rfl (by kernel_rfl) (by kernel_rfl) (by kernel_rfl) (fun _ _ _ h => h) (Or.inl ⟨by kernel_rfl, ?y2_13⟩) (by assumption) ?r2_13
    case y2_13 => intro w hSw; (try dsimp only at hSw); go_simp; (try with_reducible rfl)
    try simp only [Act.put]
    refine wpAnyH_ready (rs := [11]) (by kernel_rfl) (by simp) ?_
    refine AllReadyH.cons rfl (fun K hK => ?_) AllReadyH.nil
    go_simp
    (go_at_call 30; refine (dist_any hv hn A cp _ S.rd).mono ?_; rintro e w3 ⟨⟨DD, dc, rfl, oD⟩, hb3⟩; have S3 := S.on hb3; obtain ⟨dg, dof, hDD, hdg, hdc⟩ := oD.rd (by rw [HL.out]; omega); obtain rfl := hDD; have x1 := hdc a' (by rw [HL.out]; omega); rw [show Ix (dists nd ls v) a' = D nd ls v a' from (by unfold D; rw [Int.toNat_natCast])] at x1; have j0 : (0 : Int) ≤ (a' : Int) := (by omega); have j1 : (a' : Int) < ((dists nd ls v).length : Int) := (by rw [HL.out]; omega); have y0 := S3.c0; have y1 := S3.c1; have y2 := S3.l1; clear hdc oD hb3)
    go_wp2_with fail
    refine hK.out _ _ ?_ (fun hHeld2_2 => ?_)
    · exact ⟨y0, y1, y2⟩
    clear hK K
    try simp only [Act.put, List.setIfInBounds_toArray]
    refine wpAnyH_take (i := 14) (v := ?v2_14) rfl (by kernel_rfl) (by kernel_rfl) (by kernel_rfl) (fun _ _ _ h => h) (Or.inl ⟨by kernel_rfl, ?y2_14⟩) (by assumption) ?r2_14
    case y2_14 => intro w hSw; (try dsimp only at hSw); go_simp; (try with_reducible rfl)
    try simp only [Act.put]
    refine wpAnyH_take (i := 18) (v := ?v2_18) rfl (by kernel_rfl) (by kernel_rfl) (by kernel_rfl) (fun _ _ _ h => h) (Or.inl ⟨by kernel_rfl, ?y2_18⟩) (by assumption) ?r2_18
    case y2_18 => intro w hSw; (try dsimp only at hSw); go_simp; (try with_reducible rfl)
    try simp only [Act.put]
    refine wpAnyH_ready (rs := [15]) (by kernel_rfl) (by simp) ?_
    refine AllReadyH.cons rfl (fun K hK => ?_) AllReadyH.nil
    go_simp
    refine hK.out _ _ ?_ (fun hHeld2_3 => ?_)
    · exact ⟨y0, y1, y2⟩
    clear hK K
    try simp only [Act.put, List.setIfInBounds_toArray]
    refine wpAnyH_take (i := 16) (v := ?v2_16) rfl (by kernel_rfl) (by kernel_rfl) (by kernel_rfl) (fun _ _ _ h => h) (Or.inl ⟨by kernel_rfl, ?y2_16⟩) (by assumption) ?r2_16
    case y2_16 => intro w hSw; (try dsimp only at hSw); go_simp; (try with_reducible rfl)
    try simp only [Act.put]
    refine wpAnyH_take (i := 17) (v := ?v2_17) rfl (by kernel_rfl) (by kernel_rfl) (by kernel_rfl) (fun _ _ _ h => h) (Or.inl ⟨by kernel_rfl, ?y2_17⟩) (by assumption) ?r2_17
    case y2_17 => intro w hSw; (try dsimp only at hSw); go_simp; (try with_reducible rfl)
    try simp only [Act.put]
    refine wpAnyH_take (i := 19) (v := ?v2_19) rfl (by kernel_rfl) (by kernel_rfl) (by kernel_rfl) (fun _ _ _ h => h) (Or.inl ⟨by kernel_rfl, ?y2_19⟩) (by assumption) ?r2_19
    case y2_19 => intro w hSw; (try dsimp only at hSw); go_simp; (try with_reducible rfl)
    simp only [Act.put, List.getElem_toArray, List.getElem_cons_succ, List.getElem_cons_zero, List.setIfInBounds_toArray, List.set_cons_zero, List.set_cons_succ]
    refine wpAnyH_done (by kernel_rfl) ?_ _
    go_wp2_with fail
    go_ret2
    exact stpR_yes HYES.out HN.out.symm S3.bl

set_option maxHeartbeats 4000000 in
theorem use_out {nd : Int} {ls : List Lk} (hv : Valid nd ls) {v a : Int} (ha : ¬ Nd nd a) (A : Option Addr) (cp : Nat) (w : World) (hr : RdL w w.heap.size A ls) :
    Calls Try.prog 24 #[.agg #[.int .i64 nd, .slice A ls.length cp], .int .i64 v, .agg #[.int .i64 1, .int .i64 a]] w (StpR nd ls v 1 a w) := by
  have hn8 := hv.2.1
  have hn1 := hv.1
  have S := (GL.start (k := 1) (a := a) (nd := nd) (cp := cp) hr).on (Below.refl _ _).drew
  have m0 := S.c0
  have m1 := S.c1
  have m2 := S.l1
  have h' : a < 0 ∨ nd - 1 < a := by
    by_cases h : 0 ≤ a
    · by_cases h' : a < nd
      · exact absurd ⟨h, h'⟩ ha
      · omega
    · omega
  have HNO : Hid (¬ StpOk nd ls v 1 a) := fun h => by rcases h with ⟨_, h, _⟩ | ⟨h, _⟩; exact ha h; cases h
  clear ha
  have hw : IntKind.i64.wrap (nd - 1) = nd - 1 := IntWalk.i64_in _ (by omega)
  go_enter Try.func24, Try.ntmps24
  go_wp2_with fail
  refine wp_region_held_drew (S := fun w' => w'.cell? ⟨w.heap.size, 0, none⟩ = some (.int .i64 nd) ∧ w'.cell? ⟨w.heap.size, 1, none⟩ = some (.slice A ls.length cp) ∧ w'.cell? ⟨w.heap.size + 1, 1, none⟩ = some (.int .i64 a)) (by kernel_rfl) ?_ (fun hHeld3_0 => ?_)
  · exact ⟨m0, m1, m2⟩
  refine wpAnyH_take (i := 0) (v := ?v3_0) rfl (by kernel_rfl) (by kernel_rfl) (by kernel_rfl) (fun _ _ _ h => h) (Or.inl ⟨by kernel_rfl, ?y3_0⟩) (by assumption) ?r3_0
  case y3_0 => intro w hSw; (try dsimp only at hSw); go_simp; (try with_reducible rfl)
  try simp only [Act.put, List.setIfInBounds_toArray]
  refine wpAnyH_take (i := 1) (v := ?v3_1) rfl (by kernel_rfl) (by kernel_rfl) (by kernel_rfl) (fun _ _ _ h => h) (Or.inl ⟨by kernel_rfl, ?y3_1⟩) (by assumption) ?r3_1
  case y3_1 => intro w hSw; (try dsimp only at hSw); go_simp; (try with_reducible rfl)
  try simp only [Act.put]
  refine wpAnyH_take (i := 2) (v := ?v3_2) rfl (by kernel_rfl) (by kernel_rfl) (by kernel_rfl) (fun _ _ _ h => h) (Or.inl ⟨by kernel_rfl, ?y3_2⟩) (by assumption) ?r3_2
  case y3_2 => intro w hSw; (try dsimp only at hSw); go_simp; (try with_reducible rfl)
  try simp only [Act.put]
  refine wpAnyH_take (i := 3) (v := ?v3_3) rfl (by kernel_rfl) (by kernel_rfl) (by kernel_rfl) (fun _ _ _ h => h) (Or.inl ⟨by kernel_rfl, ?y3_3⟩) (by assumption) ?r3_3
  case y3_3 => intro w hSw; (try dsimp only at hSw); go_simp; (try with_reducible rfl)
  try simp only [Act.put]
  refine wpAnyH_take (i := 4) (v := ?v3_4) rfl (by kernel_rfl) (by kernel_rfl) (by kernel_rfl) (fun _ _ _ h => h) (Or.inl ⟨by kernel_rfl, ?y3_4⟩) (by assumption) ?r3_4
  case y3_4 => intro w hSw; (try dsimp only at hSw); go_simp; (try with_reducible rfl)
  try simp only [Act.put]
  refine wpAnyH_take (i := 5) (v := ?v3_5) rfl (by kernel_rfl) (by kernel_rfl) (by kernel_rfl) (fun _ _ _ h => h) (Or.inl ⟨by kernel_rfl, ?y3_5⟩) (by assumption) ?r3_5
  case y3_5 => intro w hSw; (try dsimp only at hSw); go_simp; (try with_reducible rfl)
  try simp only [Act.put]
  refine wpAnyH_take (i := 6) (v := ?v3_6) rfl (by kernel_rfl) (by kernel_rfl) (by kernel_rfl) (fun _ _ _ h => h) (Or.inl ⟨by kernel_rfl, ?y3_6⟩) (by assumption) ?r3_6
  case y3_6 => intro w hSw; (try dsimp only at hSw); go_simp; (try with_reducible rfl)
  try simp only [Act.put]
  refine wpAnyH_ready (rs := [7]) (by kernel_rfl) (by simp) ?_
  refine AllReadyH.cons rfl (fun K hK => ?_) AllReadyH.nil
  go_simp
  (go_at_call 29; refine (within_no (by omega) _).mono ?_; rintro e w2 ⟨rfl, rfl⟩)
  go_wp2_with fail
  refine hK.out _ _ ?_ (fun hHeld3_1 => ?_)
  · exact ⟨m0, m1, m2⟩
  clear hK K
  try simp only [Act.put, List.setIfInBounds_toArray]
  refine wpAnyH_take (i := 8) (v := ?v3_8) rfl (by kernel_rfl) (by kernel_rfl) (by kernel_rfl) (fun _ _ _ h => h) (Or.inl ⟨by kernel_rfl, ?y3_8⟩) (by assumption) ?r3_8
  case y3_8 => intro w hSw; (try dsimp only at hSw); go_simp; (try with_reducible rfl)
  try simp only [Act.put]
  refine wpAnyH_take (i := 9) (v := undef) rfl (by kernel_rfl) (by kernel_rfl) (by kernel_rfl) (fun _ _ _ h => h) (Or.inr ⟨by kernel_rfl, by kernel_rfl⟩) (by assumption) ?r3_9
  try simp only [Act.put]
  refine wpAnyH_take (i := 10) (v := undef) rfl (by kernel_rfl) (by kernel_rfl) (by kernel_rfl) (fun _ _ _ h => h) (Or.inr ⟨by kernel_rfl, by kernel_rfl⟩) (by assumption) ?r3_10
  try simp only [Act.put]
  refine wpAnyH_take (i := 11) (v := undef) rfl (by kernel_rfl) (by kernel_rfl) (by kernel_rfl) (fun _ _ _ h => h) (Or.inr ⟨by kernel_rfl, by kernel_rfl⟩) (by assumption) ?r3_11
  try simp only [Act.put]
  refine wpAnyH_take (i := 12) (v := undef) rfl (by kernel_rfl) (by kernel_rfl) (by kernel_rfl) (fun _ _ _ h => h) (Or.inr ⟨by kernel_rfl, by kernel_rfl⟩) (by assumption) ?r3_12
  try simp only [Act.put]
  refine wpAnyH_take (i := 13) (v := undef) rfl (by kernel_rfl) (by kernel_rfl) (by kernel_rfl) (fun _ _ _ h => h) (Or.inr ⟨by kernel_rfl, by kernel_rfl⟩) (by assumption) ?r3_13
  try simp only [Act.put]
  refine wpAnyH_take (i := 14) (v := undef) rfl (by kernel_rfl) (by kernel_rfl) (by kernel_rfl) (fun _ _ _ h => h) (Or.inr ⟨by kernel_rfl, by kernel_rfl⟩) (by assumption) ?r3_14
  try simp only [Act.put]
  refine wpAnyH_take (i := 15) (v := undef) rfl (by kernel_rfl) (by kernel_rfl) (by kernel_rfl) (fun _ _ _ h => h) (Or.inr ⟨by kernel_rfl, by kernel_rfl⟩) (by assumption) ?r3_15
  try simp only [Act.put]
  refine wpAnyH_take (i := 16) (v := undef) rfl (by kernel_rfl) (by kernel_rfl) (by kernel_rfl) (fun _ _ _ h => h) (Or.inr ⟨by kernel_rfl, by kernel_rfl⟩) (by assumption) ?r3_16
  try simp only [Act.put]
  refine wpAnyH_take (i := 17) (v := ?v3_17) rfl (by kernel_rfl) (by kernel_rfl) (by kernel_rfl) (fun _ _ _ h => h) (Or.inl ⟨by kernel_rfl, ?y3_17⟩) (by assumption) ?r3_17
  case y3_17 => intro w hSw; (try dsimp only at hSw); go_simp; (try with_reducible rfl)
  try simp only [Act.put]
  refine wpAnyH_take (i := 18) (v := ?v3_18) rfl (by kernel_rfl) (by kernel_rfl) (by kernel_rfl) (fun _ _ _ h => h) (Or.inl ⟨by kernel_rfl, ?y3_18⟩) (by assumption) ?r3_18
  case y3_18 => intro w hSw; (try dsimp only at hSw); go_simp; (try with_reducible rfl)
  try simp only [Act.put]
  refine wpAnyH_take (i := 19) (v := ?v3_19) rfl (by kernel_rfl) (by kernel_rfl) (by kernel_rfl) (fun _ _ _ h => h) (Or.inl ⟨by kernel_rfl, ?y3_19⟩) (by assumption) ?r3_19
  case y3_19 => intro w hSw; (try dsimp only at hSw); go_simp; (try with_reducible rfl)
  simp only [Act.put, List.getElem_toArray, List.getElem_cons_succ, List.getElem_cons_zero, List.setIfInBounds_toArray, List.set_cons_zero, List.set_cons_succ]
  refine wpAnyH_done (by kernel_rfl) ?_ _
  go_wp2_with fail
  go_ret2
  exact stpR_no HNO.out S.bl

set_option maxHeartbeats 4000000 in
theorem use_link {nd : Int} {ls : List Lk} (hv : Valid nd ls) {v a : Int} (ha : Lnk ls a) (A : Option Addr) (cp : Nat) (w : World) (hr : RdL w w.heap.size A ls) :
    Calls Try.prog 24 #[.agg #[.int .i64 nd, .slice A ls.length cp], .int .i64 v, .agg #[.int .i64 2, .int .i64 a]] w (StpR nd ls v 2 a w) := by
  have h14 := hv.2.2.1
  obtain ⟨a', rfl⟩ := Int.eq_ofNat_of_zero_le ha.1
  have hal : a' < ls.length := by have := ha.2; omega
  obtain ⟨_, _, hne, _⟩ := ends_nd hv hal
  have S := GL.start (k := 2) (a := (a' : Int)) (nd := nd) (cp := cp) hr
  obtain ⟨ga, go, hA, hga, hcells⟩ := S.rd (by omega)
  obtain rfl := hA
  obtain ⟨d1, d2, d3⟩ := hcells a' hal
  have HA : Hid (La ls a' = v → StpOk nd ls v 2 (a' : Int) ∧ stpN ls v 2 (a' : Int) = Lb ls a') := fun h => ⟨.inr ⟨rfl, ha, .inl (by rw [Int.toNat_natCast]; exact h)⟩, by unfold stpN; rw [if_neg (by decide), Int.toNat_natCast, if_pos h]⟩
  have HB : Hid (La ls a' ≠ v → Lb ls a' = v → StpOk nd ls v 2 (a' : Int) ∧ stpN ls v 2 (a' : Int) = La ls a') := fun h h' => ⟨.inr ⟨rfl, ha, .inr (by rw [Int.toNat_natCast]; exact h')⟩, by unfold stpN; rw [if_neg (by decide), Int.toNat_natCast, if_neg h]⟩
  have HC : Hid (La ls a' ≠ v → Lb ls a' ≠ v → ¬ StpOk nd ls v 2 (a' : Int)) := fun h h' hs => by
    rcases hs with ⟨h1, _⟩ | ⟨_, _, h1⟩
    · cases h1
    · rw [Int.toNat_natCast] at h1
      rcases h1 with h1 | h1
      · exact h h1
      · exact h' h1
  have k0 : (0 : Int) ≤ (a' : Int) := by omega
  have k1 : (a' : Int) < (ls.length : Int) := by omega
  have BL := S.bl
  clear hcells S hne
  generalize La ls a' = x at *
  generalize Lb ls a' = y at *
  generalize Lc ls a' = z at *
  go_enter Try.func24, Try.ntmps24
  go_wp2_with (go_at_call 29; refine (within_yes (by omega) (by omega) _).mono ?_; rintro e w2 ⟨rfl, rfl⟩)
  by_cases h1 : x = v
  · refine (other_a h1 y z _).mono ?_
    rintro e w3 ⟨rfl, hb3⟩
    have B3 := bthen BL hb3
    go_wp2_with fail
    go_ret2
    exact stpR_yes (HA.out h1).1 (HA.out h1).2.symm B3
  · by_cases h2 : y = v
    · refine (other_b h1 h2 z _).mono ?_
      rintro e w3 ⟨rfl, hb3⟩
      have B3 := bthen BL hb3
      go_wp2_with fail
      go_ret2
      exact stpR_yes (HB.out h1 h2).1 (HB.out h1 h2).2.symm B3
    · refine (other_c h1 h2 z _).mono ?_
      rintro e w3 ⟨rfl, hb3⟩
      have B3 := bthen BL hb3
      go_wp2_with fail
      go_ret2
      exact stpR_no (HC.out h1 h2) B3

set_option maxHeartbeats 4000000 in
theorem use_else {nd : Int} {ls : List Lk} (hv : Valid nd ls) {v k a : Int} (h1 : k ≠ 1) (h2 : ¬ (k = 2 ∧ Lnk ls a)) (A : Option Addr) (cp : Nat) (w : World) (_ : RdL w w.heap.size A ls) :
    Calls Try.prog 24 #[.agg #[.int .i64 nd, .slice A ls.length cp], .int .i64 v, .agg #[.int .i64 k, .int .i64 a]] w (StpR nd ls v k a w) := by
  have h14 := hv.2.2.1
  have HNO : Hid (¬ StpOk nd ls v k a) := fun h => by rcases h with ⟨h, _⟩ | ⟨h, h', _⟩; exact h1 h; exact h2 ⟨h, h'⟩
  have t1 : (k == 1) = false := by rw [beq_eq_false_iff_ne]; exact h1
  by_cases hk : k = 2
  · subst hk
    have h' : a < 0 ∨ (ls.length : Int) - 1 < a := by
      by_cases h : 0 ≤ a
      · by_cases h' : a < (ls.length : Int)
        · exact absurd ⟨rfl, h, h'⟩ h2
        · omega
      · omega
    clear h1 h2 t1
    go_enter Try.func24, Try.ntmps24
    go_wp2_with (go_at_call 29; refine (within_no h' _).mono ?_; rintro e w2 ⟨rfl, rfl⟩)
    go_ret2
    exact stpR_no HNO.out (b2 _ _ _)
  · have t2 : (k == 2) = false := by rw [beq_eq_false_iff_ne]; exact hk
    clear h1 h2 hk
    go_enter Try.func24, Try.ntmps24
    go_wp2_with fail
    go_ret2
    exact stpR_no HNO.out (b2 _ _ _)
theorem use_any {nd : Int} {ls : List Lk} (hv : Valid nd ls) {v : Int} (hn : Nd nd v) (k a : Int) (A : Option Addr) (cp : Nat) (w : World) (hr : RdL w w.heap.size A ls) :
    Calls Try.prog 24 #[.agg #[.int .i64 nd, .slice A ls.length cp], .int .i64 v, .agg #[.int .i64 k, .int .i64 a]] w (StpR nd ls v k a w) := by
  by_cases h1 : k = 1
  · subst h1
    by_cases ha : Nd nd a
    · exact use_node hv hn ha A cp w hr
    · exact use_out hv ha A cp w hr
  · by_cases h2 : k = 2 ∧ Lnk ls a
    · obtain ⟨rfl, ha⟩ := h2; exact use_link hv ha A cp w hr
    · exact use_else hv h1 h2 A cp w hr

set_option maxHeartbeats 4000000 in
theorem step_node {nd : Int} {ls : List Lk} (hv : Valid nd ls) {v a : Int} (hn : Nd nd v) (ha : Nd nd a) (A : Option Addr) (cp : Nat) (w : World) (hr : RdL w w.heap.size A ls) :
    Calls Try.prog 21 #[.agg #[.int .i64 nd, .slice A ls.length cp], .int .i64 v, .agg #[.int .i64 1, .int .i64 a]] w (StpR nd ls v 1 a w) := by
  have hn8 := hv.2.1
  have hn1 := hv.1
  obtain ⟨a', rfl⟩ := Int.eq_ofNat_of_zero_le ha.1
  have han := ha.2
  have HL := Lib.hid (length_dists nd ls v)
  have S := (GL.start (k := 1) (a := (a' : Int)) (nd := nd) (cp := cp) hr).on (Below.refl _ _).drew
  have m0 := S.c0
  have m1 := S.c1
  have m2 := S.l1
  have hs : StpOk nd ls v 1 (a' : Int) ↔ 0 ≤ D nd ls v a' := ⟨fun h => (by rcases h with ⟨_, _, h⟩ | ⟨h, _⟩; exact h; exact absurd h (by decide)), fun h => .inl ⟨rfl, ha, h⟩⟩
  have HS := Lib.hid hs
  have HN : Hid (stpN ls v 1 (a' : Int) = a') := by show _ = _; unfold stpN; rw [if_pos rfl]
  clear hs
  go_enter Try.func21, Try.ntmps21
  go_wp2_with fail
  cases t : decide (0 ≤ D nd ls v a')
  · have hno : ¬ StpOk nd ls v 1 (a' : Int) := fun h => by have := HS.out.1 h; simp at t; omega
    have HNO := Lib.hid hno
    clear hno
    refine wp_region_held_drew (S := fun w' => w'.cell? ⟨w.heap.size, 0, none⟩ = some (.int .i64 nd) ∧ w'.cell? ⟨w.heap.size, 1, none⟩ = some (.slice A ls.length cp) ∧ w'.cell? ⟨w.heap.size + 1, 1, none⟩ = some (.int .i64 (a' : Nat))) (by kernel_rfl) ?_ (fun hHeld4_0 => ?_)
    · exact ⟨m0, m1, m2⟩
    refine wpAnyH_take (i := 0) (v := ?v4_0) rfl (by kernel_rfl) (by kernel_rfl) (by kernel_rfl) (fun _ _ _ h => h) (Or.inl ⟨by kernel_rfl, ?y4_0⟩) (by assumption) ?r4_0
    case y4_0 => intro w hSw; (try dsimp only at hSw); go_simp; (try with_reducible rfl)
    try simp only [Act.put, List.setIfInBounds_toArray]
    refine wpAnyH_take (i := 1) (v := ?v4_1) rfl (by kernel_rfl) (by kernel_rfl) (by kernel_rfl) (fun _ _ _ h => h) (Or.inl ⟨by kernel_rfl, ?y4_1⟩) (by assumption) ?r4_1
    case y4_1 => intro w hSw; (try dsimp only at hSw); go_simp; (try with_reducible rfl)
    try simp only [Act.put]
    refine wpAnyH_take (i := 2) (v := ?v4_2) rfl (by kernel_rfl) (by kernel_rfl) (by kernel_rfl) (fun _ _ _ h => h) (Or.inl ⟨by kernel_rfl, ?y4_2⟩) (by assumption) ?r4_2
    case y4_2 => intro w hSw; (try dsimp only at hSw); go_simp; (try with_reducible rfl)
    try simp only [Act.put]
    refine wpAnyH_ready (rs := [3]) (by kernel_rfl) (by simp) ?_
    refine AllReadyH.cons rfl (fun K hK => ?_) AllReadyH.nil
    go_simp
    (go_at_call 20; refine (l1Node_yes hv ha A ls.length cp _).mono ?_; rintro e w2 ⟨rfl, hb2⟩; have S2 := S.on hb2; have x0 := S2.c0; have x1' := S2.c1; have x2 := S2.l1)
    go_wp2_with fail
    refine hK.out _ _ ?_ (fun hHeld4_1 => ?_)
    · exact ⟨x0, x1', x2⟩
    clear hK K
    try simp only [Act.put, List.setIfInBounds_toArray]
    refine wpAnyH_take (i := 4) (v := ?v4_4) rfl (by kernel_rfl) (by kernel_rfl) (by kernel_rfl) (fun _ _ _ h => h) (Or.inl ⟨by kernel_rfl, ?y4_4⟩) (by assumption) ?r4_4
    case y4_4 => intro w hSw; (try dsimp only at hSw); go_simp; (try with_reducible rfl)
    try simp only [Act.put]
    refine wpAnyH_take (i := 5) (v := ?v4_5) rfl (by kernel_rfl) (by kernel_rfl) (by kernel_rfl) (fun _ _ _ h => h) (Or.inl ⟨by kernel_rfl, ?y4_5⟩) (by assumption) ?r4_5
    case y4_5 => intro w hSw; (try dsimp only at hSw); go_simp; (try with_reducible rfl)
    try simp only [Act.put]
    refine wpAnyH_take (i := 6) (v := ?v4_6) rfl (by kernel_rfl) (by kernel_rfl) (by kernel_rfl) (fun _ _ _ h => h) (Or.inl ⟨by kernel_rfl, ?y4_6⟩) (by assumption) ?r4_6
    case y4_6 => intro w hSw; (try dsimp only at hSw); go_simp; (try with_reducible rfl)
    try simp only [Act.put]
    refine wpAnyH_take (i := 8) (v := ?v4_8) rfl (by kernel_rfl) (by kernel_rfl) (by kernel_rfl) (fun _ _ _ h => h) (Or.inl ⟨by kernel_rfl, ?y4_8⟩) (by assumption) ?r4_8
    case y4_8 => intro w hSw; (try dsimp only at hSw); go_simp; (try with_reducible rfl)
    try simp only [Act.put]
    refine wpAnyH_take (i := 9) (v := ?v4_9) rfl (by kernel_rfl) (by kernel_rfl) (by kernel_rfl) (fun _ _ _ h => h) (Or.inl ⟨by kernel_rfl, ?y4_9⟩) (by assumption) ?r4_9
    case y4_9 => intro w hSw; (try dsimp only at hSw); go_simp; (try with_reducible rfl)
    try simp only [Act.put]
    refine wpAnyH_ready (rs := [7]) (by kernel_rfl) (by simp) ?_
    refine AllReadyH.cons rfl (fun K hK => ?_) AllReadyH.nil
    go_simp
    (go_at_call 27; refine (sdist_any hv hn A cp _ S2.rd).mono ?_; rintro e w3 ⟨⟨DD, dc, rfl, oD⟩, hb3⟩; have S3 := S2.on hb3; obtain ⟨dg, dof, hDD, hdg, hdc⟩ := oD.rd (by rw [HL.out]; omega); obtain rfl := hDD; have x1 := hdc a' (by rw [HL.out]; omega); rw [show Ix (dists nd ls v) a' = D nd ls v a' from (by unfold D; rw [Int.toNat_natCast])] at x1; have j0 : (0 : Int) ≤ (a' : Int) := (by omega); have j1 : (a' : Int) < ((dists nd ls v).length : Int) := (by rw [HL.out]; omega); have y0 := S3.c0; have y1 := S3.c1; have y2 := S3.l1; clear hdc oD hb3)
    go_wp2_with fail
    refine hK.out _ _ ?_ (fun hHeld4_2 => ?_)
    · exact ⟨y0, y1, y2⟩
    clear hK K
    try simp only [Act.put, List.setIfInBounds_toArray]
    refine wpAnyH_take (i := 10) (v := ?v4_10) rfl (by kernel_rfl) (by kernel_rfl) (by kernel_rfl) (fun _ _ _ h => h) (Or.inl ⟨by kernel_rfl, ?y4_10⟩) (by assumption) ?r4_10
    case y4_10 => intro w hSw; (try dsimp only at hSw); go_simp; (try with_reducible rfl)
    try simp only [Act.put]
    refine wpAnyH_ready (rs := [11]) (by kernel_rfl) (by simp) ?_
    refine AllReadyH.cons rfl (fun K hK => ?_) AllReadyH.nil
    go_simp
    refine hK.out _ _ ?_ (fun hHeld4_3 => ?_)
    · exact ⟨y0, y1, y2⟩
    clear hK K
    try simp only [Act.put, List.setIfInBounds_toArray]
    refine wpAnyH_take (i := 12) (v := ?v4_12) rfl (by kernel_rfl) (by kernel_rfl) (by kernel_rfl) (fun _ _ _ h => h) (Or.inl ⟨by kernel_rfl, ?y4_12⟩) (by assumption) ?r4_12
    case y4_12 => intro w hSw; (try dsimp only at hSw); go_simp; (try with_reducible rfl)
    try simp only [Act.put]
    refine wpAnyH_take (i := 13) (v := ?v4_13) rfl (by kernel_rfl) (by kernel_rfl) (by kernel_rfl) (fun _ _ _ h => h) (Or.inl ⟨by kernel_rfl, ?y4_13⟩) (by assumption) ?r4_13
    case y4_13 => intro w hSw; (try dsimp only at hSw); go_simp; (try with_reducible rfl)
    simp only [Act.put, List.getElem_toArray, List.getElem_cons_succ, List.getElem_cons_zero, List.setIfInBounds_toArray, List.set_cons_zero, List.set_cons_succ]
    refine wpAnyH_done (by kernel_rfl) ?_ _
    go_wp2_with fail
    go_ret2
    exact stpR_no HNO.out S3.bl
  · have hyes : StpOk nd ls v 1 (a' : Int) := HS.out.2 (by simpa using t)
    have HYES := Lib.hid hyes
    clear hyes
    refine wp_region_held_drew (S := fun w' => w'.cell? ⟨w.heap.size, 0, none⟩ = some (.int .i64 nd) ∧ w'.cell? ⟨w.heap.size, 1, none⟩ = some (.slice A ls.length cp) ∧ w'.cell? ⟨w.heap.size + 1, 1, none⟩ = some (.int .i64 (a' : Nat))) (by kernel_rfl) ?_ (fun hHeld5_0 => ?_)
    · exact ⟨m0, m1, m2⟩
    refine wpAnyH_take (i := 0) (v := ?v5_0) rfl (by kernel_rfl) (by kernel_rfl) (by kernel_rfl) (fun _ _ _ h => h) (Or.inl ⟨by kernel_rfl, ?y5_0⟩) (by assumption) ?r5_0
    case y5_0 => intro w hSw; (try dsimp only at hSw); go_simp; (try with_reducible rfl)
    try simp only [Act.put, List.setIfInBounds_toArray]
    refine wpAnyH_take (i := 1) (v := ?v5_1) rfl (by kernel_rfl) (by kernel_rfl) (by kernel_rfl) (fun _ _ _ h => h) (Or.inl ⟨by kernel_rfl, ?y5_1⟩) (by assumption) ?r5_1
    case y5_1 => intro w hSw; (try dsimp only at hSw); go_simp; (try with_reducible rfl)
    try simp only [Act.put]
    refine wpAnyH_take (i := 2) (v := ?v5_2) rfl (by kernel_rfl) (by kernel_rfl) (by kernel_rfl) (fun _ _ _ h => h) (Or.inl ⟨by kernel_rfl, ?y5_2⟩) (by assumption) ?r5_2
    case y5_2 => intro w hSw; (try dsimp only at hSw); go_simp; (try with_reducible rfl)
    try simp only [Act.put]
    refine wpAnyH_ready (rs := [3]) (by kernel_rfl) (by simp) ?_
    refine AllReadyH.cons rfl (fun K hK => ?_) AllReadyH.nil
    go_simp
    (go_at_call 20; refine (l1Node_yes hv ha A ls.length cp _).mono ?_; rintro e w2 ⟨rfl, hb2⟩; have S2 := S.on hb2; have x0 := S2.c0; have x1' := S2.c1; have x2 := S2.l1)
    go_wp2_with fail
    refine hK.out _ _ ?_ (fun hHeld5_1 => ?_)
    · exact ⟨x0, x1', x2⟩
    clear hK K
    try simp only [Act.put, List.setIfInBounds_toArray]
    refine wpAnyH_take (i := 4) (v := ?v5_4) rfl (by kernel_rfl) (by kernel_rfl) (by kernel_rfl) (fun _ _ _ h => h) (Or.inl ⟨by kernel_rfl, ?y5_4⟩) (by assumption) ?r5_4
    case y5_4 => intro w hSw; (try dsimp only at hSw); go_simp; (try with_reducible rfl)
    try simp only [Act.put]
    refine wpAnyH_take (i := 5) (v := ?v5_5) rfl (by kernel_rfl) (by kernel_rfl) (by kernel_rfl) (fun _ _ _ h => h) (Or.inl ⟨by kernel_rfl, ?y5_5⟩) (by assumption) ?r5_5
    case y5_5 => intro w hSw; (try dsimp only at hSw); go_simp; (try with_reducible rfl)
    try simp only [Act.put]
    refine wpAnyH_take (i := 6) (v := ?v5_6) rfl (by kernel_rfl) (by kernel_rfl) (by kernel_rfl) (fun _ _ _ h => h) (Or.inl ⟨by kernel_rfl, ?y5_6⟩) (by assumption) ?r5_6
    case y5_6 => intro w hSw; (try dsimp only at hSw); go_simp; (try with_reducible rfl)
    try simp only [Act.put]
    refine wpAnyH_take (i := 8) (v := ?v5_8) rfl (by kernel_rfl) (by kernel_rfl) (by kernel_rfl) (fun _ _ _ h => h) (Or.inl ⟨by kernel_rfl, ?y5_8⟩) (by assumption) ?r5_8
    case y5_8 => intro w hSw; (try dsimp only at hSw); go_simp; (try with_reducible rfl)
    try simp only [Act.put]
    refine wpAnyH_take (i := 9) (v := ?v5_9) rfl (by kernel_rfl) (by kernel_rfl) (by kernel_rfl) (fun _ _ _ h => h) (Or.inl ⟨by kernel_rfl, ?y5_9⟩) (by assumption) ?r5_9
    case y5_9 => intro w hSw; (try dsimp only at hSw); go_simp; (try with_reducible rfl)
    try simp only [Act.put]
    refine wpAnyH_ready (rs := [7]) (by kernel_rfl) (by simp) ?_
    refine AllReadyH.cons rfl (fun K hK => ?_) AllReadyH.nil
    go_simp
    (go_at_call 27; refine (sdist_any hv hn A cp _ S2.rd).mono ?_; rintro e w3 ⟨⟨DD, dc, rfl, oD⟩, hb3⟩; have S3 := S2.on hb3; obtain ⟨dg, dof, hDD, hdg, hdc⟩ := oD.rd (by rw [HL.out]; omega); obtain rfl := hDD; have x1 := hdc a' (by rw [HL.out]; omega); rw [show Ix (dists nd ls v) a' = D nd ls v a' from (by unfold D; rw [Int.toNat_natCast])] at x1; have j0 : (0 : Int) ≤ (a' : Int) := (by omega); have j1 : (a' : Int) < ((dists nd ls v).length : Int) := (by rw [HL.out]; omega); have y0 := S3.c0; have y1 := S3.c1; have y2 := S3.l1; clear hdc oD hb3)
    go_wp2_with fail
    refine hK.out _ _ ?_ (fun hHeld5_2 => ?_)
    · exact ⟨y0, y1, y2⟩
    clear hK K
    try simp only [Act.put, List.setIfInBounds_toArray]
    refine wpAnyH_take (i := 10) (v := ?v5_10) rfl (by kernel_rfl) (by kernel_rfl) (by kernel_rfl) (fun _ _ _ h => h) (Or.inl ⟨by kernel_rfl, ?y5_10⟩) (by assumption) ?r5_10
    case y5_10 => intro w hSw; (try dsimp only at hSw); go_simp; (try with_reducible rfl)
    try simp only [Act.put]
    refine wpAnyH_ready (rs := [11]) (by kernel_rfl) (by simp) ?_
    refine AllReadyH.cons rfl (fun K hK => ?_) AllReadyH.nil
    go_simp
    refine hK.out _ _ ?_ (fun hHeld5_3 => ?_)
    · exact ⟨y0, y1, y2⟩
    clear hK K
    try simp only [Act.put, List.setIfInBounds_toArray]
    refine wpAnyH_take (i := 12) (v := ?v5_12) rfl (by kernel_rfl) (by kernel_rfl) (by kernel_rfl) (fun _ _ _ h => h) (Or.inl ⟨by kernel_rfl, ?y5_12⟩) (by assumption) ?r5_12
    case y5_12 => intro w hSw; (try dsimp only at hSw); go_simp; (try with_reducible rfl)
    try simp only [Act.put]
    refine wpAnyH_take (i := 13) (v := ?v5_13) rfl (by kernel_rfl) (by kernel_rfl) (by kernel_rfl) (fun _ _ _ h => h) (Or.inl ⟨by kernel_rfl, ?y5_13⟩) (by assumption) ?r5_13
    case y5_13 => intro w hSw; (try dsimp only at hSw); go_simp; (try with_reducible rfl)
    simp only [Act.put, List.getElem_toArray, List.getElem_cons_succ, List.getElem_cons_zero, List.setIfInBounds_toArray, List.set_cons_zero, List.set_cons_succ]
    refine wpAnyH_done (by kernel_rfl) ?_ _
    go_wp2_with fail
    go_ret2
    exact stpR_yes HYES.out HN.out.symm S3.bl

set_option maxHeartbeats 4000000 in
theorem step_out {nd : Int} {ls : List Lk} (hv : Valid nd ls) {v a : Int} (ha : ¬ Nd nd a) (A : Option Addr) (cp : Nat) (w : World) (hr : RdL w w.heap.size A ls) :
    Calls Try.prog 21 #[.agg #[.int .i64 nd, .slice A ls.length cp], .int .i64 v, .agg #[.int .i64 1, .int .i64 a]] w (StpR nd ls v 1 a w) := by
  have hn8 := hv.2.1
  have hn1 := hv.1
  have S := (GL.start (k := 1) (a := a) (nd := nd) (cp := cp) hr).on (Below.refl _ _).drew
  have m0 := S.c0
  have m1 := S.c1
  have m2 := S.l1
  have HNO : Hid (¬ StpOk nd ls v 1 a) := fun h => by rcases h with ⟨_, h, _⟩ | ⟨h, _⟩; exact ha h; cases h
  go_enter Try.func21, Try.ntmps21
  go_wp2_with fail
  refine wp_region_held_drew (S := fun w' => w'.cell? ⟨w.heap.size, 0, none⟩ = some (.int .i64 nd) ∧ w'.cell? ⟨w.heap.size, 1, none⟩ = some (.slice A ls.length cp) ∧ w'.cell? ⟨w.heap.size + 1, 1, none⟩ = some (.int .i64 a)) (by kernel_rfl) ?_ (fun hHeld6_0 => ?_)
  · exact ⟨m0, m1, m2⟩
  refine wpAnyH_take (i := 0) (v := ?v6_0) rfl (by kernel_rfl) (by kernel_rfl) (by kernel_rfl) (fun _ _ _ h => h) (Or.inl ⟨by kernel_rfl, ?y6_0⟩) (by assumption) ?r6_0
  case y6_0 => intro w hSw; (try dsimp only at hSw); go_simp; (try with_reducible rfl)
  try simp only [Act.put, List.setIfInBounds_toArray]
  refine wpAnyH_take (i := 1) (v := ?v6_1) rfl (by kernel_rfl) (by kernel_rfl) (by kernel_rfl) (fun _ _ _ h => h) (Or.inl ⟨by kernel_rfl, ?y6_1⟩) (by assumption) ?r6_1
  case y6_1 => intro w hSw; (try dsimp only at hSw); go_simp; (try with_reducible rfl)
  try simp only [Act.put]
  refine wpAnyH_take (i := 2) (v := ?v6_2) rfl (by kernel_rfl) (by kernel_rfl) (by kernel_rfl) (fun _ _ _ h => h) (Or.inl ⟨by kernel_rfl, ?y6_2⟩) (by assumption) ?r6_2
  case y6_2 => intro w hSw; (try dsimp only at hSw); go_simp; (try with_reducible rfl)
  try simp only [Act.put]
  refine wpAnyH_ready (rs := [3]) (by kernel_rfl) (by simp) ?_
  refine AllReadyH.cons rfl (fun K hK => ?_) AllReadyH.nil
  go_simp
  (go_at_call 20; refine (l1Node_no hv ha A ls.length cp _).mono ?_; rintro e w2 ⟨rfl, hb2⟩; have S2 := S.on hb2; have x0 := S2.c0; have x1' := S2.c1; have x2 := S2.l1)
  go_wp2_with fail
  refine hK.out _ _ ?_ (fun hHeld6_1 => ?_)
  · exact ⟨x0, x1', x2⟩
  clear hK K
  try simp only [Act.put, List.setIfInBounds_toArray]
  refine wpAnyH_take (i := 4) (v := ?v6_4) rfl (by kernel_rfl) (by kernel_rfl) (by kernel_rfl) (fun _ _ _ h => h) (Or.inl ⟨by kernel_rfl, ?y6_4⟩) (by assumption) ?r6_4
  case y6_4 => intro w hSw; (try dsimp only at hSw); go_simp; (try with_reducible rfl)
  try simp only [Act.put]
  refine wpAnyH_take (i := 5) (v := undef) rfl (by kernel_rfl) (by kernel_rfl) (by kernel_rfl) (fun _ _ _ h => h) (Or.inr ⟨by kernel_rfl, by kernel_rfl⟩) (by assumption) ?r6_5
  try simp only [Act.put]
  refine wpAnyH_take (i := 6) (v := undef) rfl (by kernel_rfl) (by kernel_rfl) (by kernel_rfl) (fun _ _ _ h => h) (Or.inr ⟨by kernel_rfl, by kernel_rfl⟩) (by assumption) ?r6_6
  try simp only [Act.put]
  refine wpAnyH_take (i := 7) (v := undef) rfl (by kernel_rfl) (by kernel_rfl) (by kernel_rfl) (fun _ _ _ h => h) (Or.inr ⟨by kernel_rfl, by kernel_rfl⟩) (by assumption) ?r6_7
  try simp only [Act.put]
  refine wpAnyH_take (i := 8) (v := undef) rfl (by kernel_rfl) (by kernel_rfl) (by kernel_rfl) (fun _ _ _ h => h) (Or.inr ⟨by kernel_rfl, by kernel_rfl⟩) (by assumption) ?r6_8
  try simp only [Act.put]
  refine wpAnyH_take (i := 9) (v := undef) rfl (by kernel_rfl) (by kernel_rfl) (by kernel_rfl) (fun _ _ _ h => h) (Or.inr ⟨by kernel_rfl, by kernel_rfl⟩) (by assumption) ?r6_9
  try simp only [Act.put]
  refine wpAnyH_take (i := 10) (v := undef) rfl (by kernel_rfl) (by kernel_rfl) (by kernel_rfl) (fun _ _ _ h => h) (Or.inr ⟨by kernel_rfl, by kernel_rfl⟩) (by assumption) ?r6_10
  try simp only [Act.put]
  refine wpAnyH_take (i := 11) (v := undef) rfl (by kernel_rfl) (by kernel_rfl) (by kernel_rfl) (fun _ _ _ h => h) (Or.inr ⟨by kernel_rfl, by kernel_rfl⟩) (by assumption) ?r6_11
  try simp only [Act.put]
  refine wpAnyH_take (i := 12) (v := undef) rfl (by kernel_rfl) (by kernel_rfl) (by kernel_rfl) (fun _ _ _ h => h) (Or.inr ⟨by kernel_rfl, by kernel_rfl⟩) (by assumption) ?r6_12
  try simp only [Act.put]
  refine wpAnyH_take (i := 13) (v := ?v6_13) rfl (by kernel_rfl) (by kernel_rfl) (by kernel_rfl) (fun _ _ _ h => h) (Or.inl ⟨by kernel_rfl, ?y6_13⟩) (by assumption) ?r6_13
  case y6_13 => intro w hSw; (try dsimp only at hSw); go_simp; (try with_reducible rfl)
  simp only [Act.put, List.getElem_toArray, List.getElem_cons_succ, List.getElem_cons_zero, List.setIfInBounds_toArray, List.set_cons_zero, List.set_cons_succ]
  refine wpAnyH_done (by kernel_rfl) ?_ _
  go_wp2_with fail
  go_ret2
  exact stpR_no HNO.out S2.bl

set_option maxHeartbeats 4000000 in
theorem step_link {nd : Int} {ls : List Lk} (hv : Valid nd ls) {v a : Int} (ha : Lnk ls a) (A : Option Addr) (cp : Nat) (w : World) (hr : RdL w w.heap.size A ls) :
    Calls Try.prog 21 #[.agg #[.int .i64 nd, .slice A ls.length cp], .int .i64 v, .agg #[.int .i64 2, .int .i64 a]] w (StpR nd ls v 2 a w) := by
  have h14 := hv.2.2.1
  obtain ⟨a', rfl⟩ := Int.eq_ofNat_of_zero_le ha.1
  have hal : a' < ls.length := by have := ha.2; omega
  have S := GL.start (k := 2) (a := (a' : Int)) (nd := nd) (cp := cp) hr
  obtain ⟨ga, go, hA, hga, hcells⟩ := S.rd (by omega)
  obtain rfl := hA
  obtain ⟨d1, d2, d3⟩ := hcells a' hal
  have HA : Hid (La ls a' = v → StpOk nd ls v 2 (a' : Int) ∧ stpN ls v 2 (a' : Int) = Lb ls a') := fun h => ⟨.inr ⟨rfl, ha, .inl (by rw [Int.toNat_natCast]; exact h)⟩, by unfold stpN; rw [if_neg (by decide), Int.toNat_natCast, if_pos h]⟩
  have HB : Hid (La ls a' ≠ v → Lb ls a' = v → StpOk nd ls v 2 (a' : Int) ∧ stpN ls v 2 (a' : Int) = La ls a') := fun h h' => ⟨.inr ⟨rfl, ha, .inr (by rw [Int.toNat_natCast]; exact h')⟩, by unfold stpN; rw [if_neg (by decide), Int.toNat_natCast, if_neg h]⟩
  have HC : Hid (La ls a' ≠ v → Lb ls a' ≠ v → ¬ StpOk nd ls v 2 (a' : Int)) := fun h h' hs => by
    rcases hs with ⟨h1, _⟩ | ⟨_, _, h1⟩
    · cases h1
    · rw [Int.toNat_natCast] at h1
      rcases h1 with h1 | h1
      · exact h h1
      · exact h' h1
  have k0 : (0 : Int) ≤ (a' : Int) := by omega
  have k1 : (a' : Int) < (ls.length : Int) := by omega
  have BL := S.bl
  clear hcells S
  generalize La ls a' = x at *
  generalize Lb ls a' = y at *
  generalize Lc ls a' = z at *
  by_cases h1 : x = v
  · have H1 := Lib.hid (HA.out h1)
    have t1 : (x == v) = true := by rw [h1]; simp
    clear h1
    go_enter Try.func21, Try.ntmps21
    go_wp2_with (go_at_call 26; refine (l6In_yes (by omega) (by omega) _).mono ?_; rintro e w2 ⟨rfl, rfl⟩)
    go_ret2
    exact stpR_yes H1.out.1 H1.out.2.symm (bthen BL (bnew _ _))
  · have t1 : (x == v) = false := by rw [beq_eq_false_iff_ne]; exact h1
    by_cases h2 : y = v
    · have H1 := Lib.hid (HB.out h1 h2)
      have t2 : (y == v) = true := by rw [h2]; simp
      clear h1 h2
      go_enter Try.func21, Try.ntmps21
      go_wp2_with (go_at_call 26; refine (l6In_yes (by omega) (by omega) _).mono ?_; rintro e w2 ⟨rfl, rfl⟩)
      go_ret2
      exact stpR_yes H1.out.1 H1.out.2.symm (bthen BL (bnew _ _))
    · have H1 := Lib.hid (HC.out h1 h2)
      have t2 : (y == v) = false := by rw [beq_eq_false_iff_ne]; exact h2
      clear h1 h2
      go_enter Try.func21, Try.ntmps21
      go_wp2_with (go_at_call 26; refine (l6In_yes (by omega) (by omega) _).mono ?_; rintro e w2 ⟨rfl, rfl⟩)
      go_ret2
      exact stpR_no H1.out (bthen BL (bnew _ _))

set_option maxHeartbeats 4000000 in
theorem step_else {nd : Int} {ls : List Lk} (hv : Valid nd ls) {v k a : Int} (h1 : k ≠ 1) (h2 : ¬ (k = 2 ∧ Lnk ls a)) (A : Option Addr) (cp : Nat) (w : World) (_ : RdL w w.heap.size A ls) :
    Calls Try.prog 21 #[.agg #[.int .i64 nd, .slice A ls.length cp], .int .i64 v, .agg #[.int .i64 k, .int .i64 a]] w (StpR nd ls v k a w) := by
  have h14 := hv.2.2.1
  have HNO : Hid (¬ StpOk nd ls v k a) := fun h => by rcases h with ⟨h, _⟩ | ⟨h, h', _⟩; exact h1 h; exact h2 ⟨h, h'⟩
  have t1 : (k == 1) = false := by rw [beq_eq_false_iff_ne]; exact h1
  by_cases hk : k = 2
  · subst hk
    have h' : a < 0 ∨ (ls.length : Int) - 1 < a := by
      by_cases h : 0 ≤ a
      · by_cases h' : a < (ls.length : Int)
        · exact absurd ⟨rfl, h, h'⟩ h2
        · omega
      · omega
    clear h1 h2 t1
    go_enter Try.func21, Try.ntmps21
    go_wp2_with (go_at_call 26; refine (l6In_no h' _).mono ?_; rintro e w2 ⟨rfl, rfl⟩)
    go_ret2
    exact stpR_no HNO.out (b2 _ _ _)
  · have t2 : (k == 2) = false := by rw [beq_eq_false_iff_ne]; exact hk
    clear h1 h2 hk
    go_enter Try.func21, Try.ntmps21
    go_wp2_with fail
    go_ret2
    exact stpR_no HNO.out (b2 _ _ _)
theorem step_any {nd : Int} {ls : List Lk} (hv : Valid nd ls) {v : Int} (hn : Nd nd v) (k a : Int) (A : Option Addr) (cp : Nat) (w : World) (hr : RdL w w.heap.size A ls) :
    Calls Try.prog 21 #[.agg #[.int .i64 nd, .slice A ls.length cp], .int .i64 v, .agg #[.int .i64 k, .int .i64 a]] w (StpR nd ls v k a w) := by
  by_cases h1 : k = 1
  · subst h1
    by_cases ha : Nd nd a
    · exact step_node hv hn ha A cp w hr
    · exact step_out hv ha A cp w hr
  · by_cases h2 : k = 2 ∧ Lnk ls a
    · obtain ⟨rfl, ha⟩ := h2; exact step_link hv ha A cp w hr
    · exact step_else hv h1 h2 A cp w hr

end Go.Proofs.Ytnmmacfchmmkkaa
