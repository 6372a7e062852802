/-
  The walks of both Distances, of the reference's l2Two, of sameInts.
-/
import Derived.Test.YtnndnpckkcgfiaaDF
import Derived.Test.YtnndnpckkcgfiaaWP
namespace Go.Proofs.Ytnndnpckkcgfiaa
open Go.RowKit
set_option maxRecDepth 100000

/-- the graph that came in, in its variable: the call's first block -/
structure BG (w wr : World) (nd : Int) (A : Option Addr) (cp : Nat) (ls : List Lk) : Prop where
  c0 : wr.cell? ⟨w.heap.size, 0, none⟩ = some (.int .i64 nd)
  c1 : wr.cell? ⟨w.heap.size, 1, none⟩ = some (.slice A ls.length cp)
  rd : RdL wr wr.heap.size A ls
  bl : Below w.heap.size w wr
theorem BG.on {w wr w1 : World} {nd : Int} {A : Option Addr} {cp : Nat} {ls : List Lk} (h : BG w wr nd A cp ls) (hb : Below wr.heap.size wr w1) : BG w w1 nd A cp ls :=
  ⟨ckeep h.c0 hb, ckeep h.c1 hb, h.rd.on hb, bthen h.bl hb⟩
theorem BG.dr {w wr : World} {nd : Int} {A : Option Addr} {cp : Nat} {ls : List Lk} (h : BG w wr nd A cp ls) : BG w wr.drew nd A cp ls := h.on (Below.refl _ _).drew
theorem BG.start {w : World} {nd : Int} {A : Option Addr} {cp : Nat} {ls : List Lk} (hr : RdL w w.heap.size A ls) : BG w (w.alloc (.cells #[.int .i64 nd, .slice A ls.length cp] 25)) nd A cp ls :=
  ⟨by go_simp, by go_simp, hr.on (bnew _ _), bnew _ _⟩

/-- what Distances lists -/
noncomputable def distO (nd : Int) (ls : List Lk) (f : Int) : List Int := if bl (Valid nd ls ∧ Nd nd f) then dists nd ls f else []
theorem distO_yes {nd : Int} {ls : List Lk} {f : Int} (h : Valid nd ls ∧ Nd nd f) : distO nd ls f = dists nd ls f := by unfold distO; rw [bl_true h, if_pos rfl]
theorem distO_no {nd : Int} {ls : List Lk} {f : Int} (h : ¬ (Valid nd ls ∧ Nd nd f)) : distO nd ls f = [] := by unfold distO; rw [bl_false h]; rfl
theorem RI.nil_ {w w1 : World} (hb : Below w.heap.size w w1) : RI [] w (.returned (.slice none 0 0)) w1 := ⟨⟨none, 0, rfl, OwI.nil_ _ _⟩, hb⟩
theorem RI.of {xs : List Int} {w w1 w2 : World} {e : Ending} (h : RI xs w1 e w2) (hb : Below w.heap.size w w1) : RI xs w e w2 := by
  obtain ⟨⟨A, cp, rfl, ho⟩, hb2⟩ := h
  exact ⟨⟨A, cp, rfl, ownsRow_base ho hb.size⟩, bthen hb hb2⟩
theorem own_emptyI {w w1 : World} (hb : Below w.heap.size w w1) : RI [] w (.returned (.slice (some ⟨w1.heap.size, 0, none⟩) 0 0)) (w1.alloc (.cells #[] 3)) :=
  ⟨⟨_, _, rfl, rfl, .inr ⟨w1.heap.size, 0, #[], rfl, hb.size, heap_alloc_new _ _, Nat.le_refl _, by unfold maxLen; omega, rfl, rfl⟩⟩, bthen hb (bnew _ _)⟩

set_option maxRecDepth 100000 in
set_option maxHeartbeats 1000000 in
theorem gDist_any (nd : Int) (A : Option Addr) (cp : Nat) (ls : List Lk) (f : Int) (w : World) (hlen : ls.length ≤ 9223372036854775806) (hr : RdL w w.heap.size A ls) :
    Calls Try.prog 45 #[.agg #[.int .i64 nd, .slice A ls.length cp], .int .i64 f] w (RI (distO nd ls f) w) := by
  by_cases h : Valid nd ls ∧ Nd nd f
  · rw [distO_yes h]
    go_enter Try.func45, Try.ntmps45
    go_wp2_with fail
    have S := BG.start (nd := nd) (cp := cp) hr
    refine (hasNode_yes h.1 h.2 A cp _ S.rd).mono ?_
    rintro e w1 ⟨rfl, hb1⟩
    have S1 := S.on hb1
    have c0 := S1.c0
    have c1 := S1.c1
    clear S hb1
    go_wp2_with fail
    refine (dist_any h.1 h.2 A cp _ S1.rd).mono ?_
    intro e w2 h2
    obtain ⟨⟨B, cq, rfl, ho⟩, hb2⟩ := h2.of S1.bl
    go_wp2_with fail
    go_ret
    exact ⟨⟨B, cq, rfl, ho⟩, hb2⟩
  · rw [distO_no h]
    go_enter Try.func45, Try.ntmps45
    go_wp2_with fail
    refine (hasNode_no h A cp _ hlen (hr.on (bnew _ _))).mono ?_
    rintro e w1 ⟨rfl, hb1⟩
    go_wp2_with fail
    go_ret
    exact RI.nil_ (bthen (bnew _ _) hb1)


theorem l2Two_yes {nd : Int} {ls : List Lk} (hv : Valid nd ls) {x y : Int} (hx : Nd nd x) (hy : Nd nd y) (A : Option Addr) (cp : Nat) (w : World) (hr : RdL w w.heap.size A ls) :
    Calls Try.prog 53 #[.agg #[.int .i64 nd, .slice A ls.length cp], .int .i64 x, .int .i64 y] w fun e w' => e = .returned (.bool true) ∧ Below w.heap.size w w' := by
  go_enter Try.func53, Try.ntmps53
  go_wp2_with fail
  have S := BG.start (nd := nd) (cp := cp) hr
  refine (sgv_yes hv A cp _ S.rd).mono ?_
  rintro e w1 ⟨rfl, hb1⟩
  have S1 := S.on hb1
  have c0 := S1.c0
  have c1 := S1.c1
  clear S hb1
  go_wp2_with fail
  refine (l1Node_yes hv hx A ls.length cp _).mono ?_
  rintro e w2 ⟨rfl, hb2⟩
  have S2 := S1.on hb2
  clear c0 c1 S1 hb2
  have c0 := S2.c0
  have c1 := S2.c1
  go_wp2_with fail
  refine (l1Node_yes hv hy A ls.length cp _).mono ?_
  rintro e w3 ⟨rfl, hb3⟩
  have B3 := bthen S2.bl hb3
  go_wp2_with fail
  go_ret
  exact ⟨rfl, B3⟩
theorem l2Two_no {nd : Int} {ls : List Lk} {x y : Int} (h : ¬ (Valid nd ls ∧ Nd nd x ∧ Nd nd y)) (A : Option Addr) (cp : Nat) (w : World) (hlen : ls.length ≤ 9223372036854775806) (hr : RdL w w.heap.size A ls) :
    Calls Try.prog 53 #[.agg #[.int .i64 nd, .slice A ls.length cp], .int .i64 x, .int .i64 y] w fun e w' => e = .returned (.bool false) ∧ Below w.heap.size w w' := by
  by_cases hv : Valid nd ls
  · by_cases hx : Nd nd x
    · have hy : ¬ Nd nd y := fun hy => h ⟨hv, hx, hy⟩
      go_enter Try.func53, Try.ntmps53
      go_wp2_with fail
      have S := BG.start (nd := nd) (cp := cp) hr
      refine (sgv_yes hv A cp _ S.rd).mono ?_
      rintro e w1 ⟨rfl, hb1⟩
      have S1 := S.on hb1
      have c0 := S1.c0
      have c1 := S1.c1
      clear S hb1
      go_wp2_with fail
      refine (l1Node_yes hv hx A ls.length cp _).mono ?_
      rintro e w2 ⟨rfl, hb2⟩
      have S2 := S1.on hb2
      clear c0 c1 S1 hb2
      have c0 := S2.c0
      have c1 := S2.c1
      go_wp2_with fail
      refine (l1Node_no hv hy A ls.length cp _).mono ?_
      rintro e w3 ⟨rfl, hb3⟩
      have B3 := bthen S2.bl hb3
      go_wp2_with fail
      go_ret
      exact ⟨rfl, B3⟩
    · go_enter Try.func53, Try.ntmps53
      go_wp2_with fail
      have S := BG.start (nd := nd) (cp := cp) hr
      refine (sgv_yes hv A cp _ S.rd).mono ?_
      rintro e w1 ⟨rfl, hb1⟩
      have S1 := S.on hb1
      have c0 := S1.c0
      have c1 := S1.c1
      clear S hb1
      go_wp2_with fail
      refine (l1Node_no hv hx A ls.length cp _).mono ?_
      rintro e w2 ⟨rfl, hb2⟩
      have B2 := bthen S1.bl hb2
      go_wp2_with fail
      go_ret
      exact ⟨rfl, B2⟩
  · go_enter Try.func53, Try.ntmps53
    go_wp2_with fail
    refine (sgv_no hv A cp _ hlen (hr.on (bnew _ _))).mono ?_
    rintro e w1 ⟨rfl, hb1⟩
    have B1 := bthen (bnew _ _) hb1
    go_wp2_with fail
    go_ret
    exact ⟨rfl, B1⟩

set_option maxRecDepth 100000 in
set_option maxHeartbeats 1000000 in
theorem sameI_yes (A B : Option Addr) (ca cb : Nat) (xs : List Int) (w : World) (hlen : xs.length ≤ 9223372036854775806) (hr : RdI w w.heap.size A xs) (hq : RdI w w.heap.size B xs) :
    Calls Try.prog 28 #[.slice A xs.length ca, .slice B xs.length cb] w fun e w' => e = .returned (.bool true) ∧ Below w.heap.size w w' := by
  go_enter Try.func28, Try.ntmps28
  go_wp2_with fail
  go_loopw [5] (fun i wr => ∃ k : Nat, k ≤ xs.length ∧ i = .int .i64 k ∧ Below w.heap.size w wr) (fun i _ => xs.length - (intOf i).toNat)
  case atStart => exact ⟨0, Nat.zero_le _, rfl, Below.refl _ _⟩
  case round =>
    obtain ⟨k, hk, rfl, hb⟩ := hrel
    by_cases hlt : k < xs.length
    · obtain ⟨ad, o, hA, hbk, hc⟩ := hr (by omega)
      have c1 := hc k hlt
      obtain rfl := hA
      have c1' := (hb.cell (by exact hbk)).trans c1
      obtain ⟨bd, p, hB, hbk', hd⟩ := hq (by omega)
      have d1 := hd k hlt
      obtain rfl := hB
      have d1' := (hb.cell (by exact hbk')).trans d1
      have hs := hb.size
      clear c1 hc d1 hd
      have q1 : (0 : Int) ≤ (k : Int) := by omega
      have q2 : (k : Int) < (xs.length : Int) := by omega
      go_wp2_with fail
      go_quiet (fail)
      go_wp2_with fail
      go_roundw
      case rel => exact ⟨k + 1, by omega, by go_num, bdN hb _⟩
      case measure => simp [intOf]; omega
    · go_wp2_with fail
      go_ret
      exact ⟨rfl, hb⟩

end Go.Proofs.Ytnndnpckkcgfiaa
