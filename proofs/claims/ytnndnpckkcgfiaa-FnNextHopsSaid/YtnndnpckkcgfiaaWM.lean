/-
  The walks of the draws of a law's arguments: a graph that the call itself has made, and numbers.
-/
import Derived.Test.YtnndnpckkcgfiaaWL
namespace Go.Proofs.Ytnndnpckkcgfiaa
open Go.RowKit

/-- the graph of a law, drawn: its slice is the call's own -/
def Gr (w w' : World) (A : Option Addr) (cp : Nat) (ls : List Lk) : Prop := OwL w' w.heap.size A cp ls ∧ ls.length ≤ 16 ∧ Below w.heap.size w w'
def DrawG (w : World) (e : Ending) (w' : World) : Prop := ∃ nd A cp ls, e = .returned (.agg #[.int .i64 nd, .slice A ls.length cp]) ∧ Gr w w' A cp ls
def DrawG1 (w : World) (e : Ending) (w' : World) : Prop := ∃ nd A cp ls x, e = .returned (.tuple #[.agg #[.int .i64 nd, .slice A ls.length cp], .int .i64 x]) ∧ Gr w w' A cp ls
def DrawG2 (w : World) (e : Ending) (w' : World) : Prop := ∃ nd A cp ls x y, e = .returned (.tuple #[.agg #[.int .i64 nd, .slice A ls.length cp], .int .i64 x, .int .i64 y]) ∧ Gr w w' A cp ls
def DrawG3 (w : World) (e : Ending) (w' : World) : Prop := ∃ nd A cp ls x y z, e = .returned (.tuple #[.agg #[.int .i64 nd, .slice A ls.length cp], .int .i64 x, .int .i64 y, .int .i64 z]) ∧ Gr w w' A cp ls

/-- under way: the result's block is the first, the reader's the second, the graph's slice is drawn -/
structure DS (w wr : World) (M : Nat) (A : Option Addr) (cp : Nat) (ls : List Lk) : Prop where
  rd : Rdr wr (w.heap.size + 1) M
  h : Blk wr w.heap.size 25 [.int .i64 0, .slice none 0 0]
  own : OwL wr w.heap.size A cp ls
  bl : Below w.heap.size w wr
theorem DS.keep {w wr w1 : World} {M : Nat} {A : Option Addr} {cp : Nat} {ls : List Lk} (h : DS w wr M A cp ls) (hb : Below wr.heap.size wr w1) : DS w w1 M A cp ls :=
  ⟨h.rd.keep hb, h.h.keep hb, h.own.keep hb, bthen h.bl hb⟩
theorem DS.pick {w wr w1 : World} {M M' : Nat} {A : Option Addr} {cp : Nat} {ls : List Lk} (h : DS w wr M A cp ls) (hr : Rdr w1 (w.heap.size + 1) M') (hg : wr.grownBy w1 (some (w.heap.size + 1))) : DS w w1 M' A cp ls := by
  refine ⟨hr, h.h.grown hg (by simp), ?_, h.bl.trans (belowg hg (by omega) h.bl.size)⟩
  obtain ⟨A', bs, cp', p, k1, _⟩ := h.rd
  exact World.ownsRow.kept h.own hg (.inr (own_ne h.own k1 (by decide)))
theorem DS.start {w w1 w2 : World} {M : Nat} {A : Option Addr} {cp : Nat} {ls : List Lk} (hh : Blk w1 w.heap.size 25 [.int .i64 0, .slice none 0 0]) (hb : Below w.heap.size w w1) (ho : OwL w2 w1.heap.size A cp ls) (hr : Rdr w2 (w.heap.size + 1) M) (hg : w1.grownBy w2 (some (w.heap.size + 1))) : DS w w2 M A cp ls :=
  ⟨hr, hh.grown hg (by simp), ownsRow_base ho hb.size, hb.trans (belowg hg (by omega) hb.size)⟩
/-- the result's cells are stored -/
theorem DS.done {w wr : World} {M : Nat} {A : Option Addr} {cp : Nat} {ls : List Lk} (h : DS w wr M A cp ls) (hl : ls.length ≤ 16) (u v : Value) : Gr w ((wr.setCell ⟨w.heap.size, 0, none⟩ u).setCell ⟨w.heap.size, 1, none⟩ v) A cp ls :=
  ⟨own_st (own_st h.own h.h (by decide) 0 u) (h.h.stored 0 u) (by decide) 1 v, hl, (h.bl.setCell (p := ⟨w.heap.size, 0, none⟩) (Nat.le_refl _) u).setCell (p := ⟨w.heap.size, 1, none⟩) (Nat.le_refl _) v⟩





set_option maxRecDepth 100000 in
set_option maxHeartbeats 1000000 in
theorem drawGraphLink_any (A : Option Addr) (cp : Nat) (bs : List Int) (w : World) (h : RdB w w.heap.size A bs) (hlen : bs.length ≤ 9223372036854775807) (hcap : bs.length ≤ cp) :
    Calls Try.prog 60 #[.slice A bs.length cp] w (DrawG2 w) := by
  go_enter Try.func60, Try.ntmps60
  go_wp2_with fail
  refine (l6Open_any A cp bs _ (h.on (bnew _ _)) hlen hcap).mono ?_
  rintro e w1 ⟨rfl, hr1, hb1⟩
  have H1 : Blk w1 w.heap.size 25 [.int .i64 0, .slice none 0 0] := (Blk.new _ _ _).keep hb1
  have B1 := bthen (bnew _ _) hb1
  rw [show (w.alloc (.cells #[.int .i64 0, .slice none 0 0] 25)).heap.size = w.heap.size + 1 from by simp] at hr1
  clear hb1
  go_wp2_with fail
  refine (l91Spoilt_any _ 0 _ hr1 (by omega)).mono ?_
  rintro e w2 ⟨nd, A2, cp2, ls, rfl, ho2, hl2, hr2, hg2⟩
  have D2 := DS.start H1 B1 ho2 hr2 hg2
  clear H1 B1 ho2 hr2 hg2 hr1
  have E0 : DS w (w2.alloc (.cells #[.int .i64 nd, .slice A2 ls.length cp2] 25)) (0 + 1010) A2 cp2 ls := D2.keep (bnew _ _)
  have lR := D2.rd.lt
  go_wp2_with fail
  refine (l91Node_any _ _ nd A2 ls.length cp2 _ E0.rd (by omega)).mono ?_
  rintro e v0 ⟨x, rfl, hr, hg⟩
  have E1 := E0.pick hr hg
  have p0_1 : v0.cell? ⟨w2.heap.size, 0, none⟩ = some (.int .i64 nd) := gcell (by go_simp) hg (by simp; omega)
  have p0_2 : v0.cell? ⟨w2.heap.size, 1, none⟩ = some (.slice A2 ls.length cp2) := gcell (by go_simp) hg (by simp; omega)
  clear hr hg E0
  have E := E1.keep (Below.refl _ _).drew
  clear E1
  go_wp2_with fail
  go_region_with (go_at_call 50; refine (l91Node_any _ _ nd A2 ls.length cp2 _ E.rd (by omega)).mono ?_; rintro e w4 ⟨y, rfl, hr, hg⟩; have D4 := E.pick hr hg; have k1 : w4.cell? ⟨w2.heap.size, 0, none⟩ = some (.int .i64 nd) := gcell (a := v0.drew) p0_1 hg (by simp; omega); have k2 : w4.cell? ⟨w2.heap.size, 1, none⟩ = some (.slice A2 ls.length cp2) := gcell (a := v0.drew) p0_2 hg (by simp; omega); have k3 : w4.cell? ⟨w.heap.size, 0, none⟩ = some (.int .i64 0) := D4.h.cellAt 0; have k4 : w4.cell? ⟨w.heap.size, 1, none⟩ = some (.slice none 0 0) := D4.h.cellAt 1; have f3 := D4.h.frozenAt 0; have f4 := D4.h.frozenAt 1)
  all_goals
    go_wp2_with fail
    refine bodyPost_ret (v := .tuple #[.agg #[.int .i64 nd, .slice A2 ls.length cp2], .int .i64 x, .int .i64 y]) (by simp [results, Try.results60, go_sem, k3, k4]) rfl ?_
    exact ⟨nd, A2, cp2, ls, x, y, rfl, D4.done hl2 _ _⟩


set_option maxRecDepth 100000 in
set_option maxHeartbeats 1000000 in
theorem drawLinkUsed_any (A : Option Addr) (cp : Nat) (bs : List Int) (w : World) (h : RdB w w.heap.size A bs) (hlen : bs.length ≤ 9223372036854775807) (hcap : bs.length ≤ cp) :
    Calls Try.prog 42 #[.slice A bs.length cp] w (DrawG3 w) := by
  go_enter Try.func42, Try.ntmps42
  go_wp2_with fail
  refine (l6Open_any A cp bs _ (h.on (bnew _ _)) hlen hcap).mono ?_
  rintro e w1 ⟨rfl, hr1, hb1⟩
  have H1 : Blk w1 w.heap.size 25 [.int .i64 0, .slice none 0 0] := (Blk.new _ _ _).keep hb1
  have B1 := bthen (bnew _ _) hb1
  rw [show (w.alloc (.cells #[.int .i64 0, .slice none 0 0] 25)).heap.size = w.heap.size + 1 from by simp] at hr1
  clear hb1
  go_wp2_with fail
  refine (l91Spoilt_any _ 0 _ hr1 (by omega)).mono ?_
  rintro e w2 ⟨nd, A2, cp2, ls, rfl, ho2, hl2, hr2, hg2⟩
  have D2 := DS.start H1 B1 ho2 hr2 hg2
  clear H1 B1 ho2 hr2 hg2 hr1
  have E0 : DS w (w2.alloc (.cells #[.int .i64 nd, .slice A2 ls.length cp2] 25)) (0 + 1010) A2 cp2 ls := D2.keep (bnew _ _)
  have lR := D2.rd.lt
  go_wp2_with fail
  refine (l91Node_any _ _ nd A2 ls.length cp2 _ E0.rd (by omega)).mono ?_
  rintro e v0 ⟨x, rfl, hr, hg⟩
  have E1 := E0.pick hr hg
  have p0_1 : v0.cell? ⟨w2.heap.size, 0, none⟩ = some (.int .i64 nd) := gcell (by go_simp) hg (by simp; omega)
  have p0_2 : v0.cell? ⟨w2.heap.size, 1, none⟩ = some (.slice A2 ls.length cp2) := gcell (by go_simp) hg (by simp; omega)
  clear hr hg E0
  go_wp2_with fail
  refine (l91Node_any _ _ nd A2 ls.length cp2 _ E1.rd (by omega)).mono ?_
  rintro e v1 ⟨y, rfl, hr, hg⟩
  have E2 := E1.pick hr hg
  have p1_1 := gcell p0_1 hg (by simp; omega)
  have p1_2 := gcell p0_2 hg (by simp; omega)
  clear hr hg E1 p0_1 p0_2
  have E := E2.keep (Below.refl _ _).drew
  clear E2
  go_wp2_with fail
  go_region_with (go_at_call 74; refine (l91Link_any _ _ nd A2 ls.length cp2 _ E.rd (by omega)).mono ?_; rintro e w4 ⟨z, rfl, hr, hg⟩; have D4 := E.pick hr hg; have k1 : w4.cell? ⟨w2.heap.size, 0, none⟩ = some (.int .i64 nd) := gcell (a := v1.drew) p1_1 hg (by simp; omega); have k2 : w4.cell? ⟨w2.heap.size, 1, none⟩ = some (.slice A2 ls.length cp2) := gcell (a := v1.drew) p1_2 hg (by simp; omega); have k3 : w4.cell? ⟨w.heap.size, 0, none⟩ = some (.int .i64 0) := D4.h.cellAt 0; have k4 : w4.cell? ⟨w.heap.size, 1, none⟩ = some (.slice none 0 0) := D4.h.cellAt 1; have f3 := D4.h.frozenAt 0; have f4 := D4.h.frozenAt 1)
  all_goals
    go_wp2_with fail
    refine bodyPost_ret (v := .tuple #[.agg #[.int .i64 nd, .slice A2 ls.length cp2], .int .i64 x, .int .i64 y, .int .i64 z]) (by simp [results, Try.results42, go_sem, k3, k4]) rfl ?_
    exact ⟨nd, A2, cp2, ls, x, y, z, rfl, D4.done hl2 _ _⟩

set_option maxRecDepth 100000 in
set_option maxHeartbeats 1000000 in
theorem drawNodeUsed_any (A : Option Addr) (cp : Nat) (bs : List Int) (w : World) (h : RdB w w.heap.size A bs) (hlen : bs.length ≤ 9223372036854775807) (hcap : bs.length ≤ cp) :
    Calls Try.prog 15 #[.slice A bs.length cp] w (DrawG3 w) := by
  go_enter Try.func15, Try.ntmps15
  go_wp2_with fail
  refine (l6Open_any A cp bs _ (h.on (bnew _ _)) hlen hcap).mono ?_
  rintro e w1 ⟨rfl, hr1, hb1⟩
  have H1 : Blk w1 w.heap.size 25 [.int .i64 0, .slice none 0 0] := (Blk.new _ _ _).keep hb1
  have B1 := bthen (bnew _ _) hb1
  rw [show (w.alloc (.cells #[.int .i64 0, .slice none 0 0] 25)).heap.size = w.heap.size + 1 from by simp] at hr1
  clear hb1
  go_wp2_with fail
  refine (l91Spoilt_any _ 0 _ hr1 (by omega)).mono ?_
  rintro e w2 ⟨nd, A2, cp2, ls, rfl, ho2, hl2, hr2, hg2⟩
  have D2 := DS.start H1 B1 ho2 hr2 hg2
  clear H1 B1 ho2 hr2 hg2 hr1
  have E0 : DS w (w2.alloc (.cells #[.int .i64 nd, .slice A2 ls.length cp2] 25)) (0 + 1010) A2 cp2 ls := D2.keep (bnew _ _)
  have lR := D2.rd.lt
  go_wp2_with fail
  refine (l91Node_any _ _ nd A2 ls.length cp2 _ E0.rd (by omega)).mono ?_
  rintro e v0 ⟨x, rfl, hr, hg⟩
  have E1 := E0.pick hr hg
  have p0_1 : v0.cell? ⟨w2.heap.size, 0, none⟩ = some (.int .i64 nd) := gcell (by go_simp) hg (by simp; omega)
  have p0_2 : v0.cell? ⟨w2.heap.size, 1, none⟩ = some (.slice A2 ls.length cp2) := gcell (by go_simp) hg (by simp; omega)
  clear hr hg E0
  go_wp2_with fail
  refine (l91Node_any _ _ nd A2 ls.length cp2 _ E1.rd (by omega)).mono ?_
  rintro e v1 ⟨y, rfl, hr, hg⟩
  have E2 := E1.pick hr hg
  have p1_1 := gcell p0_1 hg (by simp; omega)
  have p1_2 := gcell p0_2 hg (by simp; omega)
  clear hr hg E1 p0_1 p0_2
  have E := E2.keep (Below.refl _ _).drew
  clear E2
  go_wp2_with fail
  go_region_with (go_at_call 50; refine (l91Node_any _ _ nd A2 ls.length cp2 _ E.rd (by omega)).mono ?_; rintro e w4 ⟨z, rfl, hr, hg⟩; have D4 := E.pick hr hg; have k1 : w4.cell? ⟨w2.heap.size, 0, none⟩ = some (.int .i64 nd) := gcell (a := v1.drew) p1_1 hg (by simp; omega); have k2 : w4.cell? ⟨w2.heap.size, 1, none⟩ = some (.slice A2 ls.length cp2) := gcell (a := v1.drew) p1_2 hg (by simp; omega); have k3 : w4.cell? ⟨w.heap.size, 0, none⟩ = some (.int .i64 0) := D4.h.cellAt 0; have k4 : w4.cell? ⟨w.heap.size, 1, none⟩ = some (.slice none 0 0) := D4.h.cellAt 1; have f3 := D4.h.frozenAt 0; have f4 := D4.h.frozenAt 1)
  all_goals
    go_wp2_with fail
    refine bodyPost_ret (v := .tuple #[.agg #[.int .i64 nd, .slice A2 ls.length cp2], .int .i64 x, .int .i64 y, .int .i64 z]) (by simp [results, Try.results15, go_sem, k3, k4]) rfl ?_
    exact ⟨nd, A2, cp2, ls, x, y, z, rfl, D4.done hl2 _ _⟩





set_option maxRecDepth 100000 in
set_option maxHeartbeats 1000000 in
theorem drawNextHops_any (A : Option Addr) (cp : Nat) (bs : List Int) (w : World) (h : RdB w w.heap.size A bs) (hlen : bs.length ≤ 9223372036854775807) (hcap : bs.length ≤ cp) :
    Calls Try.prog 37 #[.slice A bs.length cp] w (DrawG2 w) := by
  go_enter Try.func37, Try.ntmps37
  go_wp2_with fail
  refine (drawGraphLink_any A cp bs _ (h.on (bnew _ _)) hlen hcap).mono ?_
  rintro e w1 ⟨nd, A2, cp2, ls, x, y, rfl, ho, hl2, hb1⟩
  have H1 : Blk w1 w.heap.size 25 [.int .i64 0, .slice none 0 0] := (Blk.new _ _ _).keep hb1
  have k3 : w1.cell? ⟨w.heap.size, 0, none⟩ = some (.int .i64 0) := H1.cellAt 0
  have k4 : w1.cell? ⟨w.heap.size, 1, none⟩ = some (.slice none 0 0) := H1.cellAt 1
  have f3 := H1.frozenAt 0
  have f4 := H1.frozenAt 1
  have B1 := bthen (bnew w (.cells #[.int .i64 0, .slice none 0 0] 25)) hb1
  have O1 : OwL w1 w.heap.size A2 cp2 ls := ownsRow_base ho (by simp)
  clear hb1 ho
  go_wp2_with fail
  refine bodyPost_ret (v := .tuple #[.agg #[.int .i64 nd, .slice A2 ls.length cp2], .int .i64 x, .int .i64 y]) (by simp [results, Try.results37, go_sem, k3, k4]) rfl ?_
  exact ⟨nd, A2, cp2, ls, x, y, rfl, own_st (own_st O1 H1 (by decide) 0 _) (H1.stored 0 _) (by decide) 1 _, hl2, (B1.setCell (p := ⟨w.heap.size, 0, none⟩) (Nat.le_refl _) _).setCell (p := ⟨w.heap.size, 1, none⟩) (Nat.le_refl _) _⟩

set_option maxRecDepth 100000 in
set_option maxHeartbeats 1000000 in
theorem drawShortestPath_any (A : Option Addr) (cp : Nat) (bs : List Int) (w : World) (h : RdB w w.heap.size A bs) (hlen : bs.length ≤ 9223372036854775807) (hcap : bs.length ≤ cp) :
    Calls Try.prog 25 #[.slice A bs.length cp] w (DrawG2 w) := by
  go_enter Try.func25, Try.ntmps25
  go_wp2_with fail
  refine (drawGraphLink_any A cp bs _ (h.on (bnew _ _)) hlen hcap).mono ?_
  rintro e w1 ⟨nd, A2, cp2, ls, x, y, rfl, ho, hl2, hb1⟩
  have H1 : Blk w1 w.heap.size 25 [.int .i64 0, .slice none 0 0] := (Blk.new _ _ _).keep hb1
  have k3 : w1.cell? ⟨w.heap.size, 0, none⟩ = some (.int .i64 0) := H1.cellAt 0
  have k4 : w1.cell? ⟨w.heap.size, 1, none⟩ = some (.slice none 0 0) := H1.cellAt 1
  have f3 := H1.frozenAt 0
  have f4 := H1.frozenAt 1
  have B1 := bthen (bnew w (.cells #[.int .i64 0, .slice none 0 0] 25)) hb1
  have O1 : OwL w1 w.heap.size A2 cp2 ls := ownsRow_base ho (by simp)
  clear hb1 ho
  go_wp2_with fail
  refine bodyPost_ret (v := .tuple #[.agg #[.int .i64 nd, .slice A2 ls.length cp2], .int .i64 x, .int .i64 y]) (by simp [results, Try.results25, go_sem, k3, k4]) rfl ?_
  exact ⟨nd, A2, cp2, ls, x, y, rfl, own_st (own_st O1 H1 (by decide) 0 _) (H1.stored 0 _) (by decide) 1 _, hl2, (B1.setCell (p := ⟨w.heap.size, 0, none⟩) (Nat.le_refl _) _).setCell (p := ⟨w.heap.size, 1, none⟩) (Nat.le_refl _) _⟩

set_option maxRecDepth 100000 in
set_option maxHeartbeats 1000000 in
theorem drawPathCount_any (A : Option Addr) (cp : Nat) (bs : List Int) (w : World) (h : RdB w w.heap.size A bs) (hlen : bs.length ≤ 9223372036854775807) (hcap : bs.length ≤ cp) :
    Calls Try.prog 22 #[.slice A bs.length cp] w (DrawG2 w) := by
  go_enter Try.func22, Try.ntmps22
  go_wp2_with fail
  refine (drawGraphLink_any A cp bs _ (h.on (bnew _ _)) hlen hcap).mono ?_
  rintro e w1 ⟨nd, A2, cp2, ls, x, y, rfl, ho, hl2, hb1⟩
  have H1 : Blk w1 w.heap.size 25 [.int .i64 0, .slice none 0 0] := (Blk.new _ _ _).keep hb1
  have k3 : w1.cell? ⟨w.heap.size, 0, none⟩ = some (.int .i64 0) := H1.cellAt 0
  have k4 : w1.cell? ⟨w.heap.size, 1, none⟩ = some (.slice none 0 0) := H1.cellAt 1
  have f3 := H1.frozenAt 0
  have f4 := H1.frozenAt 1
  have B1 := bthen (bnew w (.cells #[.int .i64 0, .slice none 0 0] 25)) hb1
  have O1 : OwL w1 w.heap.size A2 cp2 ls := ownsRow_base ho (by simp)
  clear hb1 ho
  go_wp2_with fail
  refine bodyPost_ret (v := .tuple #[.agg #[.int .i64 nd, .slice A2 ls.length cp2], .int .i64 x, .int .i64 y]) (by simp [results, Try.results22, go_sem, k3, k4]) rfl ?_
  exact ⟨nd, A2, cp2, ls, x, y, rfl, own_st (own_st O1 H1 (by decide) 0 _) (H1.stored 0 _) (by decide) 1 _, hl2, (B1.setCell (p := ⟨w.heap.size, 0, none⟩) (Nat.le_refl _) _).setCell (p := ⟨w.heap.size, 1, none⟩) (Nat.le_refl _) _⟩


end Go.Proofs.Ytnndnpckkcgfiaa
