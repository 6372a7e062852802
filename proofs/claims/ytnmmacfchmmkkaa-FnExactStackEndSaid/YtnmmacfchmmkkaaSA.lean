/-
  Labels: a slice of them that reads as a list; the walks of the laws' helpers on them.
-/
import Derived.Test.YtnmmacfchmmkkaaWF
namespace Go.Proofs.Ytnmmacfchmmkkaa
open Go.RowKit
set_option maxRecDepth 100000

/-- a label: its kind, its argument -/
structure Lab where
  k : Int
  a : Int
def dlab : Lab := ⟨0, 0⟩
def Kk (xs : List Lab) (j : Nat) : Int := (xs.getD j dlab).k
def Ka (xs : List Lab) (j : Nat) : Int := (xs.getD j dlab).a
/-- the slice with address A reads as the labels xs; it lies below block B -/
def RdP (w : World) (B : Nat) (A : Option Addr) (xs : List Lab) : Prop :=
  0 < xs.length → ∃ g o, A = some ⟨g, o, none⟩ ∧ g < B ∧ ∀ j, j < xs.length →
    w.cell? ⟨g, o + j * 2, none⟩ = some (.int .i64 (Kk xs j)) ∧ w.cell? ⟨g, o + j * 2 + 1, none⟩ = some (.int .i64 (Ka xs j))
theorem RdP.keep {w w' : World} {B : Nat} {A : Option Addr} {xs : List Lab} (h : RdP w B A xs) (hb : Below B w w') : RdP w' B A xs := fun h0 => by
  obtain ⟨g, o, e, hg, hc⟩ := h h0
  refine ⟨g, o, e, hg, fun k hk => ?_⟩
  obtain ⟨c1, c2⟩ := hc k hk
  exact ⟨(hb.cell (by exact hg)).trans c1, (hb.cell (by exact hg)).trans c2⟩
theorem RdP.more {w : World} {B B' : Nat} {A : Option Addr} {xs : List Lab} (h : RdP w B A xs) (hB : B ≤ B') : RdP w B' A xs := fun h0 => by
  obtain ⟨g, o, e, hg, hc⟩ := h h0
  exact ⟨g, o, e, by omega, hc⟩
theorem RdP.on {w w' : World} {A : Option Addr} {xs : List Lab} (h : RdP w w.heap.size A xs) (hb : Below w.heap.size w w') : RdP w' w'.heap.size A xs := (h.keep hb).more hb.size
def cellsP : List Lab → List Value
  | [] => []
  | l :: r => .int .i64 l.k :: .int .i64 l.a :: cellsP r
theorem length_cellsP (xs : List Lab) : (cellsP xs).length = xs.length * 2 := by
  induction xs with
  | nil => rfl
  | cons l r ih => simp only [cellsP, List.length_cons, ih]; omega
theorem cellsP_at (xs : List Lab) (j : Nat) (hj : j < xs.length) : (cellsP xs)[j * 2]? = some (.int .i64 (Kk xs j)) ∧ (cellsP xs)[j * 2 + 1]? = some (.int .i64 (Ka xs j)) := by
  induction xs generalizing j with
  | nil => simp at hj
  | cons l r ih =>
    cases j with
    | zero => exact ⟨rfl, rfl⟩
    | succ j =>
      have := ih j (by simpa using hj)
      have e : (j + 1) * 2 = j * 2 + 1 + 1 := by omega
      simp only [cellsP, e, List.getElem?_cons_succ]
      exact this
theorem cellsP_set (xs : List Lab) (j : Nat) (l : Lab) (hj : j < xs.length) : cellsP (xs.set j l) = ((cellsP xs).set (j * 2) (.int .i64 l.k)).set (j * 2 + 1) (.int .i64 l.a) := by
  induction xs generalizing j with
  | nil => simp at hj
  | cons x r ih =>
    cases j with
    | zero => rfl
    | succ j =>
      have h := ih j (by simpa using hj)
      simp only [List.set_cons_succ, cellsP, h]
      rw [show (j + 1) * 2 = j * 2 + 1 + 1 from by omega]
      simp only [List.set_cons_succ]
def partP (xs : List Lab) (k : Nat) : List Lab := xs.take k ++ List.replicate (xs.length - k) dlab
theorem partP_zero (xs : List Lab) : partP xs 0 = List.replicate xs.length dlab := by simp [partP]
theorem partP_full (xs : List Lab) : partP xs xs.length = xs := by simp [partP]
theorem partP_length (xs : List Lab) (k : Nat) (hk : k ≤ xs.length) : (partP xs k).length = xs.length := by simp [partP]; omega
theorem partP_succ (xs : List Lab) (k : Nat) (hk : k < xs.length) : partP xs (k + 1) = (partP xs k).set k ⟨Kk xs k, Ka xs k⟩ := by
  have e : (⟨Kk xs k, Ka xs k⟩ : Lab) = xs[k] := by simp [Kk, Ka, hk]
  rw [e]
  unfold partP
  rw [show xs.length - k = (xs.length - (k + 1)) + 1 from by omega, List.replicate_succ]
  rw [List.set_append_right _ _ (by simp; omega)]
  rw [show k - (xs.take k).length = 0 from by simp; omega]
  simp only [List.set_cons_zero]
  rw [List.take_succ_eq_append_getElem hk, List.append_assoc]
  rfl
theorem Blk.rdP {w : World} {g : Nat} {xs : List Lab} {t : TypeId} (h : Blk w g t (cellsP xs)) : RdP w w.heap.size (some ⟨g, 0, none⟩) xs := fun _ => by
  refine ⟨g, 0, rfl, h.lt, fun j hj => ?_⟩
  obtain ⟨c1, c2⟩ := cellsP_at xs j hj
  rw [Nat.zero_add]
  exact ⟨(h.cellAt _).trans c1, (h.cellAt _).trans c2⟩
def zP (n : Nat) : Array Value := (cellsP (List.replicate n dlab)).toArray
theorem cellsP_zero (n : Nat) : cellsP (List.replicate n dlab) = List.replicate (n * 2) (Value.int .i64 0) := by
  induction n with
  | zero => rfl
  | succ n ih => rw [List.replicate_succ, show (n + 1) * 2 = n * 2 + 1 + 1 from by omega]; simp only [cellsP, ih, List.replicate_succ]; rfl
theorem run_mkP {P : Program} (t e : TypeId) (i : TypeInfo) (ht : P.underlying t = some (.slice e)) (hi : P.info? e = some i) (hz : i.zero = some (.agg #[.int .i64 0, .int .i64 0])) (hs : i.size = 2) (hb : i.bytes = 16)
    (n : Nat) (hn : n ≤ 1048576) (w : World) :
    (Instr.makeSlice t (.int .i64 (n : Int)) (.int .i64 (n : Int))).run P w = .ok (.slice (some ⟨w.heap.size, 0, none⟩) n n) (w.alloc (.cells (zP n) e)) := by
  have h := run_make (P := P) w t e i _ ht hi hz .i64 .i64 n n (by omega) (by omega) (by rw [hb]; omega) (by omega)
  simp only [Int.toNat_natCast, hs] at h
  rw [h, madeCells_same _ (.int .i64 0) (by simp [Value.cells]) (by intro i hi; simp [Value.cells] at hi; match i, hi with | 0, _ => rfl | 1, _ => rfl)]
  unfold zP
  rw [cellsP_zero]
  simp
theorem Try.infoLab : (Try.prog.info? 45).map (fun i => (i.zero, i.size, i.bytes)) = some (some (.agg #[.int .i64 0, .int .i64 0]), 2, 16) := by kernel_rfl

theorem szLabelS_any (A : Option Addr) (n cp : Nat) (left : Int) (w : World) (h0 : left ≤ 1048576) (hn : (n : Int) ≤ left) :
    Calls Try.prog 5 #[.slice A n cp, .int .i64 left] w fun e w' => e = .returned (.int .i64 (left - n)) ∧ w = w' := by
  go_enter Try.func5, Try.ntmps5
  go_wp2
  go_ret
  exact ⟨rfl, rfl⟩
theorem szLabelS_big (A : Option Addr) (n cp : Nat) (left : Int) (w : World) (h0 : 0 ≤ left) (h1 : left ≤ 1048576) (hn : left < (n : Int)) (hm : n ≤ 9223372036854775807) :
    Calls Try.prog 5 #[.slice A n cp, .int .i64 left] w fun e w' => e = .returned (.int .i64 (-1)) ∧ w = w' := by
  go_enter Try.func5, Try.ntmps5
  go_wp2
  go_ret
  exact ⟨rfl, rfl⟩
set_option maxHeartbeats 1000000 in
theorem toLabel_any (x y : Int) (w : World) :
    Calls Try.prog 15 #[.agg #[.int .i64 x, .int .i64 y]] w fun e w' => e = .returned (.agg #[.int .i64 x, .int .i64 y]) ∧ Below w.heap.size w w' := by
  go_enter Try.func15, Try.ntmps15
  go_wp2
  refine bodyPost_ret (v := .agg #[.int .i64 x, .int .i64 y]) (by simp [results, Try.results15, go_sem]) rfl ⟨rfl, ?_⟩
  exact b3 _ _ _ _
set_option maxHeartbeats 1000000 in
theorem eqLabel_any (x y : Int) (w : World) :
    Calls Try.prog 18 #[.agg #[.int .i64 x, .int .i64 y], .agg #[.int .i64 x, .int .i64 y]] w fun e w' => e = .returned (.bool true) ∧ Below w.heap.size w w' := by
  go_enter Try.func18, Try.ntmps18
  go_wp2
  go_ret
  exact ⟨rfl, b2 _ _ _⟩
set_option maxHeartbeats 1000000 in
theorem eqLabelS_any (A B : Option Addr) (ca cb : Nat) (xs : List Lab) (w : World) (hlen : xs.length ≤ 9223372036854775806) (hr : RdP w w.heap.size A xs) (hq : RdP w w.heap.size B xs) :
    Calls Try.prog 11 #[.slice A xs.length ca, .slice B xs.length cb] w fun e w' => e = .returned (.bool true) ∧ Below w.heap.size w w' := by
  go_enter Try.func11, Try.ntmps11
  go_wp2_with fail
  go_loopw [5] (fun i wr => ∃ k : Nat, k ≤ xs.length ∧ i = .int .i64 k ∧ Below w.heap.size w wr) (fun i _ => xs.length - (intOf i).toNat)
  case atStart => exact ⟨0, Nat.zero_le _, rfl, Below.refl _ _⟩
  case round =>
    obtain ⟨k, hk, rfl, hb⟩ := hrel
    by_cases hlt : k < xs.length
    · obtain ⟨ad, o, hA, hbk, hc⟩ := hr (by omega)
      obtain ⟨c1, c2⟩ := hc k hlt
      obtain rfl := hA
      have c1' := (hb.cell (by exact hbk)).trans c1
      have c2' := (hb.cell (by exact hbk)).trans c2
      clear c1 c2 hc
      obtain ⟨bd, p, hB, hbk', hc⟩ := hq (by omega)
      obtain ⟨c1, c2⟩ := hc k hlt
      obtain rfl := hB
      have d1' := (hb.cell (by exact hbk')).trans c1
      have d2' := (hb.cell (by exact hbk')).trans c2
      have hs := hb.size
      clear c1 c2 hc
      have q1 : (0 : Int) ≤ (k : Int) := by omega
      have q2 : (k : Int) < (xs.length : Int) := by omega
      go_wp2_with fail
      go_still_tail 8, (by kernel_rfl)
      change wpList _ _ _ _ _ wr.drew
      go_wp2_with (go_at_call 18; refine (eqLabel_any _ _ _).mono ?_; rintro e w1 ⟨rfl, hb1⟩)
      go_roundw
      case rel => exact ⟨k + 1, by omega, by go_num, hb.drew.trans (hb1.mono hs)⟩
      case measure => simp [intOf]; omega
    · go_wp2_with fail
      go_ret
      exact ⟨rfl, hb⟩
set_option maxHeartbeats 1000000 in
theorem toLabelS_any (A : Option Addr) (cp : Nat) (xs : List Lab) (w : World) (hlen : xs.length ≤ 1048576) (hr : RdP w w.heap.size A xs) :
    Calls Try.prog 8 #[.slice A xs.length cp] w fun e w' => (∃ B cq, e = .returned (.slice B xs.length cq) ∧ RdP w' w'.heap.size B xs) ∧ Below w.heap.size w w' := by
  obtain ⟨i0, hi, hz0, hz1, hz2⟩ := info_parts Try.infoLab
  have hmk := run_mkP 34 45 i0 Try.underlying34 hi hz0 hz1 hz2 xs.length hlen
  clear hi hz0 hz1 hz2
  go_enter Try.func8, Try.ntmps8
  go_wp2_with fail
  go_loopw [4] (fun i wr => ∃ k : Nat, k ≤ xs.length ∧ i = .int .i64 k ∧ Below w.heap.size w wr ∧ Blk wr w.heap.size 45 (cellsP (partP xs k))) (fun i _ => xs.length - (intOf i).toNat)
  case atStart => exact ⟨0, Nat.zero_le _, rfl, bnew _ _, by rw [partP_zero]; exact Blk.new _ _ _⟩
  case round =>
    obtain ⟨k, hk, rfl, hb, hblk⟩ := hrel
    by_cases hlt : k < xs.length
    · obtain ⟨ad, o, hA, hbk, hc⟩ := hr (by omega)
      obtain ⟨c1, c2⟩ := hc k hlt
      obtain rfl := hA
      have c1' := (hb.cell (by exact hbk)).trans c1
      have c2' := (hb.cell (by exact hbk)).trans c2
      have hs := hb.size
      clear c1 c2 hc
      go_wp2_with fail
      refine (toLabel_any _ _ _).mono ?_
      rintro e w1 ⟨rfl, hb1⟩
      have HB1 := hblk.keep hb1
      have hl3 : (cellsP (partP xs k)).length = xs.length * 2 := by rw [length_cellsP, partP_length _ _ (by omega)]
      have hl0 := Lib.hid hl3; clear hl3
      have e1 : ∃ v, w1.cell? ⟨w.heap.size, k * 2, none⟩ = some v := ⟨_, (HB1.cellAt _).trans (List.getElem?_eq_getElem (by rw [hl0.out]; omega))⟩
      have e2 : ∃ v, w1.cell? ⟨w.heap.size, k * 2 + 1, none⟩ = some v := ⟨_, (HB1.cellAt _).trans (List.getElem?_eq_getElem (by rw [hl0.out]; omega))⟩
      obtain ⟨v1, e1⟩ := e1
      obtain ⟨v2, e2⟩ := e2
      have f1 := HB1.frozenAt (k * 2)
      have f2 := HB1.frozenAt (k * 2 + 1)
      go_wp2_with fail
      go_roundw
      case rel => exact ⟨k + 1, by omega, by go_num, ((hb.trans (hb1.mono hs)).setCell (Nat.le_refl _) _).setCell (Nat.le_refl _) _,
        by rw [partP_succ _ _ hlt, cellsP_set _ _ _ (by rw [partP_length _ _ (by omega)]; exact hlt)]; exact (HB1.stored _ _).stored _ _⟩
      case measure => simp [intOf]; omega
    · have HK : Hid (k = xs.length) := by show k = xs.length; omega
      go_wp2_with fail
      go_ret
      refine ⟨⟨_, _, rfl, ?_⟩, hb⟩
      rw [HK.out, partP_full] at hblk
      exact hblk.rdP

end Go.Proofs.Ytnmmacfchmmkkaa
