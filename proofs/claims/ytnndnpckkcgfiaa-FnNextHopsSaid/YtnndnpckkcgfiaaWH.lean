/-
  The walks of the reader of a code: l6Open and pick. What a pick answers is a number below its bound; it turns the reader's own block alone.
-/
import Derived.Test.YtnndnpckkcgfiaaWG
import Derived.Laws.BitsLemmas
namespace Go.Proofs.Ytnndnpckkcgfiaa
open Go.RowKit

/-- the slice with address A reads as the bytes bs, below block B -/
def RdB (w : World) (B : Nat) (A : Option Addr) (bs : List Int) : Prop :=
  0 < bs.length → ∃ g o, A = some ⟨g, o, none⟩ ∧ g < B ∧ ∀ k, k < bs.length → w.cell? ⟨g, o + k, none⟩ = some (.int .u8 (Ix bs k)) ∧ 0 ≤ Ix bs k ∧ Ix bs k ≤ 255
theorem RdB.keep {w w' : World} {B : Nat} {A : Option Addr} {bs : List Int} (h : RdB w B A bs) (hb : Below B w w') : RdB w' B A bs := fun h0 => by
  obtain ⟨g, o, e, hg, hc⟩ := h h0
  exact ⟨g, o, e, hg, fun k hk => ⟨(hb.cell (by exact hg)).trans (hc k hk).1, (hc k hk).2⟩⟩
theorem RdB.more {w : World} {B B' : Nat} {A : Option Addr} {bs : List Int} (h : RdB w B A bs) (hB : B ≤ B') : RdB w B' A bs := fun h0 => by
  obtain ⟨g, o, e, hg, hc⟩ := h h0
  exact ⟨g, o, e, by omega, hc⟩
theorem RdB.on {w w' : World} {A : Option Addr} {bs : List Int} (h : RdB w w.heap.size A bs) (hb : Below w.heap.size w w') : RdB w' w'.heap.size A bs := (h.keep hb).more hb.size
theorem RdB.take {w : World} {B : Nat} {A : Option Addr} {bs : List Int} (h : RdB w B A bs) (n : Nat) (hn : n ≤ bs.length) : RdB w B A (bs.take n) := fun h0 => by
  have hl : (bs.take n).length = n := by simp; omega
  obtain ⟨g, o, e, hg, hc⟩ := h (by omega)
  refine ⟨g, o, e, hg, fun k hk => ?_⟩
  have := hc k (by omega)
  have e : Ix (bs.take n) k = Ix bs k := by unfold Ix; simp only [List.getD_eq_getElem?_getD, List.getElem?_take]; rw [if_pos (by omega)]
  rw [e]; exact this

/-- the reader at block R has read no more than M bytes -/
def Rdr (w : World) (R M : Nat) : Prop :=
  ∃ (A : Option Addr) (bs : List Int) (cp p : Nat), Blk w R 72 [.slice A bs.length cp, .int .i64 p] ∧ RdB w R A bs ∧ bs.length ≤ 2000 ∧ p ≤ M
theorem Rdr.lt {w : World} {R M : Nat} (h : Rdr w R M) : R < w.heap.size := by
  obtain ⟨_, _, _, _, h1, _⟩ := h; exact h1.lt
theorem Rdr.keep {w w' : World} {R M : Nat} (h : Rdr w R M) (hb : Below w.heap.size w w') : Rdr w' R M := by
  obtain ⟨A, bs, cp, p, h1, h2, h3, h4⟩ := h
  exact ⟨A, bs, cp, p, h1.keep hb, h2.keep (hb.mono (by have := h1.lt; omega)), h3, h4⟩
theorem Rdr.more {w : World} {R M M' : Nat} (h : Rdr w R M) (hM : M ≤ M') : Rdr w R M' := by
  obtain ⟨A, bs, cp, p, h1, h2, h3, h4⟩ := h
  exact ⟨A, bs, cp, p, h1, h2, h3, by omega⟩

/-- what a pick below n answers, and what it does -/
def Picks (R M : Nat) (n : Int) (w : World) (e : Ending) (w' : World) : Prop :=
  ∃ x : Int, e = .returned (.int .i64 x) ∧ 0 ≤ x ∧ (1 ≤ n → x < n) ∧ (n < 1 → x = 0) ∧ Rdr w' R (M + 1) ∧ w.grownBy w' (some R)

theorem gdN {w w' : World} {row : Option Nat} (h : w.grownBy w' row) (n : Nat) : w.grownBy (w'.drewN n) row := ⟨h.os, h.tape, h.output, h.size, h.block⟩
theorem pk_drewN {w w1 : World} {R M : Nat} (h : Rdr w1 R M ∧ w.grownBy w1 (some R)) (n : Nat) : Rdr (w1.drewN n) R M ∧ w.grownBy (w1.drewN n) (some R) := ⟨h.1.keep (bdN (Below.refl _ _) n), gdN h.2 n⟩

theorem ofInt_small (a : Nat) (ha : a < 9223372036854775808) : (BitVec.ofInt 64 (a : Int)).toNat = a := by
  rw [BitVec.ofInt_natCast, BitVec.toNat_ofNat]; exact Nat.mod_eq_of_lt (by omega)
theorem i64_xor_nn {a b : Int} (ha : 0 ≤ a) (ha' : a ≤ 1000000000) (hb : 0 ≤ b) (hb' : b ≤ 1000000000) : 0 ≤ bits .xor .i64 a b ∧ bits .xor .i64 a b ≤ 9223372036854775807 := by
  obtain ⟨x, rfl⟩ := Int.eq_ofNat_of_zero_le ha
  obtain ⟨y, rfl⟩ := Int.eq_ofNat_of_zero_le hb
  have hx : x ^^^ y < 2 ^ 63 := Nat.xor_lt_two_pow (by omega) (by omega)
  have e : bits .xor .i64 (x : Int) (y : Int) = ((x ^^^ y : Nat) : Int) := by
    show IntKind.i64.wrap ((BitVec.ofInt 64 (x : Int) ^^^ BitVec.ofInt 64 (y : Int)).toNat : Int) = _
    rw [BitVec.toNat_xor, ofInt_small x (by omega), ofInt_small y (by omega), IntKind.wrap_i64]
    omega
  rw [e]
  omega

set_option maxRecDepth 100000 in
set_option maxHeartbeats 2000000 in
theorem pick_any (R M : Nat) (n : Int) (w : World) (h : Rdr w R M) (hM : M ≤ 1000000) :
    Calls Try.prog 80 #[.pointer (some ⟨R, 0, none⟩), .int .i64 n] w (Picks R M n w) := by
  obtain ⟨A, bs, cp, p, h1, h2, h3, h4⟩ := h
  have hc0 : w.cell? ⟨R, 0, none⟩ = some (.slice A bs.length cp) := h1.cellAt 0
  have hc1 : w.cell? ⟨R, 1, none⟩ = some (.int .i64 p) := h1.cellAt 1
  have hf1 := h1.frozenAt 1
  have hlt := h1.lt
  have H1 : Hid (Rdr (w.setCell ⟨R, 1, none⟩ (.int .i64 ((p : Int) + 1))) R (M + 1) ∧ w.grownBy (w.setCell ⟨R, 1, none⟩ (.int .i64 ((p : Int) + 1))) (some R)) := by
    refine ⟨⟨A, bs, cp, p + 1, h1.stored 1 _, h2.keep (Below.setCell (p := ⟨R, 1, none⟩) (Below.refl R w) (Nat.le_refl R) _), h3, by omega⟩, ?_⟩
    exact ⟨rfl, rfl, rfl, by simp [World.setCell], fun k hk hne => Below.heap_setCell _ _ _ _ (by rintro rfl; exact hne rfl)⟩
  by_cases hn : n < 1
  · go_enter Try.func80, Try.ntmps80
    go_wp2_with fail
    go_ret
    exact ⟨0, rfl, by omega, by omega, fun _ => rfl, H1.out⟩
  by_cases hl : bs.length < 1
  · have hl' : ((bs.length : Int) == 0) = true := by rw [beq_iff_eq]; omega
    go_enter Try.func80, Try.ntmps80
    go_wp2_with fail
    go_ret
    exact ⟨0, rfl, by omega, by omega, fun _ => rfl, H1.out⟩
  have hl' : ((bs.length : Int) == 0) = false := by rw [beq_eq_false_iff_ne]; omega
  obtain ⟨g, o, hA, hg, hc⟩ := h2 (by omega)
  obtain rfl := hA
  by_cases hk : p < bs.length
  · obtain ⟨c1, c2, c3⟩ := hc p hk
    have c1' : (w.setCell ⟨R, 1, none⟩ (.int .i64 ((p : Int) + 1))).cell? ⟨g, o + p, none⟩ = some (.int .u8 (Ix bs p)) := (World.cell?_setCell_other _ _ _ _ (by intro e; injection e; omega)).trans c1
    go_enter Try.func80, Try.ntmps80
    go_wp2_with fail
    go_ret
    exact ⟨Ix bs p % n, rfl, Int.emod_nonneg _ (by omega), fun _ => Int.emod_lt_of_pos _ (by omega), fun _ => by omega, H1.out⟩
  have q0 : (0 : Int) ≤ (p : Int) % (bs.length : Int) := Int.emod_nonneg _ (by omega)
  have q1 : (p : Int) % (bs.length : Int) < (bs.length : Int) := Int.emod_lt_of_pos _ (by omega)
  have q2 : (0 : Int) ≤ ((p : Int) * 7 + 3) % (bs.length : Int) := Int.emod_nonneg _ (by omega)
  have q3 : ((p : Int) * 7 + 3) % (bs.length : Int) < (bs.length : Int) := Int.emod_lt_of_pos _ (by omega)
  obtain ⟨c1, c2, c3⟩ := hc ((p : Int) % (bs.length : Int)).toNat (by omega)
  obtain ⟨d1, d2, d3⟩ := hc (((p : Int) * 7 + 3) % (bs.length : Int)).toNat (by omega)
  have c1' : (w.setCell ⟨R, 1, none⟩ (.int .i64 ((p : Int) + 1))).cell? ⟨g, o + ((p : Int) % (bs.length : Int)).toNat, none⟩ = some (.int .u8 (Ix bs ((p : Int) % (bs.length : Int)).toNat)) := (World.cell?_setCell_other _ _ _ _ (by intro e; injection e; omega)).trans c1
  have d1' : (w.setCell ⟨R, 1, none⟩ (.int .i64 ((p : Int) + 1))).cell? ⟨g, o + (((p : Int) * 7 + 3) % (bs.length : Int)).toNat, none⟩ = some (.int .u8 (Ix bs (((p : Int) * 7 + 3) % (bs.length : Int)).toNat)) := (World.cell?_setCell_other _ _ _ _ (by intro e; injection e; omega)).trans d1
  generalize Ix bs ((p : Int) % (bs.length : Int)).toNat = b1 at *
  generalize Ix bs (((p : Int) * 7 + 3) % (bs.length : Int)).toNat = b2 at *
  have hne : ¬ bs = [] := by rintro rfl; simp at hl
  have u0 : (0 : Int) ≤ (p : Int) / (bs.length : Int) := Int.ediv_nonneg (by omega) (by omega)
  have u1 : (p : Int) / (bs.length : Int) ≤ (p : Int) := Int.ediv_le_self _ (by omega)
  have m0 : Int.tdiv (p : Int) (bs.length : Int) = (p : Int) / (bs.length : Int) := Int.tdiv_eq_ediv_of_nonneg (by omega)
  have m1 : Int.tmod (p : Int) (bs.length : Int) = (p : Int) % (bs.length : Int) := Int.tmod_eq_emod_of_nonneg (by omega)
  have m2 : Int.tmod ((p : Int) * 7 + 3) (bs.length : Int) = ((p : Int) * 7 + 3) % (bs.length : Int) := Int.tmod_eq_emod_of_nonneg (by omega)
  have m3 : IntKind.i64.wrap ((p : Int) % (bs.length : Int)) = (p : Int) % (bs.length : Int) := IntWalk.i64_in _ (by omega)
  have m4 : IntKind.i64.wrap (((p : Int) * 7 + 3) % (bs.length : Int)) = ((p : Int) * 7 + 3) % (bs.length : Int) := IntWalk.i64_in _ (by omega)
  have w1 : IntKind.i64.wrap ((p : Int) * 7) = (p : Int) * 7 := IntWalk.i64_in _ (by omega)
  have w2 : IntKind.i64.wrap ((p : Int) * 7 + 3) = (p : Int) * 7 + 3 := IntWalk.i64_in _ (by omega)
  go_enter Try.func80, Try.ntmps80
  go_wp2_with fail
  generalize hq : (p : Int) / (bs.length : Int) = q at *
  have x0 : 0 ≤ b1 * 131 + b2 * 1117 + (p : Int) * 29 + q * 53 := by omega
  have x1 : b1 * 131 + b2 * 1117 + (p : Int) * 29 + q * 53 ≤ 1000000000 := by omega
  have v9 : IntKind.i64.wrap b1 = b1 := IntWalk.i64_in _ (by omega)
  have v10 : IntKind.i64.wrap b2 = b2 := IntWalk.i64_in _ (by omega)
  have v1 : IntKind.i64.wrap q = q := IntWalk.i64_in _ (by omega)
  have v2 : IntKind.i64.wrap (q * 53) = q * 53 := IntWalk.i64_in _ (by omega)
  have v3 : IntKind.i64.wrap (b1 * 131) = b1 * 131 := IntWalk.i64_in _ (by omega)
  have v4 : IntKind.i64.wrap (b2 * 1117) = b2 * 1117 := IntWalk.i64_in _ (by omega)
  have v5 : IntKind.i64.wrap (b1 * 131 + b2 * 1117) = b1 * 131 + b2 * 1117 := IntWalk.i64_in _ (by omega)
  have v6 : IntKind.i64.wrap ((p : Int) * 29) = (p : Int) * 29 := IntWalk.i64_in _ (by omega)
  have v7 : IntKind.i64.wrap (b1 * 131 + b2 * 1117 + (p : Int) * 29) = b1 * 131 + b2 * 1117 + (p : Int) * 29 := IntWalk.i64_in _ (by omega)
  have v8 : IntKind.i64.wrap (b1 * 131 + b2 * 1117 + (p : Int) * 29 + q * 53) = b1 * 131 + b2 * 1117 + (p : Int) * 29 + q * 53 := IntWalk.i64_in _ (by omega)
  go_quiet (fail)
  clear v9 v10 v1 v2 v3 v4 v5 v6 v7 w1 w2 m0 m1 m2 m3 m4 c1 c2 c3 d1 d2 d3 c1' d1' hc
  generalize b1 * 131 + b2 * 1117 + (p : Int) * 29 + q * 53 = X at *
  clear v8
  have y0 := i64_xor_nn (a := X) (b := X / 64) x0 x1 (by omega) (by omega)
  obtain ⟨y1, y2⟩ := y0
  go_wp2_with fail
  go_ret
  exact ⟨_, rfl, Int.emod_nonneg _ (by omega), fun _ => Int.emod_lt_of_pos _ (by omega), fun _ => by omega, pk_drewN H1.out _⟩

/-- the reader of a code: a new block -/
theorem l6Open_any (A : Option Addr) (cp : Nat) (bs : List Int) (w : World) (h : RdB w w.heap.size A bs) (hlen : bs.length ≤ 9223372036854775807) (hcap : bs.length ≤ cp) :
    Calls Try.prog 48 #[.slice A bs.length cp] w fun e w' => e = .returned (.pointer (some ⟨w.heap.size, 0, none⟩)) ∧ Rdr w' w.heap.size 0 ∧ Below w.heap.size w w' := by
  by_cases hl : bs.length ≤ 2000
  · have HR : Hid (Rdr (w.alloc (.cells #[.slice A bs.length cp, .int .i64 0] 72)) w.heap.size 0) :=
      ⟨A, bs, cp, 0, Blk.new _ _ _, h.keep (bnew _ _), hl, Nat.le_refl _⟩
    go_enter Try.func48, Try.ntmps48
    go_wp2_with fail
    go_ret
    exact ⟨rfl, HR.out, bnew _ _⟩
  · have el : (bs.take 2000).length = 2000 := by simp; omega
    have HR : Hid (Rdr (w.alloc (.cells #[.slice A 2000 cp, .int .i64 0] 72)) w.heap.size 0) :=
      ⟨A, bs.take 2000, cp, 0, by rw [el]; exact Blk.new _ _ _, (h.take 2000 (by omega)).keep (bnew _ _), by omega, Nat.le_refl _⟩
    clear el
    have h1 : 2000 ≤ cp := by omega
    go_enter Try.func48, Try.ntmps48
    go_wp2_with fail
    go_ret
    exact ⟨rfl, HR.out, bnew _ _⟩

end Go.Proofs.Ytnndnpckkcgfiaa
