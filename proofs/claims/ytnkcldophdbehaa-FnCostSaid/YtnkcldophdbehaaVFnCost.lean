/-
  The walk of the law FnCost: only the cost changes.
-/
import Derived.Test.YtnkcldophdbehaaDM
import Derived.Test.YtnkcldophdbehaaPF
import Derived.Test.YtnkcldophdbehaaWX
import Derived.Deep.RegionHeld3
namespace Go.Proofs.Ytnkcldophdbehaa.fnCost
open Go.RowKit

/-- the third graph's variable; the two others' -/
def GZ (w : World) (G : Nat) (nd : Int) (A : Option Addr) (cp : Nat) (ls : List Lk) (G2 : Nat) (B : Option Addr) (cb : Nat) (ms : List Lk) (s s2 : Value) (wx : World) : Prop :=
  ∃ G3 X cx, s = .pointer (some ⟨G3, 0, none⟩) ∧ s2 = .bool true ∧ LS w wx G3 nd X cx ls ∧ LS w wx G nd A cp ls ∧ LS w wx G2 nd B cb ms
theorem gzA {w w4 w5 : World} {G : Nat} {nd : Int} {A : Option Addr} {cp : Nat} {ls : List Lk} {G2 : Nat} {B : Option Addr} {cb : Nat} {ms : List Lk} {X : Option Addr} {cx base : Nat}
    (S : LS w w4 G nd A cp ls) (T : LS w w4 G2 nd B cb ms) (hb : Below w4.heap.size w4 w5) (ho : OwL w5 base X cx ls) :
    GZ w G nd A cp ls G2 B cb ms (.pointer (some ⟨w5.heap.size, 0, none⟩)) (.bool true) (w5.alloc (.cells #[.int .i64 nd, .slice X ls.length cx] 30)) :=
  ⟨w5.heap.size, X, cx, rfl, rfl, ⟨(Blk.new _ _ _).cellAt 0, (Blk.new _ _ _).cellAt 1, ho.rd.on (bnew _ _), bthen (S.on hb).bl (bnew _ _), S.len⟩, (S.on hb).on (bnew _ _), (T.on hb).on (bnew _ _)⟩
theorem gzB {w w4 w5 : World} {G : Nat} {nd : Int} {A : Option Addr} {cp : Nat} {ls : List Lk} {G2 : Nat} {B : Option Addr} {cb : Nat} {ms : List Lk} {X : Option Addr} {cx base : Nat}
    (S : LS w w4 G nd A cp ls) (T : LS w w4 G2 nd B cb ms) (hb : Below w4.heap.size w4 w5) (ho : OwL w5 base X cx ls) (hz : Blk w5 w4.heap.size 30 [.int .i64 0, .slice none 0 0]) :
    GZ w G nd A cp ls G2 B cb ms (.pointer (some ⟨w4.heap.size, 0, none⟩)) (.bool true) ((w5.setCell ⟨w4.heap.size, 0, none⟩ (.int .i64 nd)).setCell ⟨w4.heap.size, 1, none⟩ (.slice X ls.length cx)) := by
  have hk := (hz.stored 0 (.int .i64 nd)).stored 1 (.slice X ls.length cx)
  have hb2 := (hb.setCell (p := ⟨w4.heap.size, 0, none⟩) (Nat.le_refl _) (.int .i64 nd)).setCell (p := ⟨w4.heap.size, 1, none⟩) (Nat.le_refl _) (.slice X ls.length cx)
  have ho2 := own_st (own_st ho hz (by decide) 0 (.int .i64 nd)) (hz.stored 0 (.int .i64 nd)) (by decide) 1 (.slice X ls.length cx)
  exact ⟨w4.heap.size, X, cx, rfl, rfl, ⟨hk.cellAt 0, hk.cellAt 1, ho2.rd, (S.on hb2).bl, S.len⟩, S.on hb2, T.on hb2⟩

set_option maxRecDepth 100000 in
set_option maxHeartbeats 4000000 in
theorem walk (A : Option Addr) (cp : Nat) (bs : List Int) (w : World) (hr : RdB w w.heap.size A bs) (hl : bs.length ≤ 9223372036854775807 ∧ bs.length ≤ cp) :
    Calls Try.prog 7 #[.slice A bs.length cp] w fun e w' => e = .returned (.bool true) ∧ Below w.heap.size w w' := by
  obtain ⟨hl, hcp⟩ := hl
  by_cases h20 : bs.length ≤ 1048576
  · go_enter Try.func7, Try.ntmps7
    go_wp2_with fail
    refine (drawGraphCost_any A cp bs _ hr hl hcp).mono ?_
    rintro e w1 ⟨nd, A2, cp2, ls, x, c, rfl, hg⟩
    have S := LS.of_drawn (nd := nd) hg
    have hlen := S.len
    clear hr hg
    by_cases h : Valid nd ls ∧ Lnk ls x ∧ Cst c
    · obtain ⟨hv, hk, hc1, hc20⟩ := h
      go_wp2_with fail
      refine (gCost_yes hv hk hc1 hc20 A2 cp2 _ S.rd).mono ?_
      rintro e w2 ⟨⟨B, cb, rfl, ho2⟩, hb2⟩
      have S2 := S.on hb2
      have hm : (lsC ls x.toNat c).length ≤ 16 := by rw [length_lsC]; omega
      have HLL := Lib.hid (length_lsC ls x.toNat c)
      have c0 := S2.c0
      have c1 := S2.c1
      have S2' := S2.on (bnew w2 (.cells #[.int .i64 nd, .slice B (lsC ls x.toNat c).length cb] 30))
      have T2 : LS w (w2.alloc (.cells #[.int .i64 nd, .slice B (lsC ls x.toNat c).length cb] 30)) w2.heap.size nd B cb (lsC ls x.toNat c) := ⟨by go_simp, by go_simp, ho2.rd.on (bnew _ _), S2'.bl, hm⟩
      have l2 : w1.heap.size < w2.heap.size := World.block_lt_of_cell? w2 _ c0
      clear S S2 hb2 ho2
      go_wp2_with fail
      refine (sgCost_yes hv hk hc1 hc20 A2 cp2 _ S2'.rd).mono ?_
      rintro e w3 ⟨⟨C, cc, rfl, ho3⟩, hb3⟩
      have S3 := S2'.on hb3
      have T3 := T2.on hb3
      have q3 := ho3.rd.on (bnew w3 (.cells #[.int .i64 nd, .slice C (lsC ls x.toNat c).length cc] 30))
      clear S2' T2 hb3 c0 c1 ho3 l2
      have c0 := S3.c0
      have c1 := S3.c1
      have d0 := T3.c0
      have d1 := T3.c1
      have l3 : w1.heap.size < w3.heap.size := World.block_lt_of_cell? w3 _ c0
      have l4 : w2.heap.size < w3.heap.size := World.block_lt_of_cell? w3 _ d0
      have S4 := S3.on (bnew w3 (.cells #[.int .i64 nd, .slice C (lsC ls x.toNat c).length cc] 30))
      have T4 := T3.on (bnew w3 (.cells #[.int .i64 nd, .slice C (lsC ls x.toNat c).length cc] 30))
      go_wp2_with fail
      refine (same_yes nd B C cb cc _ _ (by omega) T4.rd q3).mono ?_
      rintro e w5 ⟨rfl, hb5⟩
      have S5 := S4.on hb5
      have T5 := T4.on hb5
      clear S3 T3 S4 T4 c0 c1 d0 d1 l3 l4 hb5 q3
      obtain ⟨k, rfl⟩ := Int.eq_ofNat_of_zero_le hk.1
      rw [Int.toNat_natCast] at T5 hm HLL ⊢
      have hkl : k < ls.length := by have := hk.2; omega
      have hk0 : (0 : Int) ≤ (k : Int) := by omega
      have hk1 : (k : Int) < (ls.length : Int) := by omega
      obtain ⟨_, _, _, ho1, ho20⟩ := ends_nd hv hkl
      have hv2 := hv.lsC (k := k) hc1 hc20
      have hkm : Lnk (lsC ls k c) (k : Int) := ⟨by omega, by rw [HLL.out]; omega⟩
      have hm1 : (k : Int) < ((lsC ls k c).length : Int) := by rw [HLL.out]; omega
      have hback : lsC (lsC ls k c) k (Lc ls k) = ls := by rw [lsC_lsC hkl, lsC_same]
      have HLc : Hid (Lc (lsC ls k c) k = c) := by show _ = _; rw [(lsC_get (k := k) (c := c) hkl).2.2, if_pos rfl]
      have c0 := S5.c0
      have c1 := S5.c1
      have d0 := T5.c0
      have d1 := T5.c1
      obtain ⟨g, o, hA, hg, hcells⟩ := S5.rd (by omega)
      obtain rfl := hA
      obtain ⟨-, -, m3⟩ := hcells k hkl
      clear hcells
      have BD : Below w5.heap.size w5 w5.drew := (Below.refl _ _).drew
      have BA : Below w5.heap.size w5 (w5.alloc (.cells #[.int .i64 0, .slice none 0 0] 30)).drew := (bnew _ _).drew
      have ZA : Blk (w5.alloc (.cells #[.int .i64 0, .slice none 0 0] 30)).drew w5.heap.size 30 [.int .i64 0, .slice none 0 0] := Blk.new w5 #[.int .i64 0, .slice none 0 0] 30
      have HC0 := gCost_yes hv2 hkm ho1 ho20 B cb w5.drew (T5.on BD).rd
      have HCa := gCost_yes hv2 hkm ho1 ho20 B cb (w5.alloc (.cells #[.int .i64 0, .slice none 0 0] 30)).drew (T5.on BA).rd
      rw [Int.toNat_natCast, hback] at HC0 HCa
      have HC0 := Lib.hid HC0
      have HCa := Lib.hid HCa
      have lG : w1.heap.size < w5.heap.size := World.block_lt_of_cell? w5 _ c0
      have lG2 : w2.heap.size < w5.heap.size := World.block_lt_of_cell? w5 _ d0
      have n1 : ¬ w1.heap.size = w5.heap.size := by omega
      have n2 : ¬ w2.heap.size = w5.heap.size := by omega
      have n3 : ¬ w5.heap.size = w1.heap.size := by omega
      have n4 : ¬ w5.heap.size = w2.heap.size := by omega
      have n5 : ¬ g = w5.heap.size := by omega
      have n6 : ¬ w5.heap.size = g := by omega
      clear hback hkm
      generalize w1.heap.size = G at *
      generalize w2.heap.size = G2 at *
      generalize lsC ls k c = ms at *
      go_upto_region 8 with fail
      go_cut [10, 11] from 12 (fun s s2 wx => GZ w G nd (some ⟨g, o, none⟩) cp2 ls G2 B cb ms s s2 wx)
      case first =>
        go_region_held3 (fun w' => w'.cell? ⟨G2, 0, none⟩ = some (.int .i64 nd) ∧ w'.cell? ⟨G2, 1, none⟩ = some (.slice B ms.length cb) ∧ w'.cell? ⟨G, 1, none⟩ = some (.slice (some ⟨g, o, none⟩) ls.length cp2) ∧ w'.cell? ⟨g, o + k * 3 + 2, none⟩ = some (.int .i64 (Lc ls k))) (go_keep)
          (first
            | (go_at_call 24; refine HC0.out.mono ?_; rintro e w6 ⟨⟨X, cx, rfl, oX⟩, hb5⟩; have hb6 := bthen BD hb5; have e0 := ckeep d0 hb6; have e1 := ckeep d1 hb6; have e2 := ckeep c1 hb6; have e3 := ckeep m3 hb6; have l5 := Nat.lt_of_lt_of_le lG hb6.size; have l6 := Nat.lt_of_lt_of_le lG2 hb6.size; have l7 : g < w6.heap.size := Nat.lt_of_lt_of_le hg hb6.size)
            | (go_at_call 24; refine HCa.out.mono ?_; rintro e w6 ⟨⟨X, cx, rfl, oX⟩, hb5⟩; have hb6 := bthen BA hb5; have e0 := ckeep d0 hb6; have e1 := ckeep d1 hb6; have e2 := ckeep c1 hb6; have e3 := ckeep m3 hb6; have l5 := Nat.lt_of_lt_of_le lG hb6.size; have l6 := Nat.lt_of_lt_of_le lG2 hb6.size; have l7 : g < w6.heap.size := Nat.lt_of_lt_of_le hg hb6.size; have ZB := ZA.keep hb5; have z0 := ZB.cellAt 0; have z1 := ZB.cellAt 1; have y0 := ZB.frozenAt 0; have y1 := ZB.frozenAt 1; simp only [List.getElem?_cons_zero, List.getElem?_cons_succ] at z0 z1))
        all_goals
          go_wp2_with fail
          go_meet
          first | exact gzA S5 T5 hb6 oX | exact gzB S5 T5 hb6 oX ZB
      case rest =>
        obtain ⟨G3, X, cx, rfl, rfl, U6, S6, T6⟩ := hcut
        clear S5 T5 c0 c1 d0 d1 m3 HC0 HCa BD BA ZA lG lG2 n1 n2 n3 n4 n5 n6
        have c0 := S6.c0
        have c1 := S6.c1
        have u0 := U6.c0
        have u1 := U6.c1
        go_wp2_with fail
        refine (same_yes nd X (some ⟨g, o, none⟩) cx cp2 ls _ (by omega) U6.rd S6.rd).mono ?_
        rintro e w7 ⟨rfl, hb7⟩
        have T7 := T6.on hb7
        clear U6 S6 T6 hb7 c0 c1 u0 u1
        have d0 := T7.c0
        have d1 := T7.c1
        obtain ⟨g2, o2, hB, hg2, hcells⟩ := T7.rd (by omega)
        obtain rfl := hB
        obtain ⟨-, -, m3⟩ := hcells k (by omega)
        rw [HLc.out] at m3
        clear hcells
        go_wp2_with fail
        refine (gv_yes hv2 (some ⟨g2, o2, none⟩) cb _ T7.rd).mono ?_
        rintro e w8 ⟨rfl, hb8⟩
        have T8 := T7.on hb8
        go_wp2_with fail
        go_ret
        exact ⟨rfl, T8.bl⟩
    · go_wp2_with fail
      refine (gCost_no h A2 cp2 _ (by omega) S.rd).mono ?_
      rintro e w2 ⟨⟨B, cb, rfl, ho2⟩, hb2⟩
      have S2 := S.on hb2
      have c0 := S2.c0
      have c1 := S2.c1
      have l2 := World.block_lt_of_cell? w2 _ c0
      have r2 := ho2.rd.on (bnew w2 (.cells #[.int .i64 0, .slice B 0 cb] 30))
      have S2' := S2.on (bnew w2 (.cells #[.int .i64 0, .slice B 0 cb] 30))
      have T2 : LS w (w2.alloc (.cells #[.int .i64 0, .slice B 0 cb] 30)) w2.heap.size 0 B cb [] := ⟨by go_simp, by go_simp, r2, S2'.bl, by simp⟩
      clear S hb2 ho2
      go_wp2_with fail
      refine (sgCost_no h A2 cp2 _ (by omega) S2'.rd).mono ?_
      rintro e w3 ⟨⟨C, cc, rfl, ho3⟩, hb3⟩
      have T3 := T2.on hb3
      have q3 := ho3.rd.on (bnew w3 (.cells #[.int .i64 0, .slice C 0 cc] 30))
      clear S2 S2' T2 hb3 c0 c1 ho3 r2 l2
      have d0 : w3.cell? ⟨w2.heap.size, 0, none⟩ = some (.int .i64 0) := T3.c0
      have d1 : w3.cell? ⟨w2.heap.size, 1, none⟩ = some (.slice B 0 cb) := T3.c1
      have l4 := World.block_lt_of_cell? w3 _ d0
      have T4 := T3.on (bnew w3 (.cells #[.int .i64 0, .slice C 0 cc] 30))
      go_wp2_with fail
      refine (same_yes 0 B C cb cc [] _ (by simp) T4.rd q3).mono ?_
      rintro e w5 ⟨rfl, hb5⟩
      have T5 := T4.on hb5
      have q5 := q3.on hb5
      have k0 : w5.cell? ⟨w3.heap.size, 0, none⟩ = some (.int .i64 0) := ckeep (by go_simp) hb5
      have k1 : w5.cell? ⟨w3.heap.size, 1, none⟩ = some (.slice C 0 cc) := ckeep (by go_simp) hb5
      clear T3 T4 d0 d1 l4 hb5 q3
      have d0 : w5.cell? ⟨w2.heap.size, 0, none⟩ = some (.int .i64 0) := T5.c0
      have d1 : w5.cell? ⟨w2.heap.size, 1, none⟩ = some (.slice B 0 cb) := T5.c1
      go_wp2_with fail
      refine (same_yes 0 B C cb cc [] _ (by simp) T5.rd q5).mono ?_
      rintro e w6 ⟨rfl, hb6⟩
      go_wp2_with fail
      go_ret
      exact ⟨rfl, (T5.on hb6).bl⟩
  · go_enter Try.func7, Try.ntmps7
    go_wp2_with fail
    go_ret
    exact ⟨rfl, Below.refl _ _⟩

end Go.Proofs.Ytnkcldophdbehaa.fnCost
