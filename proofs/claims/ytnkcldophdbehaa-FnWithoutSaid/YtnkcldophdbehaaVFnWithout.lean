/-
  The walk of the law FnWithout: a removed link is gone.
-/
import Derived.Test.YtnkcldophdbehaaWX
import Derived.Test.YtnkcldophdbehaaPF
import Derived.Deep.RegionHeld3
namespace Go.Proofs.Ytnkcldophdbehaa.fnWithout
open Go.RowKit

theorem own_cap' {w : World} {base : Nat} {A : Option Addr} {cp : Nat} {ls : List Lk} (h : OwL w base A cp ls) : ls.length ≤ cp := by
  rcases h.2 with ⟨hv, h0⟩ | ⟨g, cap, cur, hv, _, _, hn, _⟩
  · omega
  · simp only [Value.slice.injEq] at hv
    obtain ⟨_, _, rfl⟩ := hv
    exact hn
/-- what the walk's loop holds: the graph in block G, the other in block G2 -/
structure W2 (w wr : World) (G : Nat) (nd : Int) (A : Option Addr) (cp : Nat) (ls : List Lk) (G2 : Nat) (nd2 : Int) (B : Option Addr) (cq : Nat) (ms : List Lk) : Prop where
  s : LS w wr G nd A cp ls
  t : LS w wr G2 nd2 B cq ms
theorem W2.on {w wr w1 : World} {G : Nat} {nd : Int} {A : Option Addr} {cp : Nat} {ls : List Lk} {G2 : Nat} {nd2 : Int} {B : Option Addr} {cq : Nat} {ms : List Lk} (h : W2 w wr G nd A cp ls G2 nd2 B cq ms) (hb : Below wr.heap.size wr w1) : W2 w w1 G nd A cp ls G2 nd2 B cq ms := ⟨h.s.on hb, h.t.on hb⟩

set_option maxRecDepth 100000 in
set_option maxHeartbeats 4000000 in
theorem walk (A : Option Addr) (cp : Nat) (bs : List Int) (w : World) (hr : RdB w w.heap.size A bs) (hl : bs.length ≤ 9223372036854775807 ∧ bs.length ≤ cp) :
    Calls Try.prog 8 #[.slice A bs.length cp] w fun e w' => e = .returned (.bool true) ∧ Below w.heap.size w w' := by
  obtain ⟨hl, hcp⟩ := hl
  by_cases h20 : bs.length ≤ 1048576
  · go_enter Try.func8, Try.ntmps8
    go_wp2_with fail
    refine (drawGraphWithout_any A cp bs _ hr hl hcp).mono ?_
    rintro e w1 ⟨nd, A2, cp2, ls, x, rfl, hg⟩
    have S := LS.of_drawn (nd := nd) hg
    have hcap := own_cap' hg.1
    have hlen := S.len
    clear hr hg
    by_cases h : Valid nd ls ∧ Lnk ls x
    · go_wp2_with fail
      refine (gWithout_yes h.1 h.2 A2 cp2 _ S.rd).mono ?_
      rintro e w2 ⟨⟨B, cb, rfl, ho2⟩, hb2⟩
      obtain ⟨x', rfl⟩ := Int.eq_ofNat_of_zero_le h.2.1
      rw [Int.toNat_natCast] at ho2 ⊢
      have hx : x' < ls.length := by have := h.2.2; omega
      have hv2 := h.1.lsW x'
      have HLW := Lib.hid (length_lsW hx)
      have hms : (lsW ls x').length ≤ 16 := by rw [HLW.out]; omega
      have HIX : Hid (∀ i, i < ls.length → gix nd (lsW ls x') (La ls i) (Lb ls i) = if i = x' then -1 else (shf x' i : Int)) := fun i hi => by rw [gix_yes hv2]; exact lkIx_lsW h.1 hx hi
      have HSL : Hid (∀ i, i < ls.length → i ≠ x' → shf x' i < (lsW ls x').length ∧ La (lsW ls x') (shf x' i) = La ls i ∧ Lb (lsW ls x') (shf x' i) = Lb ls i ∧ Lc (lsW ls x') (shf x' i) = Lc ls i) := fun i hi hne => ⟨shf_lt hx hi hne, shf_L hx hi hne⟩
      have S2 := S.on hb2
      have c0 := S2.c0
      have c1 := S2.c1
      have r2 := ho2.rd.on (bnew w2 (.cells #[.int .i64 nd, .slice B (lsW ls x').length cb] 30))
      have S2' := S2.on (bnew w2 (.cells #[.int .i64 nd, .slice B (lsW ls x').length cb] 30))
      have T2 : LS w (w2.alloc (.cells #[.int .i64 nd, .slice B (lsW ls x').length cb] 30)) w2.heap.size nd B cb (lsW ls x') := ⟨by go_simp, by go_simp, r2, S2'.bl, hms⟩
      have l2 := World.block_lt_of_cell? w2 _ c0
      clear S hb2 ho2
      go_wp2_with fail
      refine (sgWithout_yes h.1 h.2 A2 cp2 _ hcap S2'.rd).mono ?_
      rintro e w3 ⟨⟨C, cc, rfl, ho3⟩, hb3⟩
      rw [Int.toNat_natCast] at ho3 ⊢
      have S3 := S2'.on hb3
      have T3 := T2.on hb3
      have q3 := ho3.rd.on (bnew w3 (.cells #[.int .i64 nd, .slice C (lsW ls x').length cc] 30))
      clear S2 S2' T2 hb3 c0 c1 ho3 r2 l2
      have c0 := S3.c0
      have c1 := S3.c1
      have d0 := T3.c0
      have d1 := T3.c1
      have l3 := World.block_lt_of_cell? w3 _ c0
      have l4 := World.block_lt_of_cell? w3 _ d0
      have S4 := S3.on (bnew w3 (.cells #[.int .i64 nd, .slice C (lsW ls x').length cc] 30))
      have T4 := T3.on (bnew w3 (.cells #[.int .i64 nd, .slice C (lsW ls x').length cc] 30))
      go_wp2_with fail
      refine (same_yes nd B C cb cc _ _ (by omega) T4.rd q3).mono ?_
      rintro e w5 ⟨rfl, hb5⟩
      have S5 := S4.on hb5
      have T5 := T4.on hb5
      clear S3 T3 S4 T4 c0 c1 d0 d1 l3 l4 hb5 q3
      generalize w1.heap.size = G at *
      generalize w2.heap.size = G2 at *
      generalize lsW ls x' = ms at *
      have hx1 : (x' : Int) < (ls.length : Int) := by omega
      have c0 := S5.c0
      have c1 := S5.c1
      have d0 := T5.c0
      have d1 := T5.c1
      go_wp2_with fail
      go_loopw [9] (fun i wr => ∃ k : Nat, k ≤ ls.length ∧ i = .int .i64 k ∧ LS w wr G nd A2 cp2 ls ∧ LS w wr G2 nd B cb ms) (fun i _ => ls.length - (intOf i).toNat)
      case atStart => exact ⟨0, Nat.zero_le _, rfl, S5, T5⟩
      case round =>
        obtain ⟨i, hi, rfl, S, T⟩ := hrel
        clear c0 c1 d0 d1 S5 T5
        have c1 := S.c1
        by_cases hlt : i < ls.length
        · obtain ⟨g, o, hA, hg, hc⟩ := S.rd (by omega)
          obtain rfl := hA
          obtain ⟨m1, m2, m3⟩ := hc i hlt
          clear hc
          have HG := Lib.hid (gLink_any nd B cb ms (La ls i) (Lb ls i) wr.drew (by omega) (T.on (Below.refl _ _).drew).rd)
          have hix := Lib.hid (HIX.out i hlt)
          have d0 := T.c0
          have d1 := T.c1
          have q0 : (0 : Int) ≤ (i : Int) := by omega
          have q1 : (i : Int) < (ls.length : Int) := by omega
          go_wp2_with fail
          go_region_held3 (fun w' => w'.cell? ⟨G2, 0, none⟩ = some (.int .i64 nd) ∧ w'.cell? ⟨G2, 1, none⟩ = some (.slice B ms.length cb) ∧ w'.cell? ⟨G, 1, none⟩ = some (.slice (some ⟨g, o, none⟩) ls.length cp2) ∧ w'.cell? ⟨g, o + i * 3, none⟩ = some (.int .i64 (La ls i)) ∧ w'.cell? ⟨g, o + i * 3 + 1, none⟩ = some (.int .i64 (Lb ls i))) (go_keep)
            (first | (go_at_call 21; refine HG.out.mono ?_; rintro e w6 ⟨rfl, hb6⟩; have e0 := ckeepD d0 hb6; have e1 := ckeepD d1 hb6; have e2 := ckeepD c1 hb6; have e3 := ckeepD m1 hb6; have e4 := ckeepD m2 hb6))
          have S6 := S.on ((Below.refl _ _).drew.trans hb6)
          have T6 := T.on ((Below.refl _ _).drew.trans hb6)
          clear S T m1 m2 m3 d0 d1 c1 e0 e1 e2 e3 e4 hb6 HG
          have c1 := S6.c1
          have d1 := T6.c1
          generalize gix nd ms (La ls i) (Lb ls i) = z at *
          by_cases hix2 : i = x'
          · subst hix2
            obtain rfl : z = -1 := by have := hix.out; rwa [if_pos rfl] at this
            go_wp2_with fail
            go_quiet (fail)
            go_wp2_with fail
            go_roundw
            case rel => exact ⟨i + 1, by omega, by go_num, S6.on (bdN (Below.refl _ _) _), T6.on (bdN (Below.refl _ _) _)⟩
            case measure => simp [intOf]; omega
          · obtain ⟨s1, s2, s3, s4⟩ := HSL.out i hlt hix2
            obtain rfl : z = (shf x' i : Int) := by have := hix.out; rwa [if_neg hix2] at this
            generalize shf x' i = s at *
            obtain ⟨gB, oB, hB, hgB, hcB⟩ := T6.rd (by omega)
            obtain rfl := hB
            obtain ⟨n1, n2, n3⟩ := hcB s s1
            rw [s2] at n1
            rw [s3] at n2
            rw [s4] at n3
            obtain ⟨g', o', hA', hg', hc'⟩ := S6.rd (by omega)
            obtain ⟨rfl, rfl⟩ : g = g' ∧ o = o' := by
              injection hA' with e
              injection e with e1 e2
              exact ⟨e1, e2⟩
            obtain ⟨m1, m2, m3⟩ := hc' i hlt
            clear hc' hcB s2 s3 s4 hix hA'
            have t1 : (i == x') = false := by simpa using hix2
            have t2 : ((i : Int) == (x' : Int)) = false := by simp; omega
            have i1 : (s : Int) < (ms.length : Int) := by omega
            have i0 : (0 : Int) ≤ (s : Int) := by omega
            clear hix2
            go_wp2_with fail
            go_quiet (fail)
            go_wp2_with fail
            go_roundw
            case rel => exact ⟨i + 1, by omega, by go_num, S6.on (bdN (Below.refl _ _) _), T6.on (bdN (Below.refl _ _) _)⟩
            case measure => simp [intOf]; omega
        · have d0 := T.c0
          have d1 := T.c1
          have t1 : ((ms.length : Int) == (ls.length : Int) - 1) = true := by rw [HLW.out]; simp; omega
          have l1 : (1 : Int) ≤ (ls.length : Int) := by omega
          go_wp2_with fail
          refine (gv_yes hv2 B cb _ T.rd).mono ?_
          rintro e w6 ⟨rfl, hb6⟩
          have S6 := S.on hb6
          have T6 := T.on hb6
          clear S T hb6 c1 d0 d1
          have c0 := S6.c0
          have c1 := S6.c1
          have d0 := T6.c0
          have d1 := T6.c1
          go_wp2_with fail
          go_ret
          exact ⟨rfl, S6.bl⟩
    · go_wp2_with fail
      refine (gWithout_no h A2 cp2 _ (by omega) S.rd).mono ?_
      rintro e w2 ⟨⟨B, cb, rfl, ho2⟩, hb2⟩
      have S2 := S.on hb2
      have c0 := S2.c0
      have c1 := S2.c1
      have l2 := World.block_lt_of_cell? w2 _ c0
      have r2 := ho2.rd.on (bnew w2 (.cells #[.int .i64 0, .slice B 0 cb] 30))
      have S2' := S2.on (bnew w2 (.cells #[.int .i64 0, .slice B 0 cb] 30))
      have T2 : LS w (w2.alloc (.cells #[.int .i64 0, .slice B 0 cb] 30)) w2.heap.size 0 B cb [] := ⟨by go_simp, by go_simp, r2, S2'.bl, by simp⟩
      clear S hb2 ho2
      go_wp2_with fail
      refine (sgWithout_no h A2 cp2 _ (by omega) S2'.rd).mono ?_
      rintro e w3 ⟨⟨C, cc, rfl, ho3⟩, hb3⟩
      have T3 := T2.on hb3
      have q3 := ho3.rd.on (bnew w3 (.cells #[.int .i64 0, .slice C 0 cc] 30))
      clear S2 S2' T2 hb3 c0 c1 ho3 r2 l2
      have d0 : w3.cell? ⟨w2.heap.size, 0, none⟩ = some (.int .i64 0) := T3.c0
      have d1 : w3.cell? ⟨w2.heap.size, 1, none⟩ = some (.slice B 0 cb) := T3.c1
      have l4 := World.block_lt_of_cell? w3 _ d0
      have T4 := T3.on (bnew w3 (.cells #[.int .i64 0, .slice C 0 cc] 30))
      go_wp2_with fail
      refine (same_yes 0 B C cb cc [] _ (by simp) T4.rd q3).mono ?_
      rintro e w5 ⟨rfl, hb5⟩
      have T5 := T4.on hb5
      have q5 := q3.on hb5
      have k0 : w5.cell? ⟨w3.heap.size, 0, none⟩ = some (.int .i64 0) := ckeep (by go_simp) hb5
      have k1 : w5.cell? ⟨w3.heap.size, 1, none⟩ = some (.slice C 0 cc) := ckeep (by go_simp) hb5
      clear T3 T4 d0 d1 l4 hb5 q3
      have d0 : w5.cell? ⟨w2.heap.size, 0, none⟩ = some (.int .i64 0) := T5.c0
      have d1 : w5.cell? ⟨w2.heap.size, 1, none⟩ = some (.slice B 0 cb) := T5.c1
      go_wp2_with fail
      refine (same_yes 0 B C cb cc [] _ (by simp) T5.rd q5).mono ?_
      rintro e w6 ⟨rfl, hb6⟩
      go_wp2_with fail
      go_ret
      exact ⟨rfl, (T5.on hb6).bl⟩
  · go_enter Try.func8, Try.ntmps8
    go_wp2_with fail
    go_ret
    exact ⟨rfl, Below.refl _ _⟩

end Go.Proofs.Ytnkcldophdbehaa.fnWithout
