/-
  The walk of the law FnIsolate: an isolated node has no links.
-/
import Derived.Test.YtkcapoobbnmdaaaWO
import Derived.Test.YtkcapoobbnmdaaaWS
import Derived.Test.YtkcapoobbnmdaaaWZ
import Derived.Test.YtkcapoobbnmdaaaFB
import Derived.Test.YtkcapoobbnmdaaaPF
import Derived.Deep.RegionHeld3
namespace Go.Proofs.Ytkcapoobbnmdaaa.fnIsolate
open Go.RowKit

theorem pair (nd : Int) (ls : List Lk) (x : Int) (hlen : ls.length ≤ 16) : ∃ nd2 ls2 b2, ls2.length ≤ 16 ∧ (b2 = true → Valid nd2 ls2 ∧ nbr nd2 ls2 x = [] ∧ ∃ K : Nat → Nat, K 0 = 0 ∧ K ls.length = ls2.length ∧ ∀ i, i < ls.length → K i ≤ i ∧ ((La ls i ≠ x ∧ Lb ls i ≠ x → K (i + 1) = K i + 1 ∧ 0 ≤ gix nd2 ls2 (La ls i) (Lb ls i)) ∧ (¬ (La ls i ≠ x ∧ Lb ls i ≠ x) → K (i + 1) = K i))) ∧
    (∀ (A : Option Addr) (cp : Nat) (w : World), RdL w w.heap.size A ls → Calls Try.prog 42 #[.agg #[.int .i64 nd, .slice A ls.length cp], .int .i64 x] w (RG nd2 ls2 b2 w)) ∧
    (∀ (A : Option Addr) (cp : Nat) (w : World), RdL w w.heap.size A ls → Calls Try.prog 41 #[.agg #[.int .i64 nd, .slice A ls.length cp], .int .i64 x] w (RG nd2 ls2 b2 w)) := by
  by_cases hv : Valid nd ls
  · by_cases hn : Nd nd x
    · have hl := length_lsI ls x
      refine ⟨nd, lsI ls x, true, by omega, fun _ => ⟨hv.lsI x, ?_, fun k => (keepTo ls (notOf ls x) k).length, rfl, rfl, fun i hi => ⟨keepTo_le _ _ _, fun h => ?_, fun h => ?_⟩⟩, fun A cp w hr => sgIsolate_yes hv hn A cp w hr, fun A cp w hr => gIsolate_yes hv hn A cp w hr⟩
      · refine List.eq_nil_iff_forall_not_mem.2 (fun y hy => ?_)
        obtain ⟨c, hc⟩ := (mem_nbr (hv.lsI x)).1 hy
        exact (adj_lsI.1 hc).2.1 rfl
      · refine ⟨?_, ?_⟩
        · show (keepTo ls (notOf ls x) (i + 1)).length = _
          rw [keepTo_yes (by unfold notOf; simpa using h)]
          simp
        · rw [gix_yes (hv.lsI x)]
          exact (lkIx_adj (hv.lsI x)).2 ⟨Lc ls i, adj_lsI.2 ⟨⟨i, hi, .inl ⟨rfl, rfl⟩, rfl⟩, h.1, h.2⟩⟩
      · show (keepTo ls (notOf ls x) (i + 1)).length = _
        rw [keepTo_no (by unfold notOf; exact decide_eq_false h)]
    · exact ⟨0, [], false, by simp, (fun h => by cases h), fun A cp w hr => sgIsolate_out hv hn A cp w hr, fun A cp w hr => gIsolate_no (fun h => hn h.2) A cp w (by omega) hr⟩
  · exact ⟨0, [], false, by simp, (fun h => by cases h), fun A cp w hr => sgIsolate_bad hv A cp w (by omega) hr, fun A cp w hr => gIsolate_no (fun h => hv h.1) A cp w (by omega) hr⟩


set_option maxRecDepth 100000 in
set_option maxHeartbeats 4000000 in
theorem walk (A : Option Addr) (cp : Nat) (bs : List Int) (w : World) (hr : RdB w w.heap.size A bs) (hl : bs.length ≤ 9223372036854775807 ∧ bs.length ≤ cp) :
    Calls Try.prog 9 #[.slice A bs.length cp] w fun e w' => e = .returned (.bool true) ∧ Below w.heap.size w w' := by
  obtain ⟨hl, hcp⟩ := hl
  by_cases h20 : bs.length ≤ 1048576
  · go_enter Try.func9, Try.ntmps9
    go_wp2_with fail
    refine (drawGraphIsolate_any A cp bs _ hr hl hcp).mono ?_
    rintro e w1 ⟨nd, A2, cp2, ls, x, rfl, hg⟩
    have S := LS.of_drawn (nd := nd) hg
    have hlen := S.len
    clear hr hg
    obtain ⟨nd2, ls2, b2, hl2, hyes, hS, hI⟩ := pair nd ls x hlen
    have HS := Lib.hid hS
    have HI := Lib.hid hI
    have HY := Lib.hid hyes
    clear hS hI hyes
    go_wp2_with fail
    refine (HI.out A2 cp2 _ S.rd).mono ?_
    rintro e w2 ⟨⟨B, cb, rfl, ho2⟩, hb2⟩
    have S2 := S.on hb2
    have c0 := S2.c0
    have c1 := S2.c1
    have S2' := S2.on (bnew w2 (.cells #[.int .i64 nd2, .slice B ls2.length cb] 25))
    have T2 : LS w (w2.alloc (.cells #[.int .i64 nd2, .slice B ls2.length cb] 25)) w2.heap.size nd2 B cb ls2 := ⟨by go_simp, by go_simp, ho2.rd.on (bnew _ _), S2'.bl, hl2⟩
    have l2 : w1.heap.size < w2.heap.size := World.block_lt_of_cell? w2 _ c0
    clear S hb2 ho2
    go_wp2_with fail
    refine (HS.out A2 cp2 _ S2'.rd).mono ?_
    rintro e w3 ⟨⟨C, cc, rfl, ho3⟩, hb3⟩
    have T3 := T2.on hb3
    have S3 := S2'.on hb3
    have q3 := ho3.rd.on (bnew w3 (.cells #[.int .i64 nd2, .slice C ls2.length cc] 25))
    clear S2 S2' T2 hb3 c0 c1 ho3 l2 HS HI
    have c0 := S3.c0
    have c1 := S3.c1
    have d0 := T3.c0
    have d1 := T3.c1
    have l4 : w2.heap.size < w3.heap.size := World.block_lt_of_cell? w3 _ d0
    have S4 := S3.on (bnew w3 (.cells #[.int .i64 nd2, .slice C ls2.length cc] 25))
    have T4 := T3.on (bnew w3 (.cells #[.int .i64 nd2, .slice C ls2.length cc] 25))
    cases b2
    · go_wp2_with fail
      refine (same_yes nd2 B C cb cc ls2 _ (by omega) T4.rd q3).mono ?_
      rintro e w5 ⟨rfl, hb5⟩
      have T5 := T4.on hb5
      have q5 := q3.on hb5
      have k0 : w5.cell? ⟨w3.heap.size, 0, none⟩ = some (.int .i64 nd2) := ckeep (by go_simp) hb5
      have k1 : w5.cell? ⟨w3.heap.size, 1, none⟩ = some (.slice C ls2.length cc) := ckeep (by go_simp) hb5
      clear T3 T4 S3 S4 d0 d1 l4 hb5 q3
      have d0 := T5.c0
      have d1 := T5.c1
      go_wp2_with fail
      refine (same_yes nd2 B C cb cc ls2 _ (by omega) T5.rd q5).mono ?_
      rintro e w6 ⟨rfl, hb6⟩
      go_wp2_with fail
      go_ret
      exact ⟨rfl, (T5.on hb6).bl⟩
    · obtain ⟨hv, he, K, K0, KL, hK⟩ := HY.out rfl
      have HK := Lib.hid hK
      have HN : Hid (∀ wx, RdL wx wx.heap.size B ls2 → Calls Try.prog 36 #[.agg #[.int .i64 nd2, .slice B ls2.length cb], .int .i64 x] wx (RI [] wx)) := fun wx hr => by
        have := gNbr_any nd2 B cb ls2 x wx (by omega) hr
        rwa [nbrO_yes hv, he] at this
      clear hK he HY
      go_wp2_with fail
      refine (same_yes nd2 B C cb cc ls2 _ (by omega) T4.rd q3).mono ?_
      rintro e w5 ⟨rfl, hb5⟩
      have S5 := S4.on hb5
      have T5 := T4.on hb5
      clear S3 T3 S4 T4 c0 c1 d0 d1 l4 hb5 q3
      generalize w1.heap.size = G at *
      generalize w2.heap.size = G2 at *
      have c0 := S5.c0
      have c1 := S5.c1
      have d0 := T5.c0
      have d1 := T5.c1
      go_wp2_with fail
      go_loopw [9, 10] (fun n i wr => ∃ k : Nat, k ≤ ls.length ∧ n = .int .i64 (K k : Nat) ∧ i = .int .i64 k ∧ LS w wr G nd A2 cp2 ls ∧ LS w wr G2 nd2 B cb ls2) (fun _ i _ => ls.length - (intOf i).toNat)
      case atStart => exact ⟨0, Nat.zero_le _, by rw [K0]; rfl, rfl, S5, T5⟩
      case round =>
        obtain ⟨i, hi, rfl, rfl, S, T⟩ := hrel
        clear c0 c1 d0 d1 S5 T5
        have c1 := S.c1
        by_cases hlt : i < ls.length
        · obtain ⟨g, o, hA, hg, hc⟩ := S.rd (by omega)
          obtain rfl := hA
          obtain ⟨m1, m2, -⟩ := hc i hlt
          clear hc
          obtain ⟨hKi, hKy, hKn⟩ := HK.out i hlt
          have HKy := Lib.hid hKy
          have HKn := Lib.hid hKn
          have HG := Lib.hid (fun wx hb => gLink_any nd2 B cb ls2 (La ls i) (Lb ls i) wx (by omega) (T.on hb).rd)
          have q0 : (0 : Int) ≤ (i : Int) := by omega
          have q1 : (i : Int) < (ls.length : Int) := by omega
          clear hKy hKn
          have hki : K i ≤ 16 := by omega
          generalize gix nd2 ls2 (La ls i) (Lb ls i) = z at *
          generalize La ls i = a at *
          generalize Lb ls i = b at *
          by_cases hax : a = x
          · subst hax
            have ek := HKn.out (fun h => h.1 rfl)
            go_wp2_with fail
            go_roundw
            case rel => exact ⟨i + 1, by omega, by rw [ek], by go_num, S, T⟩
            case measure => simp [intOf]; omega
          · have t1 : (a != x) = true := bne_iff_ne.2 hax
            by_cases hbx : b = x
            · subst hbx
              have ek := HKn.out (fun h => h.2 rfl)
              go_wp2_with fail
              go_roundw
              case rel => exact ⟨i + 1, by omega, by rw [ek], by go_num, S, T⟩
              case measure => simp [intOf]; omega
            · have t2 : (b != x) = true := bne_iff_ne.2 hbx
              obtain ⟨ek, hz⟩ := HKy.out ⟨hax, hbx⟩
              have t3 : decide (z < 0) = false := by rw [decide_eq_false_iff_not]; omega
              clear hz
              have d0 := T.c0
              have d1 := T.c1
              go_wp2_with fail
              go_region_held3 (fun w' => w'.cell? ⟨G2, 0, none⟩ = some (.int .i64 nd2) ∧ w'.cell? ⟨G2, 1, none⟩ = some (.slice B ls2.length cb) ∧ w'.cell? ⟨G, 1, none⟩ = some (.slice (some ⟨g, o, none⟩) ls.length cp2) ∧ w'.cell? ⟨g, o + i * 3, none⟩ = some (.int .i64 a) ∧ w'.cell? ⟨g, o + i * 3 + 1, none⟩ = some (.int .i64 b)) (go_keep)
                (first | (go_at_call 20; refine (HG.out _ (Below.refl _ _).drew).mono ?_; rintro e w6 ⟨rfl, hb6⟩; have e0 := ckeepD d0 hb6; have e1 := ckeepD d1 hb6; have e2 := ckeepD c1 hb6; have e3 := ckeepD m1 hb6; have e4 := ckeepD m2 hb6))
              have S6 := S.on ((Below.refl _ _).drew.trans hb6)
              have T6 := T.on ((Below.refl _ _).drew.trans hb6)
              clear S T m1 m2 d0 d1 c1 e0 e1 e2 e3 e4 hb6 HG
              go_wp2_with fail
              go_roundw
              case rel => exact ⟨i + 1, by omega, by rw [ek]; go_num, by go_num, S6, T6⟩
              case measure => simp [intOf]; omega
        · obtain rfl : i = ls.length := by omega
          have d0 := T.c0
          have d1 := T.c1
          rw [KL]
          go_wp2_with fail
          refine (gv_yes hv B cb _ T.rd).mono ?_
          rintro e w6 ⟨rfl, hb6⟩
          have T6 := T.on hb6
          clear S T hb6 c1 d0 d1
          have d0 := T6.c0
          have d1 := T6.c1
          go_wp2_with fail
          refine (HN.out _ T6.rd).mono ?_
          rintro e w7 ⟨⟨E, ce, rfl, oE⟩, hb7⟩
          have T7 := T6.on hb7
          clear T6 hb7 d0 d1 oE
          have d0 := T7.c0
          have d1 := T7.c1
          go_wp2_with fail
          go_ret
          exact ⟨rfl, T7.bl⟩
  · have h20' : (1048576 : Int) < (bs.length : Int) := by omega
    go_enter Try.func9, Try.ntmps9
    go_wp2_with fail
    go_ret
    exact ⟨rfl, Below.refl _ _⟩

end Go.Proofs.Ytkcapoobbnmdaaa.fnIsolate
