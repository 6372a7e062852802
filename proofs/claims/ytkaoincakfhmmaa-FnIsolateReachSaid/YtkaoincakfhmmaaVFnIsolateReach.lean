/-
  The walk of the law FnIsolateReach: an isolated node reaches only itself.
-/
import Derived.Test.YtkaoincakfhmmaaEB
import Derived.Test.YtkaoincakfhmmaaWZ
import Derived.Test.YtkaoincakfhmmaaPE
namespace Go.Proofs.Ytkaoincakfhmmaa.fnIsolateReach
open Go.RowKit

theorem pair (nd : Int) (ls : List Lk) (x : Int) (hlen : ls.length ≤ 16) : ∃ nd2 ls2 b2, ls2.length ≤ 16 ∧ (b2 = true → Valid nd2 ls2 ∧ Nd nd2 x ∧ rch nd2 ls2 x = [x]) ∧
    (∀ (A : Option Addr) (cp : Nat) (w : World), RdL w w.heap.size A ls → Calls Try.prog 41 #[.agg #[.int .i64 nd, .slice A ls.length cp], .int .i64 x] w (RG nd2 ls2 b2 w)) ∧
    (∀ (A : Option Addr) (cp : Nat) (w : World), RdL w w.heap.size A ls → Calls Try.prog 40 #[.agg #[.int .i64 nd, .slice A ls.length cp], .int .i64 x] w (RG nd2 ls2 b2 w)) := by
  by_cases hv : Valid nd ls
  · by_cases hn : Nd nd x
    · have hl := length_lsI ls x
      exact ⟨nd, lsI ls x, true, by omega, fun _ => ⟨hv.lsI x, hn, rch_lsI hv hn⟩, fun A cp w hr => sgIsolate_yes hv hn A cp w hr, fun A cp w hr => gIsolate_yes hv hn A cp w hr⟩
    · exact ⟨0, [], false, by simp, (fun h => by cases h), fun A cp w hr => sgIsolate_out hv hn A cp w hr, fun A cp w hr => gIsolate_no (fun h => hn h.2) A cp w (by omega) hr⟩
  · exact ⟨0, [], false, by simp, (fun h => by cases h), fun A cp w hr => sgIsolate_bad hv A cp w (by omega) hr, fun A cp w hr => gIsolate_no (fun h => hv h.1) A cp w (by omega) hr⟩

set_option maxRecDepth 100000 in
set_option maxHeartbeats 4000000 in
theorem walk (A : Option Addr) (cp : Nat) (bs : List Int) (w : World) (hr : RdB w w.heap.size A bs) (hl : bs.length ≤ 9223372036854775807 ∧ bs.length ≤ cp) :
    Calls Try.prog 12 #[.slice A bs.length cp] w fun e w' => e = .returned (.bool true) ∧ Below w.heap.size w w' := by
  obtain ⟨hl, hcp⟩ := hl
  by_cases h20 : bs.length ≤ 1048576
  · go_enter Try.func12, Try.ntmps12
    go_wp2_with fail
    refine (drawGraphIsolate_any A cp bs _ hr hl hcp).mono ?_
    rintro e w1 ⟨nd, A2, cp2, ls, x, rfl, hg⟩
    have S := LS.of_drawn (nd := nd) hg
    have hlen := S.len
    clear hr hg
    obtain ⟨nd2, ls2, b2, hl2, hyes, hS, hI⟩ := pair nd ls x hlen
    have HS := Lib.hid hS
    have HI := Lib.hid hI
    have HY := Lib.hid hyes
    clear hS hI hyes
    go_wp2_with fail
    refine (HI.out A2 cp2 _ S.rd).mono ?_
    rintro e w2 ⟨⟨B, cb, rfl, ho2⟩, hb2⟩
    have S2 := S.on hb2
    have c0 := S2.c0
    have c1 := S2.c1
    have S2' := S2.on (bnew w2 (.cells #[.int .i64 nd2, .slice B ls2.length cb] 25))
    have T2 : LS w (w2.alloc (.cells #[.int .i64 nd2, .slice B ls2.length cb] 25)) w2.heap.size nd2 B cb ls2 := ⟨by go_simp, by go_simp, ho2.rd.on (bnew _ _), S2'.bl, hl2⟩
    have l2 : w1.heap.size < w2.heap.size := World.block_lt_of_cell? w2 _ c0
    clear S S2 hb2 ho2
    go_wp2_with fail
    refine (HS.out A2 cp2 _ S2'.rd).mono ?_
    rintro e w3 ⟨⟨C, cc, rfl, ho3⟩, hb3⟩
    have T3 := T2.on hb3
    have q3 := ho3.rd.on (bnew w3 (.cells #[.int .i64 nd2, .slice C ls2.length cc] 25))
    clear S2' T2 hb3 c0 c1 ho3 l2 HS HI
    have d0 := T3.c0
    have d1 := T3.c1
    have l4 : w2.heap.size < w3.heap.size := World.block_lt_of_cell? w3 _ d0
    have T4 := T3.on (bnew w3 (.cells #[.int .i64 nd2, .slice C ls2.length cc] 25))
    cases b2
    · go_wp2_with fail
      refine (same_yes nd2 B C cb cc ls2 _ (by omega) T4.rd q3).mono ?_
      rintro e w5 ⟨rfl, hb5⟩
      have T5 := T4.on hb5
      have q5 := q3.on hb5
      have k0 : w5.cell? ⟨w3.heap.size, 0, none⟩ = some (.int .i64 nd2) := ckeep (by go_simp) hb5
      have k1 : w5.cell? ⟨w3.heap.size, 1, none⟩ = some (.slice C ls2.length cc) := ckeep (by go_simp) hb5
      clear T3 T4 d0 d1 l4 hb5 q3
      have d0 := T5.c0
      have d1 := T5.c1
      go_wp2_with fail
      refine (same_yes nd2 B C cb cc ls2 _ (by omega) T5.rd q5).mono ?_
      rintro e w6 ⟨rfl, hb6⟩
      go_wp2_with fail
      go_ret
      exact ⟨rfl, (T5.on hb6).bl⟩
    · obtain ⟨hv, hn, he⟩ := HY.out rfl
      go_wp2_with fail
      refine (same_yes nd2 B C cb cc ls2 _ (by omega) T4.rd q3).mono ?_
      rintro e w5 ⟨rfl, hb5⟩
      have T5 := T4.on hb5
      clear T3 T4 d0 d1 l4 hb5 q3
      have d0 := T5.c0
      have d1 := T5.c1
      have HC := gReach_any nd2 B cb ls2 x w5 (by omega) T5.rd
      rw [rchO_yes ⟨hv, hn⟩, he] at HC
      have HC := Lib.hid HC
      clear he
      go_wp2_with fail
      refine HC.out.mono ?_
      rintro e w6 ⟨⟨E, ce, rfl, oE⟩, hb6⟩
      have B6 := bthen T5.bl hb6
      have RX : RdI (w6.alloc (.cells #[.int .i64 x] 3)) (w6.alloc (.cells #[.int .i64 x] 3)).heap.size (some ⟨w6.heap.size, 0, none⟩) [x] := fun _ => ⟨w6.heap.size, 0, rfl, by simp, fun k hk => by
        obtain rfl : k = 0 := by simp at hk; omega
        go_simp
        rfl⟩
      have RE := oE.rd.on (bnew w6 (.cells #[.int .i64 x] 3))
      go_wp2_with fail
      refine (sameI_yes E _ ce 1 [x] _ (by simp) RE RX).mono ?_
      rintro e w7 ⟨rfl, hb7⟩
      go_wp2_with fail
      go_ret
      exact ⟨rfl, bthen B6 (bthen (bnew _ _) hb7)⟩
  · go_enter Try.func12, Try.ntmps12
    go_wp2_with fail
    go_ret
    exact ⟨rfl, Below.refl _ _⟩

end Go.Proofs.Ytkaoincakfhmmaa.fnIsolateReach
