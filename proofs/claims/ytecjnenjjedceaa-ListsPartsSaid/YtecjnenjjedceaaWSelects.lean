/- ListsSelects returns true: Above and Even select what the reference selects. -/
import Derived.Test.YtecjnenjjedceaaRefSel
namespace Go.Proofs.Ytecjnenjjedceaa
open Go.RowKit
set_option linter.unusedVariables false

/-- What a law's call comes to. -/
def Yes (w : World) (e : Ending) (w' : World) : Prop := e = .returned (.bool true) ∧ Below w.heap.size w w'

theorem Below.next {w w1 w2 : World} (h : Below w.heap.size w w1) (h2 : Below w1.heap.size w1 w2) : Below w.heap.size w w2 := h.trans (h2.mono h.size)

set_option maxHeartbeats 400000 in
theorem selects_walk (a : Option Addr) (l c : Nat) (xs : List Int) (n : Int) (w : World) (hA : Sl w a l c xs) :
    Calls Try.prog 3 #[.slice a l c, .int .i64 n] w (Yes w) := by
  by_cases hl : l ≤ 60
  · have hA' := Lib.hid hA
    clear hA
    go_enter Try.func3, Try.ntmps3
    go_wp2_with fail
    refine (above_any a l c xs n w hA'.out (by omega)).mono ?_
    rintro e w1 ⟨v1, rfl, hown1, hb1⟩
    obtain ⟨a1, c1, rfl, hs1⟩ := hown1.sl
    clear hown1
    go_wp2_with fail
    refine (refAbove_any a l c xs n _ (hA'.out.below hb1) (by omega)).mono ?_
    rintro e w2 ⟨v2, rfl, hown2, hb2⟩
    obtain ⟨a2, c2, rfl, hs2⟩ := hown2.sl
    clear hown2
    go_wp2_with fail
    refine (same_true _ _ _ _ _ _ _ _ _ (hs1.below hb2) hs2 rfl).mono ?_
    rintro e w3 ⟨rfl, hb3⟩
    have hb03 := Below.next (Below.next hb1 hb2) hb3
    clear hs1 hs2 hb1 hb2 hb3
    go_wp2_with fail
    refine (even_any a l c xs _ (hA'.out.below hb03) (by omega)).mono ?_
    rintro e w4 ⟨v4, rfl, hown4, hb4⟩
    obtain ⟨a4, c4, rfl, hs4⟩ := hown4.sl
    clear hown4
    go_wp2_with fail
    refine (refEven_any a l c xs _ (hA'.out.below (Below.next hb03 hb4)) (by omega)).mono ?_
    rintro e w5 ⟨v5, rfl, hown5, hb5⟩
    obtain ⟨a5, c5, rfl, hs5⟩ := hown5.sl
    clear hown5
    go_wp2_with fail
    refine (same_true _ _ _ _ _ _ _ _ _ (hs4.below hb5) hs5 rfl).mono ?_
    rintro e w6 ⟨rfl, hb6⟩
    have hb06 := Below.next (Below.next (Below.next hb03 hb4) hb5) hb6
    clear hs4 hs5 hb4 hb5 hb6 hb03
    go_wp2_with fail
    refine (alive_any _).mono ?_
    rintro e w7 ⟨rfl, hb7⟩
    go_wp2
    go_ret
    exact ⟨rfl, Below.next hb06 hb7⟩
  · clear hA
    go_enter Try.func3, Try.ntmps3
    go_wp2_with fail
    refine (alive_any _).mono ?_
    rintro e w7 ⟨rfl, hb7⟩
    go_wp2
    go_ret
    exact ⟨rfl, hb7⟩
end Go.Proofs.Ytecjnenjjedceaa
