/- ListsSums returns true: the walk. -/
import Derived.Test.YtecjnenjjedceaaRunning
import Derived.Test.YtecjnenjjedceaaWSelects
namespace Go.Proofs.Ytecjnenjjedceaa
open Go.RowKit
set_option linter.unusedVariables false

set_option maxHeartbeats 400000 in
theorem sums_walk (a : Option Addr) (l c : Nat) (xs : List Int) (w : World) (hA : Sl w a l c xs) :
    Calls Try.prog 6 #[.slice a l c] w (Yes w) := by
  by_cases hl : l ≤ 60
  · have hA' := Lib.hid hA
    clear hA
    go_enter Try.func6, Try.ntmps6
    go_wp2_with fail
    refine (sum_any a l c xs w hA'.out (by omega)).mono ?_
    rintro e w1 ⟨rfl, rfl⟩
    go_wp2_with fail
    refine (refSum_any a l c xs w hA'.out (by omega)).mono ?_
    rintro e w1 ⟨rfl, rfl⟩
    go_wp2_with fail
    refine (running_any a l c xs w hA'.out (by omega)).mono ?_
    rintro e w1 ⟨v1, rfl, hown1, hb1⟩
    obtain ⟨a1, c1, rfl, hs1⟩ := hown1.sl
    clear hown1
    go_wp2_with fail
    refine (refRunning_any a l c xs _ (hA'.out.below hb1) (by omega)).mono ?_
    rintro e w2 ⟨v2, rfl, hown2, hb2⟩
    obtain ⟨a2, c2, rfl, hs2⟩ := hown2.sl
    clear hown2
    go_wp2_with fail
    refine (same_true _ _ _ _ _ _ _ _ _ (hs1.below hb2) hs2 rfl).mono ?_
    rintro e w3 ⟨rfl, hb3⟩
    have hb03 := Below.next (Below.next hb1 hb2) hb3
    clear hs1 hs2 hb1 hb2 hb3
    go_wp2_with fail
    refine (alive_any _).mono ?_
    rintro e w7 ⟨rfl, hb7⟩
    go_wp2
    go_ret
    exact ⟨rfl, Below.next hb03 hb7⟩
  · clear hA
    go_enter Try.func6, Try.ntmps6
    go_wp2_with fail
    refine (alive_any _).mono ?_
    rintro e w7 ⟨rfl, hb7⟩
    go_wp2
    go_ret
    exact ⟨rfl, hb7⟩
end Go.Proofs.Ytecjnenjjedceaa
