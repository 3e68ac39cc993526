/- ListsElements returns true: the walk. -/
import Derived.Test.YtecjnenjjedceaaElem
import Derived.Test.YtecjnenjjedceaaWSelects
namespace Go.Proofs.Ytecjnenjjedceaa
open Go.RowKit
set_option linter.unusedVariables false

set_option maxRecDepth 100000 in
set_option maxHeartbeats 1600000 in
theorem elements_walk (a : Option Addr) (l c : Nat) (xs : List Int) (k : Int) (w : World) (hA : Sl w a l c xs) :
    Calls Try.prog 10 #[.slice a l c, .int .i64 k] w (Yes w) := by
  by_cases hl : l ≤ 60
  · have HA := Lib.hid hA
    clear hA
    go_enter Try.func10, Try.ntmps10
    go_wp2_with fail
    refine (element_any a l c xs k w HA.out (by omega)).mono ?_
    rintro e w1 ⟨rfl, rfl⟩
    go_wp2_with fail
    refine (refElement_any a l c xs k w HA.out (by omega)).mono ?_
    rintro e w1 ⟨rfl, rfl⟩
    go_wp2_with fail
    refine (head_any a l c xs _ HA.out (by omega)).mono ?_
    rintro e w1 ⟨rfl, hb1⟩
    have hq1 := hb1
    go_wp2_with fail
    refine (refHead_any a l c xs _ (HA.out.below hq1) (by omega)).mono ?_
    rintro e w2 ⟨rfl, hb2⟩
    have hq2 := bnext hq1 hb2
    go_wp2_with fail
    refine (last_any a l c xs _ (HA.out.below hq2) (by omega)).mono ?_
    rintro e w3 ⟨rfl, hb3⟩
    have hq3 := bnext hq2 hb3
    go_wp2_with fail
    refine (refLast_any a l c xs _ (HA.out.below hq3) (by omega)).mono ?_
    rintro e w4 ⟨rfl, hb4⟩
    have hq4 := bnext hq3 hb4
    go_wp2_with fail
    refine (max_any a l c xs _ (HA.out.below hq4) (by omega)).mono ?_
    rintro e w5 ⟨rfl, hb5⟩
    have hq5 := bnext hq4 hb5
    go_wp2_with fail
    refine (refMax_any a l c xs _ (HA.out.below hq5) (by omega)).mono ?_
    rintro e w6 ⟨rfl, hb6⟩
    have hq6 := bnext hq5 hb6
    go_wp2_with fail
    refine (min_any a l c xs _ (HA.out.below hq6) (by omega)).mono ?_
    rintro e w7 ⟨rfl, hb7⟩
    have hq7 := bnext hq6 hb7
    go_wp2_with fail
    refine (refMin_any a l c xs _ (HA.out.below hq7) (by omega)).mono ?_
    rintro e w8 ⟨rfl, hb8⟩
    have hq8 := bnext hq7 hb8
    go_wp2_with fail
    refine (alive_any _).mono ?_
    rintro e w9 ⟨rfl, hb9⟩
    go_wp2
    go_ret
    exact ⟨rfl, bnext hq8 hb9⟩
  · clear hA
    go_enter Try.func10, Try.ntmps10
    go_wp2_with fail
    refine (alive_any _).mono ?_
    rintro e w7 ⟨rfl, hb7⟩
    go_wp2
    go_ret
    exact ⟨rfl, hb7⟩

end Go.Proofs.Ytecjnenjjedceaa
