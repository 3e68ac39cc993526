/- ListsScales returns true: the walk. -/
import Derived.Test.YtecjnenjjedceaaShift
import Derived.Test.YtecjnenjjedceaaWSelects
namespace Go.Proofs.Ytecjnenjjedceaa
open Go.RowKit
set_option linter.unusedVariables false

set_option maxHeartbeats 800000 in
theorem scales_walk (a : Option Addr) (l c : Nat) (xs : List Int) (n : Int) (w : World) (hA : Sl w a l c xs) :
    Calls Try.prog 8 #[.slice a l c, .int .i64 n] w (Yes w) := by
  by_cases hl : l ≤ 60
  · have hA' := Lib.hid hA
    clear hA
    go_enter Try.func8, Try.ntmps8
    go_wp2_with fail
    refine (shift_any a l c xs n w hA'.out (by omega)).mono ?_
    rintro e w1 ⟨v1, rfl, hown1, hb1⟩
    obtain ⟨a1, c1, rfl, hs1⟩ := hown1.sl
    clear hown1
    go_wp2_with fail
    refine (refShift_any a l c xs n _ (hA'.out.below hb1) (by omega)).mono ?_
    rintro e w2 ⟨v2, rfl, hown2, hb2⟩
    obtain ⟨a2, c2, rfl, hs2⟩ := hown2.sl
    have hq2 := bnext hb1 hb2
    clear hown2
    go_wp2_with fail
    refine (scale_any a l c xs n _ (hA'.out.below hq2) (by omega)).mono ?_
    rintro e w3 ⟨v3, rfl, hown3, hb3⟩
    obtain ⟨a3, c3, rfl, hs3⟩ := hown3.sl
    have hq3 := bnext hq2 hb3
    clear hown3
    go_wp2_with fail
    refine (refScale_any a l c xs n _ (hA'.out.below hq3) (by omega)).mono ?_
    rintro e w4 ⟨v4, rfl, hown4, hb4⟩
    obtain ⟨a4, c4, rfl, hs4⟩ := hown4.sl
    have hq4 := bnext hq3 hb4
    clear hown4
    go_wp2_with fail
    refine (same_true _ _ _ _ _ _ _ _ _ (((hs1.below hb2).below hb3).below hb4) ((hs2.below hb3).below hb4) rfl).mono ?_
    rintro e w5 ⟨rfl, hb5⟩
    have hq5 := bnext hq4 hb5
    go_wp2_with fail
    refine (same_true _ _ _ _ _ _ _ _ _ ((hs3.below hb4).below hb5) (hs4.below hb5) rfl).mono ?_
    rintro e w6 ⟨rfl, hb6⟩
    have hq6 := bnext hq5 hb6
    clear hs1 hs2 hs3 hs4
    go_wp2_with fail
    refine (alive_any _).mono ?_
    rintro e w7 ⟨rfl, hb7⟩
    go_wp2
    go_ret
    exact ⟨rfl, bnext hq6 hb7⟩
  · clear hA
    go_enter Try.func8, Try.ntmps8
    go_wp2_with fail
    refine (alive_any _).mono ?_
    rintro e w7 ⟨rfl, hb7⟩
    go_wp2
    go_ret
    exact ⟨rfl, hb7⟩
end Go.Proofs.Ytecjnenjjedceaa
