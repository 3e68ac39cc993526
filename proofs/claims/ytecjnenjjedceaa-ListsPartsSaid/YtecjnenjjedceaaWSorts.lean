/- ListsSorts returns true: the walk. -/
import Derived.Test.YtecjnenjjedceaaRefSort
import Derived.Test.YtecjnenjjedceaaUniq
import Derived.Test.YtecjnenjjedceaaWSelects
namespace Go.Proofs.Ytecjnenjjedceaa
open Go.RowKit
set_option linter.unusedVariables false

theorem unique_n (a : Option Addr) (l c : Nat) (xs : List Int) (w : World) (hA : Sl w a l c xs) (hl : l ≤ 1000) :
    Calls Try.prog 26 #[.slice a l c] w (Gives (uniqL xs) w) := unique_any a l c xs w hA hl
theorem count_n (a : Option Addr) (l c : Nat) (xs : List Int) (n : Int) (w : World) (hA : Sl w a l c xs) (hl : l ≤ 1000) :
    Calls Try.prog 28 #[.slice a l c, .int .i64 n] w fun e w' => e = .returned (.int .i64 (cnt xs n)) ∧ Below w.heap.size w w' := count_any a l c xs n w hA hl

set_option maxHeartbeats 800000 in
theorem sorts_walk (a : Option Addr) (l c : Nat) (xs : List Int) (n : Int) (w : World) (hA : Sl w a l c xs) :
    Calls Try.prog 5 #[.slice a l c, .int .i64 n] w (Yes w) := by
  by_cases hl : l ≤ 60
  · have hA' := Lib.hid hA
    clear hA
    go_enter Try.func5, Try.ntmps5
    go_wp2_with fail
    refine (sort_any a l c xs _ hA'.out (by omega)).mono ?_
    rintro e w1 ⟨v1, rfl, hown1, hb1⟩
    obtain ⟨a1, c1, rfl, hs1⟩ := hown1.sl
    clear hown1
    have hq1 := hb1
    go_wp2_with fail
    refine (refSort_any a l c xs _ (hA'.out.below hq1) (by omega)).mono ?_
    rintro e w2 ⟨v2, rfl, hown2, hb2⟩
    obtain ⟨a2, c2, rfl, hs2⟩ := hown2.sl
    clear hown2
    have hq2 := Below.next hq1 hb2
    go_wp2_with fail
    refine (same_true _ _ _ _ _ _ _ _ _ (hs1.below hb2) hs2 rfl).mono ?_
    rintro e w3 ⟨rfl, hb3⟩
    have hq3 := Below.next hq2 hb3
    clear hs1 hs2
    go_wp2_with fail
    refine (unique_n a l c xs _ (hA'.out.below hq3) (by omega)).mono ?_
    rintro e w4 ⟨v4, rfl, hown4, hb4⟩
    obtain ⟨a4, c4, rfl, hs4⟩ := hown4.sl
    clear hown4
    have hq4 := Below.next hq3 hb4
    go_wp2_with fail
    refine (refUnique_any a l c xs _ (hA'.out.below hq4) (by omega)).mono ?_
    rintro e w5 ⟨v5, rfl, hown5, hb5⟩
    obtain ⟨a5, c5, rfl, hs5⟩ := hown5.sl
    clear hown5
    have hq5 := Below.next hq4 hb5
    go_wp2_with fail
    refine (same_true _ _ _ _ _ _ _ _ _ (hs4.below hb5) hs5 rfl).mono ?_
    rintro e w6 ⟨rfl, hb6⟩
    have hq6 := Below.next hq5 hb6
    clear hs4 hs5
    go_wp2_with fail
    refine (count_n a l c xs n _ (hA'.out.below hq6) (by omega)).mono ?_
    rintro e w8 ⟨rfl, hb8⟩
    have hq8 := Below.next hq6 hb8
    go_wp2_with fail
    refine (refCount_any a l c xs n _ (hA'.out.below hq8) (by omega)).mono ?_
    rintro e w9 ⟨rfl, rfl⟩
    go_wp2_with fail
    refine (alive_any _).mono ?_
    rintro e w7 ⟨rfl, hb7⟩
    go_wp2
    go_ret
    exact ⟨rfl, Below.next hq8 hb7⟩
  · clear hA
    go_enter Try.func5, Try.ntmps5
    go_wp2_with fail
    refine (alive_any _).mono ?_
    rintro e w1 ⟨rfl, hb1⟩
    go_wp2
    go_ret
    exact ⟨rfl, hb1⟩

end Go.Proofs.Ytecjnenjjedceaa
