/- ListsTakes returns true: the walk. -/
import Derived.Test.YtecjnenjjedceaaReverse
import Derived.Test.YtecjnenjjedceaaWSelects
namespace Go.Proofs.Ytecjnenjjedceaa
open Go.RowKit
set_option linter.unusedVariables false

def takeL (xs : List Int) (n : Int) : List Int := xs.take n.toNat
def dropL (xs : List Int) (n : Int) : List Int := xs.drop n.toNat
def revL (xs : List Int) : List Int := xs.reverse
theorem take_n (a : Option Addr) (l c : Nat) (xs : List Int) (n : Int) (w : World) (hA : Sl w a l c xs) (hl : l ≤ 1000) :
    Calls Try.prog 18 #[.slice a l c, .int .i64 n] w (Gives (takeL xs n) w) := take_any a l c xs n w hA hl
theorem refTake_n (a : Option Addr) (l c : Nat) (xs : List Int) (n : Int) (w : World) (hA : Sl w a l c xs) (hl : l ≤ 1000) :
    Calls Try.prog 19 #[.slice a l c, .int .i64 n] w (Gives (takeL xs n) w) := refTake_any a l c xs n w hA hl
theorem drop_n (a : Option Addr) (l c : Nat) (xs : List Int) (n : Int) (w : World) (hA : Sl w a l c xs) (hl : l ≤ 1000) :
    Calls Try.prog 20 #[.slice a l c, .int .i64 n] w (Gives (dropL xs n) w) := drop_any a l c xs n w hA hl
theorem refDrop_n (a : Option Addr) (l c : Nat) (xs : List Int) (n : Int) (w : World) (hA : Sl w a l c xs) (hl : l ≤ 1000) :
    Calls Try.prog 21 #[.slice a l c, .int .i64 n] w (Gives (dropL xs n) w) := refDrop_any a l c xs n w hA hl
theorem reverse_n (a : Option Addr) (l c : Nat) (xs : List Int) (w : World) (hA : Sl w a l c xs) (hl : l ≤ 1000) :
    Calls Try.prog 22 #[.slice a l c] w (Gives (revL xs) w) := reverse_any a l c xs w hA hl
theorem refReverse_n (a : Option Addr) (l c : Nat) (xs : List Int) (w : World) (hA : Sl w a l c xs) (hl : l ≤ 1000) :
    Calls Try.prog 23 #[.slice a l c] w (Gives (revL xs) w) := refReverse_any a l c xs w hA hl

set_option maxHeartbeats 800000 in
theorem takes_walk (a : Option Addr) (l c : Nat) (xs : List Int) (n : Int) (w : World) (hA : Sl w a l c xs) :
    Calls Try.prog 4 #[.slice a l c, .int .i64 n] w (Yes w) := by
  by_cases hl : l ≤ 60
  · have hA' := Lib.hid hA
    clear hA
    go_enter Try.func4, Try.ntmps4
    go_wp2_with fail
    refine (take_n a l c xs n _ hA'.out (by omega)).mono ?_
    rintro e w1 ⟨v1, rfl, hown1, hb1⟩
    obtain ⟨a1, c1, rfl, hs1⟩ := hown1.sl
    clear hown1
    have hq1 := hb1
    go_wp2_with fail
    refine (refTake_n a l c xs n _ (hA'.out.below hq1) (by omega)).mono ?_
    rintro e w2 ⟨v2, rfl, hown2, hb2⟩
    obtain ⟨a2, c2, rfl, hs2⟩ := hown2.sl
    clear hown2
    have hq2 := Below.next hq1 hb2
    go_wp2_with fail
    refine (same_true _ _ _ _ _ _ _ _ _ (hs1.below hb2) hs2 rfl).mono ?_
    rintro e w3 ⟨rfl, hb3⟩
    have hq3 := Below.next hq2 hb3
    clear hs1 hs2
    go_wp2_with fail
    refine (drop_n a l c xs n _ (hA'.out.below hq3) (by omega)).mono ?_
    rintro e w4 ⟨v4, rfl, hown4, hb4⟩
    obtain ⟨a4, c4, rfl, hs4⟩ := hown4.sl
    clear hown4
    have hq4 := Below.next hq3 hb4
    go_wp2_with fail
    refine (refDrop_n a l c xs n _ (hA'.out.below hq4) (by omega)).mono ?_
    rintro e w5 ⟨v5, rfl, hown5, hb5⟩
    obtain ⟨a5, c5, rfl, hs5⟩ := hown5.sl
    clear hown5
    have hq5 := Below.next hq4 hb5
    go_wp2_with fail
    refine (same_true _ _ _ _ _ _ _ _ _ (hs4.below hb5) hs5 rfl).mono ?_
    rintro e w6 ⟨rfl, hb6⟩
    have hq6 := Below.next hq5 hb6
    clear hs4 hs5
    go_wp2_with fail
    refine (reverse_n a l c xs _ (hA'.out.below hq6) (by omega)).mono ?_
    rintro e w7 ⟨v7, rfl, hown7, hb7⟩
    obtain ⟨a7, c7, rfl, hs7⟩ := hown7.sl
    clear hown7
    have hq7 := Below.next hq6 hb7
    go_wp2_with fail
    refine (refReverse_n a l c xs _ (hA'.out.below hq7) (by omega)).mono ?_
    rintro e w8 ⟨v8, rfl, hown8, hb8⟩
    obtain ⟨a8, c8, rfl, hs8⟩ := hown8.sl
    clear hown8
    have hq8 := Below.next hq7 hb8
    go_wp2_with fail
    refine (same_true _ _ _ _ _ _ _ _ _ (hs7.below hb8) hs8 rfl).mono ?_
    rintro e w9 ⟨rfl, hb9⟩
    have hq9 := Below.next hq8 hb9
    clear hs7 hs8
    go_wp2_with fail
    refine (alive_any _).mono ?_
    rintro e w10 ⟨rfl, hb10⟩
    go_wp2
    go_ret
    exact ⟨rfl, Below.next hq9 hb10⟩
  · clear hA
    go_enter Try.func4, Try.ntmps4
    go_wp2_with fail
    refine (alive_any _).mono ?_
    rintro e w1 ⟨rfl, hb1⟩
    go_wp2
    go_ret
    exact ⟨rfl, hb1⟩

end Go.Proofs.Ytecjnenjjedceaa
