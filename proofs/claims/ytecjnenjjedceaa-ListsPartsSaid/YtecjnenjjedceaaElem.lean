/- Element, Head, Last, Max, Min and their references. -/
import Derived.Test.YtecjnenjjedceaaRefSort
namespace Go.Proofs.Ytecjnenjjedceaa
open Go.RowKit
set_option linter.unusedVariables false

def elemV (xs : List Int) (k : Int) : Int := if 0 ≤ k then (if k < xs.length then xs.getD k.toNat 0 else 0) else (if -(xs.length : Int) ≤ k then xs.getD (k + xs.length).toNat 0 else 0)
def elemE (xs : List Int) (k : Int) : Int := if 0 ≤ k then (if k < xs.length then 0 else 7) else (if -(xs.length : Int) ≤ k then 0 else 7)

/-- the four cases of an index -/
theorem elem_cases (xs : List Int) (l : Nat) (hl : xs.length = l) (k : Int) :
    (∃ j : Nat, k = j ∧ j < l ∧ elemV xs k = xs.getD j 0 ∧ elemE xs k = 0) ∨ (∃ j : Nat, k < 0 ∧ k + l = j ∧ j < l ∧ elemV xs k = xs.getD j 0 ∧ elemE xs k = 0) ∨
    ((l : Int) ≤ k ∧ elemV xs k = 0 ∧ elemE xs k = 7) ∨ (k < -(l : Int) ∧ elemV xs k = 0 ∧ elemE xs k = 7) := by
  unfold elemV elemE
  rw [hl]
  by_cases h0 : 0 ≤ k
  · obtain ⟨j, rfl⟩ := Int.eq_ofNat_of_zero_le h0
    rw [if_pos h0, if_pos h0]
    by_cases h1 : (j : Int) < l
    · rw [if_pos h1, if_pos h1]
      exact .inl ⟨j, rfl, by omega, by simp, rfl⟩
    · rw [if_neg h1, if_neg h1]
      exact .inr (.inr (.inl ⟨by omega, rfl, rfl⟩))
  · rw [if_neg h0, if_neg h0]
    by_cases h1 : -(l : Int) ≤ k
    · obtain ⟨j, hj⟩ := Int.eq_ofNat_of_zero_le (show 0 ≤ k + l by omega)
      rw [if_pos h1, if_pos h1]
      exact .inr (.inl ⟨j, by omega, hj, by omega, by rw [hj]; simp, rfl⟩)
    · rw [if_neg h1, if_neg h1]
      exact .inr (.inr (.inr ⟨by omega, rfl, rfl⟩))

theorem ret2_elem {a c : Int} {xs : List Int} {k : Int} (h1 : elemV xs k = a) (h2 : elemE xs k = c) : Ending.returned (.tuple #[.int .i64 a, .int .i64 c]) = .returned (.tuple #[.int .i64 (elemV xs k), .int .i64 (elemE xs k)]) := by rw [h1, h2]

set_option maxHeartbeats 400000 in
theorem element_any (a : Option Addr) (l c : Nat) (xs : List Int) (k : Int) (w : World) (hA : Sl w a l c xs) (hl : l ≤ 1000) :
    Calls Try.prog 42 #[.slice a l c, .int .i64 k] w fun e w' => e = .returned (.tuple #[.int .i64 (elemV xs k), .int .i64 (elemE xs k)]) ∧ w = w' := by
  have hcs := elem_cases xs l hA.hlen k
  obtain ⟨b1, o1, ha0, hac⟩ := hA.cell
  clear hA
  rcases hcs with ⟨j, rfl, hj, e1, e2⟩ | ⟨j, hk0, hkj, hj, e1, e2⟩ | ⟨hk, e1, e2⟩ | ⟨hk, e1, e2⟩
  · obtain ⟨rfl, hb1⟩ := ha0 (by omega)
    have c1 := hac j hj
    have E1 := Lib.hid e1
    have E2 := Lib.hid e2
    clear hac ha0 e1 e2
    go_enter Try.func42, Try.ntmps42
    go_wp2
    go_ret2
    exact ⟨ret2_elem E1.out E2.out, rfl⟩
  · obtain ⟨rfl, hb1⟩ := ha0 (by omega)
    have c1 := hac j hj
    have hb : -(l : Int) ≤ k := by omega
    have E1 := Lib.hid e1
    have E2 := Lib.hid e2
    clear hac ha0 e1 e2
    go_enter Try.func42, Try.ntmps42
    go_wp2
    go_ret2
    exact ⟨ret2_elem E1.out E2.out, rfl⟩
  · have E1 := Lib.hid e1
    have E2 := Lib.hid e2
    clear hac ha0 e1 e2
    go_enter Try.func42, Try.ntmps42
    go_wp2
    go_ret2
    exact ⟨ret2_elem E1.out E2.out, rfl⟩
  · have E1 := Lib.hid e1
    have E2 := Lib.hid e2
    have hk0 : k < 0 := by omega
    clear hac ha0 e1 e2
    go_enter Try.func42, Try.ntmps42
    go_wp2
    go_ret2
    exact ⟨ret2_elem E1.out E2.out, rfl⟩

set_option maxHeartbeats 400000 in
theorem refElement_any (a : Option Addr) (l c : Nat) (xs : List Int) (k : Int) (w : World) (hA : Sl w a l c xs) (hl : l ≤ 1000) :
    Calls Try.prog 43 #[.slice a l c, .int .i64 k] w fun e w' => e = .returned (.tuple #[.int .i64 (elemV xs k), .int .i64 (elemE xs k)]) ∧ w = w' := by
  have hcs := elem_cases xs l hA.hlen k
  obtain ⟨b1, o1, ha0, hac⟩ := hA.cell
  clear hA
  rcases hcs with ⟨j, rfl, hj, e1, e2⟩ | ⟨j, hk0, hkj, hj, e1, e2⟩ | ⟨hk, e1, e2⟩ | ⟨hk, e1, e2⟩
  · obtain ⟨rfl, hb1⟩ := ha0 (by omega)
    have c1 := hac j hj
    have E1 := Lib.hid e1
    have E2 := Lib.hid e2
    clear hac ha0 e1 e2
    go_enter Try.func43, Try.ntmps43
    go_wp2
    go_ret2
    exact ⟨ret2_elem E1.out E2.out, rfl⟩
  · obtain ⟨rfl, hb1⟩ := ha0 (by omega)
    have c1 := hac j hj
    have hb : -(l : Int) ≤ k := by omega
    have hkj2 : (l : Int) + k = j := by omega
    have E1 := Lib.hid e1
    have E2 := Lib.hid e2
    clear hac ha0 e1 e2 hkj
    go_enter Try.func43, Try.ntmps43
    go_wp2
    go_ret2
    exact ⟨ret2_elem E1.out E2.out, rfl⟩
  · have hk0 : 0 ≤ k := by omega
    have E1 := Lib.hid e1
    have E2 := Lib.hid e2
    clear hac ha0 e1 e2
    go_enter Try.func43, Try.ntmps43
    go_wp2
    go_ret2
    exact ⟨ret2_elem E1.out E2.out, rfl⟩
  · have E1 := Lib.hid e1
    have E2 := Lib.hid e2
    have hk0 : k < 0 := by omega
    clear hac ha0 e1 e2
    go_enter Try.func43, Try.ntmps43
    go_wp2
    go_ret2
    exact ⟨ret2_elem E1.out E2.out, rfl⟩

/-- What a call that hands back a number and an error's number comes to. -/
def TwoI (a b : Int) (w : World) (e : Ending) (w' : World) : Prop := e = .returned (.tuple #[.int .i64 a, .int .i64 b]) ∧ Below w.heap.size w w'

theorem head_any (a : Option Addr) (l c : Nat) (xs : List Int) (w : World) (hA : Sl w a l c xs) (hl : l ≤ 1000) :
    Calls Try.prog 44 #[.slice a l c] w (TwoI (elemV xs 0) (elemE xs 0) w) := by
  have H := Lib.hid (element_any a l c xs 0 w hA hl)
  clear hA
  go_enter Try.func44, Try.ntmps44
  go_wp2_with fail
  refine H.out.mono ?_
  rintro e w' ⟨rfl, rfl⟩
  go_wp2
  go_ret2
  exact ⟨rfl, Below.refl _ _⟩

theorem refHead_any (a : Option Addr) (l c : Nat) (xs : List Int) (w : World) (hA : Sl w a l c xs) (hl : l ≤ 1000) :
    Calls Try.prog 45 #[.slice a l c] w (TwoI (elemV xs 0) (elemE xs 0) w) := by
  have H := Lib.hid (refElement_any a l c xs 0 w hA hl)
  clear hA
  go_enter Try.func45, Try.ntmps45
  go_wp2_with fail
  refine H.out.mono ?_
  rintro e w' ⟨rfl, rfl⟩
  go_wp2
  go_ret2
  exact ⟨rfl, Below.refl _ _⟩

theorem last_any (a : Option Addr) (l c : Nat) (xs : List Int) (w : World) (hA : Sl w a l c xs) (hl : l ≤ 1000) :
    Calls Try.prog 46 #[.slice a l c] w (TwoI (elemV xs (-1)) (elemE xs (-1)) w) := by
  have H := Lib.hid (element_any a l c xs (-1) w hA hl)
  clear hA
  go_enter Try.func46, Try.ntmps46
  go_wp2_with fail
  refine H.out.mono ?_
  rintro e w' ⟨rfl, rfl⟩
  go_wp2
  go_ret2
  exact ⟨rfl, Below.refl _ _⟩

theorem refLast_any (a : Option Addr) (l c : Nat) (xs : List Int) (w : World) (hA : Sl w a l c xs) (hl : l ≤ 1000) :
    Calls Try.prog 47 #[.slice a l c] w (TwoI (elemV xs (-1)) (elemE xs (-1)) w) := by
  have H := Lib.hid (refElement_any a l c xs (-1) w hA hl)
  clear hA
  go_enter Try.func47, Try.ntmps47
  go_wp2_with fail
  refine H.out.mono ?_
  rintro e w' ⟨rfl, rfl⟩
  go_wp2
  go_ret2
  exact ⟨rfl, Below.refl _ _⟩

theorem max_any (a : Option Addr) (l c : Nat) (xs : List Int) (w : World) (hA : Sl w a l c xs) (hl : l ≤ 1000) :
    Calls Try.prog 48 #[.slice a l c] w (TwoI (elemV (sortL xs) (-1)) (elemE (sortL xs) (-1)) w) := by
  have H := Lib.hid (sort_any a l c xs w hA hl)
  have hlen := Lib.hid (show (sortL xs).length = l by rw [(sortL_perm xs).length_eq, hA.hlen])
  clear hA
  go_enter Try.func48, Try.ntmps48
  go_wp2_with fail
  refine H.out.mono ?_
  rintro e w1 ⟨v, rfl, hown, hb⟩
  obtain ⟨a1, c1, rfl, hs⟩ := hown.sl
  have HE := Lib.hid (element_any a1 _ c1 _ (-1) w1 hs (by rw [hlen.out]; exact hl))
  clear hown hs
  go_wp2_with fail
  refine HE.out.mono ?_
  rintro e w2 ⟨rfl, rfl⟩
  go_wp2
  go_ret2
  exact ⟨rfl, hb⟩

theorem refMax_any (a : Option Addr) (l c : Nat) (xs : List Int) (w : World) (hA : Sl w a l c xs) (hl : l ≤ 1000) :
    Calls Try.prog 49 #[.slice a l c] w (TwoI (elemV (sortL xs) (-1)) (elemE (sortL xs) (-1)) w) := by
  have H := Lib.hid (refSort_any a l c xs w hA hl)
  have hlen := Lib.hid (show (sortL xs).length = l by rw [(sortL_perm xs).length_eq, hA.hlen])
  clear hA
  go_enter Try.func49, Try.ntmps49
  go_wp2_with fail
  refine H.out.mono ?_
  rintro e w1 ⟨v, rfl, hown, hb⟩
  obtain ⟨a1, c1, rfl, hs⟩ := hown.sl
  have HE := Lib.hid (refElement_any a1 _ c1 _ (-1) w1 hs (by rw [hlen.out]; exact hl))
  clear hown hs
  go_wp2_with fail
  refine HE.out.mono ?_
  rintro e w2 ⟨rfl, rfl⟩
  go_wp2
  go_ret2
  exact ⟨rfl, hb⟩

theorem min_any (a : Option Addr) (l c : Nat) (xs : List Int) (w : World) (hA : Sl w a l c xs) (hl : l ≤ 1000) :
    Calls Try.prog 50 #[.slice a l c] w (TwoI (elemV (sortL xs) 0) (elemE (sortL xs) 0) w) := by
  have H := Lib.hid (sort_any a l c xs w hA hl)
  have hlen := Lib.hid (show (sortL xs).length = l by rw [(sortL_perm xs).length_eq, hA.hlen])
  clear hA
  go_enter Try.func50, Try.ntmps50
  go_wp2_with fail
  refine H.out.mono ?_
  rintro e w1 ⟨v, rfl, hown, hb⟩
  obtain ⟨a1, c1, rfl, hs⟩ := hown.sl
  have HE := Lib.hid (element_any a1 _ c1 _ 0 w1 hs (by rw [hlen.out]; exact hl))
  clear hown hs
  go_wp2_with fail
  refine HE.out.mono ?_
  rintro e w2 ⟨rfl, rfl⟩
  go_wp2
  go_ret2
  exact ⟨rfl, hb⟩

theorem refMin_any (a : Option Addr) (l c : Nat) (xs : List Int) (w : World) (hA : Sl w a l c xs) (hl : l ≤ 1000) :
    Calls Try.prog 51 #[.slice a l c] w (TwoI (elemV (sortL xs) 0) (elemE (sortL xs) 0) w) := by
  have H := Lib.hid (refSort_any a l c xs w hA hl)
  have hlen := Lib.hid (show (sortL xs).length = l by rw [(sortL_perm xs).length_eq, hA.hlen])
  clear hA
  go_enter Try.func51, Try.ntmps51
  go_wp2_with fail
  refine H.out.mono ?_
  rintro e w1 ⟨v, rfl, hown, hb⟩
  obtain ⟨a1, c1, rfl, hs⟩ := hown.sl
  have HE := Lib.hid (refElement_any a1 _ c1 _ 0 w1 hs (by rw [hlen.out]; exact hl))
  clear hown hs
  go_wp2_with fail
  refine HE.out.mono ?_
  rintro e w2 ⟨rfl, rfl⟩
  go_wp2
  go_ret2
  exact ⟨rfl, hb⟩
end Go.Proofs.Ytecjnenjjedceaa
