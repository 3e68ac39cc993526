/- The shifts. -/
import Derived.Test.YtakbmmmoalfedaaLow
namespace Go.Proofs.Ytakbmmmoalfedaa
open Go.RowKit
set_option linter.unusedVariables false

theorem left_any (a n : Int) (w : World) : Calls Try.prog 27 #[.int .i64 a, .int .i64 n] w (OneI (leftZ a n) w) := by
  cases h : V a with
  | false =>
    have e : leftZ a n = 0 := by unfold leftZ; rw [h]; rfl
    rw [e]
    have H := Lib.hid h
    clear e h
    go_enter Try.func27, Try.ntmps27
    go_wp2_with fail
    refine (valid_any _ _).mono ?_
    rintro e w' ⟨rfl, rfl⟩
    rw [H.out]
    go_wp2
    go_ret
    exact oneI rfl (Below.refl _ _)
  | true =>
    have H := Lib.hid h
    clear h
    generalize hd : distZ n = d
    have hd8 : d ≤ 8 := hd ▸ distZ_le n
    have HD := Lib.hid hd
    clear hd
    go_enter Try.func27, Try.ntmps27
    go_wp2_with fail
    refine (valid_any _ _).mono ?_
    rintro e w' ⟨rfl, rfl⟩
    rw [H.out]
    go_wp2_with fail
    refine (distance_any _ _).mono ?_
    rintro e w' ⟨rfl, rfl⟩
    rw [HD.out]
    go_wp2_with fail
    refine (low0 _ _).mono ?_
    rintro e w' ⟨rfl, rfl⟩
    go_wp2
    go_ret
    refine oneI ?_ (Below.refl _ _)
    unfold leftZ
    rw [H.out, HD.out, if_pos rfl]
    have h1 := V_true H.out
    show wrap64 _ % 256 = _
    generalize a * 2 ^ d = m
    unfold wrap64; omega

theorem right_any (a n : Int) (w : World) : Calls Try.prog 29 #[.int .i64 a, .int .i64 n] w (OneI (rightZ a n) w) := by
  generalize hd : distZ n = d
  have hd8 : d ≤ 8 := hd ▸ distZ_le n
  have HD := Lib.hid hd
  clear hd
  go_enter Try.func29, Try.ntmps29
  go_wp2_with fail
  refine (distance_any _ _).mono ?_
  rintro e w' ⟨rfl, rfl⟩
  rw [HD.out]
  go_wp2_with fail
  refine (low1 _ _ _).mono ?_
  rintro e w' ⟨rfl, hb⟩
  go_wp2
  go_ret
  refine oneI ?_ hb
  unfold rightZ one
  rw [HD.out]
  cases h : V a with
  | false => rfl
  | true =>
    have h1 := V_true h
    rw [if_pos rfl, if_pos rfl]
    have h2 : 0 ≤ a / 2 ^ d := Int.ediv_nonneg h1.1 (by have := (pow_le_256 hd8).2.2; omega)
    have h3 : a / 2 ^ d ≤ a := Int.ediv_le_self _ h1.1
    omega

set_option maxRecDepth 4000 in
theorem arith_big (a n : Int) (w : World) (hb : 127 < a) : Calls Try.prog 31 #[.int .i64 a, .int .i64 n] w (OneI (arithZ a n) w) := by
  generalize hd : distZ n = d
  have hd8 : d ≤ 8 := hd ▸ distZ_le n
  have HD := Lib.hid hd
  clear hd
  go_enter Try.func31, Try.ntmps31
  go_wp2_with fail
  refine (distance_any _ _).mono ?_
  rintro e w' ⟨rfl, rfl⟩
  rw [HD.out]
  have hw : wrap64 (a - 256) = a - 256 ∨ ¬ V a = true := by
    by_cases h : V a = true
    · left; have h1 := V_true h; unfold wrap64; omega
    · right; exact h
  have HW := Lib.hid hw
  clear hw
  go_wp2_with fail
  refine (low1 _ _ _).mono ?_
  rintro e w' ⟨rfl, hbb⟩
  go_wp2
  go_ret
  refine oneI ?_ hbb
  unfold arithZ one
  rw [HD.out, if_pos hb]
  rcases HW.out with h | h
  · rw [h]
  · rw [if_neg h, if_neg h]
theorem arith_any (a n : Int) (w : World) : Calls Try.prog 31 #[.int .i64 a, .int .i64 n] w (OneI (arithZ a n) w) := by
  by_cases hb : 127 < a
  · exact arith_big a n w hb
  · have e : arithZ a n = rightZ a n := by unfold arithZ rightZ; rw [if_neg hb]
    rw [e]
    clear e
    go_enter Try.func31, Try.ntmps31
    go_wp2_with fail
    refine (right_any _ _ _).mono ?_
    rintro e w' ⟨rfl, hbb⟩
    go_wp2
    go_ret
    exact oneI rfl hbb
end Go.Proofs.Ytakbmmmoalfedaa
