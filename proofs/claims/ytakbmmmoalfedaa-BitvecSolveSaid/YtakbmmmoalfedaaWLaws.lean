/- The walks of BitvecBits, Numbers, Shifts, Texts, Solve. -/
import Derived.Test.YtakbmmmoalfedaaAlive
import Derived.Test.YtakbmmmoalfedaaRefText
import Derived.Test.YtakbmmmoalfedaaRefSolve
namespace Go.Proofs.Ytakbmmmoalfedaa
open Go.RowKit
set_option linter.unusedVariables false

theorem numbers_walk (a b : Int) (w : World) : Calls Try.prog 4 #[.int .i64 a, .int .i64 b] w (OneB true w) := by
  go_enter Try.func4, Try.ntmps4
  go_wp2_with fail
  refine (add_any _ _ _).mono ?_
  rintro e w1 ⟨rfl, hb1⟩
  go_wp2_with fail
  refine (refAdd_any _ _ _).mono ?_
  rintro e w2 ⟨rfl, hb2⟩
  go_wp2_with fail
  refine (sub_any _ _ _).mono ?_
  rintro e w3 ⟨rfl, hb3⟩
  go_wp2_with fail
  refine (refSub_any _ _ _).mono ?_
  rintro e w4 ⟨rfl, hb4⟩
  go_wp2_with fail
  refine (mul_any _ _ _).mono ?_
  rintro e w5 ⟨rfl, hb5⟩
  go_wp2_with fail
  refine (refMul_any _ _ _).mono ?_
  rintro e w6 ⟨rfl, hb6⟩
  go_wp2_with fail
  refine (alive_any _).mono ?_
  rintro e w7 ⟨rfl, hb7⟩
  go_wp2
  go_ret
  exact ⟨rfl, (Below.next (Below.next (Below.next (Below.next (Below.next (Below.next (Below.next (Below.refl _ _) hb1) hb2) hb3) hb4) hb5) hb6) hb7)⟩
theorem shifts_walk (a b : Int) (w : World) : Calls Try.prog 5 #[.int .i64 a, .int .i64 b] w (OneB true w) := by
  go_enter Try.func5, Try.ntmps5
  go_wp2_with fail
  refine (left_any _ _ _).mono ?_
  rintro e w1 ⟨rfl, hb1⟩
  go_wp2_with fail
  refine (refLeft_any _ _ _).mono ?_
  rintro e w2 ⟨rfl, hb2⟩
  go_wp2_with fail
  refine (right_any _ _ _).mono ?_
  rintro e w3 ⟨rfl, hb3⟩
  go_wp2_with fail
  refine (refRight_any _ _ _).mono ?_
  rintro e w4 ⟨rfl, hb4⟩
  go_wp2_with fail
  refine (arith_any _ _ _).mono ?_
  rintro e w5 ⟨rfl, hb5⟩
  go_wp2_with fail
  refine (refArith_any _ _ _).mono ?_
  rintro e w6 ⟨rfl, hb6⟩
  go_wp2_with fail
  refine (alive_any _).mono ?_
  rintro e w7 ⟨rfl, hb7⟩
  go_wp2
  go_ret
  exact ⟨rfl, (Below.next (Below.next (Below.next (Below.next (Below.next (Below.next (Below.next (Below.refl _ _) hb1) hb2) hb3) hb4) hb5) hb6) hb7)⟩
theorem texts_walk (a : Int) (w : World) : Calls Try.prog 8 #[.int .i64 a] w (OneB true w) := by
  go_enter Try.func8, Try.ntmps8
  go_wp2_with fail
  refine (ones_any _ _).mono ?_
  rintro e w1 ⟨rfl, hb1⟩
  go_wp2_with fail
  refine (refOnes_any _ _).mono ?_
  rintro e w2 ⟨rfl, hb2⟩
  go_wp2_with fail
  refine (text_any _ _).mono ?_
  rintro e w3 ⟨rfl, hb3⟩
  go_wp2_with fail
  refine (refText_any _ _).mono ?_
  rintro e w4 ⟨rfl, hb4⟩
  go_wp2_with fail
  refine (alive_any _).mono ?_
  rintro e w5 ⟨rfl, hb5⟩
  go_wp2
  go_ret
  exact ⟨rfl, (Below.next (Below.next (Below.next (Below.next (Below.next (Below.refl _ _) hb1) hb2) hb3) hb4) hb5)⟩
theorem bits_walk (a b : Int) (w : World) : Calls Try.prog 3 #[.int .i64 a, .int .i64 b] w (OneB true w) := by
  obtain ⟨v, hv⟩ : ∃ v, V a = v := ⟨_, rfl⟩
  have HV := Lib.hid hv
  clear hv
  go_enter Try.func3, Try.ntmps3
  go_wp2_with fail
  refine (valid_any _ _).mono ?_
  rintro e w' ⟨rfl, rfl⟩
  rw [HV.out]
  go_wp2_with fail
  refine (refValid_any _ _).mono ?_
  rintro e w' ⟨rfl, rfl⟩
  rw [HV.out]
  go_wp2_with fail
  refine (and_any _ _ _).mono ?_
  rintro e w1 ⟨rfl, hb1⟩
  go_wp2_with fail
  refine (refAnd_any _ _ _).mono ?_
  rintro e w2 ⟨rfl, hb2⟩
  go_wp2_with fail
  refine (or_any _ _ _).mono ?_
  rintro e w3 ⟨rfl, hb3⟩
  go_wp2_with fail
  refine (refOr_any _ _ _).mono ?_
  rintro e w4 ⟨rfl, hb4⟩
  go_wp2_with fail
  refine (xor_any _ _ _).mono ?_
  rintro e w5 ⟨rfl, hb5⟩
  go_wp2_with fail
  refine (refXor_any _ _ _).mono ?_
  rintro e w6 ⟨rfl, hb6⟩
  go_wp2_with fail
  refine (not_any _ _).mono ?_
  rintro e w7 ⟨rfl, hb7⟩
  go_wp2_with fail
  refine (refNot_any _ _).mono ?_
  rintro e w8 ⟨rfl, hb8⟩
  go_wp2_with fail
  refine (alive_any _).mono ?_
  rintro e w9 ⟨rfl, hb9⟩
  go_wp2
  go_ret
  exact ⟨rfl, (Below.next (Below.next (Below.next (Below.next (Below.next (Below.next (Below.next (Below.next (Below.next (Below.refl _ _) hb1) hb2) hb3) hb4) hb5) hb6) hb7) hb8) hb9)⟩
theorem solve_walk (s : ByteArray) (r k : Int) (w : World) : Calls Try.prog 6 #[.string s, .int .i64 r, .int .i64 k] w (OneB true w) := by
  go_enter Try.func6, Try.ntmps6
  go_wp2_with fail
  refine (solve_any _ _ _ _).mono ?_
  rintro e w1 ⟨v1, rfl, hown1, hb1⟩
  obtain ⟨a1, c1, rfl, hs1⟩ := hown1.sl
  clear hown1
  go_wp2_with fail
  refine (refSolve_any _ _ _ _).mono ?_
  rintro e w2 ⟨v2, rfl, hown2, hb2⟩
  obtain ⟨a2, c2, rfl, hs2⟩ := hown2.sl
  clear hown2
  go_wp2_with fail
  refine (same_any _ _ _ _ _ _ _ _ _ (hs1.below hb2) hs2).mono ?_
  rintro e w3 ⟨rfl, hb3⟩
  rw [decide_eq_true rfl]
  clear hs1 hs2
  go_wp2_with fail
  refine (alive_any _).mono ?_
  rintro e w4 ⟨rfl, hb4⟩
  go_wp2
  go_ret
  exact ⟨rfl, Below.next (Below.next (Below.next hb1 hb2) hb3) hb4⟩
end Go.Proofs.Ytakbmmmoalfedaa
