/- The reference of the bit vectors: power, bit, bits and what is built on them. -/
import Derived.Test.YtakbmmmoalfedaaOp
namespace Go.Proofs.Ytakbmmmoalfedaa
open Go.RowKit
set_option linter.unusedVariables false
set_option linter.unusedSimpArgs false

theorem both_no1 {a b v : Int} (h : V a = false) : both a b v = 0 := by unfold both; rw [h, Bool.false_and]; rfl
theorem both_yes {a b v : Int} (h : V a = true) (h2 : V b = true) : both a b v = v := by unfold both; rw [h, h2]; rfl
theorem refAdd_any (a b : Int) (w : World) : Calls Try.prog 22 #[.int .i64 a, .int .i64 b] w (OneI (addZ a b) w) := by
  cases ha : V a with
  | false =>
    have e : addZ a b = 0 := both_no1 ha
    rw [e]
    have HA := Lib.hid ha
    clear e ha
    go_enter Try.func22, Try.ntmps22
    go_wp2_with fail
    refine (refValid_any _ _).mono ?_
    rintro e w' ⟨rfl, rfl⟩
    rw [HA.out]
    go_wp2
    go_ret
    exact oneI rfl (Below.refl _ _)
  | true =>
    cases hb : V b with
    | false =>
      have e : addZ a b = 0 := both_no hb
      rw [e]
      have HA := Lib.hid ha
      have HB := Lib.hid hb
      clear e ha hb
      go_enter Try.func22, Try.ntmps22
      go_wp2_with fail
      refine (refValid_any _ _).mono ?_
      rintro e w' ⟨rfl, rfl⟩
      rw [HA.out]
      go_wp2_with fail
      refine (refValid_any _ _).mono ?_
      rintro e w' ⟨rfl, rfl⟩
      rw [HB.out]
      go_wp2
      go_ret
      exact oneI rfl (Below.refl _ _)
    | true =>
      have e : addZ a b = (a + b) % 256 := both_yes ha hb
      rw [e]
      have HA := Lib.hid ha
      have HB := Lib.hid hb
      have h1 := V_true ha
      have h2 := V_true hb
      clear e ha hb
      have hw : wrap64 (a + b) = a + b := wrap_small _ (by omega)
      have ht : (a + b).tmod 256 = (a + b) % 256 := Int.tmod_eq_emod_of_nonneg (by omega)
      go_enter Try.func22, Try.ntmps22
      go_wp2_with fail
      refine (refValid_any _ _).mono ?_
      rintro e w' ⟨rfl, rfl⟩
      rw [HA.out]
      go_wp2_with fail
      refine (refValid_any _ _).mono ?_
      rintro e w' ⟨rfl, rfl⟩
      rw [HB.out]
      go_wp2
      go_ret
      exact oneI rfl (Below.refl _ _)
theorem refSub_any (a b : Int) (w : World) : Calls Try.prog 24 #[.int .i64 a, .int .i64 b] w (OneI (subZ a b) w) := by
  cases ha : V a with
  | false =>
    have e : subZ a b = 0 := both_no1 ha
    rw [e]
    have HA := Lib.hid ha
    clear e ha
    go_enter Try.func24, Try.ntmps24
    go_wp2_with fail
    refine (refValid_any _ _).mono ?_
    rintro e w' ⟨rfl, rfl⟩
    rw [HA.out]
    go_wp2
    go_ret
    exact oneI rfl (Below.refl _ _)
  | true =>
    cases hb : V b with
    | false =>
      have e : subZ a b = 0 := both_no hb
      rw [e]
      have HA := Lib.hid ha
      have HB := Lib.hid hb
      clear e ha hb
      go_enter Try.func24, Try.ntmps24
      go_wp2_with fail
      refine (refValid_any _ _).mono ?_
      rintro e w' ⟨rfl, rfl⟩
      rw [HA.out]
      go_wp2_with fail
      refine (refValid_any _ _).mono ?_
      rintro e w' ⟨rfl, rfl⟩
      rw [HB.out]
      go_wp2
      go_ret
      exact oneI rfl (Below.refl _ _)
    | true =>
      have e : subZ a b = (a - b) % 256 := both_yes ha hb
      rw [e]
      have HA := Lib.hid ha
      have HB := Lib.hid hb
      have h1 := V_true ha
      have h2 := V_true hb
      clear e ha hb
      go_enter Try.func24, Try.ntmps24
      go_wp2_with fail
      refine (refValid_any _ _).mono ?_
      rintro e w' ⟨rfl, rfl⟩
      rw [HA.out]
      go_wp2_with fail
      refine (refValid_any _ _).mono ?_
      rintro e w' ⟨rfl, rfl⟩
      rw [HB.out]
      go_wp2
      go_ret
      exact oneI (by first | rfl | omega) (Below.refl _ _)
theorem refMul_any (a b : Int) (w : World) : Calls Try.prog 26 #[.int .i64 a, .int .i64 b] w (OneI (mulZ a b) w) := by
  cases ha : V a with
  | false =>
    have e : mulZ a b = 0 := both_no1 ha
    rw [e]
    have HA := Lib.hid ha
    clear e ha
    go_enter Try.func26, Try.ntmps26
    go_wp2_with fail
    refine (refValid_any _ _).mono ?_
    rintro e w' ⟨rfl, rfl⟩
    rw [HA.out]
    go_wp2
    go_ret
    exact oneI rfl (Below.refl _ _)
  | true =>
    cases hb : V b with
    | false =>
      have e : mulZ a b = 0 := both_no hb
      rw [e]
      have HA := Lib.hid ha
      have HB := Lib.hid hb
      clear e ha hb
      go_enter Try.func26, Try.ntmps26
      go_wp2_with fail
      refine (refValid_any _ _).mono ?_
      rintro e w' ⟨rfl, rfl⟩
      rw [HA.out]
      go_wp2_with fail
      refine (refValid_any _ _).mono ?_
      rintro e w' ⟨rfl, rfl⟩
      rw [HB.out]
      go_wp2
      go_ret
      exact oneI rfl (Below.refl _ _)
    | true =>
      have e : mulZ a b = a * b % 256 := both_yes ha hb
      rw [e]
      have HA := Lib.hid ha
      have HB := Lib.hid hb
      have h1 := V_true ha
      have h2 := V_true hb
      clear e ha hb
      have h3 := mul_bd a b h1 h2
      have hw : wrap64 (a * b) = a * b := wrap_small _ (by omega)
      have ht : (a * b).tmod 256 = a * b % 256 := Int.tmod_eq_emod_of_nonneg (by omega)
      go_enter Try.func26, Try.ntmps26
      go_wp2_with fail
      refine (refValid_any _ _).mono ?_
      rintro e w' ⟨rfl, rfl⟩
      rw [HA.out]
      go_wp2_with fail
      refine (refValid_any _ _).mono ?_
      rintro e w' ⟨rfl, rfl⟩
      rw [HB.out]
      go_wp2
      go_ret
      exact oneI (by first | rfl | omega) (Below.refl _ _)
theorem refNot_any (a : Int) (w : World) : Calls Try.prog 19 #[.int .i64 a] w (OneI (notZ a) w) := by
  cases ha : V a with
  | false =>
    have e : notZ a = 0 := if_neg (by rw [ha]; decide)
    rw [e]
    have HA := Lib.hid ha
    clear e ha
    go_enter Try.func19, Try.ntmps19
    go_wp2_with fail
    refine (refValid_any _ _).mono ?_
    rintro e w' ⟨rfl, rfl⟩
    rw [HA.out]
    go_wp2
    go_ret
    exact oneI rfl (Below.refl _ _)
  | true =>
    have e : notZ a = 255 - a := if_pos ha
    rw [e]
    have HA := Lib.hid ha
    have h1 := V_true ha
    clear e ha
    go_enter Try.func19, Try.ntmps19
    go_wp2_with fail
    refine (refValid_any _ _).mono ?_
    rintro e w' ⟨rfl, rfl⟩
    rw [HA.out]
    go_wp2
    go_ret
    exact oneI rfl (Below.refl _ _)
theorem refDistance_any (n : Int) (w : World) : Calls Try.prog 44 #[.int .i64 n] w fun e w' => e = .returned (.int .i64 (distZ n)) ∧ w = w' := by
  by_cases h0 : n < 0
  · have e : distZ n = 0 := by simp [distZ, h0]
    rw [e]
    clear e
    go_enter Try.func44, Try.ntmps44
    go_wp2
    go_ret
    exact ⟨rfl, rfl⟩
  · obtain ⟨m, rfl⟩ := Int.eq_ofNat_of_zero_le (show 0 ≤ n by omega)
    by_cases h8 : 8 < m
    · have e : distZ m = 8 := by unfold distZ; rw [if_neg h0, if_pos (by omega)]
      rw [e]
      clear e
      go_enter Try.func44, Try.ntmps44
      go_wp2
      go_ret
      exact ⟨rfl, rfl⟩
    · have e : distZ m = m := by unfold distZ; rw [if_neg h0, if_neg (by omega)]; simp
      rw [e]
      clear e
      by_cases hm : 0 < m
      · go_enter Try.func44, Try.ntmps44
        go_wp2
        go_ret
        exact ⟨rfl, rfl⟩
      · obtain rfl : m = 0 := by omega
        go_enter Try.func44, Try.ntmps44
        go_wp2
        go_ret
        exact ⟨rfl, rfl⟩
theorem mul_bd2 (x n : Int) (h1 : 0 ≤ x ∧ x ≤ 255) (h2 : 1 ≤ n ∧ n ≤ 256) : 0 ≤ x * n ∧ x * n ≤ 65280 := by
  have h3 : (x * n).natAbs ≤ 255 * 256 := by rw [Int.natAbs_mul]; exact Nat.mul_le_mul (by omega) (by omega)
  have h4 : 0 ≤ x * n := Int.mul_nonneg h1.1 (by omega)
  omega
/-- 2 to the power of n -/
def pw (n : Nat) : Int := 2 ^ n
theorem pw_bd {n : Nat} (h : n ≤ 8) : 1 ≤ pw n ∧ pw n ≤ 256 := ⟨(pow_le_256 h).2.2, (pow_le_256 h).2.1⟩
theorem power_any (n : Nat) (hn : n ≤ 8) (w : World) : Calls Try.prog 43 #[.int .i64 n] w fun e w' => e = .returned (.int .i64 (pw n)) ∧ w = w' := by
  go_enter Try.func43, Try.ntmps43
  go_wp2
  go_loop [3, 4] (fun p i => ∃ k : Nat, k ≤ n ∧ i = .int .i64 k ∧ p = .int .i64 (pw k)) (fun _ i => n - (intOf i).toNat)
  case atStart => exact ⟨0, by omega, rfl, rfl⟩
  case round =>
    obtain ⟨k, hk, rfl, rfl⟩ := hrel
    by_cases hlt : k < n
    · have hb := pw_bd (show k ≤ 8 by omega)
      have hs := Lib.hid (show pw (k + 1) = 2 * pw k by unfold pw; rw [Int.pow_succ]; omega)
      generalize pw k = p at hb hs
      go_wp2
      go_round
      case rel => exact ⟨k + 1, by omega, by go_num, by rw [hs.out]⟩
      case measure => simp [intOf]; omega
    · have hk' : k = n := by omega
      subst hk'
      go_wp2
      go_ret
      exact ⟨rfl, rfl⟩
def bitZ (a : Int) (i : Nat) : Int := a / pw i % 2
theorem bit_any (a : Int) (ha : 0 ≤ a ∧ a ≤ 255) (i : Nat) (hi : i < 8) (w : World) : Calls Try.prog 48 #[.int .i64 a, .int .i64 i] w fun e w' => e = .returned (.int .i64 (bitZ a i)) ∧ w = w' := by
  have hb := pw_bd (show i ≤ 8 by omega)
  have hz := Lib.hid (show bitZ a i = a / pw i % 2 from rfl)
  go_enter Try.func48, Try.ntmps48
  go_wp2_with fail
  refine (power_any i (by omega) _).mono ?_
  rintro e w' ⟨rfl, rfl⟩
  generalize pw i = p at hb hz ⊢
  go_wp2
  go_ret
  rw [hz.out]
  have hd : 0 ≤ a / p := Int.ediv_nonneg ha.1 (by omega)
  have ht : (a / p).tmod 2 = a / p % 2 := Int.tmod_eq_emod_of_nonneg hd
  rw [← ht]
  exact ⟨rfl, rfl⟩

theorem refLeft_any (a n : Int) (w : World) : Calls Try.prog 28 #[.int .i64 a, .int .i64 n] w (OneI (leftZ a n) w) := by
  cases ha : V a with
  | false =>
    have e : leftZ a n = 0 := if_neg (by rw [ha]; decide)
    rw [e]
    have HA := Lib.hid ha
    clear e ha
    go_enter Try.func28, Try.ntmps28
    go_wp2_with fail
    refine (refValid_any _ _).mono ?_
    rintro e w' ⟨rfl, rfl⟩
    rw [HA.out]
    go_wp2
    go_ret
    exact oneI rfl (Below.refl _ _)
  | true =>
    have e : leftZ a n = a * pw (distZ n) % 256 := if_pos ha
    have HA := Lib.hid ha
    have h1 := V_true ha
    have hd := distZ_le n
    obtain ⟨p, hp⟩ : ∃ p, pw (distZ n) = p := ⟨_, rfl⟩
    rw [e, hp]
    have HP := Lib.hid hp
    have hb := pw_bd hd
    rw [hp] at hb
    clear e ha hp
    go_enter Try.func28, Try.ntmps28
    go_wp2_with fail
    refine (refValid_any _ _).mono ?_
    rintro e w' ⟨rfl, rfl⟩
    rw [HA.out]
    go_wp2_with fail
    refine (refDistance_any _ _).mono ?_
    rintro e w' ⟨rfl, rfl⟩
    go_wp2_with fail
    refine (power_any _ hd _).mono ?_
    rintro e w' ⟨rfl, rfl⟩
    rw [HP.out]
    have h3 := mul_bd2 a p h1 hb
    have hw : wrap64 (a * p) = a * p := wrap_small _ (by omega)
    have ht : (a * p).tmod 256 = a * p % 256 := Int.tmod_eq_emod_of_nonneg (by omega)
    go_wp2
    go_ret
    exact oneI (by first | rfl | omega) (Below.refl _ _)
theorem refRight_any (a n : Int) (w : World) : Calls Try.prog 30 #[.int .i64 a, .int .i64 n] w (OneI (rightZ a n) w) := by
  cases ha : V a with
  | false =>
    have e : rightZ a n = 0 := if_neg (by rw [ha]; decide)
    rw [e]
    have HA := Lib.hid ha
    clear e ha
    go_enter Try.func30, Try.ntmps30
    go_wp2_with fail
    refine (refValid_any _ _).mono ?_
    rintro e w' ⟨rfl, rfl⟩
    rw [HA.out]
    go_wp2
    go_ret
    exact oneI rfl (Below.refl _ _)
  | true =>
    have e : rightZ a n = a / pw (distZ n) := if_pos ha
    have HA := Lib.hid ha
    have h1 := V_true ha
    have hd := distZ_le n
    obtain ⟨p, hp⟩ : ∃ p, pw (distZ n) = p := ⟨_, rfl⟩
    rw [e, hp]
    have HP := Lib.hid hp
    have hb := pw_bd hd
    rw [hp] at hb
    clear e ha hp
    go_enter Try.func30, Try.ntmps30
    go_wp2_with fail
    refine (refValid_any _ _).mono ?_
    rintro e w' ⟨rfl, rfl⟩
    rw [HA.out]
    go_wp2_with fail
    refine (refDistance_any _ _).mono ?_
    rintro e w' ⟨rfl, rfl⟩
    go_wp2_with fail
    refine (power_any _ hd _).mono ?_
    rintro e w' ⟨rfl, rfl⟩
    rw [HP.out]
    go_wp2
    go_ret
    exact oneI rfl (Below.refl _ _)
theorem arith_hi (a p : Int) (hp : 1 ≤ p) : (a - 256 + 256 * p) / p = (a - 256) / p + 256 := by
  rw [Int.add_mul_ediv_right _ _ (by omega)]
theorem refArith_any (a n : Int) (w : World) : Calls Try.prog 32 #[.int .i64 a, .int .i64 n] w (OneI (arithZ a n) w) := by
  cases ha : V a with
  | false =>
    have e : arithZ a n = 0 := if_neg (by rw [ha]; decide)
    rw [e]
    have HA := Lib.hid ha
    clear e ha
    go_enter Try.func32, Try.ntmps32
    go_wp2_with fail
    refine (refValid_any _ _).mono ?_
    rintro e w' ⟨rfl, rfl⟩
    rw [HA.out]
    go_wp2
    go_ret
    exact oneI rfl (Below.refl _ _)
  | true =>
    have HA := Lib.hid ha
    have h1 := V_true ha
    have hd := distZ_le n
    by_cases hh : 127 < a
    · have e : arithZ a n = (a - 256) / pw (distZ n) % 256 := (if_pos ha).trans (if_pos hh)
      obtain ⟨p, hp⟩ : ∃ p, pw (distZ n) = p := ⟨_, rfl⟩
      rw [e, hp]
      have HP := Lib.hid hp
      have hb := pw_bd hd
      rw [hp] at hb
      clear e ha hp
      go_enter Try.func32, Try.ntmps32
      go_wp2_with fail
      refine (refValid_any _ _).mono ?_
      rintro e w' ⟨rfl, rfl⟩
      rw [HA.out]
      go_wp2_with fail
      refine (refDistance_any _ _).mono ?_
      rintro e w' ⟨rfl, rfl⟩
      go_wp2_with fail
      refine (power_any _ hd _).mono ?_
      rintro e w' ⟨rfl, rfl⟩
      rw [HP.out]
      have hq := Lib.hid (arith_hi a p hb.1)
      have hn : 0 ≤ a - 256 + 256 * p := by omega
      have hn2 : 0 ≤ (a - 256 + 256 * p) / p := Int.ediv_nonneg hn (by omega)
      have ht : ((a - 256 + 256 * p) / p).tmod 256 = (a - 256 + 256 * p) / p % 256 := Int.tmod_eq_emod_of_nonneg hn2
      go_wp2
      go_ret
      exact oneI (by first | omega | (rw [hq.out]; omega)) (Below.refl _ _)
    · have e : arithZ a n = a / pw (distZ n) := (if_pos ha).trans (if_neg hh)
      obtain ⟨p, hp⟩ : ∃ p, pw (distZ n) = p := ⟨_, rfl⟩
      rw [e, hp]
      have HP := Lib.hid hp
      have hb := pw_bd hd
      rw [hp] at hb
      clear e ha hp
      go_enter Try.func32, Try.ntmps32
      go_wp2_with fail
      refine (refValid_any _ _).mono ?_
      rintro e w' ⟨rfl, rfl⟩
      rw [HA.out]
      go_wp2_with fail
      refine (refDistance_any _ _).mono ?_
      rintro e w' ⟨rfl, rfl⟩
      go_wp2_with fail
      refine (power_any _ hd _).mono ?_
      rintro e w' ⟨rfl, rfl⟩
      rw [HP.out]
      have h3 : 0 ≤ a / p := Int.ediv_nonneg h1.1 (by omega)
      have h4 : a / p ≤ a := Int.ediv_le_self _ h1.1
      have ht : (a / p).tmod 256 = a / p := by rw [Int.tmod_eq_emod_of_nonneg h3]; omega
      go_wp2
      go_ret
      exact oneI rfl (Below.refl _ _)
end Go.Proofs.Ytakbmmmoalfedaa
