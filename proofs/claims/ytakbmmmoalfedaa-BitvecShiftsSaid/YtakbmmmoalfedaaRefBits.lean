/- The reference's bits: And, Or, Xor. -/
import Derived.Test.YtakbmmmoalfedaaRef
namespace Go.Proofs.Ytakbmmmoalfedaa
open Go.RowKit
set_option linter.unusedVariables false

def SI (kind : Nat) (a b : Int) (n : Nat) : Int := ((S kind a.toNat b.toNat n : Nat) : Int)
theorem SI_bd (kind : Nat) (a b : Int) (n : Nat) (hn : n ≤ 8) : 0 ≤ SI kind a b n ∧ SI kind a b n ≤ 256 := by
  have h := S_lt kind a.toNat b.toNat n
  have h2 : 2 ^ n ≤ 2 ^ 8 := Nat.pow_le_pow_right (by omega) hn
  unfold SI
  omega
theorem SI_succ (kind : Nat) (a b : Int) (n : Nat) : SI kind a b (n + 1) = SI kind a b n + (if comb kind (bitN a.toNat n + bitN b.toNat n) then pw n else 0) := by
  unfold SI pw
  rw [S]
  split <;> simp
theorem bitN_01 (m k : Nat) : bitN m k = 0 ∨ bitN m k = 1 := by unfold bitN; omega
theorem bitZ_N (a : Int) (ha : 0 ≤ a ∧ a ≤ 255) (k : Nat) : bitZ a k = ((bitN a.toNat k : Nat) : Int) := by
  obtain ⟨m, rfl⟩ := Int.eq_ofNat_of_zero_le ha.1
  unfold bitZ bitN pw
  simp
set_option maxHeartbeats 1600000 in
theorem bits0_yes (a b : Int) (ha : V a = true) (hb : V b = true) (w : World) : Calls Try.prog 41 #[.int .i64 0, .int .i64 a, .int .i64 b] w fun e w' => e = .returned (.int .i64 (SI 0 a b 8)) ∧ w = w' := by
  have HA := Lib.hid ha
  have HB := Lib.hid hb
  have va := Lib.hid (V_true ha)
  have vb := Lib.hid (V_true hb)
  obtain ⟨R, hR⟩ : ∃ R, SI 0 a b 8 = R := ⟨_, rfl⟩
  rw [hR]
  have HR := Lib.hid hR
  clear ha hb hR
  go_enter Try.func41, Try.ntmps41
  go_wp2_with fail
  refine (refValid_any _ _).mono ?_
  rintro e w' ⟨rfl, rfl⟩
  rw [HA.out]
  go_wp2_with fail
  refine (refValid_any _ _).mono ?_
  rintro e w' ⟨rfl, rfl⟩
  rw [HB.out]
  go_wp2
  go_loop [7, 8] (fun n i => ∃ k : Nat, k ≤ 8 ∧ i = .int .i64 k ∧ n = .int .i64 (SI 0 a b k)) (fun _ i => 8 - (intOf i).toNat)
  case atStart => exact ⟨0, by omega, rfl, rfl⟩
  case round =>
    obtain ⟨k, hk, rfl, rfl⟩ := hrel
    by_cases hlt : k < 8
    · have hbd := SI_bd 0 a b k hk
      have hp := pw_bd (show k ≤ 8 by omega)
      have hs : SI 0 a b (k + 1) = SI 0 a b k + (if comb 0 (bitN a.toNat k + bitN b.toNat k) then pw k else 0) := SI_succ _ _ _ _
      have za := bitZ_N a va.out k
      have zb := bitZ_N b vb.out k
      rcases bitN_01 a.toNat k with ea | ea <;> rcases bitN_01 b.toNat k with eb | eb
      · have hA : bitZ a k = 0 := by rw [za, ea]; rfl
        have hB : bitZ b k = 0 := by rw [zb, eb]; rfl
        have hS : SI 0 a b (k + 1) = SI 0 a b k + 0 := by rw [hs, ea, eb]; rfl
        have FA := Lib.hid hA
        have FB := Lib.hid hB
        have HFS := Lib.hid hS
        clear hA hB hS ea eb za zb hs
        generalize SI 0 a b k = m at hbd HFS
        go_wp2_with fail
        refine (bit_any a va.out k hlt _).mono ?_
        rintro e w' ⟨rfl, rfl⟩
        rw [FA.out]
        go_wp2_with fail
        refine (bit_any b vb.out k hlt _).mono ?_
        rintro e w' ⟨rfl, rfl⟩
        rw [FB.out]
        go_wp2
        go_round
        case rel => exact ⟨k + 1, by omega, by go_num, by rw [HFS.out, Int.add_zero]⟩
        case measure => simp [intOf]; omega
      · have hA : bitZ a k = 0 := by rw [za, ea]; rfl
        have hB : bitZ b k = 1 := by rw [zb, eb]; rfl
        have hS : SI 0 a b (k + 1) = SI 0 a b k + 0 := by rw [hs, ea, eb]; rfl
        have FA := Lib.hid hA
        have FB := Lib.hid hB
        have HFS := Lib.hid hS
        clear hA hB hS ea eb za zb hs
        generalize SI 0 a b k = m at hbd HFS
        go_wp2_with fail
        refine (bit_any a va.out k hlt _).mono ?_
        rintro e w' ⟨rfl, rfl⟩
        rw [FA.out]
        go_wp2_with fail
        refine (bit_any b vb.out k hlt _).mono ?_
        rintro e w' ⟨rfl, rfl⟩
        rw [FB.out]
        go_wp2
        go_round
        case rel => exact ⟨k + 1, by omega, by go_num, by rw [HFS.out, Int.add_zero]⟩
        case measure => simp [intOf]; omega
      · have hA : bitZ a k = 1 := by rw [za, ea]; rfl
        have hB : bitZ b k = 0 := by rw [zb, eb]; rfl
        have hS : SI 0 a b (k + 1) = SI 0 a b k + 0 := by rw [hs, ea, eb]; rfl
        have FA := Lib.hid hA
        have FB := Lib.hid hB
        have HFS := Lib.hid hS
        clear hA hB hS ea eb za zb hs
        generalize SI 0 a b k = m at hbd HFS
        go_wp2_with fail
        refine (bit_any a va.out k hlt _).mono ?_
        rintro e w' ⟨rfl, rfl⟩
        rw [FA.out]
        go_wp2_with fail
        refine (bit_any b vb.out k hlt _).mono ?_
        rintro e w' ⟨rfl, rfl⟩
        rw [FB.out]
        go_wp2
        go_round
        case rel => exact ⟨k + 1, by omega, by go_num, by rw [HFS.out, Int.add_zero]⟩
        case measure => simp [intOf]; omega
      · have hA : bitZ a k = 1 := by rw [za, ea]; rfl
        have hB : bitZ b k = 1 := by rw [zb, eb]; rfl
        have hS : SI 0 a b (k + 1) = SI 0 a b k + pw k := by rw [hs, ea, eb]; rfl
        have FA := Lib.hid hA
        have FB := Lib.hid hB
        have HFS := Lib.hid hS
        clear hA hB hS ea eb za zb hs
        generalize SI 0 a b k = m at hbd HFS
        go_wp2_with fail
        refine (bit_any a va.out k hlt _).mono ?_
        rintro e w' ⟨rfl, rfl⟩
        rw [FA.out]
        go_wp2_with fail
        refine (bit_any b vb.out k hlt _).mono ?_
        rintro e w' ⟨rfl, rfl⟩
        rw [FB.out]
        go_wp2_with fail
        refine (power_any k (by omega) _).mono ?_
        rintro e w' ⟨rfl, rfl⟩
        generalize pw k = p at hp HFS ⊢
        go_wp2
        go_round
        case rel => exact ⟨k + 1, by omega, by go_num, by rw [HFS.out]⟩
        case measure => simp [intOf]; omega
    · have hk' : k = 8 := by omega
      subst hk'
      rw [HR.out]
      go_wp2
      go_ret
      exact ⟨rfl, rfl⟩
theorem bits0_no1 (a b : Int) (ha : V a = false) (w : World) : Calls Try.prog 41 #[.int .i64 0, .int .i64 a, .int .i64 b] w fun e w' => e = .returned (.int .i64 0) ∧ w = w' := by
  have HA := Lib.hid ha
  clear ha
  go_enter Try.func41, Try.ntmps41
  go_wp2_with fail
  refine (refValid_any _ _).mono ?_
  rintro e w' ⟨rfl, rfl⟩
  rw [HA.out]
  go_wp2
  go_ret
  exact ⟨rfl, rfl⟩
theorem bits0_no2 (a b : Int) (ha : V a = true) (hb : V b = false) (w : World) : Calls Try.prog 41 #[.int .i64 0, .int .i64 a, .int .i64 b] w fun e w' => e = .returned (.int .i64 0) ∧ w = w' := by
  have HA := Lib.hid ha
  have HB := Lib.hid hb
  clear ha hb
  go_enter Try.func41, Try.ntmps41
  go_wp2_with fail
  refine (refValid_any _ _).mono ?_
  rintro e w' ⟨rfl, rfl⟩
  rw [HA.out]
  go_wp2_with fail
  refine (refValid_any _ _).mono ?_
  rintro e w' ⟨rfl, rfl⟩
  rw [HB.out]
  go_wp2
  go_ret
  exact ⟨rfl, rfl⟩
theorem bits0_any (a b : Int) (w : World) : Calls Try.prog 41 #[.int .i64 0, .int .i64 a, .int .i64 b] w fun e w' => e = .returned (.int .i64 (andZ a b)) ∧ w = w' := by
  cases ha : V a with
  | false => rw [show andZ a b = 0 from both_no1 ha]; exact bits0_no1 a b ha w
  | true =>
    cases hb : V b with
    | false => rw [show andZ a b = 0 from both_no hb]; exact bits0_no2 a b ha hb w
    | true =>
      have h1 := V_true ha
      have h2 := V_true hb
      have e : andZ a b = SI 0 a b 8 := by unfold andZ SI; rw [both_yes ha hb, S_and 8 _ _ (by omega) (by omega)]
      rw [e]
      exact bits0_yes a b ha hb w
theorem refAnd_any (a b : Int) (w : World) : Calls Try.prog 13 #[.int .i64 a, .int .i64 b] w (OneI (andZ a b) w) := by
  go_enter Try.func13, Try.ntmps13
  go_wp2_with fail
  refine (bits0_any _ _ _).mono ?_
  rintro e w' ⟨rfl, rfl⟩
  go_wp2
  go_ret
  exact oneI rfl (Below.refl _ _)
set_option maxHeartbeats 1600000 in
theorem bits1_yes (a b : Int) (ha : V a = true) (hb : V b = true) (w : World) : Calls Try.prog 41 #[.int .i64 1, .int .i64 a, .int .i64 b] w fun e w' => e = .returned (.int .i64 (SI 1 a b 8)) ∧ w = w' := by
  have HA := Lib.hid ha
  have HB := Lib.hid hb
  have va := Lib.hid (V_true ha)
  have vb := Lib.hid (V_true hb)
  obtain ⟨R, hR⟩ : ∃ R, SI 1 a b 8 = R := ⟨_, rfl⟩
  rw [hR]
  have HR := Lib.hid hR
  clear ha hb hR
  go_enter Try.func41, Try.ntmps41
  go_wp2_with fail
  refine (refValid_any _ _).mono ?_
  rintro e w' ⟨rfl, rfl⟩
  rw [HA.out]
  go_wp2_with fail
  refine (refValid_any _ _).mono ?_
  rintro e w' ⟨rfl, rfl⟩
  rw [HB.out]
  go_wp2
  go_loop [7, 8] (fun n i => ∃ k : Nat, k ≤ 8 ∧ i = .int .i64 k ∧ n = .int .i64 (SI 1 a b k)) (fun _ i => 8 - (intOf i).toNat)
  case atStart => exact ⟨0, by omega, rfl, rfl⟩
  case round =>
    obtain ⟨k, hk, rfl, rfl⟩ := hrel
    by_cases hlt : k < 8
    · have hbd := SI_bd 1 a b k hk
      have hp := pw_bd (show k ≤ 8 by omega)
      have hs : SI 1 a b (k + 1) = SI 1 a b k + (if comb 1 (bitN a.toNat k + bitN b.toNat k) then pw k else 0) := SI_succ _ _ _ _
      have za := bitZ_N a va.out k
      have zb := bitZ_N b vb.out k
      rcases bitN_01 a.toNat k with ea | ea <;> rcases bitN_01 b.toNat k with eb | eb
      · have hA : bitZ a k = 0 := by rw [za, ea]; rfl
        have hB : bitZ b k = 0 := by rw [zb, eb]; rfl
        have hS : SI 1 a b (k + 1) = SI 1 a b k + 0 := by rw [hs, ea, eb]; rfl
        have FA := Lib.hid hA
        have FB := Lib.hid hB
        have HFS := Lib.hid hS
        clear hA hB hS ea eb za zb hs
        generalize SI 1 a b k = m at hbd HFS
        go_wp2_with fail
        refine (bit_any a va.out k hlt _).mono ?_
        rintro e w' ⟨rfl, rfl⟩
        rw [FA.out]
        go_wp2_with fail
        refine (bit_any b vb.out k hlt _).mono ?_
        rintro e w' ⟨rfl, rfl⟩
        rw [FB.out]
        go_wp2
        go_round
        case rel => exact ⟨k + 1, by omega, by go_num, by rw [HFS.out, Int.add_zero]⟩
        case measure => simp [intOf]; omega
      · have hA : bitZ a k = 0 := by rw [za, ea]; rfl
        have hB : bitZ b k = 1 := by rw [zb, eb]; rfl
        have hS : SI 1 a b (k + 1) = SI 1 a b k + pw k := by rw [hs, ea, eb]; rfl
        have FA := Lib.hid hA
        have FB := Lib.hid hB
        have HFS := Lib.hid hS
        clear hA hB hS ea eb za zb hs
        generalize SI 1 a b k = m at hbd HFS
        go_wp2_with fail
        refine (bit_any a va.out k hlt _).mono ?_
        rintro e w' ⟨rfl, rfl⟩
        rw [FA.out]
        go_wp2_with fail
        refine (bit_any b vb.out k hlt _).mono ?_
        rintro e w' ⟨rfl, rfl⟩
        rw [FB.out]
        go_wp2_with fail
        refine (power_any k (by omega) _).mono ?_
        rintro e w' ⟨rfl, rfl⟩
        generalize pw k = p at hp HFS ⊢
        go_wp2
        go_round
        case rel => exact ⟨k + 1, by omega, by go_num, by rw [HFS.out]⟩
        case measure => simp [intOf]; omega
      · have hA : bitZ a k = 1 := by rw [za, ea]; rfl
        have hB : bitZ b k = 0 := by rw [zb, eb]; rfl
        have hS : SI 1 a b (k + 1) = SI 1 a b k + pw k := by rw [hs, ea, eb]; rfl
        have FA := Lib.hid hA
        have FB := Lib.hid hB
        have HFS := Lib.hid hS
        clear hA hB hS ea eb za zb hs
        generalize SI 1 a b k = m at hbd HFS
        go_wp2_with fail
        refine (bit_any a va.out k hlt _).mono ?_
        rintro e w' ⟨rfl, rfl⟩
        rw [FA.out]
        go_wp2_with fail
        refine (bit_any b vb.out k hlt _).mono ?_
        rintro e w' ⟨rfl, rfl⟩
        rw [FB.out]
        go_wp2_with fail
        refine (power_any k (by omega) _).mono ?_
        rintro e w' ⟨rfl, rfl⟩
        generalize pw k = p at hp HFS ⊢
        go_wp2
        go_round
        case rel => exact ⟨k + 1, by omega, by go_num, by rw [HFS.out]⟩
        case measure => simp [intOf]; omega
      · have hA : bitZ a k = 1 := by rw [za, ea]; rfl
        have hB : bitZ b k = 1 := by rw [zb, eb]; rfl
        have hS : SI 1 a b (k + 1) = SI 1 a b k + pw k := by rw [hs, ea, eb]; rfl
        have FA := Lib.hid hA
        have FB := Lib.hid hB
        have HFS := Lib.hid hS
        clear hA hB hS ea eb za zb hs
        generalize SI 1 a b k = m at hbd HFS
        go_wp2_with fail
        refine (bit_any a va.out k hlt _).mono ?_
        rintro e w' ⟨rfl, rfl⟩
        rw [FA.out]
        go_wp2_with fail
        refine (bit_any b vb.out k hlt _).mono ?_
        rintro e w' ⟨rfl, rfl⟩
        rw [FB.out]
        go_wp2_with fail
        refine (power_any k (by omega) _).mono ?_
        rintro e w' ⟨rfl, rfl⟩
        generalize pw k = p at hp HFS ⊢
        go_wp2
        go_round
        case rel => exact ⟨k + 1, by omega, by go_num, by rw [HFS.out]⟩
        case measure => simp [intOf]; omega
    · have hk' : k = 8 := by omega
      subst hk'
      rw [HR.out]
      go_wp2
      go_ret
      exact ⟨rfl, rfl⟩
theorem bits1_no1 (a b : Int) (ha : V a = false) (w : World) : Calls Try.prog 41 #[.int .i64 1, .int .i64 a, .int .i64 b] w fun e w' => e = .returned (.int .i64 0) ∧ w = w' := by
  have HA := Lib.hid ha
  clear ha
  go_enter Try.func41, Try.ntmps41
  go_wp2_with fail
  refine (refValid_any _ _).mono ?_
  rintro e w' ⟨rfl, rfl⟩
  rw [HA.out]
  go_wp2
  go_ret
  exact ⟨rfl, rfl⟩
theorem bits1_no2 (a b : Int) (ha : V a = true) (hb : V b = false) (w : World) : Calls Try.prog 41 #[.int .i64 1, .int .i64 a, .int .i64 b] w fun e w' => e = .returned (.int .i64 0) ∧ w = w' := by
  have HA := Lib.hid ha
  have HB := Lib.hid hb
  clear ha hb
  go_enter Try.func41, Try.ntmps41
  go_wp2_with fail
  refine (refValid_any _ _).mono ?_
  rintro e w' ⟨rfl, rfl⟩
  rw [HA.out]
  go_wp2_with fail
  refine (refValid_any _ _).mono ?_
  rintro e w' ⟨rfl, rfl⟩
  rw [HB.out]
  go_wp2
  go_ret
  exact ⟨rfl, rfl⟩
theorem bits1_any (a b : Int) (w : World) : Calls Try.prog 41 #[.int .i64 1, .int .i64 a, .int .i64 b] w fun e w' => e = .returned (.int .i64 (orZ a b)) ∧ w = w' := by
  cases ha : V a with
  | false => rw [show orZ a b = 0 from both_no1 ha]; exact bits1_no1 a b ha w
  | true =>
    cases hb : V b with
    | false => rw [show orZ a b = 0 from both_no hb]; exact bits1_no2 a b ha hb w
    | true =>
      have h1 := V_true ha
      have h2 := V_true hb
      have e : orZ a b = SI 1 a b 8 := by unfold orZ SI; rw [both_yes ha hb, S_or 8 _ _ (by omega) (by omega)]
      rw [e]
      exact bits1_yes a b ha hb w
theorem refOr_any (a b : Int) (w : World) : Calls Try.prog 15 #[.int .i64 a, .int .i64 b] w (OneI (orZ a b) w) := by
  go_enter Try.func15, Try.ntmps15
  go_wp2_with fail
  refine (bits1_any _ _ _).mono ?_
  rintro e w' ⟨rfl, rfl⟩
  go_wp2
  go_ret
  exact oneI rfl (Below.refl _ _)
set_option maxHeartbeats 1600000 in
theorem bits2_yes (a b : Int) (ha : V a = true) (hb : V b = true) (w : World) : Calls Try.prog 41 #[.int .i64 2, .int .i64 a, .int .i64 b] w fun e w' => e = .returned (.int .i64 (SI 2 a b 8)) ∧ w = w' := by
  have HA := Lib.hid ha
  have HB := Lib.hid hb
  have va := Lib.hid (V_true ha)
  have vb := Lib.hid (V_true hb)
  obtain ⟨R, hR⟩ : ∃ R, SI 2 a b 8 = R := ⟨_, rfl⟩
  rw [hR]
  have HR := Lib.hid hR
  clear ha hb hR
  go_enter Try.func41, Try.ntmps41
  go_wp2_with fail
  refine (refValid_any _ _).mono ?_
  rintro e w' ⟨rfl, rfl⟩
  rw [HA.out]
  go_wp2_with fail
  refine (refValid_any _ _).mono ?_
  rintro e w' ⟨rfl, rfl⟩
  rw [HB.out]
  go_wp2
  go_loop [7, 8] (fun n i => ∃ k : Nat, k ≤ 8 ∧ i = .int .i64 k ∧ n = .int .i64 (SI 2 a b k)) (fun _ i => 8 - (intOf i).toNat)
  case atStart => exact ⟨0, by omega, rfl, rfl⟩
  case round =>
    obtain ⟨k, hk, rfl, rfl⟩ := hrel
    by_cases hlt : k < 8
    · have hbd := SI_bd 2 a b k hk
      have hp := pw_bd (show k ≤ 8 by omega)
      have hs : SI 2 a b (k + 1) = SI 2 a b k + (if comb 2 (bitN a.toNat k + bitN b.toNat k) then pw k else 0) := SI_succ _ _ _ _
      have za := bitZ_N a va.out k
      have zb := bitZ_N b vb.out k
      rcases bitN_01 a.toNat k with ea | ea <;> rcases bitN_01 b.toNat k with eb | eb
      · have hA : bitZ a k = 0 := by rw [za, ea]; rfl
        have hB : bitZ b k = 0 := by rw [zb, eb]; rfl
        have hS : SI 2 a b (k + 1) = SI 2 a b k + 0 := by rw [hs, ea, eb]; rfl
        have FA := Lib.hid hA
        have FB := Lib.hid hB
        have HFS := Lib.hid hS
        clear hA hB hS ea eb za zb hs
        generalize SI 2 a b k = m at hbd HFS
        go_wp2_with fail
        refine (bit_any a va.out k hlt _).mono ?_
        rintro e w' ⟨rfl, rfl⟩
        rw [FA.out]
        go_wp2_with fail
        refine (bit_any b vb.out k hlt _).mono ?_
        rintro e w' ⟨rfl, rfl⟩
        rw [FB.out]
        go_wp2
        go_round
        case rel => exact ⟨k + 1, by omega, by go_num, by rw [HFS.out, Int.add_zero]⟩
        case measure => simp [intOf]; omega
      · have hA : bitZ a k = 0 := by rw [za, ea]; rfl
        have hB : bitZ b k = 1 := by rw [zb, eb]; rfl
        have hS : SI 2 a b (k + 1) = SI 2 a b k + pw k := by rw [hs, ea, eb]; rfl
        have FA := Lib.hid hA
        have FB := Lib.hid hB
        have HFS := Lib.hid hS
        clear hA hB hS ea eb za zb hs
        generalize SI 2 a b k = m at hbd HFS
        go_wp2_with fail
        refine (bit_any a va.out k hlt _).mono ?_
        rintro e w' ⟨rfl, rfl⟩
        rw [FA.out]
        go_wp2_with fail
        refine (bit_any b vb.out k hlt _).mono ?_
        rintro e w' ⟨rfl, rfl⟩
        rw [FB.out]
        go_wp2_with fail
        refine (power_any k (by omega) _).mono ?_
        rintro e w' ⟨rfl, rfl⟩
        generalize pw k = p at hp HFS ⊢
        go_wp2
        go_round
        case rel => exact ⟨k + 1, by omega, by go_num, by rw [HFS.out]⟩
        case measure => simp [intOf]; omega
      · have hA : bitZ a k = 1 := by rw [za, ea]; rfl
        have hB : bitZ b k = 0 := by rw [zb, eb]; rfl
        have hS : SI 2 a b (k + 1) = SI 2 a b k + pw k := by rw [hs, ea, eb]; rfl
        have FA := Lib.hid hA
        have FB := Lib.hid hB
        have HFS := Lib.hid hS
        clear hA hB hS ea eb za zb hs
        generalize SI 2 a b k = m at hbd HFS
        go_wp2_with fail
        refine (bit_any a va.out k hlt _).mono ?_
        rintro e w' ⟨rfl, rfl⟩
        rw [FA.out]
        go_wp2_with fail
        refine (bit_any b vb.out k hlt _).mono ?_
        rintro e w' ⟨rfl, rfl⟩
        rw [FB.out]
        go_wp2_with fail
        refine (power_any k (by omega) _).mono ?_
        rintro e w' ⟨rfl, rfl⟩
        generalize pw k = p at hp HFS ⊢
        go_wp2
        go_round
        case rel => exact ⟨k + 1, by omega, by go_num, by rw [HFS.out]⟩
        case measure => simp [intOf]; omega
      · have hA : bitZ a k = 1 := by rw [za, ea]; rfl
        have hB : bitZ b k = 1 := by rw [zb, eb]; rfl
        have hS : SI 2 a b (k + 1) = SI 2 a b k + 0 := by rw [hs, ea, eb]; rfl
        have FA := Lib.hid hA
        have FB := Lib.hid hB
        have HFS := Lib.hid hS
        clear hA hB hS ea eb za zb hs
        generalize SI 2 a b k = m at hbd HFS
        go_wp2_with fail
        refine (bit_any a va.out k hlt _).mono ?_
        rintro e w' ⟨rfl, rfl⟩
        rw [FA.out]
        go_wp2_with fail
        refine (bit_any b vb.out k hlt _).mono ?_
        rintro e w' ⟨rfl, rfl⟩
        rw [FB.out]
        go_wp2
        go_round
        case rel => exact ⟨k + 1, by omega, by go_num, by rw [HFS.out, Int.add_zero]⟩
        case measure => simp [intOf]; omega
    · have hk' : k = 8 := by omega
      subst hk'
      rw [HR.out]
      go_wp2
      go_ret
      exact ⟨rfl, rfl⟩
theorem bits2_no1 (a b : Int) (ha : V a = false) (w : World) : Calls Try.prog 41 #[.int .i64 2, .int .i64 a, .int .i64 b] w fun e w' => e = .returned (.int .i64 0) ∧ w = w' := by
  have HA := Lib.hid ha
  clear ha
  go_enter Try.func41, Try.ntmps41
  go_wp2_with fail
  refine (refValid_any _ _).mono ?_
  rintro e w' ⟨rfl, rfl⟩
  rw [HA.out]
  go_wp2
  go_ret
  exact ⟨rfl, rfl⟩
theorem bits2_no2 (a b : Int) (ha : V a = true) (hb : V b = false) (w : World) : Calls Try.prog 41 #[.int .i64 2, .int .i64 a, .int .i64 b] w fun e w' => e = .returned (.int .i64 0) ∧ w = w' := by
  have HA := Lib.hid ha
  have HB := Lib.hid hb
  clear ha hb
  go_enter Try.func41, Try.ntmps41
  go_wp2_with fail
  refine (refValid_any _ _).mono ?_
  rintro e w' ⟨rfl, rfl⟩
  rw [HA.out]
  go_wp2_with fail
  refine (refValid_any _ _).mono ?_
  rintro e w' ⟨rfl, rfl⟩
  rw [HB.out]
  go_wp2
  go_ret
  exact ⟨rfl, rfl⟩
theorem bits2_any (a b : Int) (w : World) : Calls Try.prog 41 #[.int .i64 2, .int .i64 a, .int .i64 b] w fun e w' => e = .returned (.int .i64 (xorZ a b)) ∧ w = w' := by
  cases ha : V a with
  | false => rw [show xorZ a b = 0 from both_no1 ha]; exact bits2_no1 a b ha w
  | true =>
    cases hb : V b with
    | false => rw [show xorZ a b = 0 from both_no hb]; exact bits2_no2 a b ha hb w
    | true =>
      have h1 := V_true ha
      have h2 := V_true hb
      have e : xorZ a b = SI 2 a b 8 := by unfold xorZ SI; rw [both_yes ha hb, S_xor 8 _ _ (by omega) (by omega)]
      rw [e]
      exact bits2_yes a b ha hb w
theorem refXor_any (a b : Int) (w : World) : Calls Try.prog 17 #[.int .i64 a, .int .i64 b] w (OneI (xorZ a b) w) := by
  go_enter Try.func17, Try.ntmps17
  go_wp2_with fail
  refine (bits2_any _ _ _).mono ?_
  rintro e w' ⟨rfl, rfl⟩
  go_wp2
  go_ret
  exact oneI rfl (Below.refl _ _)
end Go.Proofs.Ytakbmmmoalfedaa
