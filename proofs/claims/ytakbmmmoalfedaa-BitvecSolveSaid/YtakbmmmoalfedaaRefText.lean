/- The reference's Ones and Text. -/
import Derived.Test.YtakbmmmoalfedaaRefBits
import Derived.Test.YtakbmmmoalfedaaText
namespace Go.Proofs.Ytakbmmmoalfedaa
open Go.RowKit
set_option linter.unusedVariables false

/-- the sum of the first k bits -/
def bsum (a : Int) : Nat → Int
  | 0 => 0
  | k + 1 => bsum a k + bitZ a k
theorem bitZ_01 (a : Int) (k : Nat) : bitZ a k = 0 ∨ bitZ a k = 1 := by unfold bitZ; omega
theorem bsum_bd (a : Int) : ∀ k, 0 ≤ bsum a k ∧ bsum a k ≤ k
  | 0 => by simp [bsum]
  | k + 1 => by have := bsum_bd a k; have := bitZ_01 a k; simp only [bsum]; omega
theorem dig_bit (a : Int) (i : Nat) : dig a i = bitZ a (7 - i) := rfl
theorem ones_sum (a : Int) : onesN a 8 = bsum a 8 := by
  simp only [onesN, bsum, dig_bit, Nat.reduceSub, Nat.sub_zero, Nat.sub_self]
  omega
theorem refOnes_any (a : Int) (w : World) : Calls Try.prog 37 #[.int .i64 a] w (OneI (onesZ a) w) := by
  cases ha : V a with
  | false =>
    rw [show onesZ a = 0 from if_neg (by rw [ha]; decide)]
    have HA := Lib.hid ha
    clear ha
    go_enter Try.func37, Try.ntmps37
    go_wp2_with fail
    refine (refValid_any _ _).mono ?_
    rintro e w2 ⟨rfl, rfl⟩
    rw [HA.out]
    go_wp2
    go_ret
    exact ⟨rfl, Below.refl _ _⟩
  | true =>
    obtain ⟨z, hz⟩ : ∃ z, bsum a 8 = z := ⟨_, rfl⟩
    rw [show onesZ a = z from (if_pos ha).trans ((ones_sum a).trans hz)]
    have HZ := Lib.hid hz
    have HA := Lib.hid ha
    have va := Lib.hid (V_true ha)
    clear ha hz
    go_enter Try.func37, Try.ntmps37
    go_wp2_with fail
    refine (refValid_any _ _).mono ?_
    rintro e w2 ⟨rfl, rfl⟩
    rw [HA.out]
    go_wp2
    go_loop [3, 4] (fun n i => ∃ k : Nat, k ≤ 8 ∧ i = .int .i64 k ∧ n = .int .i64 (bsum a k)) (fun _ i => 8 - (intOf i).toNat)
    case atStart => exact ⟨0, by omega, rfl, rfl⟩
    case round =>
      obtain ⟨k, hk, rfl, rfl⟩ := hrel
      have hbd := bsum_bd a k
      by_cases hlt : k < 8
      · have h01 := bitZ_01 a k
        have hs := Lib.hid (show bsum a (k + 1) = bsum a k + bitZ a k from rfl)
        generalize bsum a k = m at hbd hs
        go_wp2_with fail
        refine (bit_any a va.out k hlt _).mono ?_
        rintro e w2 ⟨rfl, rfl⟩
        generalize bitZ a k = d at h01 hs ⊢
        go_wp2
        go_round
        case rel => exact ⟨k + 1, by omega, by go_num, by rw [hs.out]⟩
        case measure => simp [intOf]; omega
      · have hk' : k = 8 := by omega
        subst hk'
        rw [HZ.out]
        go_wp2
        go_ret
        exact ⟨rfl, Below.refl _ _⟩

/-- the first k bytes of the text -/
def textP (a : Int) (k : Nat) : ByteArray := ⟨((digL a).take k).toArray⟩
theorem textP_zero (a : Int) : textP a 0 = ⟨#[]⟩ := rfl
theorem textP_all (a : Int) : textP a 8 = textS a := rfl
theorem textP_next (a : Int) (k : Nat) (hk : k < 8) (b : UInt8) (hb : UInt8.ofNat (48 + dig a k).toNat = b) : textP a k ++ ⟨#[b]⟩ = textP a (k + 1) := by
  have h : k < (digL a).length := by simpa [digL] using hk
  have hg : (digL a)[k] = b := by
    rw [← hb]
    simp only [digL, List.getElem_ofFn]
  unfold textP
  rw [List.take_succ_eq_append_getElem h, hg]
  show (⟨_⟩ ++ ⟨_⟩ : ByteArray) = _
  apply ByteArray.ext
  simp
theorem textP_size (a : Int) (k : Nat) : (textP a k).size ≤ 8 := by
  show ((digL a).take k).toArray.size ≤ 8
  simp [digL]
  omega
theorem refText_any (a : Int) (w : World) : Calls Try.prog 39 #[.int .i64 a] w (OneS (textZ a) w) := by
  cases ha : V a with
  | false =>
    rw [show textZ a = ⟨#[]⟩ from if_neg (by rw [ha]; decide)]
    have HA := Lib.hid ha
    clear ha
    go_enter Try.func39, Try.ntmps39
    go_wp2_with fail
    refine (refValid_any _ _).mono ?_
    rintro e w2 ⟨rfl, rfl⟩
    rw [HA.out]
    go_wp2
    go_ret
    exact ⟨rfl, Below.refl _ _⟩
  | true =>
    obtain ⟨z, hz⟩ : ∃ z, textP a 8 = z := ⟨_, rfl⟩
    rw [show textZ a = z from (if_pos ha).trans hz]
    have HZ := Lib.hid hz
    have HA := Lib.hid ha
    have va := Lib.hid (V_true ha)
    clear ha hz
    go_enter Try.func39, Try.ntmps39
    go_wp2_with fail
    refine (refValid_any _ _).mono ?_
    rintro e w2 ⟨rfl, rfl⟩
    rw [HA.out]
    go_wp2
    go_loop [3, 4] (fun n i => ∃ k : Nat, k ≤ 8 ∧ i = .int .i64 (7 - k) ∧ n = .string (textP a k)) (fun _ i => (1 + intOf i).toNat)
    case atStart => exact ⟨0, by omega, rfl, rfl⟩
    case round =>
      obtain ⟨k, hk, rfl, rfl⟩ := hrel
      by_cases hlt : k < 8
      · have e7 : (7 - (k : Int)) = ((7 - k : Nat) : Int) := by omega
        have h01 := bitZ_01 a (7 - k)
        have hn := Lib.hid (textP_next a k hlt)
        have hd := Lib.hid (dig_bit a k)
        go_wp2_with fail
        refine (bit_any a va.out (7 - k) (by omega) _).mono ?_
        rintro e w2 ⟨rfl, rfl⟩
        have hi : ∀ x : Int, x = ((7 - k : Nat) : Int) - 1 → x = 7 - ((k + 1 : Nat) : Int) := fun x h => by omega
        have HI := Lib.hid hi
        clear hi e7
        rcases h01 with h | h
        · have hb := Lib.hid (hn.out 48 (by rw [hd.out, h]; rfl))
          rw [h]
          clear h hn hd
          have hsz : ¬9223372036854775807 < (textP a k).size + 1 := by have := textP_size a k; omega
          go_wp2
          exact ⟨⟨k + 1, by omega, by congr 1; exact HI.out _ rfl, by rw [← hb.out]⟩, by simp [intOf]; omega⟩
        · have hb := Lib.hid (hn.out 49 (by rw [hd.out, h]; rfl))
          rw [h]
          clear h hn hd
          have hsz : ¬9223372036854775807 < (textP a k).size + 1 := by have := textP_size a k; omega
          go_wp2
          exact ⟨⟨k + 1, by omega, by congr 1; exact HI.out _ rfl, by rw [← hb.out]⟩, by simp [intOf]; omega⟩
      · have hk' : k = 8 := by omega
        subst hk'
        rw [HZ.out]
        go_wp2
        go_ret
        exact ⟨rfl, Below.refl _ _⟩
end Go.Proofs.Ytakbmmmoalfedaa
