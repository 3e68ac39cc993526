/- Text, Ones. -/
import Derived.Test.YtakbmmmoalfedaaDig
import Derived.Deep.WholeRow
import Derived.Laws.IdiomStrings
namespace Go.Proofs.Ytakbmmmoalfedaa
open Go.RowKit
set_option linter.unusedVariables false

/-- the bytes of the text of a bit vector -/
def digL (a : Int) : List UInt8 := List.ofFn (n := 8) fun i => UInt8.ofNat (48 + dig a i.val).toNat
def textS (a : Int) : ByteArray := ⟨(digL a).toArray⟩
def textZ (a : Int) : ByteArray := if V a = true then textS a else ⟨#[]⟩
theorem dig_01 (a : Int) (i : Nat) : dig a i = 0 ∨ dig a i = 1 := by unfold dig; omega
theorem digL_at (a : Int) (j : Nat) (hj : j < (digL a).length) : (digC a 8)[j]? = some (.int .u8 ((digL a)[j].toNat : Int)) := by
  have h8 : j < 8 := by simpa [digL] using hj
  simp only [digL, digC, List.getElem_ofFn, List.getElem?_toArray, List.getElem?_ofFn, h8]
  rcases dig_01 a j with h | h <;> simp [h]

def OneS (s : ByteArray) (w : World) (e : Ending) (w' : World) : Prop := e = .returned (.string s) ∧ Below w.heap.size w w'

theorem text_yes (a : Int) (ha : V a = true) (w : World) : Calls Try.prog 38 #[.int .i64 a] w (OneS (textS a) w) := by
  have HA := Lib.hid ha
  clear ha
  go_enter Try.func38, Try.ntmps38
  go_wp2_with fail
  refine (valid_any _ _).mono ?_
  rintro e w2 ⟨rfl, rfl⟩
  rw [HA.out]
  go_wp2_with fail
  refine (digits_any _ HA.out _).mono ?_
  rintro e w2 ⟨rfl, hb⟩
  have hconv : (convert 39 9 (.slice (some ⟨w2.heap.size, 0, none⟩) 8 8)).run Try.prog (w2.alloc (.cells (digC a 8) 37)) = .ok (.string (textS a)) (w2.alloc (.cells (digC a 8) 37)) := by
    have hl : (digL a).length = 8 := by simp [digL]
    have := run_convert_bytes_back (P := Try.prog) (w2.alloc (.cells (digC a 8) 37)) 39 9 5 ⟨w2.heap.size, 0, none⟩ 8 (digL a) Try.underlying39 Try.underlying5 Try.underlying9 (fun j hj => by
      have e : (⟨w2.heap.size, 0, none⟩ : Addr).add j = ⟨w2.heap.size, j, none⟩ := by unfold Addr.add; split <;> simp_all
      rw [e, World.cell?_alloc_at _ _ _ _ rfl]
      exact digL_at a j hj)
    rw [hl] at this
    exact this
  go_wp2_with (first
        | ((with_reducible show wpList _ _ _ (⟨_, .store 37 _ _, _, _, _, _⟩ :: _) _ _); refine wpList_store_row rfl 37 (.tmp 3) (.tmp 8) rfl w2.heap.size (digC a 8) rfl rfl 37 (digC a 0) (heap_alloc_new _ _) (by rw [digC_size]; kernel_rfl) (by rw [digC_size, digC_size]) (digC_ints a 8) ?_; rw [World.setRow_alloc_new]))
  go_ret
  exact ⟨rfl, hb.alloc hb.size _⟩

theorem text_any (a : Int) (w : World) : Calls Try.prog 38 #[.int .i64 a] w (OneS (textZ a) w) := by
  cases ha : V a with
  | true => rw [show textZ a = textS a from if_pos ha]; exact text_yes a ha w
  | false =>
    rw [show textZ a = ⟨#[]⟩ from if_neg (by rw [ha]; decide)]
    have HA := Lib.hid ha
    clear ha
    go_enter Try.func38, Try.ntmps38
    go_wp2_with fail
    refine (valid_any _ _).mono ?_
    rintro e w2 ⟨rfl, rfl⟩
    rw [HA.out]
    go_wp2
    go_ret
    exact ⟨rfl, Below.refl _ _⟩

/-- the number of the first k digits that are 1 -/
def onesN (a : Int) : Nat → Int
  | 0 => 0
  | k + 1 => onesN a k + dig a k
def onesZ (a : Int) : Int := if V a = true then onesN a 8 else 0
theorem onesN_bd (a : Int) : ∀ k, 0 ≤ onesN a k ∧ onesN a k ≤ k
  | 0 => by simp [onesN]
  | k + 1 => by have := onesN_bd a k; have := dig_01 a k; simp only [onesN]; omega
theorem idx8_0 (a : Int) (w : World) : (Instr.index 37 (.agg (digC a 8)) (.int .i64 0)).run Try.prog w = .ok (.int .u8 (48 + dig a 0)) w := by kernel_rfl
theorem idx8_1 (a : Int) (w : World) : (Instr.index 37 (.agg (digC a 8)) (.int .i64 1)).run Try.prog w = .ok (.int .u8 (48 + dig a 1)) w := by kernel_rfl
theorem idx8_2 (a : Int) (w : World) : (Instr.index 37 (.agg (digC a 8)) (.int .i64 2)).run Try.prog w = .ok (.int .u8 (48 + dig a 2)) w := by kernel_rfl
theorem idx8_3 (a : Int) (w : World) : (Instr.index 37 (.agg (digC a 8)) (.int .i64 3)).run Try.prog w = .ok (.int .u8 (48 + dig a 3)) w := by kernel_rfl
theorem idx8_4 (a : Int) (w : World) : (Instr.index 37 (.agg (digC a 8)) (.int .i64 4)).run Try.prog w = .ok (.int .u8 (48 + dig a 4)) w := by kernel_rfl
theorem idx8_5 (a : Int) (w : World) : (Instr.index 37 (.agg (digC a 8)) (.int .i64 5)).run Try.prog w = .ok (.int .u8 (48 + dig a 5)) w := by kernel_rfl
theorem idx8_6 (a : Int) (w : World) : (Instr.index 37 (.agg (digC a 8)) (.int .i64 6)).run Try.prog w = .ok (.int .u8 (48 + dig a 6)) w := by kernel_rfl
theorem idx8_7 (a : Int) (w : World) : (Instr.index 37 (.agg (digC a 8)) (.int .i64 7)).run Try.prog w = .ok (.int .u8 (48 + dig a 7)) w := by kernel_rfl
theorem idx8 (a : Int) (k : Nat) (hk : k < 8) (w : World) : (Instr.index 37 (.agg (digC a 8)) (.int .i64 k)).run Try.prog w = .ok (.int .u8 (48 + dig a k)) w := by
  match k, hk with
  | 0, _ => exact idx8_0 a w
  | 1, _ => exact idx8_1 a w
  | 2, _ => exact idx8_2 a w
  | 3, _ => exact idx8_3 a w
  | 4, _ => exact idx8_4 a w
  | 5, _ => exact idx8_5 a w
  | 6, _ => exact idx8_6 a w
  | 7, _ => exact idx8_7 a w
theorem ones_yes (a : Int) (ha : V a = true) (w : World) : Calls Try.prog 36 #[.int .i64 a] w (OneI (onesN a 8) w) := by
  have HA := Lib.hid ha
  clear ha
  generalize hz : onesN a 8 = z
  have HZ := Lib.hid hz
  clear hz
  go_enter Try.func36, Try.ntmps36
  go_wp2_with fail
  refine (valid_any _ _).mono ?_
  rintro e w2 ⟨rfl, rfl⟩
  rw [HA.out]
  go_wp2_with fail
  refine (digits_any _ HA.out _).mono ?_
  rintro e w2 ⟨rfl, hb⟩
  go_wp2
  go_loop [3, 11] (fun n i => ∃ k : Nat, k ≤ 8 ∧ i = .int .i64 k ∧ n = .int .i64 (onesN a k)) (fun _ i => 8 - (intOf i).toNat)
  case atStart => exact ⟨0, by omega, rfl, rfl⟩
  case round =>
    obtain ⟨k, hk, rfl, rfl⟩ := hrel
    have hbd := onesN_bd a k
    by_cases hlt : k < 8
    · have hat := idx8 a k hlt
      have h01 := dig_01 a k
      have hs := Lib.hid (show onesN a (k + 1) = onesN a k + dig a k from rfl)
      generalize onesN a k = m at hbd hs
      generalize dig a k = d at hat h01 hs
      go_wp2
      exact ⟨⟨k + 1, by omega, by go_num, by rw [hs.out]; congr 1; omega⟩, by simp [intOf]; omega⟩
    · have hk' : k = 8 := by omega
      have HK := Lib.hid hk'
      clear hk'
      go_wp2
      go_ret
      rw [HK.out]
      exact oneI HZ.out hb
theorem ones_any (a : Int) (w : World) : Calls Try.prog 36 #[.int .i64 a] w (OneI (onesZ a) w) := by
  cases ha : V a with
  | true => rw [show onesZ a = onesN a 8 from if_pos ha]; exact ones_yes a ha w
  | false =>
    rw [show onesZ a = 0 from if_neg (by rw [ha]; decide)]
    have HA := Lib.hid ha
    clear ha
    go_enter Try.func36, Try.ntmps36
    go_wp2_with fail
    refine (valid_any _ _).mono ?_
    rintro e w2 ⟨rfl, rfl⟩
    rw [HA.out]
    go_wp2
    go_ret
    exact ⟨rfl, Below.refl _ _⟩
end Go.Proofs.Ytakbmmmoalfedaa
