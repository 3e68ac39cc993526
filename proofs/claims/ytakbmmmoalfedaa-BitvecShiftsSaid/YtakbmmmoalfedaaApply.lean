/- The reference's apply. -/
import Derived.Test.YtakbmmmoalfedaaRefBits
namespace Go.Proofs.Ytakbmmmoalfedaa
open Go.RowKit
set_option linter.unusedVariables false

theorem apply_left (s : ByteArray) (x k : Int) (w : World) (hs : s.toList = [98, 108, 101, 102, 116]) : Calls Try.prog 46 #[.string s, .int .i64 x, .int .i64 k] w (OneT (leftZ x k, true) w) := by
  have h0 : (s.toList == [98, 108, 101, 102, 116]) = true := by rw [hs]; rfl
  have h1 : (s.toList == [98, 114, 105, 103, 104, 116]) = false := by rw [hs]; rfl
  have h2 : (s.toList == [98, 97, 114, 105, 116, 104]) = false := by rw [hs]; rfl
  have h3 : (s.toList == [98, 110, 111, 116]) = false := by rw [hs]; rfl
  have h4 : (s.toList == [98, 97, 110, 100]) = false := by rw [hs]; rfl
  have h5 : (s.toList == [98, 111, 114]) = false := by rw [hs]; rfl
  have h6 : (s.toList == [98, 120, 111, 114]) = false := by rw [hs]; rfl
  have h7 : (s.toList == [98, 97, 100, 100]) = false := by rw [hs]; rfl
  have h8 : (s.toList == [98, 115, 117, 98]) = false := by rw [hs]; rfl
  have h9 : (s.toList == [98, 109, 117, 108]) = false := by rw [hs]; rfl
  clear hs
  go_enter Try.func46, Try.ntmps46
  go_wp2_with fail
  refine (refLeft_any _ _ _).mono ?_
  rintro e w' ⟨rfl, hb⟩
  go_wp2
  go_ret2
  exact ⟨rfl, hb⟩
theorem apply_right (s : ByteArray) (x k : Int) (w : World) (hs : s.toList = [98, 114, 105, 103, 104, 116]) : Calls Try.prog 46 #[.string s, .int .i64 x, .int .i64 k] w (OneT (rightZ x k, true) w) := by
  have h0 : (s.toList == [98, 108, 101, 102, 116]) = false := by rw [hs]; rfl
  have h1 : (s.toList == [98, 114, 105, 103, 104, 116]) = true := by rw [hs]; rfl
  have h2 : (s.toList == [98, 97, 114, 105, 116, 104]) = false := by rw [hs]; rfl
  have h3 : (s.toList == [98, 110, 111, 116]) = false := by rw [hs]; rfl
  have h4 : (s.toList == [98, 97, 110, 100]) = false := by rw [hs]; rfl
  have h5 : (s.toList == [98, 111, 114]) = false := by rw [hs]; rfl
  have h6 : (s.toList == [98, 120, 111, 114]) = false := by rw [hs]; rfl
  have h7 : (s.toList == [98, 97, 100, 100]) = false := by rw [hs]; rfl
  have h8 : (s.toList == [98, 115, 117, 98]) = false := by rw [hs]; rfl
  have h9 : (s.toList == [98, 109, 117, 108]) = false := by rw [hs]; rfl
  clear hs
  go_enter Try.func46, Try.ntmps46
  go_wp2_with fail
  refine (refRight_any _ _ _).mono ?_
  rintro e w' ⟨rfl, hb⟩
  go_wp2
  go_ret2
  exact ⟨rfl, hb⟩
theorem apply_arith (s : ByteArray) (x k : Int) (w : World) (hs : s.toList = [98, 97, 114, 105, 116, 104]) : Calls Try.prog 46 #[.string s, .int .i64 x, .int .i64 k] w (OneT (arithZ x k, true) w) := by
  have h0 : (s.toList == [98, 108, 101, 102, 116]) = false := by rw [hs]; rfl
  have h1 : (s.toList == [98, 114, 105, 103, 104, 116]) = false := by rw [hs]; rfl
  have h2 : (s.toList == [98, 97, 114, 105, 116, 104]) = true := by rw [hs]; rfl
  have h3 : (s.toList == [98, 110, 111, 116]) = false := by rw [hs]; rfl
  have h4 : (s.toList == [98, 97, 110, 100]) = false := by rw [hs]; rfl
  have h5 : (s.toList == [98, 111, 114]) = false := by rw [hs]; rfl
  have h6 : (s.toList == [98, 120, 111, 114]) = false := by rw [hs]; rfl
  have h7 : (s.toList == [98, 97, 100, 100]) = false := by rw [hs]; rfl
  have h8 : (s.toList == [98, 115, 117, 98]) = false := by rw [hs]; rfl
  have h9 : (s.toList == [98, 109, 117, 108]) = false := by rw [hs]; rfl
  clear hs
  go_enter Try.func46, Try.ntmps46
  go_wp2_with fail
  refine (refArith_any _ _ _).mono ?_
  rintro e w' ⟨rfl, hb⟩
  go_wp2
  go_ret2
  exact ⟨rfl, hb⟩
theorem apply_not (s : ByteArray) (x k : Int) (w : World) (hs : s.toList = [98, 110, 111, 116]) : Calls Try.prog 46 #[.string s, .int .i64 x, .int .i64 k] w (OneT (notZ x, true) w) := by
  have h0 : (s.toList == [98, 108, 101, 102, 116]) = false := by rw [hs]; rfl
  have h1 : (s.toList == [98, 114, 105, 103, 104, 116]) = false := by rw [hs]; rfl
  have h2 : (s.toList == [98, 97, 114, 105, 116, 104]) = false := by rw [hs]; rfl
  have h3 : (s.toList == [98, 110, 111, 116]) = true := by rw [hs]; rfl
  have h4 : (s.toList == [98, 97, 110, 100]) = false := by rw [hs]; rfl
  have h5 : (s.toList == [98, 111, 114]) = false := by rw [hs]; rfl
  have h6 : (s.toList == [98, 120, 111, 114]) = false := by rw [hs]; rfl
  have h7 : (s.toList == [98, 97, 100, 100]) = false := by rw [hs]; rfl
  have h8 : (s.toList == [98, 115, 117, 98]) = false := by rw [hs]; rfl
  have h9 : (s.toList == [98, 109, 117, 108]) = false := by rw [hs]; rfl
  clear hs
  go_enter Try.func46, Try.ntmps46
  go_wp2_with fail
  refine (refNot_any _ _).mono ?_
  rintro e w' ⟨rfl, hb⟩
  go_wp2
  go_ret2
  exact ⟨rfl, hb⟩
theorem apply_and (s : ByteArray) (x k : Int) (w : World) (hs : s.toList = [98, 97, 110, 100]) : Calls Try.prog 46 #[.string s, .int .i64 x, .int .i64 k] w (OneT (andZ x k, V k) w) := by
  have h0 : (s.toList == [98, 108, 101, 102, 116]) = false := by rw [hs]; rfl
  have h1 : (s.toList == [98, 114, 105, 103, 104, 116]) = false := by rw [hs]; rfl
  have h2 : (s.toList == [98, 97, 114, 105, 116, 104]) = false := by rw [hs]; rfl
  have h3 : (s.toList == [98, 110, 111, 116]) = false := by rw [hs]; rfl
  have h4 : (s.toList == [98, 97, 110, 100]) = true := by rw [hs]; rfl
  have h5 : (s.toList == [98, 111, 114]) = false := by rw [hs]; rfl
  have h6 : (s.toList == [98, 120, 111, 114]) = false := by rw [hs]; rfl
  have h7 : (s.toList == [98, 97, 100, 100]) = false := by rw [hs]; rfl
  have h8 : (s.toList == [98, 115, 117, 98]) = false := by rw [hs]; rfl
  have h9 : (s.toList == [98, 109, 117, 108]) = false := by rw [hs]; rfl
  clear hs
  go_enter Try.func46, Try.ntmps46
  go_wp2_with fail
  refine (refAnd_any _ _ _).mono ?_
  rintro e w' ⟨rfl, hb⟩
  go_wp2_with fail
  refine (refValid_any _ _).mono ?_
  rintro e w' ⟨rfl, rfl⟩
  go_wp2
  go_ret2
  exact ⟨rfl, hb⟩
theorem apply_or (s : ByteArray) (x k : Int) (w : World) (hs : s.toList = [98, 111, 114]) : Calls Try.prog 46 #[.string s, .int .i64 x, .int .i64 k] w (OneT (orZ x k, V k) w) := by
  have h0 : (s.toList == [98, 108, 101, 102, 116]) = false := by rw [hs]; rfl
  have h1 : (s.toList == [98, 114, 105, 103, 104, 116]) = false := by rw [hs]; rfl
  have h2 : (s.toList == [98, 97, 114, 105, 116, 104]) = false := by rw [hs]; rfl
  have h3 : (s.toList == [98, 110, 111, 116]) = false := by rw [hs]; rfl
  have h4 : (s.toList == [98, 97, 110, 100]) = false := by rw [hs]; rfl
  have h5 : (s.toList == [98, 111, 114]) = true := by rw [hs]; rfl
  have h6 : (s.toList == [98, 120, 111, 114]) = false := by rw [hs]; rfl
  have h7 : (s.toList == [98, 97, 100, 100]) = false := by rw [hs]; rfl
  have h8 : (s.toList == [98, 115, 117, 98]) = false := by rw [hs]; rfl
  have h9 : (s.toList == [98, 109, 117, 108]) = false := by rw [hs]; rfl
  clear hs
  go_enter Try.func46, Try.ntmps46
  go_wp2_with fail
  refine (refOr_any _ _ _).mono ?_
  rintro e w' ⟨rfl, hb⟩
  go_wp2_with fail
  refine (refValid_any _ _).mono ?_
  rintro e w' ⟨rfl, rfl⟩
  go_wp2
  go_ret2
  exact ⟨rfl, hb⟩
theorem apply_xor (s : ByteArray) (x k : Int) (w : World) (hs : s.toList = [98, 120, 111, 114]) : Calls Try.prog 46 #[.string s, .int .i64 x, .int .i64 k] w (OneT (xorZ x k, V k) w) := by
  have h0 : (s.toList == [98, 108, 101, 102, 116]) = false := by rw [hs]; rfl
  have h1 : (s.toList == [98, 114, 105, 103, 104, 116]) = false := by rw [hs]; rfl
  have h2 : (s.toList == [98, 97, 114, 105, 116, 104]) = false := by rw [hs]; rfl
  have h3 : (s.toList == [98, 110, 111, 116]) = false := by rw [hs]; rfl
  have h4 : (s.toList == [98, 97, 110, 100]) = false := by rw [hs]; rfl
  have h5 : (s.toList == [98, 111, 114]) = false := by rw [hs]; rfl
  have h6 : (s.toList == [98, 120, 111, 114]) = true := by rw [hs]; rfl
  have h7 : (s.toList == [98, 97, 100, 100]) = false := by rw [hs]; rfl
  have h8 : (s.toList == [98, 115, 117, 98]) = false := by rw [hs]; rfl
  have h9 : (s.toList == [98, 109, 117, 108]) = false := by rw [hs]; rfl
  clear hs
  go_enter Try.func46, Try.ntmps46
  go_wp2_with fail
  refine (refXor_any _ _ _).mono ?_
  rintro e w' ⟨rfl, hb⟩
  go_wp2_with fail
  refine (refValid_any _ _).mono ?_
  rintro e w' ⟨rfl, rfl⟩
  go_wp2
  go_ret2
  exact ⟨rfl, hb⟩
theorem apply_add (s : ByteArray) (x k : Int) (w : World) (hs : s.toList = [98, 97, 100, 100]) : Calls Try.prog 46 #[.string s, .int .i64 x, .int .i64 k] w (OneT (addZ x k, V k) w) := by
  have h0 : (s.toList == [98, 108, 101, 102, 116]) = false := by rw [hs]; rfl
  have h1 : (s.toList == [98, 114, 105, 103, 104, 116]) = false := by rw [hs]; rfl
  have h2 : (s.toList == [98, 97, 114, 105, 116, 104]) = false := by rw [hs]; rfl
  have h3 : (s.toList == [98, 110, 111, 116]) = false := by rw [hs]; rfl
  have h4 : (s.toList == [98, 97, 110, 100]) = false := by rw [hs]; rfl
  have h5 : (s.toList == [98, 111, 114]) = false := by rw [hs]; rfl
  have h6 : (s.toList == [98, 120, 111, 114]) = false := by rw [hs]; rfl
  have h7 : (s.toList == [98, 97, 100, 100]) = true := by rw [hs]; rfl
  have h8 : (s.toList == [98, 115, 117, 98]) = false := by rw [hs]; rfl
  have h9 : (s.toList == [98, 109, 117, 108]) = false := by rw [hs]; rfl
  clear hs
  go_enter Try.func46, Try.ntmps46
  go_wp2_with fail
  refine (refAdd_any _ _ _).mono ?_
  rintro e w' ⟨rfl, hb⟩
  go_wp2_with fail
  refine (refValid_any _ _).mono ?_
  rintro e w' ⟨rfl, rfl⟩
  go_wp2
  go_ret2
  exact ⟨rfl, hb⟩
theorem apply_sub (s : ByteArray) (x k : Int) (w : World) (hs : s.toList = [98, 115, 117, 98]) : Calls Try.prog 46 #[.string s, .int .i64 x, .int .i64 k] w (OneT (subZ x k, V k) w) := by
  have h0 : (s.toList == [98, 108, 101, 102, 116]) = false := by rw [hs]; rfl
  have h1 : (s.toList == [98, 114, 105, 103, 104, 116]) = false := by rw [hs]; rfl
  have h2 : (s.toList == [98, 97, 114, 105, 116, 104]) = false := by rw [hs]; rfl
  have h3 : (s.toList == [98, 110, 111, 116]) = false := by rw [hs]; rfl
  have h4 : (s.toList == [98, 97, 110, 100]) = false := by rw [hs]; rfl
  have h5 : (s.toList == [98, 111, 114]) = false := by rw [hs]; rfl
  have h6 : (s.toList == [98, 120, 111, 114]) = false := by rw [hs]; rfl
  have h7 : (s.toList == [98, 97, 100, 100]) = false := by rw [hs]; rfl
  have h8 : (s.toList == [98, 115, 117, 98]) = true := by rw [hs]; rfl
  have h9 : (s.toList == [98, 109, 117, 108]) = false := by rw [hs]; rfl
  clear hs
  go_enter Try.func46, Try.ntmps46
  go_wp2_with fail
  refine (refSub_any _ _ _).mono ?_
  rintro e w' ⟨rfl, hb⟩
  go_wp2_with fail
  refine (refValid_any _ _).mono ?_
  rintro e w' ⟨rfl, rfl⟩
  go_wp2
  go_ret2
  exact ⟨rfl, hb⟩
theorem apply_mul (s : ByteArray) (x k : Int) (w : World) (hs : s.toList = [98, 109, 117, 108]) : Calls Try.prog 46 #[.string s, .int .i64 x, .int .i64 k] w (OneT (mulZ x k, V k) w) := by
  have h0 : (s.toList == [98, 108, 101, 102, 116]) = false := by rw [hs]; rfl
  have h1 : (s.toList == [98, 114, 105, 103, 104, 116]) = false := by rw [hs]; rfl
  have h2 : (s.toList == [98, 97, 114, 105, 116, 104]) = false := by rw [hs]; rfl
  have h3 : (s.toList == [98, 110, 111, 116]) = false := by rw [hs]; rfl
  have h4 : (s.toList == [98, 97, 110, 100]) = false := by rw [hs]; rfl
  have h5 : (s.toList == [98, 111, 114]) = false := by rw [hs]; rfl
  have h6 : (s.toList == [98, 120, 111, 114]) = false := by rw [hs]; rfl
  have h7 : (s.toList == [98, 97, 100, 100]) = false := by rw [hs]; rfl
  have h8 : (s.toList == [98, 115, 117, 98]) = false := by rw [hs]; rfl
  have h9 : (s.toList == [98, 109, 117, 108]) = true := by rw [hs]; rfl
  clear hs
  go_enter Try.func46, Try.ntmps46
  go_wp2_with fail
  refine (refMul_any _ _ _).mono ?_
  rintro e w' ⟨rfl, hb⟩
  go_wp2_with fail
  refine (refValid_any _ _).mono ?_
  rintro e w' ⟨rfl, rfl⟩
  go_wp2
  go_ret2
  exact ⟨rfl, hb⟩
theorem apply_none (s : ByteArray) (x k : Int) (w : World) (h0 : (s.toList == [98, 108, 101, 102, 116]) = false) (h1 : (s.toList == [98, 114, 105, 103, 104, 116]) = false) (h2 : (s.toList == [98, 97, 114, 105, 116, 104]) = false) (h3 : (s.toList == [98, 110, 111, 116]) = false) (h4 : (s.toList == [98, 97, 110, 100]) = false) (h5 : (s.toList == [98, 111, 114]) = false) (h6 : (s.toList == [98, 120, 111, 114]) = false) (h7 : (s.toList == [98, 97, 100, 100]) = false) (h8 : (s.toList == [98, 115, 117, 98]) = false) (h9 : (s.toList == [98, 109, 117, 108]) = false) : Calls Try.prog 46 #[.string s, .int .i64 x, .int .i64 k] w (OneT (0, false) w) := by
  go_enter Try.func46, Try.ntmps46
  go_wp2
  go_ret2
  exact ⟨rfl, Below.refl _ _⟩
theorem apply_any (s : ByteArray) (x k : Int) (w : World) : Calls Try.prog 46 #[.string s, .int .i64 x, .int .i64 k] w (OneT (opZ s.toList x k) w) := by
  by_cases h0 : s.toList = [98, 108, 101, 102, 116]
  · have e : opZ s.toList x k = (leftZ x k, true) := by rw [h0]; rfl
    rw [e]; exact apply_left s x k w h0
  by_cases h1 : s.toList = [98, 114, 105, 103, 104, 116]
  · have e : opZ s.toList x k = (rightZ x k, true) := by rw [h1]; rfl
    rw [e]; exact apply_right s x k w h1
  by_cases h2 : s.toList = [98, 97, 114, 105, 116, 104]
  · have e : opZ s.toList x k = (arithZ x k, true) := by rw [h2]; rfl
    rw [e]; exact apply_arith s x k w h2
  by_cases h3 : s.toList = [98, 110, 111, 116]
  · have e : opZ s.toList x k = (notZ x, true) := by rw [h3]; rfl
    rw [e]; exact apply_not s x k w h3
  by_cases h4 : s.toList = [98, 97, 110, 100]
  · have e : opZ s.toList x k = (andZ x k, V k) := by rw [h4]; rfl
    rw [e]; exact apply_and s x k w h4
  by_cases h5 : s.toList = [98, 111, 114]
  · have e : opZ s.toList x k = (orZ x k, V k) := by rw [h5]; rfl
    rw [e]; exact apply_or s x k w h5
  by_cases h6 : s.toList = [98, 120, 111, 114]
  · have e : opZ s.toList x k = (xorZ x k, V k) := by rw [h6]; rfl
    rw [e]; exact apply_xor s x k w h6
  by_cases h7 : s.toList = [98, 97, 100, 100]
  · have e : opZ s.toList x k = (addZ x k, V k) := by rw [h7]; rfl
    rw [e]; exact apply_add s x k w h7
  by_cases h8 : s.toList = [98, 115, 117, 98]
  · have e : opZ s.toList x k = (subZ x k, V k) := by rw [h8]; rfl
    rw [e]; exact apply_sub s x k w h8
  by_cases h9 : s.toList = [98, 109, 117, 108]
  · have e : opZ s.toList x k = (mulZ x k, V k) := by rw [h9]; rfl
    rw [e]; exact apply_mul s x k w h9
  rw [opZ_none h0 h1 h2 h3 h4 h5 h6 h7 h8 h9]
  exact apply_none s x k w (beq_no h0) (beq_no h1) (beq_no h2) (beq_no h3) (beq_no h4) (beq_no h5) (beq_no h6) (beq_no h7) (beq_no h8) (beq_no h9)
end Go.Proofs.Ytakbmmmoalfedaa
