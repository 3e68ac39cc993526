/- operate and Solve. -/
import Derived.Test.YtakbmmmoalfedaaShift
namespace Go.Proofs.Ytakbmmmoalfedaa
open Go.RowKit
set_option linter.unusedVariables false

/-- the operations of Solve by their names: the result, and whether there is one -/
def opZ (l : List UInt8) (x k : Int) : Int × Bool :=
  if l = [98, 108, 101, 102, 116] then (leftZ x k, true)
  else if l = [98, 114, 105, 103, 104, 116] then (rightZ x k, true)
  else if l = [98, 97, 114, 105, 116, 104] then (arithZ x k, true)
  else if l = [98, 110, 111, 116] then (notZ x, true)
  else if l = [98, 97, 110, 100] then (andZ x k, V k)
  else if l = [98, 111, 114] then (orZ x k, V k)
  else if l = [98, 120, 111, 114] then (xorZ x k, V k)
  else if l = [98, 97, 100, 100] then (addZ x k, V k)
  else if l = [98, 115, 117, 98] then (subZ x k, V k)
  else if l = [98, 109, 117, 108] then (mulZ x k, V k)
  else (0, false)
theorem opZ_none {l : List UInt8} {x k : Int} (h0 : ¬ l = [98, 108, 101, 102, 116]) (h1 : ¬ l = [98, 114, 105, 103, 104, 116]) (h2 : ¬ l = [98, 97, 114, 105, 116, 104]) (h3 : ¬ l = [98, 110, 111, 116])
    (h4 : ¬ l = [98, 97, 110, 100]) (h5 : ¬ l = [98, 111, 114]) (h6 : ¬ l = [98, 120, 111, 114]) (h7 : ¬ l = [98, 97, 100, 100]) (h8 : ¬ l = [98, 115, 117, 98]) (h9 : ¬ l = [98, 109, 117, 108]) : opZ l x k = (0, false) := by
  unfold opZ
  rw [if_neg h0, if_neg h1, if_neg h2, if_neg h3, if_neg h4, if_neg h5, if_neg h6, if_neg h7, if_neg h8, if_neg h9]
theorem beq_no {l m : List UInt8} (h : ¬ l = m) : (l == m) = false := by simpa using h
theorem both_no {a b v : Int} (h : V b = false) : both a b v = 0 := by unfold both; rw [h, Bool.and_false]; rfl
/-- A call that hands back a number and a flag. -/
def OneT (r : Int × Bool) (w : World) (e : Ending) (w' : World) : Prop := e = .returned (.tuple #[.int .i64 r.1, .bool r.2]) ∧ Below w.heap.size w w'
theorem operate_left (s : ByteArray) (x k : Int) (w : World) (hs : s.toList = [98, 108, 101, 102, 116]) : Calls Try.prog 45 #[.string s, .int .i64 x, .int .i64 k] w (OneT (leftZ x k, true) w) := by
  have h0 : (s.toList == [98, 108, 101, 102, 116]) = true := by rw [hs]; rfl
  have h1 : (s.toList == [98, 114, 105, 103, 104, 116]) = false := by rw [hs]; rfl
  have h2 : (s.toList == [98, 97, 114, 105, 116, 104]) = false := by rw [hs]; rfl
  have h3 : (s.toList == [98, 110, 111, 116]) = false := by rw [hs]; rfl
  have h4 : (s.toList == [98, 97, 110, 100]) = false := by rw [hs]; rfl
  have h5 : (s.toList == [98, 111, 114]) = false := by rw [hs]; rfl
  have h6 : (s.toList == [98, 120, 111, 114]) = false := by rw [hs]; rfl
  have h7 : (s.toList == [98, 97, 100, 100]) = false := by rw [hs]; rfl
  have h8 : (s.toList == [98, 115, 117, 98]) = false := by rw [hs]; rfl
  have h9 : (s.toList == [98, 109, 117, 108]) = false := by rw [hs]; rfl
  clear hs
  go_enter Try.func45, Try.ntmps45
  go_wp2_with fail
  refine (left_any _ _ _).mono ?_
  rintro e w' ⟨rfl, hb⟩
  go_wp2
  go_ret2
  exact ⟨rfl, hb⟩
theorem operate_right (s : ByteArray) (x k : Int) (w : World) (hs : s.toList = [98, 114, 105, 103, 104, 116]) : Calls Try.prog 45 #[.string s, .int .i64 x, .int .i64 k] w (OneT (rightZ x k, true) w) := by
  have h0 : (s.toList == [98, 108, 101, 102, 116]) = false := by rw [hs]; rfl
  have h1 : (s.toList == [98, 114, 105, 103, 104, 116]) = true := by rw [hs]; rfl
  have h2 : (s.toList == [98, 97, 114, 105, 116, 104]) = false := by rw [hs]; rfl
  have h3 : (s.toList == [98, 110, 111, 116]) = false := by rw [hs]; rfl
  have h4 : (s.toList == [98, 97, 110, 100]) = false := by rw [hs]; rfl
  have h5 : (s.toList == [98, 111, 114]) = false := by rw [hs]; rfl
  have h6 : (s.toList == [98, 120, 111, 114]) = false := by rw [hs]; rfl
  have h7 : (s.toList == [98, 97, 100, 100]) = false := by rw [hs]; rfl
  have h8 : (s.toList == [98, 115, 117, 98]) = false := by rw [hs]; rfl
  have h9 : (s.toList == [98, 109, 117, 108]) = false := by rw [hs]; rfl
  clear hs
  go_enter Try.func45, Try.ntmps45
  go_wp2_with fail
  refine (right_any _ _ _).mono ?_
  rintro e w' ⟨rfl, hb⟩
  go_wp2
  go_ret2
  exact ⟨rfl, hb⟩
theorem operate_arith (s : ByteArray) (x k : Int) (w : World) (hs : s.toList = [98, 97, 114, 105, 116, 104]) : Calls Try.prog 45 #[.string s, .int .i64 x, .int .i64 k] w (OneT (arithZ x k, true) w) := by
  have h0 : (s.toList == [98, 108, 101, 102, 116]) = false := by rw [hs]; rfl
  have h1 : (s.toList == [98, 114, 105, 103, 104, 116]) = false := by rw [hs]; rfl
  have h2 : (s.toList == [98, 97, 114, 105, 116, 104]) = true := by rw [hs]; rfl
  have h3 : (s.toList == [98, 110, 111, 116]) = false := by rw [hs]; rfl
  have h4 : (s.toList == [98, 97, 110, 100]) = false := by rw [hs]; rfl
  have h5 : (s.toList == [98, 111, 114]) = false := by rw [hs]; rfl
  have h6 : (s.toList == [98, 120, 111, 114]) = false := by rw [hs]; rfl
  have h7 : (s.toList == [98, 97, 100, 100]) = false := by rw [hs]; rfl
  have h8 : (s.toList == [98, 115, 117, 98]) = false := by rw [hs]; rfl
  have h9 : (s.toList == [98, 109, 117, 108]) = false := by rw [hs]; rfl
  clear hs
  go_enter Try.func45, Try.ntmps45
  go_wp2_with fail
  refine (arith_any _ _ _).mono ?_
  rintro e w' ⟨rfl, hb⟩
  go_wp2
  go_ret2
  exact ⟨rfl, hb⟩
theorem operate_not (s : ByteArray) (x k : Int) (w : World) (hs : s.toList = [98, 110, 111, 116]) : Calls Try.prog 45 #[.string s, .int .i64 x, .int .i64 k] w (OneT (notZ x, true) w) := by
  have h0 : (s.toList == [98, 108, 101, 102, 116]) = false := by rw [hs]; rfl
  have h1 : (s.toList == [98, 114, 105, 103, 104, 116]) = false := by rw [hs]; rfl
  have h2 : (s.toList == [98, 97, 114, 105, 116, 104]) = false := by rw [hs]; rfl
  have h3 : (s.toList == [98, 110, 111, 116]) = true := by rw [hs]; rfl
  have h4 : (s.toList == [98, 97, 110, 100]) = false := by rw [hs]; rfl
  have h5 : (s.toList == [98, 111, 114]) = false := by rw [hs]; rfl
  have h6 : (s.toList == [98, 120, 111, 114]) = false := by rw [hs]; rfl
  have h7 : (s.toList == [98, 97, 100, 100]) = false := by rw [hs]; rfl
  have h8 : (s.toList == [98, 115, 117, 98]) = false := by rw [hs]; rfl
  have h9 : (s.toList == [98, 109, 117, 108]) = false := by rw [hs]; rfl
  clear hs
  go_enter Try.func45, Try.ntmps45
  go_wp2_with fail
  refine (not_any _ _).mono ?_
  rintro e w' ⟨rfl, hb⟩
  go_wp2
  go_ret2
  exact ⟨rfl, hb⟩
theorem operate_and (s : ByteArray) (x k : Int) (w : World) (hs : s.toList = [98, 97, 110, 100]) : Calls Try.prog 45 #[.string s, .int .i64 x, .int .i64 k] w (OneT (andZ x k, V k) w) := by
  have h0 : (s.toList == [98, 108, 101, 102, 116]) = false := by rw [hs]; rfl
  have h1 : (s.toList == [98, 114, 105, 103, 104, 116]) = false := by rw [hs]; rfl
  have h2 : (s.toList == [98, 97, 114, 105, 116, 104]) = false := by rw [hs]; rfl
  have h3 : (s.toList == [98, 110, 111, 116]) = false := by rw [hs]; rfl
  have h4 : (s.toList == [98, 97, 110, 100]) = true := by rw [hs]; rfl
  have h5 : (s.toList == [98, 111, 114]) = false := by rw [hs]; rfl
  have h6 : (s.toList == [98, 120, 111, 114]) = false := by rw [hs]; rfl
  have h7 : (s.toList == [98, 97, 100, 100]) = false := by rw [hs]; rfl
  have h8 : (s.toList == [98, 115, 117, 98]) = false := by rw [hs]; rfl
  have h9 : (s.toList == [98, 109, 117, 108]) = false := by rw [hs]; rfl
  clear hs
  cases hk : V k with
  | false =>
    have e : andZ x k = 0 := both_no hk
    rw [e]; clear e
    have HK := Lib.hid hk
    clear hk
    go_enter Try.func45, Try.ntmps45
    go_wp2_with fail
    refine (valid_any _ _).mono ?_
    rintro e w' ⟨rfl, rfl⟩
    rw [HK.out]
    go_wp2
    go_ret2
    exact ⟨rfl, Below.refl _ _⟩
  | true =>
    have HK := Lib.hid hk
    clear hk
    go_enter Try.func45, Try.ntmps45
    go_wp2_with fail
    refine (valid_any _ _).mono ?_
    rintro e w' ⟨rfl, rfl⟩
    rw [HK.out]
    go_wp2_with fail
    refine (and_any _ _ _).mono ?_
    rintro e w' ⟨rfl, hb⟩
    go_wp2
    go_ret2
    exact ⟨rfl, hb⟩
theorem operate_or (s : ByteArray) (x k : Int) (w : World) (hs : s.toList = [98, 111, 114]) : Calls Try.prog 45 #[.string s, .int .i64 x, .int .i64 k] w (OneT (orZ x k, V k) w) := by
  have h0 : (s.toList == [98, 108, 101, 102, 116]) = false := by rw [hs]; rfl
  have h1 : (s.toList == [98, 114, 105, 103, 104, 116]) = false := by rw [hs]; rfl
  have h2 : (s.toList == [98, 97, 114, 105, 116, 104]) = false := by rw [hs]; rfl
  have h3 : (s.toList == [98, 110, 111, 116]) = false := by rw [hs]; rfl
  have h4 : (s.toList == [98, 97, 110, 100]) = false := by rw [hs]; rfl
  have h5 : (s.toList == [98, 111, 114]) = true := by rw [hs]; rfl
  have h6 : (s.toList == [98, 120, 111, 114]) = false := by rw [hs]; rfl
  have h7 : (s.toList == [98, 97, 100, 100]) = false := by rw [hs]; rfl
  have h8 : (s.toList == [98, 115, 117, 98]) = false := by rw [hs]; rfl
  have h9 : (s.toList == [98, 109, 117, 108]) = false := by rw [hs]; rfl
  clear hs
  cases hk : V k with
  | false =>
    have e : orZ x k = 0 := both_no hk
    rw [e]; clear e
    have HK := Lib.hid hk
    clear hk
    go_enter Try.func45, Try.ntmps45
    go_wp2_with fail
    refine (valid_any _ _).mono ?_
    rintro e w' ⟨rfl, rfl⟩
    rw [HK.out]
    go_wp2
    go_ret2
    exact ⟨rfl, Below.refl _ _⟩
  | true =>
    have HK := Lib.hid hk
    clear hk
    go_enter Try.func45, Try.ntmps45
    go_wp2_with fail
    refine (valid_any _ _).mono ?_
    rintro e w' ⟨rfl, rfl⟩
    rw [HK.out]
    go_wp2_with fail
    refine (or_any _ _ _).mono ?_
    rintro e w' ⟨rfl, hb⟩
    go_wp2
    go_ret2
    exact ⟨rfl, hb⟩
theorem operate_xor (s : ByteArray) (x k : Int) (w : World) (hs : s.toList = [98, 120, 111, 114]) : Calls Try.prog 45 #[.string s, .int .i64 x, .int .i64 k] w (OneT (xorZ x k, V k) w) := by
  have h0 : (s.toList == [98, 108, 101, 102, 116]) = false := by rw [hs]; rfl
  have h1 : (s.toList == [98, 114, 105, 103, 104, 116]) = false := by rw [hs]; rfl
  have h2 : (s.toList == [98, 97, 114, 105, 116, 104]) = false := by rw [hs]; rfl
  have h3 : (s.toList == [98, 110, 111, 116]) = false := by rw [hs]; rfl
  have h4 : (s.toList == [98, 97, 110, 100]) = false := by rw [hs]; rfl
  have h5 : (s.toList == [98, 111, 114]) = false := by rw [hs]; rfl
  have h6 : (s.toList == [98, 120, 111, 114]) = true := by rw [hs]; rfl
  have h7 : (s.toList == [98, 97, 100, 100]) = false := by rw [hs]; rfl
  have h8 : (s.toList == [98, 115, 117, 98]) = false := by rw [hs]; rfl
  have h9 : (s.toList == [98, 109, 117, 108]) = false := by rw [hs]; rfl
  clear hs
  cases hk : V k with
  | false =>
    have e : xorZ x k = 0 := both_no hk
    rw [e]; clear e
    have HK := Lib.hid hk
    clear hk
    go_enter Try.func45, Try.ntmps45
    go_wp2_with fail
    refine (valid_any _ _).mono ?_
    rintro e w' ⟨rfl, rfl⟩
    rw [HK.out]
    go_wp2
    go_ret2
    exact ⟨rfl, Below.refl _ _⟩
  | true =>
    have HK := Lib.hid hk
    clear hk
    go_enter Try.func45, Try.ntmps45
    go_wp2_with fail
    refine (valid_any _ _).mono ?_
    rintro e w' ⟨rfl, rfl⟩
    rw [HK.out]
    go_wp2_with fail
    refine (xor_any _ _ _).mono ?_
    rintro e w' ⟨rfl, hb⟩
    go_wp2
    go_ret2
    exact ⟨rfl, hb⟩
theorem operate_add (s : ByteArray) (x k : Int) (w : World) (hs : s.toList = [98, 97, 100, 100]) : Calls Try.prog 45 #[.string s, .int .i64 x, .int .i64 k] w (OneT (addZ x k, V k) w) := by
  have h0 : (s.toList == [98, 108, 101, 102, 116]) = false := by rw [hs]; rfl
  have h1 : (s.toList == [98, 114, 105, 103, 104, 116]) = false := by rw [hs]; rfl
  have h2 : (s.toList == [98, 97, 114, 105, 116, 104]) = false := by rw [hs]; rfl
  have h3 : (s.toList == [98, 110, 111, 116]) = false := by rw [hs]; rfl
  have h4 : (s.toList == [98, 97, 110, 100]) = false := by rw [hs]; rfl
  have h5 : (s.toList == [98, 111, 114]) = false := by rw [hs]; rfl
  have h6 : (s.toList == [98, 120, 111, 114]) = false := by rw [hs]; rfl
  have h7 : (s.toList == [98, 97, 100, 100]) = true := by rw [hs]; rfl
  have h8 : (s.toList == [98, 115, 117, 98]) = false := by rw [hs]; rfl
  have h9 : (s.toList == [98, 109, 117, 108]) = false := by rw [hs]; rfl
  clear hs
  cases hk : V k with
  | false =>
    have e : addZ x k = 0 := both_no hk
    rw [e]; clear e
    have HK := Lib.hid hk
    clear hk
    go_enter Try.func45, Try.ntmps45
    go_wp2_with fail
    refine (valid_any _ _).mono ?_
    rintro e w' ⟨rfl, rfl⟩
    rw [HK.out]
    go_wp2
    go_ret2
    exact ⟨rfl, Below.refl _ _⟩
  | true =>
    have HK := Lib.hid hk
    clear hk
    go_enter Try.func45, Try.ntmps45
    go_wp2_with fail
    refine (valid_any _ _).mono ?_
    rintro e w' ⟨rfl, rfl⟩
    rw [HK.out]
    go_wp2_with fail
    refine (add_any _ _ _).mono ?_
    rintro e w' ⟨rfl, hb⟩
    go_wp2
    go_ret2
    exact ⟨rfl, hb⟩
theorem operate_sub (s : ByteArray) (x k : Int) (w : World) (hs : s.toList = [98, 115, 117, 98]) : Calls Try.prog 45 #[.string s, .int .i64 x, .int .i64 k] w (OneT (subZ x k, V k) w) := by
  have h0 : (s.toList == [98, 108, 101, 102, 116]) = false := by rw [hs]; rfl
  have h1 : (s.toList == [98, 114, 105, 103, 104, 116]) = false := by rw [hs]; rfl
  have h2 : (s.toList == [98, 97, 114, 105, 116, 104]) = false := by rw [hs]; rfl
  have h3 : (s.toList == [98, 110, 111, 116]) = false := by rw [hs]; rfl
  have h4 : (s.toList == [98, 97, 110, 100]) = false := by rw [hs]; rfl
  have h5 : (s.toList == [98, 111, 114]) = false := by rw [hs]; rfl
  have h6 : (s.toList == [98, 120, 111, 114]) = false := by rw [hs]; rfl
  have h7 : (s.toList == [98, 97, 100, 100]) = false := by rw [hs]; rfl
  have h8 : (s.toList == [98, 115, 117, 98]) = true := by rw [hs]; rfl
  have h9 : (s.toList == [98, 109, 117, 108]) = false := by rw [hs]; rfl
  clear hs
  cases hk : V k with
  | false =>
    have e : subZ x k = 0 := both_no hk
    rw [e]; clear e
    have HK := Lib.hid hk
    clear hk
    go_enter Try.func45, Try.ntmps45
    go_wp2_with fail
    refine (valid_any _ _).mono ?_
    rintro e w' ⟨rfl, rfl⟩
    rw [HK.out]
    go_wp2
    go_ret2
    exact ⟨rfl, Below.refl _ _⟩
  | true =>
    have HK := Lib.hid hk
    clear hk
    go_enter Try.func45, Try.ntmps45
    go_wp2_with fail
    refine (valid_any _ _).mono ?_
    rintro e w' ⟨rfl, rfl⟩
    rw [HK.out]
    go_wp2_with fail
    refine (sub_any _ _ _).mono ?_
    rintro e w' ⟨rfl, hb⟩
    go_wp2
    go_ret2
    exact ⟨rfl, hb⟩
theorem operate_mul (s : ByteArray) (x k : Int) (w : World) (hs : s.toList = [98, 109, 117, 108]) : Calls Try.prog 45 #[.string s, .int .i64 x, .int .i64 k] w (OneT (mulZ x k, V k) w) := by
  have h0 : (s.toList == [98, 108, 101, 102, 116]) = false := by rw [hs]; rfl
  have h1 : (s.toList == [98, 114, 105, 103, 104, 116]) = false := by rw [hs]; rfl
  have h2 : (s.toList == [98, 97, 114, 105, 116, 104]) = false := by rw [hs]; rfl
  have h3 : (s.toList == [98, 110, 111, 116]) = false := by rw [hs]; rfl
  have h4 : (s.toList == [98, 97, 110, 100]) = false := by rw [hs]; rfl
  have h5 : (s.toList == [98, 111, 114]) = false := by rw [hs]; rfl
  have h6 : (s.toList == [98, 120, 111, 114]) = false := by rw [hs]; rfl
  have h7 : (s.toList == [98, 97, 100, 100]) = false := by rw [hs]; rfl
  have h8 : (s.toList == [98, 115, 117, 98]) = false := by rw [hs]; rfl
  have h9 : (s.toList == [98, 109, 117, 108]) = true := by rw [hs]; rfl
  clear hs
  cases hk : V k with
  | false =>
    have e : mulZ x k = 0 := both_no hk
    rw [e]; clear e
    have HK := Lib.hid hk
    clear hk
    go_enter Try.func45, Try.ntmps45
    go_wp2_with fail
    refine (valid_any _ _).mono ?_
    rintro e w' ⟨rfl, rfl⟩
    rw [HK.out]
    go_wp2
    go_ret2
    exact ⟨rfl, Below.refl _ _⟩
  | true =>
    have HK := Lib.hid hk
    clear hk
    go_enter Try.func45, Try.ntmps45
    go_wp2_with fail
    refine (valid_any _ _).mono ?_
    rintro e w' ⟨rfl, rfl⟩
    rw [HK.out]
    go_wp2_with fail
    refine (mul_any _ _ _).mono ?_
    rintro e w' ⟨rfl, hb⟩
    go_wp2
    go_ret2
    exact ⟨rfl, hb⟩
theorem operate_none (s : ByteArray) (x k : Int) (w : World) (h0 : (s.toList == [98, 108, 101, 102, 116]) = false) (h1 : (s.toList == [98, 114, 105, 103, 104, 116]) = false) (h2 : (s.toList == [98, 97, 114, 105, 116, 104]) = false) (h3 : (s.toList == [98, 110, 111, 116]) = false) (h4 : (s.toList == [98, 97, 110, 100]) = false) (h5 : (s.toList == [98, 111, 114]) = false) (h6 : (s.toList == [98, 120, 111, 114]) = false) (h7 : (s.toList == [98, 97, 100, 100]) = false) (h8 : (s.toList == [98, 115, 117, 98]) = false) (h9 : (s.toList == [98, 109, 117, 108]) = false) : Calls Try.prog 45 #[.string s, .int .i64 x, .int .i64 k] w (OneT (0, false) w) := by
  cases hk : V k with
  | false =>
    have HK := Lib.hid hk
    clear hk
    go_enter Try.func45, Try.ntmps45
    go_wp2_with fail
    refine (valid_any _ _).mono ?_
    rintro e w' ⟨rfl, rfl⟩
    rw [HK.out]
    go_wp2
    go_ret2
    exact ⟨rfl, Below.refl _ _⟩
  | true =>
    have HK := Lib.hid hk
    clear hk
    go_enter Try.func45, Try.ntmps45
    go_wp2_with fail
    refine (valid_any _ _).mono ?_
    rintro e w' ⟨rfl, rfl⟩
    rw [HK.out]
    go_wp2
    go_ret2
    exact ⟨rfl, Below.refl _ _⟩
theorem operate_any (s : ByteArray) (x k : Int) (w : World) : Calls Try.prog 45 #[.string s, .int .i64 x, .int .i64 k] w (OneT (opZ s.toList x k) w) := by
  by_cases h0 : s.toList = [98, 108, 101, 102, 116]
  · have e : opZ s.toList x k = (leftZ x k, true) := by rw [h0]; rfl
    rw [e]; exact operate_left s x k w h0
  by_cases h1 : s.toList = [98, 114, 105, 103, 104, 116]
  · have e : opZ s.toList x k = (rightZ x k, true) := by rw [h1]; rfl
    rw [e]; exact operate_right s x k w h1
  by_cases h2 : s.toList = [98, 97, 114, 105, 116, 104]
  · have e : opZ s.toList x k = (arithZ x k, true) := by rw [h2]; rfl
    rw [e]; exact operate_arith s x k w h2
  by_cases h3 : s.toList = [98, 110, 111, 116]
  · have e : opZ s.toList x k = (notZ x, true) := by rw [h3]; rfl
    rw [e]; exact operate_not s x k w h3
  by_cases h4 : s.toList = [98, 97, 110, 100]
  · have e : opZ s.toList x k = (andZ x k, V k) := by rw [h4]; rfl
    rw [e]; exact operate_and s x k w h4
  by_cases h5 : s.toList = [98, 111, 114]
  · have e : opZ s.toList x k = (orZ x k, V k) := by rw [h5]; rfl
    rw [e]; exact operate_or s x k w h5
  by_cases h6 : s.toList = [98, 120, 111, 114]
  · have e : opZ s.toList x k = (xorZ x k, V k) := by rw [h6]; rfl
    rw [e]; exact operate_xor s x k w h6
  by_cases h7 : s.toList = [98, 97, 100, 100]
  · have e : opZ s.toList x k = (addZ x k, V k) := by rw [h7]; rfl
    rw [e]; exact operate_add s x k w h7
  by_cases h8 : s.toList = [98, 115, 117, 98]
  · have e : opZ s.toList x k = (subZ x k, V k) := by rw [h8]; rfl
    rw [e]; exact operate_sub s x k w h8
  by_cases h9 : s.toList = [98, 109, 117, 108]
  · have e : opZ s.toList x k = (mulZ x k, V k) := by rw [h9]; rfl
    rw [e]; exact operate_mul s x k w h9
  rw [opZ_none h0 h1 h2 h3 h4 h5 h6 h7 h8 h9]
  exact operate_none s x k w (beq_no h0) (beq_no h1) (beq_no h2) (beq_no h3) (beq_no h4) (beq_no h5) (beq_no h6) (beq_no h7) (beq_no h8) (beq_no h9)
end Go.Proofs.Ytakbmmmoalfedaa
