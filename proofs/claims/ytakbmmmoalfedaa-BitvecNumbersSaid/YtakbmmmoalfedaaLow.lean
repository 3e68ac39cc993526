/- Valid, low and the operations built on them. -/
import Derived.Test.YtakbmmmoalfedaaBase
import Derived.Test.YtakbmmmoalfedaaSpec
namespace Go.Proofs.Ytakbmmmoalfedaa
open Go.RowKit
set_option linter.unusedVariables false

theorem valid_any (n : Int) (w : World) : Calls Try.prog 10 #[.int .i64 n] w fun e w' => e = .returned (.bool (V n)) ∧ w = w' := by
  by_cases h1 : 0 ≤ n
  · have e : V n = decide (n ≤ 255) := by simp [V, h1]
    rw [e]
    go_enter Try.func10, Try.ntmps10
    go_wp2
    go_ret
    exact ⟨rfl, rfl⟩
  · have e : V n = false := by simp [V, h1]
    rw [e]
    go_enter Try.func10, Try.ntmps10
    go_wp2
    go_ret
    exact ⟨rfl, rfl⟩

theorem refValid_any (n : Int) (w : World) : Calls Try.prog 11 #[.int .i64 n] w fun e w' => e = .returned (.bool (V n)) ∧ w = w' := by
  by_cases h1 : 0 ≤ n
  · have e : V n = decide (n ≤ 255) := by simp [V, h1]
    rw [e]
    go_enter Try.func11, Try.ntmps11
    go_wp2
    go_ret
    exact ⟨rfl, rfl⟩
  · have e : V n = false := by simp [V, h1]
    rw [e]
    go_enter Try.func11, Try.ntmps11
    go_wp2
    go_ret
    exact ⟨rfl, rfl⟩

theorem take_snoc (xs : List Int) (k : Nat) (x : Int) (hk : k < xs.length) (hx : xs.getD k 0 = x) : xs.take (k + 1) = xs.take k ++ [x] := by
  rw [List.take_succ_eq_append_getElem hk]
  simp [List.getD, hk] at hx
  rw [hx]
theorem all_take_succ (p : Int → Bool) (xs : List Int) (k : Nat) (x : Int) (hk : k < xs.length) (hx : xs.getD k 0 = x) (h : (xs.take k).all p = true) : (xs.take (k + 1)).all p = p x := by
  rw [take_snoc xs k x hk hx, List.all_append, h]; simp
theorem all_at_false (p : Int → Bool) (xs : List Int) (k : Nat) (x : Int) (hk : k < xs.length) (hx : xs.getD k 0 = x) (h : p x = false) : xs.all p = false := by
  rw [List.all_eq_false]
  refine ⟨x, ?_, by simp [h]⟩
  simp [List.getD, hk] at hx
  rw [← hx]; exact List.getElem_mem _

def lowZ (n : Int) (xs : List Int) : Int := if xs.all V then n % 256 else 0

set_option maxHeartbeats 400000 in
theorem low_any (n : Int) (a : Option Addr) (l c : Nat) (xs : List Int) (w : World) (hA : Sl w a l c xs) (hl : l ≤ 1000) :
    Calls Try.prog 40 #[.int .i64 n, .slice a l c] w fun e w' => e = .returned (.int .i64 (lowZ n xs)) ∧ w = w' := by
  obtain ⟨b1, o1, ha0, hac⟩ := hA.cell
  have hxl := Lib.hid hA.hlen
  have hbl := Lib.hid (bits_low n)
  clear hA
  go_enter Try.func40, Try.ntmps40
  go_wp2
  go_loop [9] (fun i => ∃ k : Nat, k ≤ l ∧ i = .int .i64 k ∧ (xs.take k).all V = true) (fun i => l - (intOf i).toNat)
  case atStart => exact ⟨0, by omega, rfl, rfl⟩
  case round =>
    obtain ⟨k, hk, rfl, hall⟩ := hrel
    by_cases hlt : k < l
    · obtain ⟨rfl, hb1⟩ := ha0 (by omega)
      have c1 := hac k hlt
      generalize hx : xs.getD k 0 = x at c1
      have hs := Lib.hid (all_take_succ V xs k x (by rw [hxl.out]; exact hlt) hx hall)
      have hf := Lib.hid (all_at_false V xs k x (by rw [hxl.out]; exact hlt) hx)
      clear hx hac ha0 hall
      go_wp2_with fail
      refine (valid_any _ _).mono ?_
      rintro e w2 ⟨rfl, rfl⟩
      cases hp : V x with
      | true =>
        have HP := Lib.hid hp
        clear hp
        go_wp2
        go_round
        case rel => exact ⟨k + 1, by omega, by go_num, by rw [hs.out, HP.out]⟩
        case measure => simp [intOf]; omega
      | false =>
        have HP := Lib.hid (hf.out hp)
        clear hp
        go_wp2
        go_ret
        exact ⟨by unfold lowZ; rw [HP.out]; rfl, rfl⟩
    · have hk' : k = l := by omega
      have HK := Lib.hid hk'
      have HA := Lib.hid hall
      clear hk' hall
      go_wp2
      go_ret
      have h2 := HA.out
      rw [HK.out, List.take_of_length_le (by rw [hxl.out]; exact Nat.le_refl _)] at h2
      exact ⟨by unfold lowZ; rw [h2, if_pos rfl, ← hbl.out]; rfl, rfl⟩

theorem sl2 (w : World) (a b : Int) : Sl (w.alloc (.cells #[.int .i64 a, .int .i64 b] 3)) (some ⟨w.heap.size, 0, none⟩) 2 2 [a, b] := by
  refine ⟨rfl, Nat.le_refl _, by unfold maxLen; omega, fun _ => ⟨w.heap.size, 0, rfl, by simp, fun j hj => ?_⟩⟩
  rw [World.cell?_alloc_at _ _ _ _ rfl]
  match j, hj with
  | 0, _ => rfl
  | 1, _ => rfl
theorem sl1 (w : World) (a : Int) : Sl (w.alloc (.cells #[.int .i64 a] 3)) (some ⟨w.heap.size, 0, none⟩) 1 1 [a] := by
  refine ⟨rfl, Nat.le_refl _, by unfold maxLen; omega, fun _ => ⟨w.heap.size, 0, rfl, by simp, fun j hj => ?_⟩⟩
  rw [World.cell?_alloc_at _ _ _ _ rfl]
  match j, hj with
  | 0, _ => rfl
theorem sl0 (w : World) : Sl w none 0 0 [] := ⟨rfl, Nat.le_refl _, by unfold maxLen; omega, fun h => by omega⟩

theorem low2 (n a b : Int) (w : World) : Calls Try.prog 40 #[.int .i64 n, .slice (some ⟨w.heap.size, 0, none⟩) 2 2] (w.alloc (.cells #[.int .i64 a, .int .i64 b] 3)) fun e w' =>
    e = .returned (.int .i64 (both a b (n % 256))) ∧ Below w.heap.size w w' := by
  refine (low_any n _ 2 2 [a, b] _ (sl2 w a b) (by omega)).mono ?_
  rintro e w' ⟨rfl, rfl⟩
  refine ⟨?_, (Below.refl _ _).alloc (Nat.le_refl _) _⟩
  unfold lowZ both
  simp
def one (a v : Int) : Int := if V a then v else 0
theorem low1 (n a : Int) (w : World) : Calls Try.prog 40 #[.int .i64 n, .slice (some ⟨w.heap.size, 0, none⟩) 1 1] (w.alloc (.cells #[.int .i64 a] 3)) fun e w' =>
    e = .returned (.int .i64 (one a (n % 256))) ∧ Below w.heap.size w w' := by
  refine (low_any n _ 1 1 [a] _ (sl1 w a) (by omega)).mono ?_
  rintro e w' ⟨rfl, rfl⟩
  refine ⟨?_, (Below.refl _ _).alloc (Nat.le_refl _) _⟩
  unfold lowZ one
  simp
theorem low0 (n : Int) (w : World) : Calls Try.prog 40 #[.int .i64 n, .slice none 0 0] w fun e w' => e = .returned (.int .i64 (n % 256)) ∧ w = w' := by
  refine (low_any n _ 0 0 [] _ (sl0 w) (by omega)).mono ?_
  rintro e w' ⟨rfl, rfl⟩
  exact ⟨rfl, rfl⟩

/-- What a call that hands back one number comes to. -/
def OneI (n : Int) (w : World) (e : Ending) (w' : World) : Prop := e = .returned (.int .i64 n) ∧ Below w.heap.size w w'
theorem oneI {n n' : Int} {w w' : World} (h : n' = n) (hb : Below w.heap.size w w') : OneI n w (.returned (.int .i64 n')) w' := by subst h; exact ⟨rfl, hb⟩

theorem both_congr {a b v u : Int} (h : V a = true → V b = true → v = u) : both a b v = both a b u := by
  unfold both
  by_cases hc : (V a && V b) = true
  · rw [if_pos hc, if_pos hc]
    simp only [Bool.and_eq_true] at hc
    exact h hc.1 hc.2
  · rw [if_neg hc, if_neg hc]

theorem land_lt (f : Nat → Nat → Nat) (a b : Int) (hf : ∀ x y : Nat, x < 2 ^ 8 → y < 2 ^ 8 → f x y < 2 ^ 8) (ha : V a = true) (hb : V b = true) : ((f a.toNat b.toNat : Nat) : Int) % 256 = (f a.toNat b.toNat : Nat) := by
  have h1 := V_true ha
  have h2 := V_true hb
  have := hf a.toNat b.toNat (by omega) (by omega)
  omega

theorem and_any (a b : Int) (w : World) : Calls Try.prog 12 #[.int .i64 a, .int .i64 b] w (OneI (andZ a b) w) := by
  go_enter Try.func12, Try.ntmps12
  go_wp2_with fail
  refine (low2 _ a b w).mono ?_
  rintro e w' ⟨rfl, hb⟩
  go_wp2
  go_ret
  refine oneI (both_congr fun h1 h2 => ?_) hb
  rw [(bits_i64 a b (V_true h1) (V_true h2)).1]
  exact land_lt _ a b (fun x y h _ => Nat.and_lt_two_pow _ (by assumption)) h1 h2
theorem or_any (a b : Int) (w : World) : Calls Try.prog 14 #[.int .i64 a, .int .i64 b] w (OneI (orZ a b) w) := by
  go_enter Try.func14, Try.ntmps14
  go_wp2_with fail
  refine (low2 _ a b w).mono ?_
  rintro e w' ⟨rfl, hb⟩
  go_wp2
  go_ret
  refine oneI (both_congr fun h1 h2 => ?_) hb
  rw [(bits_i64 a b (V_true h1) (V_true h2)).2.1]
  exact land_lt _ a b (fun x y h h' => Nat.or_lt_two_pow h h') h1 h2
theorem xor_any (a b : Int) (w : World) : Calls Try.prog 16 #[.int .i64 a, .int .i64 b] w (OneI (xorZ a b) w) := by
  go_enter Try.func16, Try.ntmps16
  go_wp2_with fail
  refine (low2 _ a b w).mono ?_
  rintro e w' ⟨rfl, hb⟩
  go_wp2
  go_ret
  refine oneI (both_congr fun h1 h2 => ?_) hb
  rw [(bits_i64 a b (V_true h1) (V_true h2)).2.2]
  exact land_lt _ a b (fun x y h h' => Nat.xor_lt_two_pow h h') h1 h2
theorem not_any (a : Int) (w : World) : Calls Try.prog 18 #[.int .i64 a] w (OneI (notZ a) w) := by
  go_enter Try.func18, Try.ntmps18
  go_wp2_with fail
  refine (low1 _ a w).mono ?_
  rintro e w' ⟨rfl, hb⟩
  go_wp2
  go_ret
  refine oneI ?_ hb
  unfold notZ one
  cases h : V a with
  | true => rw [if_pos rfl, if_pos rfl]; exact bits_not a (V_true h)
  | false => rfl
theorem wrap_small (n : Int) (h : -1000000000 ≤ n ∧ n ≤ 1000000000) : wrap64 n = n := IntWalk.wrap64_in n (by omega)
theorem add_any (a b : Int) (w : World) : Calls Try.prog 21 #[.int .i64 a, .int .i64 b] w (OneI (addZ a b) w) := by
  go_enter Try.func21, Try.ntmps21
  go_wp2_with fail
  refine (low2 _ a b w).mono ?_
  rintro e w' ⟨rfl, hb⟩
  go_wp2
  go_ret
  refine oneI (both_congr fun h1 h2 => ?_) hb
  have h1 := V_true h1
  have h2 := V_true h2
  rw [wrap_small _ (by omega)]
theorem sub_any (a b : Int) (w : World) : Calls Try.prog 23 #[.int .i64 a, .int .i64 b] w (OneI (subZ a b) w) := by
  go_enter Try.func23, Try.ntmps23
  go_wp2_with fail
  refine (low2 _ a b w).mono ?_
  rintro e w' ⟨rfl, hb⟩
  go_wp2
  go_ret
  refine oneI (both_congr fun h1 h2 => ?_) hb
  have h1 := V_true h1
  have h2 := V_true h2
  rw [wrap_small _ (by omega)]
theorem mul_bd (x n : Int) (h1 : 0 ≤ x ∧ x ≤ 255) (h2 : 0 ≤ n ∧ n ≤ 255) : 0 ≤ x * n ∧ x * n ≤ 65025 := by
  have h3 : (x * n).natAbs ≤ 255 * 255 := by rw [Int.natAbs_mul]; exact Nat.mul_le_mul (by omega) (by omega)
  have h4 : 0 ≤ x * n := Int.mul_nonneg h1.1 h2.1
  omega
theorem mul_any (a b : Int) (w : World) : Calls Try.prog 25 #[.int .i64 a, .int .i64 b] w (OneI (mulZ a b) w) := by
  go_enter Try.func25, Try.ntmps25
  go_wp2_with fail
  refine (low2 _ a b w).mono ?_
  rintro e w' ⟨rfl, hb⟩
  go_wp2
  go_ret
  refine oneI (both_congr fun h1 h2 => ?_) hb
  have := mul_bd a b (V_true h1) (V_true h2)
  rw [wrap_small _ (by omega)]

theorem distance_any (n : Int) (w : World) : Calls Try.prog 42 #[.int .i64 n] w fun e w' => e = .returned (.int .i64 (distZ n)) ∧ w = w' := by
  by_cases h0 : n < 0
  · have e : distZ n = 0 := by simp [distZ, h0]
    rw [e]
    clear e
    go_enter Try.func42, Try.ntmps42
    go_wp2
    go_ret
    exact ⟨rfl, rfl⟩
  · obtain ⟨m, rfl⟩ := Int.eq_ofNat_of_zero_le (show 0 ≤ n by omega)
    by_cases h8 : 8 < m
    · have e : distZ m = 8 := by unfold distZ; rw [if_neg h0, if_pos (by omega)]
      rw [e]
      clear e
      go_enter Try.func42, Try.ntmps42
      go_wp2
      go_ret
      exact ⟨rfl, rfl⟩
    · have e : distZ m = m := by unfold distZ; rw [if_neg h0, if_neg (by omega)]; simp
      rw [e]
      clear e
      go_enter Try.func42, Try.ntmps42
      go_wp2
      go_ret
      exact ⟨rfl, rfl⟩
end Go.Proofs.Ytakbmmmoalfedaa
