/- Sum, Running and their references. -/
import Derived.Test.YtecjnenjjedceaaPerm
namespace Go.Proofs.Ytecjnenjjedceaa
open Go.RowKit
set_option linter.unusedVariables false

def sumOf (xs : List Int) : Int := if xs.all permB && permB xs.sum then xs.sum else 0
def sumErr (xs : List Int) : Int := if xs.all permB && permB xs.sum then 0 else 1

theorem sum_bd {xs : List Int} {m : Nat} (h : xs.all permB = true) (hl : xs.length ≤ m) : -1000000 * (m : Int) ≤ xs.sum ∧ xs.sum ≤ 1000000 * (m : Int) := by
  have key : -1000000 * (xs.length : Int) ≤ xs.sum ∧ xs.sum ≤ 1000000 * (xs.length : Int) := by
    clear hl
    induction xs with
    | nil => simp
    | cons x xs ih =>
      simp only [List.all_cons, Bool.and_eq_true] at h
      have := ih h.2
      have := permB_true h.1
      simp only [List.sum_cons, List.length_cons]; omega
  omega

theorem sum_take_succ (xs : List Int) (k : Nat) (x : Int) (hk : k < xs.length) (hx : xs.getD k 0 = x) : (xs.take (k + 1)).sum = (xs.take k).sum + x := by
  rw [take_snoc xs k x hk hx, List.sum_append]; simp

theorem ret2_int {a b c d : Int} (h1 : a = b) (h2 : c = d) : Ending.returned (.tuple #[.int .i64 a, .int .i64 c]) = .returned (.tuple #[.int .i64 b, .int .i64 d]) := by rw [h1, h2]

set_option maxHeartbeats 400000 in
theorem sum_any (a : Option Addr) (l c : Nat) (xs : List Int) (w : World) (hA : Sl w a l c xs) (hl : l ≤ 1000) :
    Calls Try.prog 30 #[.slice a l c] w fun e w' => e = .returned (.tuple #[.int .i64 (sumOf xs), .int .i64 (sumErr xs)]) ∧ w = w' := by
  obtain ⟨b1, o1, ha0, hac⟩ := hA.cell
  have hxl := Lib.hid hA.hlen
  clear hA
  go_enter Try.func30, Try.ntmps30
  go_wp2
  go_loop [4, 9] (fun s i => ∃ k : Nat, k ≤ l ∧ i = .int .i64 k ∧ (xs.take k).all permB = true ∧ s = .int .i64 (xs.take k).sum) (fun _ i => l - (intOf i).toNat)
  case atStart => exact ⟨0, by omega, rfl, rfl, rfl⟩
  case round =>
    obtain ⟨k, hk, rfl, hall, rfl⟩ := hrel
    have hbd := sum_bd (m := 1000) hall (by have := List.length_take_le k xs; omega)
    by_cases hlt : k < l
    · obtain ⟨rfl, hb1⟩ := ha0 (by omega)
      have c1 := hac k hlt
      generalize hx : xs.getD k 0 = x at c1
      have hs := Lib.hid (all_take_succ permB xs k x (by rw [hxl.out]; exact hlt) hx hall)
      have hf := Lib.hid (all_at_false permB xs k x (by rw [hxl.out]; exact hlt) hx)
      have hsum := Lib.hid (sum_take_succ xs k x (by rw [hxl.out]; exact hlt) hx)
      generalize hq : (xs.take k).sum = q at hbd hsum
      clear hx hac ha0 hall hq
      go_wp2_with fail
      refine (permitted_any _ _).mono ?_
      rintro e w2 ⟨rfl, rfl⟩
      cases hp : permB x with
      | true =>
        have HP := Lib.hid hp
        have := permB_true hp
        clear hp
        go_wp2
        go_round
        case rel => exact ⟨k + 1, by omega, by go_num, by rw [hs.out, HP.out], by rw [hsum.out]⟩
        case measure => simp [intOf]; omega
      | false =>
        have HP := Lib.hid (hf.out hp)
        clear hp
        go_wp2
        go_ret2
        exact ⟨ret2_int (by unfold sumOf; rw [HP.out]; rfl) (by unfold sumErr; rw [HP.out]; rfl), rfl⟩
    · have hk' : k = l := by omega
      rw [hk', List.take_of_length_le (by rw [hxl.out]; exact Nat.le_refl _)] at hall hbd ⊢
      have HA := Lib.hid hall
      clear hall hac ha0
      go_wp2_with fail
      refine (permitted_any _ _).mono ?_
      rintro e w2 ⟨rfl, rfl⟩
      cases hp : permB xs.sum with
      | true =>
        have HP := Lib.hid hp
        clear hp
        go_wp2
        go_ret2
        exact ⟨ret2_int (by unfold sumOf; rw [HA.out, HP.out]; rfl) (by unfold sumErr; rw [HA.out, HP.out]; rfl), rfl⟩
      | false =>
        have HP := Lib.hid hp
        clear hp
        go_wp2
        go_ret2
        exact ⟨ret2_int (by unfold sumOf; rw [HA.out, HP.out]; rfl) (by unfold sumErr; rw [HA.out, HP.out]; rfl), rfl⟩

set_option maxHeartbeats 400000 in
theorem refSum_any (a : Option Addr) (l c : Nat) (xs : List Int) (w : World) (hA : Sl w a l c xs) (hl : l ≤ 1000) :
    Calls Try.prog 31 #[.slice a l c] w fun e w' => e = .returned (.tuple #[.int .i64 (sumOf xs), .int .i64 (sumErr xs)]) ∧ w = w' := by
  have hcall := Lib.hid (refAll_any a l c xs w hA hl)
  obtain ⟨b1, o1, ha0, hac⟩ := hA.cell
  have hxl := Lib.hid hA.hlen
  clear hA
  go_enter Try.func31, Try.ntmps31
  go_wp2_with fail
  refine hcall.out.mono ?_
  rintro e w' ⟨rfl, rfl⟩
  cases hall : xs.all permB with
  | false =>
    have e1 : errAll xs = 1 := by unfold errAll; rw [hall]; rfl
    rw [e1]
    have HA := Lib.hid hall
    clear hall e1 hac
    go_wp2
    go_ret2
    exact ⟨ret2_int (by unfold sumOf; rw [HA.out]; rfl) (by unfold sumErr; rw [HA.out]; rfl), rfl⟩
  | true =>
    have e1 : errAll xs = 0 := by unfold errAll; rw [hall]; rfl
    rw [e1]
    have HA := Lib.hid hall
    clear hall e1 hcall
    go_wp2
    go_loop [5, 6] (fun s i => ∃ k : Nat, k ≤ l ∧ i = .int .i64 k ∧ s = .int .i64 (xs.take k).sum) (fun _ i => l - (intOf i).toNat)
    case atStart => exact ⟨0, by omega, rfl, rfl⟩
    case round =>
      obtain ⟨k, hk, rfl, rfl⟩ := hrel
      have hbd := sum_bd (xs := xs.take k) (m := 1000) (List.all_eq_true.2 fun x hx => List.all_eq_true.1 HA.out x (List.mem_of_mem_take hx)) (by have := List.length_take_le k xs; omega)
      by_cases hlt : k < l
      · obtain ⟨rfl, hb1⟩ := ha0 (by omega)
        have c1 := hac k hlt
        generalize hx : xs.getD k 0 = x at c1
        have hxp : permB x = true := by
          cases hq : permB x with
          | true => rfl
          | false => have := all_at_false permB xs k x (by rw [hxl.out]; exact hlt) hx hq; rw [HA.out] at this; cases this
        have hsum := Lib.hid (sum_take_succ xs k x (by rw [hxl.out]; exact hlt) hx)
        generalize hq : (xs.take k).sum = q at hbd hsum
        have := permB_true hxp
        clear hx hac ha0 hq hxp
        go_wp2
        go_round
        case rel => exact ⟨k + 1, by omega, by go_num, by rw [hsum.out]⟩
        case measure => simp [intOf]; omega
      · have hk' : k = l := by omega
        rw [hk', List.take_of_length_le (by rw [hxl.out]; exact Nat.le_refl _)] at hbd ⊢
        clear hac ha0
        go_wp2_with fail
        refine (refPermitted_any _ _).mono ?_
        rintro e w2 ⟨rfl, rfl⟩
        cases hp : permB xs.sum with
        | true =>
          have HP := Lib.hid hp
          clear hp
          go_wp2
          go_ret2
          exact ⟨ret2_int (by unfold sumOf; rw [HA.out, HP.out]; rfl) (by unfold sumErr; rw [HA.out, HP.out]; rfl), rfl⟩
        | false =>
          have HP := Lib.hid hp
          clear hp
          go_wp2
          go_ret2
          exact ⟨ret2_int (by unfold sumOf; rw [HA.out, HP.out]; rfl) (by unfold sumErr; rw [HA.out, HP.out]; rfl), rfl⟩
end Go.Proofs.Ytecjnenjjedceaa
