/- permitted, allowed, Sum, Running and their references. -/
import Derived.Test.YtecjnenjjedceaaCopied
import Derived.Test.YtecjnenjjedceaaRefSel
namespace Go.Proofs.Ytecjnenjjedceaa
open Go.RowKit
set_option linter.unusedVariables false

/-- from -1000000 to 1000000 -/
def permB (n : Int) : Bool := decide (-1000000 ≤ n ∧ n ≤ 1000000)
theorem permB_true {n : Int} (h : permB n = true) : -1000000 ≤ n ∧ n ≤ 1000000 := by simpa [permB] using h

theorem permitted_any (n : Int) (w : World) : Calls Try.prog 58 #[.int .i64 n] w fun e w' => e = .returned (.bool (permB n)) ∧ w = w' := by
  by_cases h1 : -1000000 ≤ n
  · have e : permB n = decide (n ≤ 1000000) := by simp [permB, h1]
    rw [e]
    go_enter Try.func58, Try.ntmps58
    go_wp2
    go_ret
    exact ⟨rfl, rfl⟩
  · have e : permB n = false := by simp [permB, h1]
    rw [e]
    go_enter Try.func58, Try.ntmps58
    go_wp2
    go_ret
    exact ⟨rfl, rfl⟩

theorem refPermitted_any (n : Int) (w : World) : Calls Try.prog 60 #[.int .i64 n] w fun e w' => e = .returned (.bool (permB n)) ∧ w = w' := by
  by_cases h1 : -1000000 ≤ n
  · have e : permB n = decide (n ≤ 1000000) := by simp [permB, h1]
    rw [e]
    go_enter Try.func60, Try.ntmps60
    go_wp2
    go_ret
    exact ⟨rfl, rfl⟩
  · have e : permB n = false := by simp [permB, h1]
    rw [e]
    go_enter Try.func60, Try.ntmps60
    go_wp2
    go_ret
    exact ⟨rfl, rfl⟩

theorem all_take_succ (p : Int → Bool) (xs : List Int) (k : Nat) (x : Int) (hk : k < xs.length) (hx : xs.getD k 0 = x) (h : (xs.take k).all p = true) : (xs.take (k + 1)).all p = p x := by
  rw [take_snoc xs k x hk hx, List.all_append, h]; simp
theorem all_at_false (p : Int → Bool) (xs : List Int) (k : Nat) (x : Int) (hk : k < xs.length) (hx : xs.getD k 0 = x) (h : p x = false) : xs.all p = false := by
  rw [List.all_eq_false]
  refine ⟨x, ?_, by simp [h]⟩
  simp [List.getD, hk] at hx
  rw [← hx]; exact List.getElem_mem _

set_option maxHeartbeats 400000 in
theorem allowed_any (a : Option Addr) (l c : Nat) (xs : List Int) (w : World) (hA : Sl w a l c xs) (hl : l ≤ 1000) :
    Calls Try.prog 64 #[.slice a l c] w fun e w' => e = .returned (.bool (xs.all permB)) ∧ w = w' := by
  obtain ⟨b1, o1, ha0, hac⟩ := hA.cell
  have hxl := Lib.hid hA.hlen
  clear hA
  go_enter Try.func64, Try.ntmps64
  go_wp2
  go_loop [7] (fun i => ∃ k : Nat, k ≤ l ∧ i = .int .i64 k ∧ (xs.take k).all permB = true) (fun i => l - (intOf i).toNat)
  case atStart => exact ⟨0, by omega, rfl, rfl⟩
  case round =>
    obtain ⟨k, hk, rfl, hall⟩ := hrel
    by_cases hlt : k < l
    · obtain ⟨rfl, hb1⟩ := ha0 (by omega)
      have c1 := hac k hlt
      generalize hx : xs.getD k 0 = x at c1
      have hs := Lib.hid (all_take_succ permB xs k x (by rw [hxl.out]; exact hlt) hx hall)
      have hf := Lib.hid (all_at_false permB xs k x (by rw [hxl.out]; exact hlt) hx)
      clear hx hac ha0 hall
      go_wp2_with fail
      refine (permitted_any _ _).mono ?_
      rintro e w2 ⟨rfl, rfl⟩
      cases hp : permB x with
      | true =>
        have HP := Lib.hid hp
        clear hp
        go_wp2
        go_round
        case rel => exact ⟨k + 1, by omega, by go_num, by rw [hs.out, HP.out]⟩
        case measure => simp [intOf]; omega
      | false =>
        have HP := Lib.hid (hf.out hp)
        clear hp
        go_wp2
        go_ret
        exact ⟨by rw [HP.out]; rfl, rfl⟩
    · have hk' : k = l := by omega
      have HK := Lib.hid hk'
      have HA := Lib.hid hall
      clear hk' hall
      go_wp2
      go_ret
      have h2 := HA.out
      rw [HK.out, List.take_of_length_le (by rw [hxl.out]; exact Nat.le_refl _)] at h2
      exact ⟨by rw [h2]; rfl, rfl⟩

def errAll (xs : List Int) : Int := if xs.all permB then 0 else 1

set_option maxHeartbeats 400000 in
theorem refAll_any (a : Option Addr) (l c : Nat) (xs : List Int) (w : World) (hA : Sl w a l c xs) (hl : l ≤ 1000) :
    Calls Try.prog 59 #[.slice a l c] w fun e w' => e = .returned (.int .i64 (errAll xs)) ∧ w = w' := by
  obtain ⟨b1, o1, ha0, hac⟩ := hA.cell
  have hxl := Lib.hid hA.hlen
  clear hA
  go_enter Try.func59, Try.ntmps59
  go_wp2
  go_loop [3] (fun i => ∃ k : Nat, k ≤ l ∧ i = .int .i64 k ∧ (xs.take k).all permB = true) (fun i => l - (intOf i).toNat)
  case atStart => exact ⟨0, by omega, rfl, rfl⟩
  case round =>
    obtain ⟨k, hk, rfl, hall⟩ := hrel
    by_cases hlt : k < l
    · obtain ⟨rfl, hb1⟩ := ha0 (by omega)
      have c1 := hac k hlt
      generalize hx : xs.getD k 0 = x at c1
      have hs := Lib.hid (all_take_succ permB xs k x (by rw [hxl.out]; exact hlt) hx hall)
      have hf := Lib.hid (all_at_false permB xs k x (by rw [hxl.out]; exact hlt) hx)
      clear hx hac ha0 hall
      go_wp2_with fail
      refine (refPermitted_any _ _).mono ?_
      rintro e w2 ⟨rfl, rfl⟩
      cases hp : permB x with
      | true =>
        have HP := Lib.hid hp
        clear hp
        go_wp2
        go_round
        case rel => exact ⟨k + 1, by omega, by go_num, by rw [hs.out, HP.out]⟩
        case measure => simp [intOf]; omega
      | false =>
        have HP := Lib.hid (hf.out hp)
        clear hp
        go_wp2
        go_ret
        exact ⟨by unfold errAll; rw [HP.out]; rfl, rfl⟩
    · have hk' : k = l := by omega
      have HK := Lib.hid hk'
      have HA := Lib.hid hall
      clear hk' hall
      go_wp2
      go_ret
      have h2 := HA.out
      rw [HK.out, List.take_of_length_le (by rw [hxl.out]; exact Nat.le_refl _)] at h2
      exact ⟨by unfold errAll; rw [h2]; rfl, rfl⟩
end Go.Proofs.Ytecjnenjjedceaa
