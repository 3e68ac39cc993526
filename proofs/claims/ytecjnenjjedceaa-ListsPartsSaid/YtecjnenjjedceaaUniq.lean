/- ref Count, ref Unique. -/
import Derived.Test.YtecjnenjjedceaaSort
namespace Go.Proofs.Ytecjnenjjedceaa
open Go.RowKit
set_option linter.unusedVariables false

def cnt (xs : List Int) (n : Int) : Nat := (xs.filter fun x => x == n).length

theorem cnt_le (xs : List Int) (n : Int) : cnt xs n ≤ xs.length := List.length_filter_le _ _
theorem cnt_snoc (xs : List Int) (n x : Int) : cnt (xs ++ [x]) n = cnt xs n + if x == n then 1 else 0 := by
  unfold cnt
  rw [List.filter_append, List.length_append]
  by_cases h : (x == n) = true <;> simp [h]
theorem cnt_zero (xs : List Int) (n : Int) : cnt xs n = 0 ↔ n ∉ xs := by
  unfold cnt
  rw [List.length_eq_zero_iff, List.filter_eq_nil_iff]
  constructor
  · intro h hm; have := h n hm; simp at this
  · intro h x hx hxn; exact h (by rw [← show x = n by simpa using hxn]; exact hx)

set_option maxHeartbeats 400000 in
theorem refCount_any (a : Option Addr) (l c : Nat) (xs : List Int) (n : Int) (w : World) (hA : Sl w a l c xs) (hl : l ≤ 1000) :
    Calls Try.prog 29 #[.slice a l c, .int .i64 n] w fun e w' => e = .returned (.int .i64 (cnt xs n)) ∧ w = w' := by
  obtain ⟨b1, o1, ha0, hac⟩ := hA.cell
  have hxl := Lib.hid hA.hlen
  clear hA
  go_enter Try.func29, Try.ntmps29
  go_wp2
  go_loop [5, 6] (fun s i => ∃ k : Nat, k ≤ l ∧ i = .int .i64 k ∧ s = .int .i64 (cnt (xs.take k) n)) (fun _ i => l - (intOf i).toNat)
  case atStart => exact ⟨0, by omega, rfl, rfl⟩
  case round =>
    obtain ⟨k, hk, rfl, rfl⟩ := hrel
    by_cases hlt : k < l
    · obtain ⟨rfl, hb1⟩ := ha0 (by omega)
      have c1 := hac k hlt
      generalize hx : xs.getD k 0 = x at c1
      have hs := Lib.hid (take_snoc xs k x (by rw [hxl.out]; exact hlt) hx)
      have hc := Lib.hid (cnt_snoc (xs.take k) n x)
      have hcl : cnt (xs.take k) n ≤ 1000 := by have := cnt_le (xs.take k) n; have := List.length_take_le k xs; omega
      generalize hq : cnt (xs.take k) n = q at hc hcl
      clear hx hac ha0 hq
      cases hp : (x == n) with
      | true =>
        have HP := Lib.hid hp
        go_wp2
        go_round
        case rel => exact ⟨k + 1, by omega, by go_num, by rw [hs.out, hc.out, HP.out]; rfl⟩
        case measure => simp [intOf]; omega
      | false =>
        have HP := Lib.hid hp
        go_wp2
        go_round
        case rel => exact ⟨k + 1, by omega, by go_num, by rw [hs.out, hc.out, HP.out]; rfl⟩
        case measure => simp [intOf]; omega
    · have hk' : k = l := by omega
      rw [hk', List.take_of_length_le (by rw [hxl.out]; exact Nat.le_refl _)]
      clear hac ha0
      go_wp2
      go_ret
      exact ⟨rfl, rfl⟩

/-- each number once, in the order of the first occurrences -/
def uniqL (xs : List Int) : List Int := (pickS seenF [] xs).1

theorem uniq_state_gen (xs : List Int) : ∀ s, (pickS seenF s xs).2 = s ++ (pickS seenF s xs).1 := by
  induction xs with
  | nil => intro s; simp [pickS]
  | cons x xs ih =>
    intro s
    simp only [pickS, ih, seenF]
    by_cases h : x ∈ s
    · simp [h]
    · simp [h]
theorem uniq_state (xs : List Int) : (pickS seenF [] xs).2 = (pickS seenF [] xs).1 := by rw [uniq_state_gen]; rfl

theorem uniq_snoc (xs : List Int) (x : Int) : uniqL (xs ++ [x]) = if x ∈ uniqL xs then uniqL xs else uniqL xs ++ [x] := by
  unfold uniqL
  rw [pickS_snoc, uniq_state]
  simp only [seenF]
  by_cases h : x ∈ (pickS seenF [] xs).1 <;> simp [h]

theorem uniq_len (xs : List Int) : (uniqL xs).length ≤ xs.length := pickS_len _ _ _

set_option maxHeartbeats 800000 in
theorem refUnique_any (a : Option Addr) (l c : Nat) (xs : List Int) (w : World) (hA : Sl w a l c xs) (hl : l ≤ 1000) :
    Calls Try.prog 27 #[.slice a l c] w (Gives (uniqL xs) w) := by
  obtain ⟨b1, o1, ha0, hac⟩ := hA.cell
  have hxl := Lib.hid hA.hlen
  clear hA
  go_enter Try.func27, Try.ntmps27
  go_wp2
  go_loopw [3, 4] (fun v i wr => ∃ k : Nat, i = .int .i64 k ∧ RefRel (uniqL (xs.take k)) w k l v wr) (fun _ i _ => l - (intOf i).toNat)
  case atStart => exact ⟨0, rfl, by omega, Own.nil _ _, Below.refl _ _⟩
  case round =>
    obtain ⟨k, rfl, hk, hown, hbel⟩ := hrel
    by_cases hlt : k < l
    · obtain ⟨rfl, hb1⟩ := ha0 (by omega)
      have c1 : wr.cell? ⟨b1, o1 + k, none⟩ = some (.int .i64 (xs.getD k 0)) := (hbel.cell hb1).trans (hac k hlt)
      generalize hx : xs.getD k 0 = x at c1
      have hst := Lib.hid (take_snoc xs k x (by rw [hxl.out]; exact hlt) hx)
      have hus := Lib.hid (uniq_snoc (xs.take k) x)
      have hpl : (uniqL (xs.take k)).length ≤ 1000 := by
        have := uniq_len (xs.take k)
        have := List.length_take_le k xs
        omega
      generalize uniqL (xs.take k) = U at hown hus hpl
      have hs := hbel.size
      obtain ⟨au, cu, rfl, hsu⟩ := hown.sl
      have hn : ∀ k, (Value.slice au U.length cu).ownBlock = some k → w.heap.size ≤ k := fun k hk => (hown.lt k hk).1
      have HSU := Lib.hid hsu
      clear hx hac ha0 hsu
      go_wp2_with fail
      refine (refCount_any _ _ _ U x wr HSU.out hpl).mono ?_
      rintro e w2 ⟨rfl, rfl⟩
      by_cases hm : x ∈ U
      · have hz : ((cnt U x : Int) == 0) = false := by
          have : cnt U x ≠ 0 := fun e => (cnt_zero U x).1 e hm
          simp; omega
        have HM := Lib.hid hm
        clear hm
        go_wp2
        go_roundw
        case rel => exact ⟨k + 1, by go_num, by omega, by rw [hst.out, hus.out, if_pos HM.out]; exact hown, hbel⟩
        case measure => simp [intOf]; omega
      · have hz : cnt U x = 0 := (cnt_zero U x).2 hm
        rw [hz]
        have HM := Lib.hid hm
        clear hm hz
        go_wp2_with (at_builtin; refine wpList_push rfl (.tmp 18) (.tmp 23) rfl w.heap.size _ _ _ rfl hown rfl (by omega) hs ?_; intro v' w3 hown3 hg3)
        go_roundw
        case rel => exact ⟨k + 1, by go_num, by omega, by rw [hst.out, hus.out, if_neg HM.out]; exact hown3, hbel.grown hg3 hs hn⟩
        case measure => simp [intOf]; omega
    · have hk' := Lib.hid (show k = l by omega)
      go_wp2
      go_ret
      rw [hk'.out, List.take_of_length_le (by rw [hxl.out]; exact Nat.le_refl _)] at hown
      exact ⟨_, rfl, hown, hbel⟩
end Go.Proofs.Ytecjnenjjedceaa
