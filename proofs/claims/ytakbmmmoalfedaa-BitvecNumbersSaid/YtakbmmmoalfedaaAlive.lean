/- alive. -/
import Derived.Test.YtakbmmmoalfedaaText
import Derived.Test.YtakbmmmoalfedaaSolve
import Derived.Test.YtakbmmmoalfedaaInts
namespace Go.Proofs.Ytakbmmmoalfedaa
open Go.RowKit
set_option linter.unusedVariables false

def OneB (b : Bool) (w : World) (e : Ending) (w' : World) : Prop := e = .returned (.bool b) ∧ Below w.heap.size w w'
theorem al1 : addZ 200 100 = 44 := by decide
theorem al2 : subZ 0 1 = 255 := by decide
theorem al3 : arithZ 128 1 = 192 := by decide
theorem al4 : arithZ 128 9 = 255 := by decide
theorem al5 : solA (solves (ByteArray.mk #[98, 109, 117, 108]).toList 4 2) = [2, 130] := by
  rw [ByteArray.toList_eq]; unfold solA; kernel_rfl
theorem al6 : textZ 5 = ⟨#[48, 48, 48, 48, 48, 49, 48, 49]⟩ := by decide

theorem alive_any (w : World) : Calls Try.prog 20 #[] w (OneB true w) := by
  go_enter Try.func20, Try.ntmps20
  go_wp2_with fail
  refine (add_any _ _ _).mono ?_
  rintro e w1 ⟨rfl, hb1⟩
  rw [al1]
  go_wp2_with fail
  refine (sub_any _ _ _).mono ?_
  rintro e w2 ⟨rfl, hb2⟩
  rw [al2]
  go_wp2_with fail
  refine (arith_any _ _ _).mono ?_
  rintro e w3 ⟨rfl, hb3⟩
  rw [al3]
  go_wp2_with fail
  refine (arith_any _ _ _).mono ?_
  rintro e w4 ⟨rfl, hb4⟩
  rw [al4]
  go_wp2_with fail
  refine (solve_any _ _ _ _).mono ?_
  rintro e w5 ⟨v, rfl, hown, hb5⟩
  rw [al5] at hown
  obtain ⟨a, cap, rfl, hsl⟩ := hown.sl
  have hsl2 : ∀ o, Sl (w5.alloc o) a 2 cap [2, 130] := fun o => hsl.below ((Below.refl _ _).alloc (Nat.le_refl _) o)
  have HS := Lib.hid hsl2
  clear hsl2 hsl hown
  go_wp2_with fail
  refine (same_any _ _ _ _ _ _ _ _ _ (HS.out _) (sl2 w5 2 130)).mono ?_
  rintro e w6 ⟨rfl, hb6⟩
  rw [show decide (([2, 130] : List Int) = [2, 130]) = true from rfl]
  go_wp2_with fail
  refine (text_any _ _).mono ?_
  rintro e w7 ⟨rfl, hb7⟩
  rw [al6]
  go_wp2
  go_ret
  exact ⟨rfl, Below.next (Below.next (Below.next (Below.next (Below.next (Below.next hb1 hb2) hb3) hb4) hb5) (((Below.refl _ w5).alloc (Nat.le_refl _) _).trans (hb6.mono (by simp)))) hb7⟩
end Go.Proofs.Ytakbmmmoalfedaa
