/- A cache that New did not return: Put, Get, Peek, Keys. -/
import Derived.Test.YtdljffplooplcaaMade
import Derived.Handy
namespace Go.Proofs.Ytdljffplooplcaa
open Go.RowKit
set_option linter.unusedVariables false

/-- v leads to a cache that is not made, now and behind whatever is laid anew -/
def NotMade (v : Value) (w : World) : Prop := ∀ w', Below w.heap.size w w' → Calls Try.prog 26 #[v] w' fun e w2 => e = .returned (.bool false) ∧ w' = w2
theorem NotMade.nil (w : World) : NotMade (.pointer none) w := fun w' _ => made_nil w'
theorem NotMade.next {v : Value} {w w1 : World} (h : NotMade v w) (hb : Below w.heap.size w w1) : NotMade v w1 := fun w' hb' => h w' (Below.next hb hb')
theorem NotMade.zero {c : Nat} {x1 x4 x5 x6 : Value} {hd tl : Option Nat} {w : World} (hc : CacheAt w c (.int .i64 0) x1 hd tl x4 x5 x6) : NotMade (.pointer (some ⟨c, 0, none⟩)) w := fun w' hb => by
  have hlt : c < w.heap.size := (Array.getElem?_eq_some_iff.1 hc).1
  exact made_zero (w := w') ((hb.block c hlt).trans hc)

theorem keys_no {v : Value} {w : World} (hm : NotMade v w) : Calls Try.prog 22 #[v] w fun e w' => e = .returned (.slice none 0 0) ∧ Below w.heap.size w w' := by
  have HM := Lib.hid hm
  clear hm
  go_enter Try.func22, Try.ntmps22
  go_wp2_with fail
  refine (HM.out _ (Below.refl _ _)).mono ?_
  rintro e w' ⟨rfl, rfl⟩
  go_wp2

  go_ret
  exact ⟨rfl, Below.refl _ _⟩
theorem put_no {v : Value} {k : ByteArray} {t : Value} {r : Int} {w : World} (hm : NotMade v w) : Calls Try.prog 12 #[v, .string k, .agg #[.int .i64 r, t]] w fun e w' => e = .returned (.int .i64 17) ∧ Below w.heap.size w w' := by
  have HM := Lib.hid hm
  clear hm
  go_enter Try.func12, Try.ntmps12
  go_wp2_with fail
  refine (HM.out _ ((Below.refl _ _).alloc (Nat.le_refl _) _)).mono ?_
  rintro e w' ⟨rfl, rfl⟩
  go_wp2
  go_ret
  exact ⟨rfl, (Below.refl _ _).alloc (Nat.le_refl _) _⟩
theorem peek_no {v : Value} {k : ByteArray} {w : World} (hm : NotMade v w) : Calls Try.prog 17 #[v, .string k] w fun e w' => e = .returned (.tuple #[.agg #[.int .i64 0, .slice none 0 0], .bool false]) ∧ Below w.heap.size w w' := by
  have HM := Lib.hid hm
  clear hm
  go_enter Try.func17, Try.ntmps17
  go_wp2_with fail
  refine (HM.out _ ((Below.refl _ _).alloc (Nat.le_refl _) _)).mono ?_
  rintro e w' ⟨rfl, rfl⟩
  go_wp2

  go_returns
  exact ⟨rfl, (Below.refl _ _).alloc (Nat.le_refl _) _⟩
theorem get_no {v : Value} {k : ByteArray} {w : World} (hm : NotMade v w) : Calls Try.prog 14 #[v, .string k] w fun e w' => e = .returned (.tuple #[.agg #[.int .i64 0, .slice none 0 0], .bool false]) ∧ Below w.heap.size w w' := by
  have HM := Lib.hid hm
  clear hm
  go_enter Try.func14, Try.ntmps14
  go_wp2_with fail
  refine (HM.out _ ((Below.refl _ _).alloc (Nat.le_refl _) _)).mono ?_
  rintro e w' ⟨rfl, rfl⟩
  go_wp2

  go_returns
  exact ⟨rfl, (Below.refl _ _).alloc (Nat.le_refl _) _⟩
end Go.Proofs.Ytdljffplooplcaa
