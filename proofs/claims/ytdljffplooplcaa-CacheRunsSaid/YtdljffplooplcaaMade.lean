/- made, Stats, last; and a cache that New did not return. -/
import Derived.Test.YtdljffplooplcaaFront
namespace Go.Proofs.Ytdljffplooplcaa
open Go.RowKit
set_option linter.unusedVariables false

theorem made_yes {c : Nat} {cap : Int} {x1 x4 x5 x6 : Value} {hd tl : Option Nat} {w : World} (hc : CacheAt w c (.int .i64 cap) x1 hd tl x4 x5 x6) (h0 : 0 < cap) :
    Calls Try.prog 26 #[.pointer (some ⟨c, 0, none⟩)] w fun e w' => e = .returned (.bool true) ∧ w = w' := by
  have c0 : w.cell? ⟨c, 0, none⟩ = some (.int .i64 cap) := (cell_of_row w c 0 _ _ _ hc).trans rfl
  have hd : decide (0 < cap) = true := by simpa using h0
  clear hc
  go_enter Try.func26, Try.ntmps26
  go_wp2
  go_ret
  exact ⟨rfl, rfl⟩
theorem made_zero {c : Nat} {x1 x4 x5 x6 : Value} {hd tl : Option Nat} {w : World} (hc : CacheAt w c (.int .i64 0) x1 hd tl x4 x5 x6) :
    Calls Try.prog 26 #[.pointer (some ⟨c, 0, none⟩)] w fun e w' => e = .returned (.bool false) ∧ w = w' := by
  have c0 : w.cell? ⟨c, 0, none⟩ = some (.int .i64 0) := (cell_of_row w c 0 _ _ _ hc).trans rfl
  clear hc
  go_enter Try.func26, Try.ntmps26
  go_wp2
  go_ret
  exact ⟨rfl, rfl⟩
theorem made_nil (w : World) : Calls Try.prog 26 #[.pointer none] w fun e w' => e = .returned (.bool false) ∧ w = w' := by
  go_enter Try.func26, Try.ntmps26
  go_wp2
  go_ret
  exact ⟨rfl, rfl⟩
theorem last_any {c : Nat} {x0 x1 x4 x5 x6 : Value} {val : Nat → Ent} {ns : List Nat} {w : World} (h : Ring w c x0 x1 x4 x5 x6 val ns) :
    Calls Try.prog 29 #[.pointer (some ⟨c, 2, none⟩)] w fun e w' => e = .returned (ptr (lastO none ns)) ∧ w = w' := by
  have c3 : w.cell? ⟨c, 3, none⟩ = some (ptr (lastO none ns)) := (cell_of_row w c 3 _ _ _ h.cache).trans rfl
  obtain ⟨a, ha⟩ := ptr_form (lastO none ns)
  rw [ha] at c3 ⊢
  clear h ha
  go_enter Try.func29, Try.ntmps29
  go_wp2
  go_ret
  exact ⟨rfl, rfl⟩
theorem stats_yes {c : Nat} {cap h m r : Int} {x1 : Value} {hd tl : Option Nat} {w : World} (hc : CacheAt w c (.int .i64 cap) x1 hd tl (.int .i64 h) (.int .i64 m) (.int .i64 r)) (h0 : 0 < cap) :
    Calls Try.prog 23 #[.pointer (some ⟨c, 0, none⟩)] w fun e w' => e = .returned (.tuple #[.int .i64 h, .int .i64 m, .int .i64 r]) ∧ Below w.heap.size w w' := by
  have HM := Lib.hid (made_yes hc h0)
  have c4 : w.cell? ⟨c, 4, none⟩ = some (.int .i64 h) := (cell_of_row w c 4 _ _ _ hc).trans rfl
  have c5 : w.cell? ⟨c, 5, none⟩ = some (.int .i64 m) := (cell_of_row w c 5 _ _ _ hc).trans rfl
  have c6 : w.cell? ⟨c, 6, none⟩ = some (.int .i64 r) := (cell_of_row w c 6 _ _ _ hc).trans rfl
  clear hc
  go_enter Try.func23, Try.ntmps23
  go_wp2_with fail
  refine HM.out.mono ?_
  rintro e w' ⟨rfl, rfl⟩
  go_wp2
  go_quiet (fail)
  go_wp2
  go_ret3
  exact ⟨rfl, below_drewN (Below.refl _ _) _⟩
theorem stats_no {v : Value} {w : World} (hm : Calls Try.prog 26 #[v] w fun e w' => e = .returned (.bool false) ∧ w = w') :
    Calls Try.prog 23 #[v] w fun e w' => e = .returned (.tuple #[.int .i64 0, .int .i64 0, .int .i64 0]) ∧ w = w' := by
  have HM := Lib.hid hm
  clear hm
  go_enter Try.func23, Try.ntmps23
  go_wp2_with fail
  refine HM.out.mono ?_
  rintro e w' ⟨rfl, rfl⟩
  go_wp2
  go_ret3
  exact ⟨rfl, rfl⟩
theorem clear_no {v : Value} {w : World} (hm : Calls Try.prog 26 #[v] w fun e w' => e = .returned (.bool false) ∧ w = w') :
    Calls Try.prog 19 #[v] w fun e w' => e = .returned (.tuple #[]) ∧ w = w' := by
  have HM := Lib.hid hm
  clear hm
  go_enter Try.func19, Try.ntmps19
  go_wp2_with fail
  refine HM.out.mono ?_
  rintro e w' ⟨rfl, rfl⟩
  go_wp2
  refine bodyPost_ret (results_none rfl _ _ _) rfl ?_
  exact ⟨rfl, rfl⟩
end Go.Proofs.Ytdljffplooplcaa
