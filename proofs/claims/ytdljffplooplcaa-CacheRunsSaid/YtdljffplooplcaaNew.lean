/- New and Clear. -/
import Derived.Test.YtdljffplooplcaaNo
import Derived.Test.YtdljffplooplcaaMaps
import Derived.Carry
namespace Go.Proofs.Ytdljffplooplcaa
open Go.RowKit
set_option linter.unusedVariables false

/-- Of the blocks that were there, none but those with D has turned. -/
structure Near (D : Nat → Prop) (w w' : World) : Prop where
  os : w'.os = w.os
  tape : w'.tape = w.tape
  output : w'.output = w.output
  size : w.heap.size ≤ w'.heap.size
  block : ∀ k, k < w.heap.size → ¬ D k → w'.heap[k]? = w.heap[k]?
theorem Only.near {D : Nat → Prop} {w w' : World} (h : Only D w w') : Near D w w' := ⟨h.os, h.tape, h.output, Nat.le_of_eq h.size.symm, fun k _ hk => h.block k hk⟩
theorem Below.near {D : Nat → Prop} {w w' : World} (h : Below w.heap.size w w') : Near D w w' := ⟨h.os, h.tape, h.output, h.size, fun k hk _ => h.block k hk⟩
theorem Near.refl (D : Nat → Prop) (w : World) : Near D w w := ⟨rfl, rfl, rfl, Nat.le_refl _, fun _ _ _ => rfl⟩
theorem Near.trans {D : Nat → Prop} {w w1 w2 : World} (h : Near D w w1) (h2 : Near D w1 w2) : Near D w w2 :=
  ⟨h2.os.trans h.os, h2.tape.trans h.tape, h2.output.trans h.output, Nat.le_trans h.size h2.size, fun k hk hd => (h2.block k (Nat.lt_of_lt_of_le hk h.size) hd).trans (h.block k hk hd)⟩
theorem Near.wide {D E : Nat → Prop} {w w1 : World} (h : Near D w w1) (he : ∀ k, k < w.heap.size → D k → E k) : Near E w w1 :=
  ⟨h.os, h.tape, h.output, h.size, fun k hk hd => h.block k hk fun d => hd (he k hk d)⟩
theorem Near.below {D : Nat → Prop} {w w1 : World} (h : Near D w w1) (hd : ∀ k, D k → w.heap.size ≤ k) : Below w.heap.size w w1 :=
  ⟨h.os, h.tape, h.output, h.size, fun k hk => h.block k hk fun d => by have := hd k d; omega⟩

theorem clear_yes {c : Nat} {cap : Int} {xm : Option Nat} {x4 x5 x6 : Value} {hd tl : Option Nat} {w : World} (hc : CacheAt w c (.int .i64 cap) (.map xm) hd tl x4 x5 x6) (h0 : 0 < cap) :
    Calls Try.prog 19 #[.pointer (some ⟨c, 0, none⟩)] w fun e w' => e = .returned (.tuple #[]) ∧ CacheAt w' c (.int .i64 cap) (.map (some w.heap.size)) none none x4 x5 x6 ∧ Mp.MapAt w' w.heap.size Value.string [] ∧ Near (fun k => k = c) w w' := by
  have HM := Lib.hid (made_yes hc h0)
  obtain ⟨ah, hah⟩ := ptr_form hd
  obtain ⟨at', hat⟩ := ptr_form tl
  have hlt : c < w.heap.size := (Array.getElem?_eq_some_iff.1 hc).1
  have c1 : w.cell? ⟨c, 1, none⟩ = some (.map xm) := (cell_of_row w c 1 _ _ _ hc).trans rfl
  have c2 : w.cell? ⟨c, 2, none⟩ = some (.pointer ah) := (cell_of_row w c 2 _ _ _ hc).trans (by rw [← hah]; rfl)
  have c3 : w.cell? ⟨c, 3, none⟩ = some (.pointer at') := (cell_of_row w c 3 _ _ _ hc).trans (by rw [← hat]; rfl)
  have f1 := frozen_of_row w c 1 _ _ hc
  have f2 := frozen_of_row w c 2 _ _ hc
  have f3 := frozen_of_row w c 3 _ _ hc
  have HC := Lib.hid hc
  have hmm := @run_makeMap Try.prog
  clear hc hah hat
  go_enter Try.func19, Try.ntmps19
  go_wp2_with fail
  refine HM.out.mono ?_
  rintro e w' ⟨rfl, rfl⟩
  go_wp2
  go_end0
  have hsz : (((w.setCell ⟨c, 1, none⟩ (.map (some w.heap.size))).setCell ⟨c, 2, none⟩ (.pointer none)).setCell ⟨c, 3, none⟩ (.pointer none)).heap.size = w.heap.size := by rw [heap_setCell_size, heap_setCell_size, heap_setCell_size]
  have hrow := setCell_row 3 (.pointer none) (setCell_row 2 (.pointer none) (setCell_row 1 (.map (some w.heap.size)) HC.out))
  have honly : Only (fun k => k = c) w (((w.setCell ⟨c, 1, none⟩ (.map (some w.heap.size))).setCell ⟨c, 2, none⟩ (.pointer none)).setCell ⟨c, 3, none⟩ (.pointer none)) := (((Only.refl (fun k => k = c) w).setCell (b := c) rfl _ _).setCell (b := c) rfl _ _).setCell (b := c) rfl _ _
  generalize ((w.setCell ⟨c, 1, none⟩ (.map (some w.heap.size))).setCell ⟨c, 2, none⟩ (.pointer none)).setCell ⟨c, 3, none⟩ (.pointer none) = W at *
  refine ⟨rfl, (Below.heap_alloc _ _ _ (by omega)).trans hrow, ?_, honly.near.trans (Below.near ((Below.refl _ _).alloc (Nat.le_refl _) _))⟩
  have := Mp.MapAt.made W Value.string
  rw [hsz] at this
  exact this

/-- What New hands back for a capacity in its bounds: a cache with an empty list. -/
def NewPost (cap : Int) (w : World) (e : Ending) (w' : World) : Prop :=
  ∃ c mb, e = .returned (.tuple #[.pointer (some ⟨c, 0, none⟩), .int .i64 0]) ∧ w.heap.size ≤ c ∧ c < mb ∧ mb < w'.heap.size ∧ CacheAt w' c (.int .i64 cap) (.map (some mb)) none none (.int .i64 0) (.int .i64 0) (.int .i64 0) ∧ Mp.MapAt w' mb Value.string [] ∧ Below w.heap.size w w'
theorem new_yes (cap : Int) (h1 : 1 ≤ cap) (h2 : cap ≤ 4096) (w : World) : Calls Try.prog 10 #[.int .i64 cap] w (NewPost cap w) := by
  have hc : CacheAt (w.alloc (.cells #[.int .i64 cap, .map none, .pointer none, .pointer none, .int .i64 0, .int .i64 0, .int .i64 0] 60)) w.heap.size (.int .i64 cap) (.map none) none none (.int .i64 0) (.int .i64 0) (.int .i64 0) := heap_alloc_new _ _
  have HC := Lib.hid (clear_yes hc (by omega))
  clear hc
  go_enter Try.func10, Try.ntmps10
  go_wp2_with fail
  refine HC.out.mono ?_
  rintro e w1 ⟨rfl, r1, r2, r3⟩
  go_wp2
  go_ret2
  have hs := r2.lt
  simp at r1 r2 hs
  refine ⟨w.heap.size, w.heap.size + 1, rfl, Nat.le_refl _, by omega, hs, r1, r2, ?_⟩
  have hb : Below w.heap.size (w.alloc (.cells #[.int .i64 cap, .map none, .pointer none, .pointer none, .int .i64 0, .int .i64 0, .int .i64 0] 60)) w1 :=
    ⟨r3.os, r3.tape, r3.output, r3.size, fun k hk => r3.block k (by simp; omega) (by omega)⟩
  exact ((Below.refl _ _).alloc (Nat.le_refl _) _).trans hb
theorem new_no (cap : Int) (h : cap < 1 ∨ 4096 < cap) (w : World) : Calls Try.prog 10 #[.int .i64 cap] w fun e w' => e = .returned (.tuple #[.pointer none, .int .i64 1]) ∧ w = w' := by
  rcases h with h | h
  · go_enter Try.func10, Try.ntmps10
    go_wp2
    go_ret2
    exact ⟨rfl, rfl⟩
  · have h2 : ¬ cap < 1 := by omega
    go_enter Try.func10, Try.ntmps10
    go_wp2
    go_ret2
    exact ⟨rfl, rfl⟩
end Go.Proofs.Ytdljffplooplcaa
