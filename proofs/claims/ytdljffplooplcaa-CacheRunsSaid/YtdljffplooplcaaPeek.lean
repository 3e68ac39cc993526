/- Peek. -/
import Derived.Test.YtdljffplooplcaaStore
import Derived.Handy
namespace Go.Proofs.Ytdljffplooplcaa
open Go.RowKit
set_option linter.unusedVariables false

theorem look55 {w : World} {mb : Nat} {mm : List (ByteArray × Value)} (h : Mp.MapAt w mb Value.string mm) (k : ByteArray) :
    (Instr.lookup 55 (.map (some mb)) (.string k) true).run Try.prog w = .ok (.tuple #[(Mp.get k mm).getD (.pointer none), .bool (Mp.get k mm).isSome]) w := by
  have hz : (zeroValue 56).run Try.prog w = .ok (.pointer none) w := by kernel_rfl
  have := Mp.run_lookup (Mp.KeyLaw.string Try.underlying9) Try.underlying55 hz h k true
  simpa using this

theorem peek_none {w : World} {c mb : Nat} {cap h m r : Int} {val : Nat → Ent} {ns : List Nat} {mm : List (ByteArray × Value)} {tm : Nat → T} {P : Nat → Prop}
    (s : StoreAt w c mb cap h m r val ns mm tm P) (k : ByteArray) (hk : ns.find? (fun n => decide ((val n).key = k)) = none) :
    Calls Try.prog 17 #[.pointer (some ⟨c, 0, none⟩), .string k] w fun e w' => e = .returned (.tuple #[.agg #[.int .i64 0, .slice none 0 0], .bool false]) ∧ Below w.heap.size w w' := by
  have hs : ∀ o, StoreAt (w.alloc o) c mb cap h m r val ns mm tm P := fun o => s.below ((Below.refl _ _).alloc (Nat.le_refl _) o)
  have s1 := hs (.cells #[.int .i64 0, .slice none 0 0] 36)
  have HM := Lib.hid (made_yes s1.ring.cache (by have := s.pos; omega))
  have hl := look55 s1.map k
  rw [s.get k, hk] at hl
  have c1 : (w.alloc (.cells #[.int .i64 0, .slice none 0 0] 36)).cell? ⟨c, 1, none⟩ = some (.map (some mb)) := (cell_of_row _ c 1 _ _ _ s1.ring.cache).trans rfl
  simp only [Option.map_none, Option.getD_none, Option.isSome_none] at hl
  clear hs s1 s
  go_enter Try.func17, Try.ntmps17
  go_wp2_with fail
  refine HM.out.mono ?_
  rintro e w' ⟨rfl, rfl⟩
  go_wp2
  go_returns
  exact ⟨rfl, (Below.refl _ _).alloc (Nat.le_refl _) _⟩

theorem Seg.at {w : World} {val : Nat → Ent} : ∀ {p : Option Nat} {xs : List Nat} {nx : Option Nat}, Seg w val p xs nx → ∀ b, b ∈ xs → ∃ q s, NodeAt w b (val b).key (val b).rule (val b).args q s
  | _, [], _, _, b, hb => by simp at hb
  | p, x :: xs, nx, h, b, hb => by
    rcases List.mem_cons.1 hb with rfl | hb
    · exact ⟨_, _, h.1⟩
    · exact Seg.at h.2 b hb

/-- A term that is a copy, and a flag. -/
def GivesT (t : T) (w : World) (e : Ending) (w' : World) : Prop :=
  ∃ v', e = .returned (.tuple #[.agg #[.int .i64 t.rule, v'], .bool true]) ∧ ArgsAt w' (Span w.heap.size w'.heap.size) v' t.args ∧ Below w.heap.size w w' ∧ Thaw w.heap.size v' w'

theorem peek_some {w : World} {c mb : Nat} {cap h m r : Int} {val : Nat → Ent} {ns : List Nat} {mm : List (ByteArray × Value)} {tm : Nat → T} {P : Nat → Prop}
    (s : StoreAt w c mb cap h m r val ns mm tm P) (k : ByteArray) (n : Nat) (hk : ns.find? (fun n => decide ((val n).key = k)) = some n) :
    Calls Try.prog 17 #[.pointer (some ⟨c, 0, none⟩), .string k] w (GivesT (tm n) w) := by
  have hn : n ∈ ns := List.mem_of_find?_eq_some hk
  have hs : ∀ o, StoreAt (w.alloc o) c mb cap h m r val ns mm tm P := fun o => s.below ((Below.refl _ _).alloc (Nat.le_refl _) o)
  have s1 := hs (.cells #[.int .i64 0, .slice none 0 0] 36)
  have HM := Lib.hid (made_yes s1.ring.cache (by have := s.pos; omega))
  have hl := look55 s1.map k
  rw [s.get k, hk] at hl
  have c1 : (w.alloc (.cells #[.int .i64 0, .slice none 0 0] 36)).cell? ⟨c, 1, none⟩ = some (.map (some mb)) := (cell_of_row _ c 1 _ _ _ s1.ring.cache).trans rfl
  obtain ⟨q, z, hnode⟩ := s1.ring.seg.at n hn
  have n1 : (w.alloc (.cells #[.int .i64 0, .slice none 0 0] 36)).cell? ⟨n, 1, none⟩ = some (.int .i64 (tm n).rule) := (cell_of_row _ n 1 _ _ _ hnode).trans (by rw [← s.rule n hn]; rfl)
  have n2 : (w.alloc (.cells #[.int .i64 0, .slice none 0 0] 36)).cell? ⟨n, 2, none⟩ = some (val n).args := (cell_of_row _ n 2 _ _ _ hnode).trans rfl
  have HCP := Lib.hid (copied_anyF _ (tm n) (val n).args P _ (Nat.le_refl _) (s.small n hn) (fun k hk => (s1.own k hk).1) (s1.args n hn))
  simp only [Option.map_some, Option.getD_some, Option.isSome_some, ptr] at hl
  have hrow : (w.alloc (.cells #[.int .i64 0, .slice none 0 0] 36)).heap[w.heap.size]? = some (.cells #[.int .i64 0, .slice none 0 0] 36 (0, 0)) := heap_alloc_new _ _
  have HROW := Lib.hid hrow
  have hsz : (w.alloc (.cells #[.int .i64 0, .slice none 0 0] 36)).heap.size = w.heap.size + 1 := by simp
  have HSZ := Lib.hid hsz
  have hbw : Below w.heap.size w (w.alloc (.cells #[.int .i64 0, .slice none 0 0] 36)) := (Below.refl _ _).alloc (Nat.le_refl _) _
  have HBW := Lib.hid hbw
  unfold GivesT
  clear hs s1 s hnode hrow hsz hbw hk hn
  go_enter Try.func17, Try.ntmps17
  go_wp2_with fail
  refine HM.out.mono ?_
  rintro e w' ⟨rfl, rfl⟩
  generalize w.alloc (.cells #[.int .i64 0, .slice none 0 0] 36) = w1 at *
  go_wp2_with fail
  refine HCP.out.mono ?_
  rintro e w2 ⟨v', rfl, ha, hb, hth⟩
  obtain ⟨a3, l3, q3, rfl⟩ := ha.slice
  have hr2 := (hb.block w.heap.size (by rw [HSZ.out]; omega)).trans HROW.out
  have r0 : w2.cell? ⟨w.heap.size, 0, none⟩ = some (.int .i64 0) := (cell_of_row _ _ 0 _ _ _ hr2).trans rfl
  have r1 : w2.cell? ⟨w.heap.size, 1, none⟩ = some (.slice none 0 0) := (cell_of_row _ _ 1 _ _ _ hr2).trans rfl
  have f0 := frozen_of_row w2 w.heap.size 0 _ _ hr2
  have f1 := frozen_of_row w2 w.heap.size 1 _ _ hr2
  have HR2 := Lib.hid hr2
  have HA := Lib.hid ha
  have HB := Lib.hid hb
  have HTH := Lib.hid hth
  clear hth ha hb hr2 n1 n2 c1 hl
  go_wp2
  have g0 : (w2.setCell ⟨w.heap.size, 0, none⟩ (.int .i64 (tm n).rule)).cell? ⟨w.heap.size, 0, none⟩ = some (.int .i64 (tm n).rule) := World.cell?_setCell_same _ _ _ r0
  have g1 : ((w2.setCell ⟨w.heap.size, 0, none⟩ (.int .i64 (tm n).rule)).setCell ⟨w.heap.size, 1, none⟩ (.slice a3 l3 q3)).cell? ⟨w.heap.size, 1, none⟩ = some (.slice a3 l3 q3) :=
    World.cell?_setCell_same _ _ _ ((World.cell?_setCell_other _ _ _ _ (by simp)).trans r1)
  refine bodyPost_ret (v := .tuple #[.agg #[.int .i64 (tm n).rule, .slice a3 l3 q3], .bool true]) (by simp [results, Try.results17, go_sem, g0, g1]; try rfl) rfl ?_
  refine ⟨.slice a3 l3 q3, rfl, ?_, ?_, HTH.out.block (by rw [HSZ.out]; omega) fun b hb1 hb2 => ?_⟩
  · have hk2 : Kept (Span w1.heap.size w2.heap.size) w2 ((w2.setCell ⟨w.heap.size, 0, none⟩ (.int .i64 (tm n).rule)).setCell ⟨w.heap.size, 1, none⟩ (.slice a3 l3 q3)) := fun x hx => by
      have := hx.1
      rw [HSZ.out] at this
      rw [Below.heap_setCell _ _ _ _ (by show x ≠ w.heap.size; omega), Below.heap_setCell _ _ _ _ (by show x ≠ w.heap.size; omega)]
    refine (HA.out.kept hk2).wide fun x hx => ⟨by have := hx.1; rw [HSZ.out] at this; omega, ?_⟩
    rw [heap_setCell_size, heap_setCell_size]
    exact hx.2
  · exact ((Below.next HBW.out HB.out).setCell (by show w.heap.size ≤ w.heap.size; omega) _).setCell (by show w.heap.size ≤ w.heap.size; omega) _
  · rw [HSZ.out] at hb1
    rw [Below.heap_setCell _ _ _ _ (by show b ≠ w.heap.size; omega), Below.heap_setCell _ _ _ _ (by show b ≠ w.heap.size; omega)]
end Go.Proofs.Ytdljffplooplcaa
