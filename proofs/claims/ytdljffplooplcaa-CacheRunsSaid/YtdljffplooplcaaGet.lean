/- Get. -/
import Derived.Test.YtdljffplooplcaaPeek
namespace Go.Proofs.Ytdljffplooplcaa
open Go.RowKit
set_option linter.unusedVariables false

theorem CacheAt.misses {w : World} {b : Nat} {x0 x1 x4 x5 x6 : Value} {hd tl : Option Nat} (h : CacheAt w b x0 x1 hd tl x4 x5 x6) (u : Value) : CacheAt (w.setCell ⟨b, 5, none⟩ u) b x0 x1 hd tl x4 u x6 :=
  (setCell_row 5 u h).trans rfl
theorem CacheAt.hits {w : World} {b : Nat} {x0 x1 x4 x5 x6 : Value} {hd tl : Option Nat} (h : CacheAt w b x0 x1 hd tl x4 x5 x6) (u : Value) : CacheAt (w.setCell ⟨b, 4, none⟩ u) b x0 x1 hd tl u x5 x6 :=
  (setCell_row 4 u h).trans rfl
/-- A store to a counter. -/
theorem StoreAt.counted {w : World} {c mb : Nat} {cap h m r h' m' r' : Int} {val : Nat → Ent} {ns : List Nat} {mm : List (ByteArray × Value)} {tm : Nat → T} {P : Nat → Prop} {i : Nat} {u : Value}
    (s : StoreAt w c mb cap h m r val ns mm tm P) (hc : CacheAt (w.setCell ⟨c, i, none⟩ u) c (.int .i64 cap) (.map (some mb)) (hdO ns none) (lastO none ns) (.int .i64 h') (.int .i64 m') (.int .i64 r')) :
    StoreAt (w.setCell ⟨c, i, none⟩ u) c mb cap h' m' r' val ns mm tm P := by
  have hf : ∀ b, b ≠ c → (w.setCell ⟨c, i, none⟩ u).heap[b]? = w.heap[b]? := fun b hb => Below.heap_setCell _ _ _ _ hb
  refine ⟨⟨hc, s.ring.seg.kept fun b hb => hf b fun e => s.ring.apart (e ▸ hb), s.ring.nodup, s.ring.apart⟩, s.map.block (hf mb s.mbc.1), s.get, s.len, s.keys, s.rule,
    fun n hn => (s.args n hn).kept fun k hk => hf k (s.own k hk).2.1, s.small, fun k hk => by rw [heap_setCell_size]; exact s.own k hk, s.mbc, s.pos, s.mnd⟩

theorem get_none {w : World} {c mb : Nat} {cap h m r : Int} {val : Nat → Ent} {ns : List Nat} {mm : List (ByteArray × Value)} {tm : Nat → T} {P : Nat → Prop}
    (s : StoreAt w c mb cap h m r val ns mm tm P) (k : ByteArray) (hk : ns.find? (fun n => decide ((val n).key = k)) = none) (hm0 : 0 ≤ m) (hm1 : m ≤ 1000) :
    Calls Try.prog 14 #[.pointer (some ⟨c, 0, none⟩), .string k] w fun e w' => e = .returned (.tuple #[.agg #[.int .i64 0, .slice none 0 0], .bool false]) ∧ StoreAt w' c mb cap h (m + 1) r val ns mm tm P ∧ Near (fun b => b = c) w w' := by
  have hs : ∀ o, StoreAt (w.alloc o) c mb cap h m r val ns mm tm P := fun o => s.below ((Below.refl _ _).alloc (Nat.le_refl _) o)
  have s1 := hs (.cells #[.int .i64 0, .slice none 0 0] 36)
  have HM := Lib.hid (made_yes s1.ring.cache (by have := s.pos; omega))
  have hl := look55 s1.map k
  rw [s.get k, hk] at hl
  have c1 : (w.alloc (.cells #[.int .i64 0, .slice none 0 0] 36)).cell? ⟨c, 1, none⟩ = some (.map (some mb)) := (cell_of_row _ c 1 _ _ _ s1.ring.cache).trans rfl
  have c5 : (w.alloc (.cells #[.int .i64 0, .slice none 0 0] 36)).cell? ⟨c, 5, none⟩ = some (.int .i64 m) := (cell_of_row _ c 5 _ _ _ s1.ring.cache).trans rfl
  have f5 := frozen_of_row (w.alloc (.cells #[.int .i64 0, .slice none 0 0] 36)) c 5 _ _ s1.ring.cache
  have hcw : c < w.heap.size := (Array.getElem?_eq_some_iff.1 s.ring.cache).1
  simp only [Option.map_none, Option.getD_none, Option.isSome_none] at hl
  have S := Lib.hid s
  clear hs s1 s
  go_enter Try.func14, Try.ntmps14
  go_wp2_with fail
  refine HM.out.mono ?_
  rintro e w' ⟨rfl, rfl⟩
  go_wp2
  go_returns
  refine ⟨rfl, (S.out.counted (S.out.ring.cache.misses (.int .i64 (m + 1)))).below ((Below.refl _ _).alloc (Nat.le_refl _) _), ?_⟩
  exact ((Only.refl (fun b => b = c) w).setCell (b := c) rfl 5 (.int .i64 (m + 1))).near.trans (Below.near ((Below.refl _ _).alloc (Nat.le_refl _) _))
end Go.Proofs.Ytdljffplooplcaa
