/- Get of a key that is there. -/
import Derived.Test.YtdljffplooplcaaGet
namespace Go.Proofs.Ytdljffplooplcaa
open Go.RowKit
set_option linter.unusedVariables false

theorem find_key {val : Nat → Ent} {k : ByteArray} {n : Nat} : ∀ {ns : List Nat}, (ns.map fun n => (val n).key).Nodup → n ∈ ns → (val n).key = k → ns.find? (fun n => decide ((val n).key = k)) = some n
  | [], _, hn, _ => by simp at hn
  | x :: xs, hnd, hn, hk => by
    rw [List.find?_cons]
    by_cases hx : (val x).key = k
    · simp only [hx, decide_true]
      rcases List.mem_cons.1 hn with rfl | hn
      · rfl
      · exfalso
        rw [List.map_cons, List.nodup_cons] at hnd
        exact hnd.1 (List.mem_map.2 ⟨n, hn, hk.trans hx.symm⟩)
    · simp only [hx, decide_false]
      rcases List.mem_cons.1 hn with rfl | hn
      · exact absurd hk hx
      · rw [List.map_cons, List.nodup_cons] at hnd
        exact find_key hnd.2 hn hk
theorem find_no {val : Nat → Ent} {k : ByteArray} {ns : List Nat} : ns.find? (fun n => decide ((val n).key = k)) = none ↔ ∀ n, n ∈ ns → (val n).key ≠ k := by
  rw [List.find?_eq_none]; simp
theorem find_yes {val : Nat → Ent} {k : ByteArray} {ns : List Nat} {n : Nat} (h : ns.find? (fun n => decide ((val n).key = k)) = some n) : n ∈ ns ∧ (val n).key = k :=
  ⟨List.mem_of_find?_eq_some h, by have := List.find?_some h; simpa using this⟩
theorem find_perm {val : Nat → Ent} {k : ByteArray} {ns ns' : List Nat} (hnd : (ns.map fun n => (val n).key).Nodup) (hp : ns'.Perm ns) :
    ns'.find? (fun n => decide ((val n).key = k)) = ns.find? (fun n => decide ((val n).key = k)) := by
  cases h : ns.find? (fun n => decide ((val n).key = k)) with
  | none => exact find_no.2 fun n hn => find_no.1 h n (hp.mem_iff.1 hn)
  | some n =>
    have hy := find_yes h
    exact find_key ((hp.map _).nodup_iff.2 hnd) (hp.mem_iff.2 hy.1) hy.2

/-- The list in another order. -/
theorem StoreAt.order {w w' : World} {c mb : Nat} {cap h m r : Int} {val : Nat → Ent} {ns ns' : List Nat} {mm : List (ByteArray × Value)} {tm : Nat → T} {P : Nat → Prop}
    (s : StoreAt w c mb cap h m r val ns mm tm P) (hp : ns'.Perm ns) (hr : Ring w' c (.int .i64 cap) (.map (some mb)) (.int .i64 h) (.int .i64 m) (.int .i64 r) val ns') (ho : Only (fun b => b = c ∨ b ∈ ns) w w') :
    StoreAt w' c mb cap h m r val ns' mm tm P := by
  refine ⟨hr, s.map.block (ho.block mb fun d => ?_), fun k => (s.get k).trans ?_, s.len.trans hp.length_eq.symm, (hp.map _).nodup_iff.2 s.keys, fun n hn => s.rule n (hp.mem_iff.1 hn),
    fun n hn => (s.args n (hp.mem_iff.1 hn)).kept fun k hk => ho.block k fun d => ?_, fun n hn => s.small n (hp.mem_iff.1 hn), fun k hk => ?_, ⟨s.mbc.1, fun hm => s.mbc.2 (hp.mem_iff.1 hm)⟩, s.pos, s.mnd⟩
  · rcases d with d | d
    · exact s.mbc.1 d
    · exact s.mbc.2 d
  · rw [find_perm s.keys hp]
  · have := s.own k hk
    rcases d with d | d
    · exact this.2.1 d
    · exact this.2.2.2 d
  · have := s.own k hk
    exact ⟨by rw [ho.size]; exact this.1, this.2.1, this.2.2.1, fun hm => this.2.2.2 (hp.mem_iff.1 hm)⟩

theorem perm_front (xs ys : List Nat) (n : Nat) : (n :: (xs ++ ys)).Perm (xs ++ n :: ys) := List.perm_middle.symm

/-- what a Get that has found comes to -/
def GotPost (c mb : Nat) (cap h m r : Int) (val : Nat → Ent) (ns ns' : List Nat) (mm : List (ByteArray × Value)) (tm : Nat → T) (P : Nat → Prop) (t : T) (w : World) (e : Ending) (w' : World) : Prop :=
  ∃ v', e = .returned (.tuple #[.agg #[.int .i64 t.rule, v'], .bool true]) ∧ ArgsAt w' (Span w.heap.size w'.heap.size) v' t.args ∧ StoreAt w' c mb cap h m r val ns' mm tm P ∧ Near (fun b => b = c ∨ b ∈ ns) w w' ∧ Thaw w.heap.size v' w'

set_option maxHeartbeats 1600000 in
theorem get_some {w : World} {c mb n : Nat} {cap h m r : Int} {val : Nat → Ent} {xs ys : List Nat} {mm : List (ByteArray × Value)} {tm : Nat → T} {P : Nat → Prop}
    (s : StoreAt w c mb cap h m r val (xs ++ n :: ys) mm tm P) (k : ByteArray) (hk : (xs ++ n :: ys).find? (fun n => decide ((val n).key = k)) = some n) (hh0 : 0 ≤ h) (hh1 : h ≤ 1000) :
    Calls Try.prog 14 #[.pointer (some ⟨c, 0, none⟩), .string k] w (GotPost c mb cap (h + 1) m r val (xs ++ n :: ys) (n :: (xs ++ ys)) mm tm P (tm n) w) := by
  have hn : n ∈ xs ++ n :: ys := by simp
  have hs : ∀ o, StoreAt (w.alloc o) c mb cap h m r val (xs ++ n :: ys) mm tm P := fun o => s.below ((Below.refl _ _).alloc (Nat.le_refl _) o)
  have s1 := hs (.cells #[.int .i64 0, .slice none 0 0] 36)
  have HM := Lib.hid (made_yes s1.ring.cache (by have := s.pos; omega))
  have hl := look55 s1.map k
  rw [s.get k, hk] at hl
  have c1 : (w.alloc (.cells #[.int .i64 0, .slice none 0 0] 36)).cell? ⟨c, 1, none⟩ = some (.map (some mb)) := (cell_of_row _ c 1 _ _ _ s1.ring.cache).trans rfl
  have c4 : (w.alloc (.cells #[.int .i64 0, .slice none 0 0] 36)).cell? ⟨c, 4, none⟩ = some (.int .i64 h) := (cell_of_row _ c 4 _ _ _ s1.ring.cache).trans rfl
  have f4 := frozen_of_row (w.alloc (.cells #[.int .i64 0, .slice none 0 0] 36)) c 4 _ _ s1.ring.cache
  have hcw : c < w.heap.size := (Array.getElem?_eq_some_iff.1 s.ring.cache).1
  simp only [Option.map_some, Option.getD_some, Option.isSome_some, ptr] at hl
  have hrow : (w.alloc (.cells #[.int .i64 0, .slice none 0 0] 36)).heap[w.heap.size]? = some (.cells #[.int .i64 0, .slice none 0 0] 36 (0, 0)) := heap_alloc_new _ _
  have HROW := Lib.hid hrow
  have hsz : (w.alloc (.cells #[.int .i64 0, .slice none 0 0] 36)).heap.size = w.heap.size + 1 := by simp
  have HSZ := Lib.hid hsz
  have hbw : Below w.heap.size w (w.alloc (.cells #[.int .i64 0, .slice none 0 0] 36)) := (Below.refl _ _).alloc (Nat.le_refl _) _
  have HBW := Lib.hid hbw
  have S := Lib.hid s
  have S1 := Lib.hid s1
  unfold GotPost
  clear hs s1 s hrow hsz hbw hk hn
  go_enter Try.func14, Try.ntmps14
  go_wp2_with fail
  refine HM.out.mono ?_
  rintro e w' ⟨rfl, rfl⟩
  generalize w.alloc (.cells #[.int .i64 0, .slice none 0 0] 36) = w1 at *
  have hcount := S1.out.counted (S1.out.ring.cache.hits (.int .i64 (h + 1)))
  have HC := Lib.hid hcount
  have HF := Lib.hid (front_in hcount.ring)
  clear hcount
  go_wp2_with fail
  refine HF.out.mono ?_
  rintro e w2 ⟨rfl, hr2, ho2⟩
  have hs2 := HC.out.order (perm_front xs ys n) hr2 ho2
  obtain ⟨q, z, hnode⟩ := hr2.seg.at n (by simp)
  have n1 : w2.cell? ⟨n, 1, none⟩ = some (.int .i64 (tm n).rule) := (cell_of_row _ n 1 _ _ _ hnode).trans (by rw [← S.out.rule n (by simp)]; rfl)
  have n2 : w2.cell? ⟨n, 2, none⟩ = some (val n).args := (cell_of_row _ n 2 _ _ _ hnode).trans rfl
  have HCP := Lib.hid (copied_anyF _ (tm n) (val n).args P _ (Nat.le_refl _) (S.out.small n (by simp)) (fun k hk => (hs2.own k hk).1) (hs2.args n (by simp)))
  have HS2 := Lib.hid hs2
  have HO2 := Lib.hid ho2
  have hsz2 : w2.heap.size = w.heap.size + 1 := by rw [ho2.size, heap_setCell_size, HSZ.out]
  have HSZ2 := Lib.hid hsz2
  have hrow2 : w2.heap[w.heap.size]? = some (.cells #[.int .i64 0, .slice none 0 0] 36 (0, 0)) := by
    have hne : ¬ (w.heap.size = c ∨ w.heap.size ∈ xs ++ n :: ys) := by
      rintro (e | e)
      · omega
      · obtain ⟨ca, hca⟩ := S.out.ring.seg.node _ e
        have := (Array.getElem?_eq_some_iff.1 hca).1
        omega
    exact (ho2.block _ hne).trans ((Below.heap_setCell _ _ _ _ (by show w.heap.size ≠ c; omega)).trans HROW.out)
  have HROW2 := Lib.hid hrow2
  clear hs2 hr2 ho2 hnode hsz2 hrow2 hl c1 c4 f4
  go_wp2_with fail
  refine HCP.out.mono ?_
  rintro e w3 ⟨v', rfl, ha, hb, hth⟩
  obtain ⟨a3, l3, q3, rfl⟩ := ha.slice
  have hr3 := (hb.block w.heap.size (by rw [HSZ2.out]; omega)).trans HROW2.out
  have r0 : w3.cell? ⟨w.heap.size, 0, none⟩ = some (.int .i64 0) := (cell_of_row _ _ 0 _ _ _ hr3).trans rfl
  have r1 : w3.cell? ⟨w.heap.size, 1, none⟩ = some (.slice none 0 0) := (cell_of_row _ _ 1 _ _ _ hr3).trans rfl
  have f0 := frozen_of_row w3 w.heap.size 0 _ _ hr3
  have f1 := frozen_of_row w3 w.heap.size 1 _ _ hr3
  have HA := Lib.hid ha
  have HB := Lib.hid hb
  have HTH := Lib.hid hth
  clear hth ha hb hr3 n1 n2
  go_wp2
  have g0 : (w3.setCell ⟨w.heap.size, 0, none⟩ (.int .i64 (tm n).rule)).cell? ⟨w.heap.size, 0, none⟩ = some (.int .i64 (tm n).rule) := World.cell?_setCell_same _ _ _ r0
  have g1 : ((w3.setCell ⟨w.heap.size, 0, none⟩ (.int .i64 (tm n).rule)).setCell ⟨w.heap.size, 1, none⟩ (.slice a3 l3 q3)).cell? ⟨w.heap.size, 1, none⟩ = some (.slice a3 l3 q3) :=
    World.cell?_setCell_same _ _ _ ((World.cell?_setCell_other _ _ _ _ (by simp)).trans r1)
  refine bodyPost_ret (v := .tuple #[.agg #[.int .i64 (tm n).rule, .slice a3 l3 q3], .bool true]) (by simp [results, Try.results14, go_sem, g0, g1]; try rfl) rfl ?_
  have hn3 : Near (fun b => b = w.heap.size) w3 ((w3.setCell ⟨w.heap.size, 0, none⟩ (.int .i64 (tm n).rule)).setCell ⟨w.heap.size, 1, none⟩ (.slice a3 l3 q3)) :=
    (((Only.refl (fun b => b = w.heap.size) w3).setCell (b := w.heap.size) rfl 0 _).setCell (b := w.heap.size) rfl 1 _).near
  generalize (w3.setCell ⟨w.heap.size, 0, none⟩ (.int .i64 (tm n).rule)).setCell ⟨w.heap.size, 1, none⟩ (.slice a3 l3 q3) = w4 at *
  have hpre : ∀ k, k = c ∨ k = mb ∨ k ∈ xs ++ n :: ys ∨ P k → k < w.heap.size := by
    intro k hk
    rcases hk with rfl | rfl | hk | hk
    · exact hcw
    · exact S.out.map.lt
    · obtain ⟨ca, hca⟩ := S.out.ring.seg.node _ hk
      exact (Array.getElem?_eq_some_iff.1 hca).1
    · exact (S.out.own k hk).1
  refine ⟨.slice a3 l3 q3, rfl, ?_, ?_, ?_, HTH.out.block (by rw [HSZ2.out]; omega) fun b hb1 hb2 => hn3.block b hb2 (by rw [HSZ2.out] at hb1; omega)⟩
  · refine (HA.out.kept fun x hx => hn3.block x hx.2 ?_).wide fun x hx => ⟨by have := hx.1; rw [HSZ2.out] at this; omega, Nat.lt_of_lt_of_le hx.2 hn3.size⟩
    have := hx.1; rw [HSZ2.out] at this; omega
  · refine (HS2.out.below HB.out).near hn3 ?_
    rintro k rfl
    refine ⟨fun e => by have := hpre w.heap.size (.inl e); omega, fun e => by have := hpre w.heap.size (.inr (.inl e)); omega, fun e => ?_, fun e => by have := hpre w.heap.size (.inr (.inr (.inr e))); omega⟩
    have := hpre w.heap.size (.inr (.inr (.inl ((perm_front xs ys n).mem_iff.1 e))))
    omega
  · have n1 : Near (fun b => b = c ∨ b ∈ xs ++ n :: ys) w1 w2 := (((Only.refl (fun b => b = c ∨ b ∈ xs ++ n :: ys) w1).setCell (b := c) (.inl rfl) 4 (.int .i64 (h + 1))).trans HO2.out).near
    have n2 := ((Below.near (D := fun b => b = c ∨ b ∈ xs ++ n :: ys) HBW.out).trans n1).trans (Below.near HB.out)
    refine ⟨hn3.os.trans n2.os, hn3.tape.trans n2.tape, hn3.output.trans n2.output, Nat.le_trans n2.size hn3.size, fun k hk hd => ?_⟩
    exact (hn3.block k (Nat.lt_of_lt_of_le hk n2.size) (by omega)).trans (n2.block k hk hd)
end Go.Proofs.Ytdljffplooplcaa
