/- CacheNil. -/
import Derived.Test.YtdljffplooplcaaAwake
import Derived.Test.YtdljffplooplcaaOpen
namespace Go.Proofs.Ytdljffplooplcaa
open Go.RowKit
set_option linter.unusedVariables false

/-- between two rounds of CacheNil's loop -/
structure NilAt (w : World) (z : Nat) (r : Int) (v : Value) (wr : World) : Prop where
  bel : Below w.heap.size w wr
  box : wr.heap[w.heap.size]? = some (.cells #[.int .i64 r, v] 36 (0, 0))
  zero : CacheAt wr z (.int .i64 0) (.map none) none none (.int .i64 0) (.int .i64 0) (.int .i64 0)
theorem NilAt.next {w wr w2 : World} {z : Nat} {r : Int} {v : Value} (h : NilAt w z r v wr) (hb : Below wr.heap.size wr w2) : NilAt w z r v w2 :=
  ⟨Below.next h.bel hb, (hb.block _ (Array.getElem?_eq_some_iff.1 h.box).1).trans h.box, (hb.block _ (Array.getElem?_eq_some_iff.1 h.zero).1).trans h.zero⟩
set_option maxHeartbeats 2000000 in
theorem nil_walk (k : ByteArray) (t : T) (v : Value) (w : World) (hA : ArgsAt w (Here w) v t.args) :
    Calls Try.prog 6 #[.string k, .agg #[.int .i64 t.rule, v]] w fun e w' => e = .returned (.bool true) ∧ Below w.heap.size w w' := by
  obtain ⟨av, lv, qv, rfl⟩ := hA.slice
  have hbox : Below w.heap.size w (w.alloc (.cells #[.int .i64 t.rule, .slice av lv qv] 36)) := (Below.refl _ _).alloc (Nat.le_refl _) _
  have HW := Lib.hid (within_any t (.slice av lv qv) 20 (Here w) (w.alloc (.cells #[.int .i64 t.rule, .slice av lv qv] 36)) (by decide) (by decide) ((Here.under w).le hbox.size) (hA.kept (Below.keptB hbox (Here.under w))))
  have HBX := Lib.hid hbox
  have hrow := heap_alloc_new w (.cells #[.int .i64 t.rule, .slice av lv qv] 36)
  have b0 : (w.alloc (.cells #[.int .i64 t.rule, .slice av lv qv] 36)).cell? ⟨w.heap.size, 0, none⟩ = some (.int .i64 t.rule) := (cell_of_row _ _ 0 _ _ _ hrow).trans rfl
  have b1 : (w.alloc (.cells #[.int .i64 t.rule, .slice av lv qv] 36)).cell? ⟨w.heap.size, 1, none⟩ = some (.slice av lv qv) := (cell_of_row _ _ 1 _ _ _ hrow).trans rfl
  have HROW := Lib.hid hrow
  clear hbox hrow hA
  by_cases hk : (60 : Int) < k.size
  · go_enter Try.func6, Try.ntmps6
    go_wp2_with fail
    refine (awake_any _).mono ?_
    rintro e w2 ⟨rfl, hb2⟩
    go_wp2
    go_ret
    exact ⟨rfl, Below.next HBX.out hb2⟩
  · by_cases hs : (tsize t : Int) ≤ 20
    · have hs' : decide ((tsize t : Int) ≤ 20) = true := by simp [hs]
      rw [hs'] at HW
      go_enter Try.func6, Try.ntmps6
      go_wp2_with fail
      refine HW.out.mono ?_
      rintro e w1 ⟨rfl, hb1⟩
      have hstart : NilAt w w1.heap.size t.rule (.slice av lv qv) (w1.alloc (.cells #[.int .i64 0, .map none, .pointer none, .pointer none, .int .i64 0, .int .i64 0, .int .i64 0] 60)) :=
        ⟨Below.next HBX.out (Below.next hb1 ((Below.refl _ _).alloc (Nat.le_refl _) _)), (Below.heap_alloc _ _ _ (by have := hb1.size; simp at this; omega)).trans ((hb1.block _ (by simp)).trans HROW.out), heap_alloc_new _ _⟩
      have HST := Lib.hid hstart
      clear hstart b0 b1 hs'
      go_wp2_with fail
      go_loopw [7] (fun i wr => ∃ j : Nat, j ≤ 2 ∧ i = .int .i64 j ∧ NilAt w w1.heap.size t.rule (.slice av lv qv) wr) (fun i _ => 2 - (intOf i).toNat)
      case atStart => exact ⟨0, by omega, rfl, HST.out⟩
      case round =>
        obtain ⟨j, hj, rfl, hn⟩ := hrel
        have b0 : wr.cell? ⟨w.heap.size, 0, none⟩ = some (.int .i64 t.rule) := (cell_of_row _ _ 0 _ _ _ hn.box).trans rfl
        have b1 : wr.cell? ⟨w.heap.size, 1, none⟩ = some (.slice av lv qv) := (cell_of_row _ _ 1 _ _ _ hn.box).trans rfl
        have HN := Lib.hid hn
        have hj3 : j = 0 ∨ j = 1 ∨ j = 2 := by omega
        clear hn hj
        rcases hj3 with rfl | rfl | rfl
        · have hnm : NotMade (.pointer none) wr := NotMade.nil wr
          have HNM := Lib.hid hnm
          clear hnm
          go_wp2_with fail
          refine (put_no (k := k) (t := .slice av lv qv) (r := t.rule) HNM.out).mono ?_
          rintro e w2 ⟨rfl, hb2⟩
          have H2 := Lib.hid (HNM.out.next hb2)
          have HB2 := Lib.hid hb2
          clear hb2 b0 b1
          go_wp2_with fail
          refine (get_no (k := k) H2.out).mono ?_
          rintro e w3 ⟨rfl, hb3⟩
          have hb3' := Below.next hb3 ((Below.refl w3.heap.size w3).alloc (Nat.le_refl _) (.cells #[.int .i64 0, .slice none 0 0] 36))
          have H3 := Lib.hid (H2.out.next hb3')
          have HB3 := Lib.hid hb3'
          clear hb3 hb3'
          go_wp2_with fail
          refine (peek_no (k := k) H3.out).mono ?_
          rintro e w4 ⟨rfl, hb4⟩
          have hb4' := Below.next hb4 ((Below.refl w4.heap.size w4).alloc (Nat.le_refl _) (.cells #[.int .i64 0, .slice none 0 0] 36))
          have H4 := Lib.hid (H3.out.next hb4')
          have HB4 := Lib.hid hb4'
          clear hb4 hb4'
          go_wp2_with fail
          refine (clear_no (H4.out _ (Below.refl _ _))).mono ?_
          rintro e w4' ⟨rfl, rfl⟩
          go_wp2_with fail
          refine (stats_no (H4.out _ (Below.refl _ _))).mono ?_
          rintro e w4' ⟨rfl, rfl⟩
          go_wp2_with fail
          refine (keys_no H4.out).mono ?_
          rintro e w5 ⟨rfl, hb5⟩
          have HB5 := Lib.hid hb5
          clear hb5
          go_wp2
          go_roundw
          case rel => exact ⟨1, by omega, rfl, (((HN.out.next HB2.out).next HB3.out).next HB4.out).next HB5.out⟩
          case measure => simp [intOf]
        · have hnm : NotMade (.pointer (some ⟨w1.heap.size, 0, none⟩)) wr := NotMade.zero HN.out.zero
          have HNM := Lib.hid hnm
          clear hnm
          go_wp2_with fail
          refine (put_no (k := k) (t := .slice av lv qv) (r := t.rule) HNM.out).mono ?_
          rintro e w2 ⟨rfl, hb2⟩
          have H2 := Lib.hid (HNM.out.next hb2)
          have HB2 := Lib.hid hb2
          clear hb2 b0 b1
          go_wp2_with fail
          refine (get_no (k := k) H2.out).mono ?_
          rintro e w3 ⟨rfl, hb3⟩
          have hb3' := Below.next hb3 ((Below.refl w3.heap.size w3).alloc (Nat.le_refl _) (.cells #[.int .i64 0, .slice none 0 0] 36))
          have H3 := Lib.hid (H2.out.next hb3')
          have HB3 := Lib.hid hb3'
          clear hb3 hb3'
          go_wp2_with fail
          refine (peek_no (k := k) H3.out).mono ?_
          rintro e w4 ⟨rfl, hb4⟩
          have hb4' := Below.next hb4 ((Below.refl w4.heap.size w4).alloc (Nat.le_refl _) (.cells #[.int .i64 0, .slice none 0 0] 36))
          have H4 := Lib.hid (H3.out.next hb4')
          have HB4 := Lib.hid hb4'
          clear hb4 hb4'
          go_wp2_with fail
          refine (clear_no (H4.out _ (Below.refl _ _))).mono ?_
          rintro e w4' ⟨rfl, rfl⟩
          go_wp2_with fail
          refine (stats_no (H4.out _ (Below.refl _ _))).mono ?_
          rintro e w4' ⟨rfl, rfl⟩
          go_wp2_with fail
          refine (keys_no H4.out).mono ?_
          rintro e w5 ⟨rfl, hb5⟩
          have HB5 := Lib.hid hb5
          clear hb5
          go_wp2
          go_roundw
          case rel => exact ⟨2, by omega, rfl, (((HN.out.next HB2.out).next HB3.out).next HB4.out).next HB5.out⟩
          case measure => simp [intOf]
        · go_wp2_with fail
          refine (awake_any _).mono ?_
          rintro e w2 ⟨rfl, hb2⟩
          go_wp2
          go_ret
          exact ⟨rfl, Below.next HN.out.bel hb2⟩
    · have hs' : decide ((tsize t : Int) ≤ 20) = false := by simp [hs]
      rw [hs'] at HW
      go_enter Try.func6, Try.ntmps6
      go_wp2_with fail
      refine HW.out.mono ?_
      rintro e w1 ⟨rfl, hb1⟩
      go_wp2_with fail
      refine (awake_any _).mono ?_
      rintro e w2 ⟨rfl, hb2⟩
      go_wp2
      go_ret
      exact ⟨rfl, Below.next HBX.out (Below.next hb1 hb2)⟩
end Go.Proofs.Ytdljffplooplcaa
