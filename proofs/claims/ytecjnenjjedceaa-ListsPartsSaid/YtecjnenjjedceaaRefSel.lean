/- alive; ref Above, Even; ListsSelects. -/
import Derived.Test.YtecjnenjjedceaaSel
import Derived.Test.YtecjnenjjedceaaSame
namespace Go.Proofs.Ytecjnenjjedceaa
open Go.RowKit
set_option linter.unusedVariables false

theorem Own.slv {w : World} {base : Nat} {v : Value} {zs : List Int} (h : Own w base v zs) : ∃ a cap, v = .slice a zs.length cap ∧ Sl w a zs.length cap zs := h.sl

theorem alive_any (w : World) : Calls Try.prog 12 #[] w fun e w' => e = .returned (.bool true) ∧ Below w.heap.size w w' := by
  have hb0 : Below w.heap.size w (w.alloc (.cells #[.int .i64 2, .int .i64 1, .int .i64 2] 2)) := (Below.refl _ _).alloc (Nat.le_refl _) _
  have hs : Sl (w.alloc (.cells #[.int .i64 2, .int .i64 1, .int .i64 2] 2)) (some ⟨w.heap.size, 0, none⟩) 3 3 [2, 1, 2] := by
    refine ⟨rfl, Nat.le_refl _, by unfold maxLen; omega, fun _ => ⟨w.heap.size, 0, rfl, by simp, fun j hj => ?_⟩⟩
    rw [World.cell?_alloc_at _ _ _ _ rfl]
    match j, hj with
    | 0, _ => rfl
    | 1, _ => rfl
    | 2, _ => rfl
  have h1 := unique_any _ 3 3 [2, 1, 2] _ hs (by omega)
  have e : (pickS seenF [] [2, 1, 2]).1 = [2, 1] := by decide
  rw [e] at h1
  have H1 := Lib.hid h1
  clear h1 e hs
  go_enter Try.func12, Try.ntmps12
  go_wp2_with fail
  refine H1.out.mono ?_
  rintro e w' ⟨v, rfl, hown, hb⟩
  obtain ⟨a, cap, rfl, hsl⟩ := hown.sl
  obtain ⟨b, off, ha, hc⟩ := hsl.cell
  obtain ⟨rfl, _⟩ := ha (by simp)
  have c0 := hc 0 (by simp)
  have c1 := hc 1 (by simp)
  simp at c0 c1
  clear hc ha hsl hown H1
  go_wp2
  go_ret
  exact ⟨rfl, hb0.trans (hb.mono (by simp))⟩

def RefRel (zs : List Int) (w : World) (k l : Nat) (v : Value) (wr : World) : Prop := k ≤ l ∧ Own wr w.heap.size v zs ∧ Below w.heap.size w wr

theorem take_snoc (xs : List Int) (k : Nat) (x : Int) (hk : k < xs.length) (hx : xs.getD k 0 = x) : xs.take (k + 1) = xs.take k ++ [x] := by
  rw [List.take_succ_eq_append_getElem hk]
  simp [List.getD, hk] at hx
  rw [hx]

set_option maxHeartbeats 400000 in
theorem refAbove_any (a : Option Addr) (l c : Nat) (xs : List Int) (n : Int) (w : World) (hA : Sl w a l c xs) (hl : l ≤ 1000) :
    Calls Try.prog 15 #[.slice a l c, .int .i64 n] w (Gives (xs.filter fun x => decide (n < x)) w) := by
  obtain ⟨b1, o1, ha0, hac⟩ := hA.cell
  have hxl := Lib.hid hA.hlen
  clear hA
  go_enter Try.func15, Try.ntmps15
  go_wp2
  go_loopw [5, 6] (fun v i wr => ∃ k : Nat, i = .int .i64 k ∧ RefRel ((xs.take k).filter fun x => decide (n < x)) w k l v wr) (fun _ i _ => l - (intOf i).toNat)
  case atStart => exact ⟨0, rfl, by omega, Own.nil _ _, Below.refl _ _⟩
  case round =>
    obtain ⟨k, rfl, hk, hown, hbel⟩ := hrel
    by_cases hlt : k < l
    · obtain ⟨rfl, hb1⟩ := ha0 (by omega)
      have c1 : wr.cell? ⟨b1, o1 + k, none⟩ = some (.int .i64 (xs.getD k 0)) := (hbel.cell hb1).trans (hac k hlt)
      generalize hx : xs.getD k 0 = x at c1
      have hst := Lib.hid (take_snoc xs k x (by rw [hxl.out]; exact hlt) hx)
      have hpl : ((xs.take k).filter fun x => decide (n < x)).length ≤ 1000 := by
        have := List.length_filter_le (fun x => decide (n < x)) (xs.take k)
        have := List.length_take_le k xs
        omega
      have hs := hbel.size
      have hn : ∀ k, u5.ownBlock = some k → w.heap.size ≤ k := fun k hk => (hown.lt k hk).1
      clear hx hac ha0
      by_cases hc : n < x
      · go_wp2_with (at_builtin; refine wpList_push rfl (.tmp 19) (.tmp 24) rfl w.heap.size _ _ _ rfl hown rfl (by omega) hs ?_; intro v' w3 hown3 hg3)
        go_roundw
        case rel =>
          refine ⟨k + 1, by go_num, by omega, ?_, hbel.grown hg3 hs hn⟩
          rw [hst.out, List.filter_append]
          simpa [hc] using hown3
        case measure => simp [intOf]; omega
      · go_wp2
        go_roundw
        case rel =>
          refine ⟨k + 1, by go_num, by omega, ?_, hbel⟩
          rw [hst.out, List.filter_append]
          simpa [hc] using hown
        case measure => simp [intOf]; omega
    · have hk' := Lib.hid (show k = l by omega)
      go_wp2
      go_ret
      rw [hk'.out, List.take_of_length_le (by rw [hxl.out]; exact Nat.le_refl _)] at hown
      exact ⟨_, rfl, hown, hbel⟩
set_option maxHeartbeats 400000 in
theorem refEven_any (a : Option Addr) (l c : Nat) (xs : List Int) (w : World) (hA : Sl w a l c xs) (hl : l ≤ 1000) :
    Calls Try.prog 17 #[.slice a l c] w (Gives (xs.filter fun x => x.tmod 2 == 0) w) := by
  obtain ⟨b1, o1, ha0, hac⟩ := hA.cell
  have hxl := Lib.hid hA.hlen
  clear hA
  go_enter Try.func17, Try.ntmps17
  go_wp2
  go_loopw [3, 4] (fun v i wr => ∃ k : Nat, i = .int .i64 k ∧ RefRel ((xs.take k).filter fun x => x.tmod 2 == 0) w k l v wr) (fun _ i _ => l - (intOf i).toNat)
  case atStart => exact ⟨0, rfl, by omega, Own.nil _ _, Below.refl _ _⟩
  case round =>
    obtain ⟨k, rfl, hk, hown, hbel⟩ := hrel
    by_cases hlt : k < l
    · obtain ⟨rfl, hb1⟩ := ha0 (by omega)
      have c1 : wr.cell? ⟨b1, o1 + k, none⟩ = some (.int .i64 (xs.getD k 0)) := (hbel.cell hb1).trans (hac k hlt)
      generalize hx : xs.getD k 0 = x at c1
      have hst := Lib.hid (take_snoc xs k x (by rw [hxl.out]; exact hlt) hx)
      have hpl : ((xs.take k).filter fun x => x.tmod 2 == 0).length ≤ 1000 := by
        have := List.length_filter_le (fun x => x.tmod 2 == 0) (xs.take k)
        have := List.length_take_le k xs
        omega
      have hs := hbel.size
      have hn : ∀ k, u3.ownBlock = some k → w.heap.size ≤ k := fun k hk => (hown.lt k hk).1
      clear hx hac ha0
      by_cases hc : (x.tmod 2 == 0) = true
      · go_wp2_with (at_builtin; refine wpList_push rfl (.tmp 17) (.tmp 22) rfl w.heap.size _ _ _ rfl hown rfl (by omega) hs ?_; intro v' w3 hown3 hg3)
        go_roundw
        case rel =>
          refine ⟨k + 1, by go_num, by omega, ?_, hbel.grown hg3 hs hn⟩
          rw [hst.out, List.filter_append]
          simpa [hc] using hown3
        case measure => simp [intOf]; omega
      · go_wp2
        go_roundw
        case rel =>
          refine ⟨k + 1, by go_num, by omega, ?_, hbel⟩
          rw [hst.out, List.filter_append]
          simpa [hc] using hown
        case measure => simp [intOf]; omega
    · have hk' := Lib.hid (show k = l by omega)
      go_wp2
      go_ret
      rw [hk'.out, List.take_of_length_le (by rw [hxl.out]; exact Nat.le_refl _)] at hown
      exact ⟨_, rfl, hown, hbel⟩

theorem same_true (a b : Option Addr) (la lb ca cb : Nat) (xs ys : List Int) (w : World) (hA : Sl w a la ca xs) (hB : Sl w b lb cb ys) (h : xs = ys) :
    Calls Try.prog 13 #[.slice a la ca, .slice b lb cb] w fun e w' => e = .returned (.bool true) ∧ Below w.heap.size w w' := by
  have := same_any a b la lb ca cb xs ys w hA hB
  simpa [h] using this

end Go.Proofs.Ytecjnenjjedceaa
