/- Take, Drop, Reverse and their references. -/
import Derived.Test.YtecjnenjjedceaaCopied
import Derived.Test.YtecjnenjjedceaaRefSel
namespace Go.Proofs.Ytecjnenjjedceaa
open Go.RowKit
set_option linter.unusedVariables false

theorem Sl.take {w : World} {a : Option Addr} {l c : Nat} {xs : List Int} (h : Sl w a l c xs) {m : Nat} (hm : m ≤ l) : Sl w a m c (xs.take m) := by
  refine ⟨by rw [List.length_take, h.hlen]; omega, Nat.le_trans hm h.hcap, h.hmax, fun h0 => ?_⟩
  obtain ⟨b, off, ha, hb, hc⟩ := h.hat (by omega)
  refine ⟨b, off, ha, hb, fun j hj => ?_⟩
  rw [List.length_take] at hj
  rw [hc j (by omega)]
  have e : (xs.take m).getD j 0 = xs.getD j 0 := by simp only [List.getD, List.getElem?_take]; rw [if_pos (by omega)]
  rw [e]

theorem Sl.drop {w : World} {a : Option Addr} {l c : Nat} {xs : List Int} (h : Sl w a l c xs) {m : Nat} (hm : m ≤ l) :
    Sl w (if c = m then a else a.map (·.add (m * 1))) (l - m) (c - m) (xs.drop m) := by
  have h1 := h.hcap
  have h2 := h.hmax
  refine ⟨by rw [List.length_drop, h.hlen], by omega, by omega, fun h0 => ?_⟩
  obtain ⟨b, off, ha, hb, hc⟩ := h.hat (by omega)
  refine ⟨b, off + m, ?_, hb, fun j hj => ?_⟩
  · rw [if_neg (by omega), ha]
    simp [Addr.add_lit]
  · rw [List.length_drop] at hj
    rw [Nat.add_assoc, hc (m + j) (by omega)]
    simp [List.getD]

theorem Sl.drop' {w : World} {a : Option Addr} {l c : Nat} {xs : List Int} (h : Sl w a l c xs) {m : Nat} (hm : m ≤ l) (hc : ¬ c = m) :
    Sl w (Option.map (fun x => x.add m) a) (l - m) (c - m) (xs.drop m) := by
  have := h.drop hm
  rw [if_neg hc, Nat.mul_one] at this
  exact this

theorem Sl.empty (w : World) (a : Option Addr) {c : Nat} (hc : c ≤ maxLen) : Sl w a 0 c [] := ⟨rfl, Nat.zero_le _, hc, fun h => by omega⟩

theorem take_any (a : Option Addr) (l c : Nat) (xs : List Int) (n : Int) (w : World) (hA : Sl w a l c xs) (hl : l ≤ 1000) :
    Calls Try.prog 18 #[.slice a l c, .int .i64 n] w (Gives (xs.take n.toNat) w) := by
  have hA' := Lib.hid hA
  have h1 := hA.hcap
  have h2 := hA.hmax
  have hxl := Lib.hid hA.hlen
  unfold maxLen at h2
  clear hA
  by_cases h0 : n < 0
  · have e : n.toNat = 0 := by omega
    rw [e]
    clear e
    go_enter Try.func18, Try.ntmps18
    go_wp2_with fail
    refine (copied_any a 0 c _ w (hA'.out.take (m := 0) (by omega)) (by omega)).mono ?_
    rintro e w' ⟨v, rfl, hown, hb⟩
    go_wp2
    go_ret
    exact ⟨v, rfl, hown, hb⟩
  · obtain ⟨m, rfl⟩ := Int.eq_ofNat_of_zero_le (show 0 ≤ n by omega)
    rw [Int.toNat_natCast]
    by_cases h3 : m ≤ l
    · go_enter Try.func18, Try.ntmps18
      go_wp2_with fail
      refine (copied_any a m c _ w (hA'.out.take h3) (by omega)).mono ?_
      rintro e w' ⟨v, rfl, hown, hb⟩
      go_wp2
      go_ret
      exact ⟨v, rfl, hown, hb⟩
    · have e : xs.take m = xs := List.take_of_length_le (by rw [hxl.out]; omega)
      rw [e]
      clear e
      go_enter Try.func18, Try.ntmps18
      go_wp2_with fail
      refine (copied_any a l c _ w hA'.out (by omega)).mono ?_
      rintro e w' ⟨v, rfl, hown, hb⟩
      go_wp2
      go_ret
      exact ⟨v, rfl, hown, hb⟩

theorem drop_any (a : Option Addr) (l c : Nat) (xs : List Int) (n : Int) (w : World) (hA : Sl w a l c xs) (hl : l ≤ 1000) :
    Calls Try.prog 20 #[.slice a l c, .int .i64 n] w (Gives (xs.drop n.toNat) w) := by
  have hA' := Lib.hid hA
  have h1 := hA.hcap
  have h2 := hA.hmax
  have hxl := Lib.hid hA.hlen
  unfold maxLen at h2
  clear hA
  by_cases h0 : n < 0
  · have e : n.toNat = 0 := by omega
    rw [e, List.drop_zero]
    clear e
    go_enter Try.func20, Try.ntmps20
    go_wp2_with fail
    refine (copied_any a l c _ w hA'.out (by omega)).mono ?_
    rintro e w' ⟨v, rfl, hown, hb⟩
    go_wp2
    go_ret
    exact ⟨v, rfl, hown, hb⟩
  · obtain ⟨m, rfl⟩ := Int.eq_ofNat_of_zero_le (show 0 ≤ n by omega)
    rw [Int.toNat_natCast]
    by_cases h3 : m ≤ l
    · by_cases h4 : c = m
      · have e : xs.drop m = [] := List.drop_of_length_le (by rw [hxl.out]; omega)
        have e2 : l - m = 0 := by omega
        have hs : Sl w a (l - m) 0 [] := by rw [e2]; exact Sl.empty w a (by unfold maxLen; omega)
        have HS := Lib.hid hs
        rw [e]
        clear e e2 hs
        go_enter Try.func20, Try.ntmps20
        go_wp2_with fail
        refine (copied_any _ _ _ _ w HS.out (by omega)).mono ?_
        rintro e w' ⟨v, rfl, hown, hb⟩
        go_wp2
        go_ret
        exact ⟨v, rfl, hown, hb⟩
      · go_enter Try.func20, Try.ntmps20
        go_wp2_with fail
        refine (copied_any _ _ _ _ w (hA'.out.drop' h3 h4) (by omega)).mono ?_
        rintro e w' ⟨v, rfl, hown, hb⟩
        go_wp2
        go_ret
        exact ⟨v, rfl, hown, hb⟩
    · have e : xs.drop m = [] := List.drop_of_length_le (by rw [hxl.out]; omega)
      rw [e]
      clear e
      by_cases h4 : c = l
      all_goals
        go_enter Try.func20, Try.ntmps20
        go_wp2_with fail
        refine (copied_any _ 0 _ _ w (Sl.empty w _ (by unfold maxLen; omega)) (by omega)).mono ?_
        rintro e w' ⟨v, rfl, hown, hb⟩
        go_wp2
        go_ret
        exact ⟨v, rfl, hown, hb⟩

set_option maxHeartbeats 400000 in
theorem refTake_any (a : Option Addr) (l c : Nat) (xs : List Int) (n : Int) (w : World) (hA : Sl w a l c xs) (hl : l ≤ 1000) :
    Calls Try.prog 19 #[.slice a l c, .int .i64 n] w (Gives (xs.take n.toNat) w) := by
  obtain ⟨b1, o1, ha0, hac⟩ := hA.cell
  have hxl := Lib.hid hA.hlen
  clear hA
  go_enter Try.func19, Try.ntmps19
  go_wp2
  go_loopw [5, 6] (fun v i wr => ∃ k : Nat, i = .int .i64 k ∧ k ≤ n.toNat ∧ RefRel (xs.take k) w k l v wr) (fun _ i _ => l - (intOf i).toNat)
  case atStart => exact ⟨0, rfl, by omega, by omega, Own.nil _ _, Below.refl _ _⟩
  case round =>
    obtain ⟨k, rfl, hkn, hk, hown, hbel⟩ := hrel
    by_cases hlt : k < l
    · by_cases hlt2 : (k : Int) < n
      · obtain ⟨rfl, hb1⟩ := ha0 (by omega)
        have c1 : wr.cell? ⟨b1, o1 + k, none⟩ = some (.int .i64 (xs.getD k 0)) := (hbel.cell hb1).trans (hac k hlt)
        generalize hx : xs.getD k 0 = x at c1
        have hst := Lib.hid (take_snoc xs k x (by rw [hxl.out]; exact hlt) hx)
        have hpl : (xs.take k).length ≤ 1000 := by
          have := List.length_take_le k xs
          omega
        have hs := hbel.size
        have hn : ∀ k, u5.ownBlock = some k → w.heap.size ≤ k := fun k hk => (hown.lt k hk).1
        clear hx hac ha0
        go_wp2_with (at_builtin; refine wpList_push rfl (.tmp 18) (.tmp 23) rfl w.heap.size _ _ _ rfl hown rfl (by omega) hs ?_; intro v' w3 hown3 hg3)
        go_roundw
        case rel => exact ⟨k + 1, by go_num, by omega, by omega, by rw [hst.out]; exact hown3, hbel.grown hg3 hs hn⟩
        case measure => simp [intOf]; omega
      · have hk' := Lib.hid (show n.toNat = k by omega)
        go_wp2
        go_ret
        rw [hk'.out]
        exact ⟨_, rfl, hown, hbel⟩
    · have hk' : xs.take n.toNat = xs.take k := by
        rw [List.take_of_length_le (by rw [hxl.out]; omega), List.take_of_length_le (by rw [hxl.out]; omega)]
      have HK := Lib.hid hk'
      clear hk'
      go_wp2
      go_ret
      rw [HK.out]
      exact ⟨_, rfl, hown, hbel⟩

set_option maxHeartbeats 400000 in
theorem refDrop_any (a : Option Addr) (l c : Nat) (xs : List Int) (n : Int) (w : World) (hA : Sl w a l c xs) (hl : l ≤ 1000) :
    Calls Try.prog 21 #[.slice a l c, .int .i64 n] w (Gives (xs.drop n.toNat) w) := by
  obtain ⟨b1, o1, ha0, hac⟩ := hA.cell
  have hxl := Lib.hid hA.hlen
  clear hA
  go_enter Try.func21, Try.ntmps21
  go_wp2
  go_loopw [5, 6] (fun v i wr => ∃ k : Nat, i = .int .i64 k ∧ RefRel ((xs.take k).drop n.toNat) w k l v wr) (fun _ i _ => l - (intOf i).toNat)
  case atStart => exact ⟨0, rfl, by omega, by simpa using Own.nil _ _, Below.refl _ _⟩
  case round =>
    obtain ⟨k, rfl, hk, hown, hbel⟩ := hrel
    by_cases hlt : k < l
    · obtain ⟨rfl, hb1⟩ := ha0 (by omega)
      have c1 : wr.cell? ⟨b1, o1 + k, none⟩ = some (.int .i64 (xs.getD k 0)) := (hbel.cell hb1).trans (hac k hlt)
      generalize hx : xs.getD k 0 = x at c1
      have hst := Lib.hid (take_snoc xs k x (by rw [hxl.out]; exact hlt) hx)
      have hlk : (xs.take k).length = k := by rw [List.length_take, hxl.out]; omega
      have hpl : ((xs.take k).drop n.toNat).length ≤ 1000 := by
        rw [List.length_drop, hlk]; omega
      have HL := Lib.hid hlk
      have hs := hbel.size
      have hn : ∀ k, u5.ownBlock = some k → w.heap.size ≤ k := fun k hk => (hown.lt k hk).1
      clear hx hac ha0 hlk
      by_cases hlt2 : (k : Int) < n
      · go_wp2
        go_roundw
        case rel =>
          refine ⟨k + 1, by go_num, by omega, ?_, hbel⟩
          rw [hst.out, List.drop_of_length_le (by rw [List.length_append, HL.out]; simp; omega)]
          rw [List.drop_of_length_le (by rw [HL.out]; omega)] at hown
          exact hown
        case measure => simp [intOf]; omega
      · go_wp2_with (at_builtin; refine wpList_push rfl (.tmp 16) (.tmp 21) rfl w.heap.size _ _ _ rfl hown rfl (by omega) hs ?_; intro v' w3 hown3 hg3)
        go_roundw
        case rel => exact ⟨k + 1, by go_num, by omega, by rw [hst.out, List.drop_append_of_le_length (by rw [HL.out]; omega)]; exact hown3, hbel.grown hg3 hs hn⟩
        case measure => simp [intOf]; omega
    · have hk' : xs.take k = xs := List.take_of_length_le (by rw [hxl.out]; omega)
      rw [hk'] at hown
      clear hk'
      go_wp2
      go_ret
      exact ⟨_, rfl, hown, hbel⟩

set_option maxHeartbeats 400000 in
theorem refReverse_any (a : Option Addr) (l c : Nat) (xs : List Int) (w : World) (hA : Sl w a l c xs) (hl : l ≤ 1000) :
    Calls Try.prog 23 #[.slice a l c] w (Gives xs.reverse w) := by
  obtain ⟨b1, o1, ha0, hac⟩ := hA.cell
  have hxl := Lib.hid hA.hlen
  clear hA
  go_enter Try.func23, Try.ntmps23
  go_wp2
  go_loopw [3, 4] (fun v i wr => ∃ k : Nat, i = .int .i64 ((l : Int) - 1 - k) ∧ RefRel (xs.reverse.take k) w k l v wr) (fun _ i _ => (intOf i + 1).toNat)
  case atStart => exact ⟨0, by go_num, by omega, Own.nil _ _, Below.refl _ _⟩
  case round =>
    obtain ⟨k, rfl, hk, hown, hbel⟩ := hrel
    by_cases hlt : k < l
    · obtain ⟨rfl, hb1⟩ := ha0 (by omega)
      obtain ⟨j, hj⟩ : ∃ j : Nat, l = j + 1 + k := ⟨l - 1 - k, by omega⟩
      have hjl := Lib.hid hj
      have hj2 : (l : Int) - 1 - k = (j : Int) := by omega
      have c1 : wr.cell? ⟨b1, o1 + j, none⟩ = some (.int .i64 (xs.getD j 0)) := (hbel.cell hb1).trans (hac j (by omega))
      have hx : xs.reverse.getD k 0 = xs.getD j 0 := by
        have h1 : j < xs.length := by rw [hxl.out]; omega
        have h2 : k < xs.length := by rw [hxl.out]; omega
        simp only [List.getD, List.getElem?_reverse h2]
        congr 2
        rw [hxl.out]; omega
      generalize xs.getD j 0 = x at c1 hx
      have hst := Lib.hid (take_snoc xs.reverse k x (by rw [List.length_reverse, hxl.out]; exact hlt) hx)
      have hpl : (xs.reverse.take k).length ≤ 1000 := by
        have := List.length_take_le k xs.reverse
        omega
      have hs := hbel.size
      have hn : ∀ k, u3.ownBlock = some k → w.heap.size ≤ k := fun k hk => (hown.lt k hk).1
      rw [hj2]
      clear hx hac ha0 hj hj2
      have hjlt : j < l := by have := hjl.out; omega
      go_wp2_with (at_builtin; refine wpList_push rfl (.tmp 12) (.tmp 17) rfl w.heap.size _ _ _ rfl hown rfl (by omega) hs ?_; intro v' w3 hown3 hg3)
      go_roundw
      case rel => exact ⟨k + 1, by have := hjl.out; congr 1; omega, by omega, by rw [hst.out]; exact hown3, hbel.grown hg3 hs hn⟩
      case measure => simp [intOf]
    · have hk' := Lib.hid (show k = l by omega)
      have e : (l : Int) - 1 - k = -1 := by omega
      rw [e]
      clear e
      go_wp2
      go_ret
      rw [hk'.out, List.take_of_length_le (by rw [List.length_reverse, hxl.out]; exact Nat.le_refl _)] at hown
      exact ⟨_, rfl, hown, hbel⟩
end Go.Proofs.Ytecjnenjjedceaa
