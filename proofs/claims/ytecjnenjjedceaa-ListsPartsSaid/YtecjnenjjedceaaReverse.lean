/- lists.Reverse. -/
import Derived.Test.YtecjnenjjedceaaTakes
namespace Go.Proofs.Ytecjnenjjedceaa
open Go.RowKit
set_option linter.unusedVariables false

/-- the list after k exchanges of the ends -/
def sw (xs : List Int) : Nat → List Int
  | 0 => xs
  | k + 1 => ((sw xs k).set k ((sw xs k).getD (xs.length - 1 - k) 0)).set (xs.length - 1 - k) ((sw xs k).getD k 0)

theorem sw_length (xs : List Int) : ∀ k, (sw xs k).length = xs.length
  | 0 => rfl
  | k + 1 => by simp [sw, sw_length xs k]

theorem getD_set (zs : List Int) (i j : Nat) (u : Int) (hi : i < zs.length) : (zs.set i u).getD j 0 = if j = i then u else zs.getD j 0 := by
  simp only [List.getD, List.getElem?_set]
  by_cases h : i = j
  · simp [h, show j < zs.length by omega]
  · rw [if_neg h, if_neg (fun e => h e.symm)]

theorem sw_getD (xs : List Int) : ∀ k, 2 * k ≤ xs.length → ∀ j, j < xs.length → (sw xs k).getD j 0 = if j < k ∨ xs.length - 1 - k < j ∧ 0 < k then xs.getD (xs.length - 1 - j) 0 else xs.getD j 0
  | 0, _, j, hj => by simp [sw]
  | k + 1, hk, j, hj => by
    have ih := sw_getD xs k (by omega)
    simp only [sw]
    have hA : (sw xs k).getD k 0 = xs.getD k 0 := by rw [ih k (by omega), if_neg (by omega)]
    have hB : (sw xs k).getD (xs.length - 1 - k) 0 = xs.getD (xs.length - 1 - k) 0 := by rw [ih _ (by omega), if_neg (by omega)]
    rw [getD_set _ _ _ _ (by rw [List.length_set, sw_length]; omega), getD_set _ _ _ _ (by rw [sw_length]; omega), hA, hB, ih j hj]
    by_cases h1 : j = xs.length - 1 - k
    · rw [if_pos h1, if_pos (by omega), h1]; congr 1; omega
    · rw [if_neg h1]
      by_cases h2 : j = k
      · rw [if_pos h2, if_pos (by omega), h2]
      · rw [if_neg h2]
        by_cases h3 : j < k ∨ xs.length - 1 - k < j ∧ 0 < k
        · rw [if_pos h3, if_pos (by omega)]
        · rw [if_neg h3, if_neg (by omega)]

theorem sw_end (xs : List Int) (k : Nat) (h1 : 2 * k ≤ xs.length) (h2 : xs.length ≤ 2 * k + 1) : sw xs k = xs.reverse := by
  apply List.ext_getElem (by rw [sw_length, List.length_reverse])
  intro j hj hj2
  have hj' : j < xs.length := by rwa [sw_length] at hj
  have h := sw_getD xs k h1 j hj'
  have e1 : (sw xs k)[j] = (sw xs k).getD j 0 := by simp [List.getD, hj]
  have e2 : xs.reverse[j] = xs.getD (xs.length - 1 - j) 0 := by
    have : xs.length - 1 - j < xs.length := by omega
    simp [List.getElem_reverse, List.getD, this]
  rw [e1, e2, h]
  by_cases h3 : j < k ∨ xs.length - 1 - k < j ∧ 0 < k
  · rw [if_pos h3]
  · rw [if_neg h3]; congr 1; omega

theorem Own.stored {w : World} {base g n cap : Nat} {zs : List Int} (h : Own w base (.slice (some ⟨g, 0, none⟩) n cap) zs) (j : Nat) (u : Int) :
    Own (w.setCell ⟨g, j, none⟩ (.int .i64 u)) base (.slice (some ⟨g, 0, none⟩) n cap) (zs.set j u) := by
  have hn : n = zs.length := by
    rcases h.2 with ⟨h', _⟩ | ⟨g', cap', cur, h', _⟩
    · cases h'
    · cases h'; rfl
  subst hn
  have := (World.ownsRow.stored h j (.int .i64 u)).1
  unfold Own
  rw [List.length_set, List.map_set]
  exact this

theorem Own.at {w : World} {base : Nat} {v : Value} {zs : List Int} (h : Own w base v zs) (h0 : 0 < zs.length) :
    ∃ g cap, v = .slice (some ⟨g, 0, none⟩) zs.length cap ∧ base ≤ g ∧ g < w.heap.size := by
  rcases h.2 with ⟨_, h'⟩ | ⟨g', cap', cur, h', hb, hg, _⟩
  · omega
  · exact ⟨g', cap', h', hb, (Array.getElem?_eq_some_iff.1 hg).1⟩

theorem Own.cell {w : World} {base g n cap : Nat} {zs : List Int} (h : Own w base (.slice (some ⟨g, 0, none⟩) n cap) zs) (j : Nat) (hj : j < zs.length) :
    w.cell? ⟨g, j, none⟩ = some (.int .i64 (zs.getD j 0)) ∧ w.frozen? ⟨g, j, none⟩ = false := by
  have hn : n = zs.length := by
    rcases h.2 with ⟨h', _⟩ | ⟨g', cap', cur, h', _⟩
    · cases h'
    · cases h'; rfl
  subst hn
  refine ⟨?_, World.ownsRow.frozenAt h j⟩
  rw [World.ownsRow.cellAt h j (by omega)]
  simp [hj]

set_option maxHeartbeats 800000 in
theorem reverse_any (a : Option Addr) (l c : Nat) (xs : List Int) (w : World) (hA : Sl w a l c xs) (hl : l ≤ 1000) :
    Calls Try.prog 22 #[.slice a l c] w (Gives xs.reverse w) := by
  have hcall := Lib.hid (copied_any a l c xs w hA hl)
  have hxl := Lib.hid hA.hlen
  by_cases h0 : l = 0
  · have hz : xs = [] := List.eq_nil_of_length_eq_zero (by rw [hxl.out]; exact h0)
    subst hz
    clear hA hxl h0
    go_enter Try.func22, Try.ntmps22
    go_wp2_with fail
    refine hcall.out.mono ?_
    rintro e w1 ⟨v, rfl, hown, hb⟩
    obtain ⟨a1, cap, rfl, _⟩ := hown.sl
    go_wp2
    go_loopw [4, 5] (fun i j wr => i = .int .i64 0 ∧ j = .int .i64 (-1) ∧ wr = w1) (fun i _ _ => 0)
    case atStart => exact ⟨rfl, rfl, rfl⟩
    case round =>
      obtain ⟨rfl, rfl, rfl⟩ := hrel
      go_wp2
      go_ret
      exact ⟨_, rfl, hown, hb⟩
  · clear hA
    go_enter Try.func22, Try.ntmps22
    go_wp2_with fail
    refine hcall.out.mono ?_
    rintro e w1 ⟨v, rfl, hown, hb⟩
    obtain ⟨g, cap, rfl, hg, hgs⟩ := hown.at (by rw [hxl.out]; omega)
    rw [hxl.out]
    have HO := Lib.hid hown
    clear hown
    go_wp2
    go_loopw [4, 5] (fun i j wr => ∃ k : Nat, i = .int .i64 k ∧ j = .int .i64 ((l : Int) - 1 - k) ∧ 2 * k ≤ l ∧ Hid (Own wr w.heap.size (.slice (some ⟨g, 0, none⟩) l cap) (sw xs k)) ∧ Below w.heap.size w wr) (fun i _ _ => l - (intOf i).toNat)
    case atStart => exact ⟨0, rfl, by go_num, by omega, (by have := HO.out; rwa [hxl.out] at this), hb⟩
    case round =>
      obtain ⟨k, rfl, rfl, hk, hown, hbel⟩ := hrel
      by_cases hlt : 2 * k + 1 < l
      · obtain ⟨j, hj⟩ : ∃ j : Nat, l = j + 1 + k := ⟨l - 1 - k, by omega⟩
        have hjl := Lib.hid hj
        have hj2 : (l : Int) - 1 - k = (j : Int) := by omega
        have hkj : k < j := by omega
        rw [hj2]
        obtain ⟨c1, f1⟩ := hown.out.cell k (by rw [sw_length, hxl.out]; omega)
        obtain ⟨c2, f2⟩ := hown.out.cell j (by rw [sw_length, hxl.out]; omega)
        clear hj hj2 hk hlt
        generalize hx : (sw xs k).getD k 0 = x at c1
        generalize hy : (sw xs k).getD j 0 = y at c2
        have HX := Lib.hid hx
        have HY := Lib.hid hy
        clear hx hy
        have hjlt : j < l := by have := hjl.out; omega
        go_wp2
        go_region
        go_wp2
        have e : sw xs (k + 1) = ((sw xs k).set k y).set j x := by
          have e1 : xs.length - 1 - k = j := by rw [hxl.out]; have := hjl.out; omega
          rw [sw, e1, HX.out, HY.out]
        refine ⟨⟨k + 1, rfl, by have := hjl.out; congr 1; omega, by have := hjl.out; omega, ?_, ((hbel.setCell hg _).setCell hg _).drew⟩, by simp [intOf]; omega⟩
        show Own _ _ _ _
        rw [e]
        exact World.ownsRow.drew ((hown.out.stored k y).stored j x)
      · have e := Lib.hid (sw_end xs k (by rw [hxl.out]; exact hk) (by rw [hxl.out]; omega))
        clear hk
        have hge : ¬ ((k : Int) < (l : Int) - 1 - k) := by omega
        clear hlt
        go_wp2
        go_ret
        have := hown.out
        rw [e.out] at this
        exact ⟨_, rfl, this, hbel⟩
end Go.Proofs.Ytecjnenjjedceaa
