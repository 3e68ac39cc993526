import Derived.Test.YtakbmmmoalfedaaBase
namespace Go.Proofs.Ytakbmmmoalfedaa
open Go.RowKit
set_option linter.unusedVariables false

set_option maxHeartbeats 400000 in
theorem same_eq (a b : Option Addr) (l ca cb : Nat) (xs ys : List Int) (w : World) (hA : Sl w a l ca xs) (hB : Sl w b l cb ys) :
    Calls Try.prog 33 #[.slice a l ca, .slice b l cb] w fun e w' => e = .returned (.bool (decide (xs = ys))) ∧ Below w.heap.size w w' := by
  have hxl := hA.hlen
  have hyl := hB.hlen
  have hm1 := hA.hcap
  have hm2 := hA.hmax
  unfold maxLen at hm2
  obtain ⟨b1, o1, ha0, hac⟩ := hA.cell
  obtain ⟨b2, o2, hb0, hbc⟩ := hB.cell
  clear hA hB
  have HX := Lib.hid hxl
  have HY := Lib.hid hyl
  clear hxl hyl
  go_enter Try.func33, Try.ntmps33
  go_wp2
  go_loopw [5] (fun i wr => ∃ k : Nat, k ≤ l ∧ i = .int .i64 k ∧ Below w.heap.size w wr ∧ ∀ j, j < k → xs.getD j 0 = ys.getD j 0) (fun i _ => l - (intOf i).toNat)
  case atStart => exact ⟨0, by omega, rfl, Below.refl _ _, fun j hj => by omega⟩
  case round =>
    obtain ⟨k, hk, rfl, hbel, heq⟩ := hrel
    by_cases hlt : k < l
    · obtain ⟨rfl, hb1⟩ := ha0 (by omega)
      obtain ⟨rfl, hb2⟩ := hb0 (by omega)
      have c1 : wr.cell? ⟨b1, o1 + k, none⟩ = some (.int .i64 (xs.getD k 0)) := (hbel.cell hb1).trans (hac k hlt)
      have c2 : wr.cell? ⟨b2, o2 + k, none⟩ = some (.int .i64 (ys.getD k 0)) := (hbel.cell hb2).trans (hbc k hlt)
      clear hac hbc ha0 hb0
      generalize hx : xs.getD k 0 = x at c1
      generalize hy : ys.getD k 0 = y at c2
      have HX1 := Lib.hid hx
      have HY1 := Lib.hid hy
      have HQ := Lib.hid heq
      clear hx hy heq
      by_cases hxy : x = y
      · subst hxy
        go_wp2
        go_quiet (fail)
        go_wp2
        refine ⟨⟨k + 1, by omega, by go_num, below_drewN hbel _, fun j hj => ?_⟩, by simp [intOf]; omega⟩
        by_cases e : j = k
        · subst e; rw [HX1.out, HY1.out]
        · exact HQ.out j (by omega)
      · have hxy' : (x != y) = true := by simpa using hxy
        go_wp2
        go_quiet (fail)
        go_wp2
        go_ret
        refine ⟨?_, below_drewN hbel _⟩
        have : xs ≠ ys := fun e => hxy (by rw [← HX1.out, ← HY1.out, e])
        simp [this]
    · have hk' : k = l := by omega
      have HQ := Lib.hid heq
      clear heq
      go_wp2
      go_ret
      refine ⟨?_, hbel⟩
      have : xs = ys := by
        apply List.ext_getElem (by rw [HX.out, HY.out])
        intro i h1 h2
        have := HQ.out i (by rw [hk', ← HX.out]; exact h1)
        simpa [h1, h2] using this
      simp [this]

theorem same_any (a b : Option Addr) (la lb ca cb : Nat) (xs ys : List Int) (w : World) (hA : Sl w a la ca xs) (hB : Sl w b lb cb ys) :
    Calls Try.prog 33 #[.slice a la ca, .slice b lb cb] w fun e w' => e = .returned (.bool (decide (xs = ys))) ∧ Below w.heap.size w w' := by
  by_cases hl : la = lb
  · subst hl
    exact same_eq a b la ca cb xs ys w hA hB
  · have hne : ((la : Int) != (lb : Int)) = true := by simp; omega
    have hd : decide (xs = ys) = false := by
      simp only [decide_eq_false_iff_not]
      exact fun e => hl (by rw [← hA.hlen, ← hB.hlen, e])
    rw [hd]
    clear hd hA hB
    go_enter Try.func33, Try.ntmps33
    go_wp2
    go_ret
    exact ⟨rfl, Below.refl _ _⟩
end Go.Proofs.Ytakbmmmoalfedaa
