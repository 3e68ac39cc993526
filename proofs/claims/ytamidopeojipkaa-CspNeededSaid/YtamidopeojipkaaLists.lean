/- Lists of the reference. -/
import Derived.Test.YtamidopeojipkaaFew
import Derived.Deep.RegionHeld3
namespace Go.Proofs.Ytamidopeojipkaa
open Go.RowKit
set_option linter.unusedVariables false

set_option maxHeartbeats 800000 in
theorem lists_any {w : World} {P Q : Nat → Prop} {v1 v2 : Value} {xs ys : List (List Int)} (h1 : ListsAt w P v1 xs) (h2 : ListsAt w Q v2 ys) (hP : Under P w.heap.size) (hQ : Under Q w.heap.size) :
    Calls Try.prog 23 #[v1, v2] w (OneB (decide (xs = ys)) w) := by
  obtain ⟨a1, c1, b1, o1, vs1, rfl, hr1, hs1⟩ := h1
  obtain ⟨a2, c2, b2, o2, vs2, rfl, hr2, hs2⟩ := h2
  obtain ⟨D, hD⟩ : ∃ D, decide (xs = ys) = D := ⟨_, rfl⟩
  rw [hD]
  have HD := Lib.hid hD
  have hc1 := hr1.hcap
  have hc2 := hr2.hcap
  have hm1 : c1 ≤ 9223372036854775807 := by have := hr1.hmax; unfold maxLen at this; omega
  have hm2 : c2 ≤ 9223372036854775807 := by have := hr2.hmax; unfold maxLen at this; omega
  have H1 := Lib.hid hr1
  have H2 := Lib.hid hr2
  have HS1 := Lib.hid hs1
  have HS2 := Lib.hid hs2
  have HP := Lib.hid hP
  have HQ := Lib.hid hQ
  obtain ⟨l1, hl1⟩ : ∃ l1, xs.length = l1 := ⟨_, rfl⟩
  obtain ⟨l2, hl2⟩ : ∃ l2, ys.length = l2 := ⟨_, rfl⟩
  rw [hl1] at hc1 H1 HS1 ⊢
  rw [hl2] at hc2 H2 HS2 ⊢
  have HL1 := Lib.hid hl1
  have HL2 := Lib.hid hl2
  clear hr1 hr2 hs1 hs2 hD hP hQ hl1 hl2
  by_cases hne : l1 = l2
  · subst hne
    go_enter Try.func23, Try.ntmps23
    go_wp2
    go_loopw [13] (fun i wr => ∃ k : Nat, k ≤ l1 ∧ i = .int .i64 k ∧ Below w.heap.size w wr ∧ ∀ j, j < k → xs.getD j [] = ys.getD j []) (fun i _ => l1 - (intOf i).toNat)
    case atStart => exact ⟨0, by omega, rfl, Below.refl _ _, fun j hj => by omega⟩
    case round =>
      obtain ⟨k, hk, rfl, hbel, hall⟩ := hrel
      have HALL := Lib.hid hall
      have HBEL := Lib.hid hbel
      clear hall
      by_cases hlt : k < l1
      · obtain ⟨rfl, hp1⟩ := H1.out.ha (by omega)
        obtain ⟨rfl, hp2⟩ := H2.out.ha (by omega)
        have d1 := (H1.out.kept (Below.keptB hbel HP.out)).hc k (by omega)
        have d2 := (H2.out.kept (Below.keptB hbel HQ.out)).hc k (by omega)
        have e1 := (HS1.out k hlt).kept (Below.keptB hbel HP.out)
        have e2 := (HS2.out k hlt).kept (Below.keptB hbel HQ.out)
        have hcall := ints_any (w := wr.drew) (P := P) (Q := Q) (e1.kept fun _ _ => rfl) (e2.kept fun _ _ => rfl) (HP.out.le hbel.size) (HQ.out.le hbel.size)
        have HC := Lib.hid hcall
        obtain ⟨x1, y1, z1, hv1⟩ := e1.slice
        obtain ⟨x2, y2, z2, hv2⟩ := e2.slice
        rw [hv1] at d1 HC
        rw [hv2] at d2 HC
        have hb1 : b1 < wr.heap.size := HP.out.le hbel.size b1 hp1
        have hb2 : b2 < wr.heap.size := HQ.out.le hbel.size b2 hp2
        clear hcall e1 e2 hv1 hv2 hbel
        by_cases heq : xs.getD k [] = ys.getD k []
        · have hstep : ∀ j, j < k + 1 → xs.getD j [] = ys.getD j [] := fun j hj => by
            by_cases e : j = k
            · subst e; exact heq
            · exact HALL.out j (by omega)
          have HST := Lib.hid hstep
          rw [decide_eq_true heq] at HC
          clear hstep heq
          go_wp2
          go_region_held3 (fun w' => w'.cell? ⟨b1, o1 + k, none⟩ = some (.slice x1 y1 z1) ∧ w'.cell? ⟨b2, o2 + k, none⟩ = some (.slice x2 y2 z2))
            (first | exact ⟨d1, d2⟩ | exact ⟨f1, f2⟩)
            (first | (go_at_call 20; refine HC.out.mono ?_; rintro e w3 ⟨rfl, hb3⟩; have f1 := (hb3.cell (p := ⟨b1, o1 + k, none⟩) hb1).trans d1; have f2 := (hb3.cell (p := ⟨b2, o2 + k, none⟩) hb2).trans d2))
          have HF := Lib.hid (Below.next HBEL.out (Below.next (Below.refl _ _).drew hb3))
          clear hb3 f1 f2 d1 d2
          go_wp2
          go_roundw
          case rel => exact ⟨k + 1, by omega, by go_num, HF.out, HST.out⟩
          case measure => simp [intOf]; omega
        · have hf : D = false := by
            rw [← HD.out]
            exact decide_eq_false fun e => heq (by rw [e])
          subst hf
          rw [decide_eq_false heq] at HC
          clear heq
          go_wp2
          go_region_held3 (fun w' => w'.cell? ⟨b1, o1 + k, none⟩ = some (.slice x1 y1 z1) ∧ w'.cell? ⟨b2, o2 + k, none⟩ = some (.slice x2 y2 z2))
            (first | exact ⟨d1, d2⟩ | exact ⟨f1, f2⟩)
            (first | (go_at_call 20; refine HC.out.mono ?_; rintro e w3 ⟨rfl, hb3⟩; have f1 := (hb3.cell (p := ⟨b1, o1 + k, none⟩) hb1).trans d1; have f2 := (hb3.cell (p := ⟨b2, o2 + k, none⟩) hb2).trans d2))
          have HF := Lib.hid (Below.next HBEL.out (Below.next (Below.refl _ _).drew hb3))
          clear hb3 f1 f2 d1 d2
          go_wp2
          go_ret
          exact ⟨rfl, HF.out⟩
      · have ht : D = true := by
          rw [← HD.out]
          refine decide_eq_true (List.ext_getElem (by rw [HL1.out, HL2.out]) fun j h1 h2 => ?_)
          have := HALL.out j (by have := HL1.out; omega)
          simpa [List.getD, h1, h2] using this
        subst ht
        clear hbel
        have hkl : ¬ (k : Int) < l1 := by omega
        go_wp2
        go_ret
        exact ⟨rfl, HBEL.out⟩
  · have hf : D = false := by
      rw [← HD.out]
      exact decide_eq_false fun e => hne (by rw [← HL1.out, ← HL2.out, e])
    subst hf
    have hne2 : ¬ ((l1 : Int) = l2) := by omega
    go_enter Try.func23, Try.ntmps23
    go_wp2
    go_ret
    exact ⟨rfl, Below.refl _ _⟩
end Go.Proofs.Ytamidopeojipkaa
