/- Small: the walk. -/
import Derived.Test.YtamidopeojipkaaCheckS
import Derived.Deep.LoopGhost
namespace Go.Proofs.Ytamidopeojipkaa
open Go.RowKit
set_option linter.unusedVariables false

/-- a call that hands back some flag -/
def SomeB (w : World) (e : Ending) (w' : World) : Prop := ∃ b, e = .returned (.bool b) ∧ Below w.heap.size w w'

set_option maxRecDepth 20000 in
set_option maxHeartbeats 1600000 in
theorem small_any {w : World} {P : Nat → Prop} {sv rv : Value} {p : Prob} (hs : IntsAt w P sv p.sizes) (hr : RelsAt w P rv p.rels) (hP : Under P w.heap.size) :
    Calls Try.prog 10 #[.agg #[sv, rv]] w (SomeB w) := by
  have hbel := (Below.refl _ w).alloc (Nat.le_refl _) (.cells #[sv, rv] 25)
  have hass : ∀ w1, Below w.heap.size w w1 → Calls Try.prog 29 #[.agg #[sv, rv]] w1 (OneI (assW 1 p.sizes) w1) := fun w1 hb => assign_any (hs.kept (Below.keptB hb hP)) (hP.le hb.size) hr.slice
  have hchk : ∀ w1, Below w.heap.size w w1 → Calls Try.prog 13 #[.agg #[sv, rv]] w1 (OneI (checkE p) w1) := fun w1 hb => checkR_any (hs.kept (Below.keptB hb hP)) (hr.kept (Below.keptB hb hP)) (hP.le hb.size)
  have HASS := Lib.hid hass
  have HCHK := Lib.hid hchk
  have HR0 : Hid ((w.alloc (.cells #[sv, rv] 25)).heap[w.heap.size]? = some (.cells #[sv, rv] 25 (0, 0))) := Lib.hid (heap_alloc_new _ _)
  obtain ⟨sa, sc, sb, so, rfl, hsr⟩ := hs
  obtain ⟨ra, rc, rb, ro, rvs, rfl, hrr, hrs⟩ := hr
  have HRR := Lib.hid hrr
  have HRS := Lib.hid hrs
  have HP := Lib.hid hP
  have hsc := hsr.hcap
  have hsm : sc ≤ 9223372036854775807 := by have := hsr.hmax; unfold maxLen at this; omega
  have hrc := hrr.hcap
  have hrm : rc ≤ 9223372036854775807 := by have := hrr.hmax; unfold maxLen at this; omega
  have hbx : PxAt w (.slice sa p.sizes.length sc) (.slice ra p.rels.length rc) (w.alloc (.cells #[.slice sa p.sizes.length sc, .slice ra p.rels.length rc] 25)) := ⟨hbel, HR0.out⟩
  have HBX := Lib.hid hbx
  obtain ⟨ls, hls⟩ : ∃ ls, p.sizes.length = ls := ⟨_, rfl⟩
  obtain ⟨lr, hlr⟩ : ∃ lr, p.rels.length = lr := ⟨_, rfl⟩
  rw [hls] at HASS HCHK HBX hsc ⊢
  rw [hlr] at HASS HCHK HBX HRR HRS hrc ⊢
  generalize assW 1 p.sizes = A at *
  generalize checkE p = E at *
  clear hP hbel hass hchk hsr hrr hrs hbx hls hlr HR0
  by_cases h20 : 20 < ls
  · have h20i : (20 : Int) < ls := by omega
    go_enter Try.func10, Try.ntmps10
    go_wp2
    go_ret
    exact ⟨_, rfl, HBX.out.bel⟩
  · have h20i : ¬ (20 : Int) < ls := by omega
    by_cases h16 : 16 < lr
    · have h16i : (16 : Int) < lr := by omega
      go_enter Try.func10, Try.ntmps10
      go_wp2
      go_ret
      exact ⟨_, rfl, HBX.out.bel⟩
    · have h16i : ¬ (16 : Int) < lr := by omega
      go_enter Try.func10, Try.ntmps10
      go_wp2
      generalize w.alloc (.cells #[.slice sa ls sc, .slice ra lr rc] 25) = W at *
      go_loopg [21] lr (fun g21 i wr => ∃ q : Nat, q + g21 = lr ∧ i = .int .i64 q ∧ PxAt w (.slice sa ls sc) (.slice ra lr rc) wr)
      case atStart => exact ⟨0, by omega, rfl, HBX.out⟩
      case round =>
        obtain ⟨q, hq, rfl, hbx⟩ := hrel
        have HB := Lib.hid hbx
        have c0 := hbx.s
        have c1 := hbx.r
        cases gk with
        | zero =>
          have hkl : ¬ (q : Int) < lr := by omega
          clear hbx
          by_cases hE : E = 0
          · subst hE
            by_cases h400 : A ≤ 400
            · go_wp2_with (first
                | (go_at_call 29; refine (HASS.out _ HB.out.bel).mono ?_; rintro e w3 ⟨rfl, hb3⟩; have HB3 := Lib.hid (HB.out.next hb3); have d0 := HB3.out.s; have d1 := HB3.out.r; clear hb3)
                | (go_at_call 13; refine (HCHK.out _ HB3.out.bel).mono ?_; rintro e w4 ⟨rfl, hb4⟩; have HB4 := Lib.hid (HB3.out.next hb4); clear hb4))
              go_ret
              exact ⟨_, rfl, HB4.out.bel⟩
            · go_wp2_with (first
                | (go_at_call 29; refine (HASS.out _ HB.out.bel).mono ?_; rintro e w3 ⟨rfl, hb3⟩; have HB3 := Lib.hid (HB.out.next hb3); have d0 := HB3.out.s; have d1 := HB3.out.r; clear hb3)
                | (go_at_call 13; refine (HCHK.out _ HB3.out.bel).mono ?_; rintro e w4 ⟨rfl, hb4⟩; have HB4 := Lib.hid (HB3.out.next hb4); clear hb4))
              go_ret
              exact ⟨_, rfl, HB4.out.bel⟩
          · go_wp2_with (first
              | (go_at_call 29; refine (HASS.out _ HB.out.bel).mono ?_; rintro e w3 ⟨rfl, hb3⟩; have HB3 := Lib.hid (HB.out.next hb3); have d0 := HB3.out.s; have d1 := HB3.out.r; clear hb3)
              | (go_at_call 13; refine (HCHK.out _ HB3.out.bel).mono ?_; rintro e w4 ⟨rfl, hb4⟩; have HB4 := Lib.hid (HB3.out.next hb4); clear hb4))
            go_ret
            exact ⟨_, rfl, HB4.out.bel⟩
        | succ gk2 =>
          have hql : q < lr := by omega
          obtain ⟨rfl, hpr⟩ := HRR.out.ha (by omega)
          have hk' := Below.keptB hbx.bel HP.out
          have d0 := (HRR.out.kept hk').hc (q * 2) (by omega)
          have d1 : wr.cell? ⟨rb, ro + q * 2 + 1, none⟩ = some (rvs (q * 2 + 1)) := (HRR.out.kept hk').hc (q * 2 + 1) (by omega)
          obtain ⟨f1, f2⟩ := HRS.out q hql
          obtain ⟨va, vcap, vb, vo, hvv, hvr⟩ := f1
          obtain ⟨aa, acap, ab, ao, avs, hav, har, has⟩ := f2
          have HA := Lib.hid har
          have HAS := Lib.hid has
          have hvc := hvr.hcap
          have hac := har.hcap
          have hvm : vcap ≤ 9223372036854775807 := by have := hvr.hmax; unfold maxLen at this; omega
          have ham : acap ≤ 9223372036854775807 := by have := har.hmax; unfold maxLen at this; omega
          rw [hvv] at d0
          rw [hav] at d1
          obtain ⟨kv, hkv⟩ : ∃ kv, (p.rels.getD q default).vars.length = kv := ⟨_, rfl⟩
          obtain ⟨ka, hka⟩ : ∃ ka, (p.rels.getD q default).allowed.length = ka := ⟨_, rfl⟩
          rw [hkv] at d0 hvc
          rw [hka] at d1 HA HAS hac
          have hbl := (Below.refl wr.heap.size wr).alloc (Nat.le_refl _) (.cells #[.slice va kv vcap, .slice aa ka acap] 46)
          have HB2 := Lib.hid (hbx.next hbl)
          clear hbx hk' hvr har has hkv hka hvv hav hbl
          by_cases h5 : 5 < kv
          · have h5i : (5 : Int) < kv := by omega
            go_wp2
            go_ret
            exact ⟨_, rfl, HB2.out.bel⟩
          · have h5i : ¬ (5 : Int) < kv := by omega
            by_cases h40 : 40 < ka
            · have h40i : (40 : Int) < ka := by omega
              go_wp2
              go_ret
              exact ⟨_, rfl, HB2.out.bel⟩
            · have h40i : ¬ (40 : Int) < ka := by omega
              generalize wr = W1 at *
              go_wp2
              clear d0 d1
              generalize W1.alloc (.cells #[.slice va kv vcap, .slice aa ka acap] 46) = W2 at *
              go_loopg [38] ka (fun g38 i wr => ∃ J : Nat, J + g38 = ka ∧ i = .int .i64 J ∧ PxAt w (.slice sa ls sc) (.slice (some ⟨rb, ro, none⟩) lr rc) wr)
              case atStart => exact ⟨0, by omega, rfl, HB2.out⟩
              case round =>
                obtain ⟨J, hJ, rfl, hbx⟩ := hrel
                have HB3 := Lib.hid hbx
                cases gk with
                | zero =>
                  have hkl : ¬ (J : Int) < ka := by omega
                  clear hbx
                  go_wp2
                  go_roundg gk2
                  case measure => omega
                  case rel => exact ⟨q + 1, by omega, by go_num, HB3.out⟩
                | succ gk3 =>
                  have hJl : J < ka := by omega
                  obtain ⟨rfl, hpa⟩ := HA.out.ha (by omega)
                  have d1 := (HA.out.kept (Below.keptB hbx.bel HP.out)).hc J (by omega)
                  obtain ⟨ta, tc, tb, to, htv, htr⟩ := HAS.out J hJl
                  have htc := htr.hcap
                  have htm : tc ≤ 9223372036854775807 := by have := htr.hmax; unfold maxLen at this; omega
                  rw [htv] at d1
                  generalize ((p.rels.getD q default).allowed.getD J []).length = tl at *
                  clear hbx htv htr
                  by_cases h6 : 6 < tl
                  · have h6i : (6 : Int) < tl := by omega
                    go_wp2
                    go_ret
                    exact ⟨_, rfl, HB3.out.bel⟩
                  · have h6i : ¬ (6 : Int) < tl := by omega
                    go_wp2
                    go_roundg gk3
                    case measure => omega
                    case rel => exact ⟨J + 1, by omega, by go_num, HB3.out⟩
end Go.Proofs.Ytamidopeojipkaa
