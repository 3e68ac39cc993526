/- Check of the program: the walk. -/
import Derived.Test.YtamidopeojipkaaCheckR
namespace Go.Proofs.Ytamidopeojipkaa
open Go.RowKit
set_option linter.unusedVariables false

set_option maxRecDepth 20000 in
set_option maxHeartbeats 1600000 in
theorem checkP_any {w : World} {P : Nat → Prop} {sv rv : Value} {p : Prob} (hs : IntsAt w P sv p.sizes) (hr : RelsAt w P rv p.rels) (hP : Under P w.heap.size) :
    Calls Try.prog 12 #[.agg #[sv, rv]] w (OneI (checkE p) w) := by
  obtain ⟨R, hR⟩ : ∃ R, checkE p = R := ⟨_, rfl⟩
  rw [hR]
  unfold checkE at hR
  have HR := Lib.hid hR
  have HSI := Lib.hid hs
  obtain ⟨sa, scap, sb, so, rfl, hsr⟩ := hs
  obtain ⟨ra, rcap, rb, ro, rvs, rfl, hrr, hrs⟩ := hr
  have HS := Lib.hid hsr
  have HRR := Lib.hid hrr
  have HRS := Lib.hid hrs
  have HP := Lib.hid hP
  have hsc := hsr.hcap
  have hrc := hrr.hcap
  have hsm1 : scap ≤ 9223372036854775807 := by have := hsr.hmax; unfold maxLen at this; omega
  have hrm1 : rcap ≤ 9223372036854775807 := by have := hrr.hmax; unfold maxLen at this; omega
  have hbx : PxAt w (.slice sa p.sizes.length scap) (.slice ra p.rels.length rcap) (w.alloc (.cells #[.slice sa p.sizes.length scap, .slice ra p.rels.length rcap] 25)) := ⟨(Below.refl _ _).alloc (Nat.le_refl _) _, heap_alloc_new _ _⟩
  have HBX := Lib.hid hbx
  obtain ⟨ls, hls⟩ : ∃ ls, p.sizes.length = ls := ⟨_, rfl⟩
  obtain ⟨lr, hlr⟩ : ∃ lr, p.rels.length = lr := ⟨_, rfl⟩
  rw [hls] at HS HSI HR HBX hsc ⊢
  rw [hlr] at HRR HRS HR HBX hrc ⊢
  have HLS := Lib.hid hls
  have HLR := Lib.hid hlr
  clear hR hsr hrr hrs hP hbx hls hlr
  by_cases hlen : 16 < ls
  · have hr := HR.out
    rw [if_pos hlen] at hr
    subst hr
    have hl2 : (16 : Int) < ls := by omega
    go_enter Try.func12, Try.ntmps12
    go_wp2
    go_ret
    exact ⟨rfl, HBX.out.bel⟩
  · have hr := HR.out
    rw [if_neg hlen] at hr
    have HR1 := Lib.hid hr
    clear hr
    have hl2 : ¬ (16 : Int) < ls := by omega
    go_enter Try.func12, Try.ntmps12
    go_wp2
    generalize w.alloc (.cells #[.slice sa ls scap, .slice ra lr rcap] 25) = W at *
    go_loopw [15] (fun i wr => ∃ k : Nat, k ≤ ls ∧ i = .int .i64 k ∧ PxAt w (.slice sa ls scap) (.slice ra lr rcap) wr ∧ ∀ j, j < k → 1 ≤ p.sizes.getD j 0 ∧ p.sizes.getD j 0 ≤ 64) (fun i _ => ls - (intOf i).toNat)
    case atStart => exact ⟨0, by omega, rfl, HBX.out, fun j hj => by omega⟩
    case round =>
      obtain ⟨k, hk, rfl, hbx, hall⟩ := hrel
      have HB := Lib.hid hbx
      have HALL := Lib.hid hall
      clear hall
      by_cases hlt : k < ls
      · obtain ⟨rfl, hps⟩ := HS.out.ha (by omega)
        have d1 := (HS.out.kept (Below.keptB hbx.bel HP.out)).hc k (by omega)
        clear hbx
        have hbad : (p.sizes.getD k 0 < 1 ∨ 64 < p.sizes.getD k 0) → R = 1 := fun hb => by
          rw [← HR1.out, if_pos ⟨k, hlt, hb⟩]
        have HBAD := Lib.hid hbad
        have hst : 1 ≤ p.sizes.getD k 0 → p.sizes.getD k 0 ≤ 64 → ∀ j, j < k + 1 → 1 ≤ p.sizes.getD j 0 ∧ p.sizes.getD j 0 ≤ 64 := fun g1 g2 j hj => by
          by_cases e : j = k
          · subst e; exact ⟨g1, g2⟩
          · exact HALL.out j (by omega)
        have HST := Lib.hid hst
        clear hbad hst
        generalize p.sizes.getD k 0 = x at *
        by_cases hx0 : x < 1
        · have hr := HBAD.out (.inl hx0)
          subst hr
          go_wp2
          go_ret
          exact ⟨rfl, HB.out.bel⟩
        · by_cases hx1 : 64 < x
          · have hr := HBAD.out (.inr hx1)
            subst hr
            go_wp2
            go_ret
            exact ⟨rfl, HB.out.bel⟩
          · go_wp2
            go_roundw
            case rel => exact ⟨k + 1, by omega, by go_num, HB.out, HST.out (by omega) (by omega)⟩
            case measure => simp [intOf]; omega
      · have hkl : ¬ (k : Int) < ls := by omega
        have c1 := hbx.r
        clear hbx
        have hsz : ∀ j, j < ls → 1 ≤ p.sizes.getD j 0 ∧ p.sizes.getD j 0 ≤ 64 := fun j hj => HALL.out j (by omega)
        have hr2 := HR1.out
        rw [if_neg (fun ⟨j, hj, hb⟩ => by have := hsz j hj; omega)] at hr2
        have HR2 := Lib.hid hr2
        have HSZ := Lib.hid hsz
        clear hr2 hsz
        by_cases hlr96 : 96 < lr
        · have hr := HR2.out
          rw [if_pos hlr96] at hr
          subst hr
          have hl3 : (96 : Int) < lr := by omega
          go_wp2
          go_ret
          exact ⟨rfl, HB.out.bel⟩
        · have hr := HR2.out
          rw [if_neg hlr96] at hr
          have HR3 := Lib.hid hr
          clear hr
          have hl3 : ¬ (96 : Int) < lr := by omega
          go_wp2
          clear c1
          go_loopw [33] (fun i wr => ∃ k : Nat, k ≤ lr ∧ i = .int .i64 k ∧ PxAt w (.slice sa ls scap) (.slice ra lr rcap) wr ∧ ∀ j, j < k → relE p.sizes (p.rels.getD j default) = 0) (fun i _ => lr - (intOf i).toNat)
          case atStart => exact ⟨0, by omega, rfl, HB.out, fun j hj => by omega⟩
          case round =>
            obtain ⟨k2, hk2, rfl, hbx, hall⟩ := hrel
            have HB2 := Lib.hid hbx
            have HALL2 := Lib.hid hall
            clear hall
            by_cases hlt2 : k2 < lr
            · obtain ⟨rfl, hpr⟩ := HRR.out.ha (by omega)
              have hk' := Below.keptB hbx.bel HP.out
              have d0 := (HRR.out.kept hk').hc (k2 * 2) (by omega)
              have d1 : wr.cell? ⟨rb, ro + k2 * 2 + 1, none⟩ = some (rvs (k2 * 2 + 1)) := (HRR.out.kept hk').hc (k2 * 2 + 1) (by omega)
              obtain ⟨f1, f2⟩ := HRS.out k2 hlt2
              obtain ⟨va, vl, vc, hv⟩ := f1.slice
              obtain ⟨aa, al, ac, ha⟩ := f2.slice
              rw [hv] at d0 f1
              rw [ha] at d1 f2
              have F1 := Lib.hid f1
              have F2 := Lib.hid f2
              have hbl := (Below.refl wr.heap.size wr).alloc (Nat.le_refl _) (.cells #[.slice va vl vc, .slice aa al ac] 46)
              have hcc : ∀ w4, Below w.heap.size w w4 → Calls Try.prog 30 #[.slice sa ls scap, .agg #[.slice va vl vc, .slice aa al ac]] w4 (OneI (relE p.sizes (p.rels.getD k2 default)) w4) := fun w4 hb4 => relationP_any (HSI.out.kept (Below.keptB hb4 HP.out)) (F1.out.kept (Below.keptB hb4 HP.out)) (F2.out.kept (Below.keptB hb4 HP.out)) (HP.out.le hb4.size) (by rw [HLS.out]; omega) (fun n hn => by have := HSZ.out n (by rw [← HLS.out]; exact hn); omega)
              have HC := Lib.hid hcc
              have hbx4 := hbx.next hbl
              have HB4 := Lib.hid hbx4
              have hlt4 := hbx.lt
              have hfst := first_at p.sizes (rs := p.rels) (k := k2) (by rw [HLR.out]; exact hlt2) HALL2.out
              rw [HR3.out] at hfst
              have HFST := Lib.hid hfst
              have hst : relE p.sizes (p.rels.getD k2 default) = 0 → ∀ j, j < k2 + 1 → relE p.sizes (p.rels.getD j default) = 0 := fun g j hj => by
                by_cases e : j = k2
                · subst e; exact g
                · exact HALL2.out j (by omega)
              have HST := Lib.hid hst
              have c0 := hbx4.s
              clear hbx hk' f1 f2 hv ha hbl hbx4 hfst hst hcc
              generalize relE p.sizes (p.rels.getD k2 default) = E at *
              by_cases he0 : E = 0
              · subst he0
                go_wp2_with (first | (go_at_call 30; refine (HC.out _ HB4.out.bel).mono ?_; rintro e w5 ⟨rfl, hb5⟩))
                go_wp2
                go_roundw
                case rel => exact ⟨k2 + 1, by omega, by go_num, HB4.out.next hb5, HST.out (by simp)⟩
                case measure => simp [intOf]; omega
              · have hr := HFST.out
                rw [if_pos he0] at hr
                subst hr
                go_wp2_with (first | (go_at_call 30; refine (HC.out _ HB4.out.bel).mono ?_; rintro e w5 ⟨rfl, hb5⟩))
                go_wp2
                go_ret
                exact ⟨rfl, (HB4.out.next hb5).bel⟩
            · have hkl3 : ¬ (k2 : Int) < lr := by omega
              have hr : R = 0 := by
                rw [← HR3.out]
                exact first_end p.sizes (fun i hi => HALL2.out i (by rw [HLR.out] at hi; omega))
              subst hr
              clear hbx
              go_wp2
              go_ret
              exact ⟨rfl, HB2.out.bel⟩
end Go.Proofs.Ytamidopeojipkaa
