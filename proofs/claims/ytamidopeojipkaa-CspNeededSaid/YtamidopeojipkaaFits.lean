/- fits: the walk. -/
import Derived.Test.YtamidopeojipkaaClon
namespace Go.Proofs.Ytamidopeojipkaa
open Go.RowKit
set_option linter.unusedVariables false

set_option maxRecDepth 20000 in
set_option maxHeartbeats 1600000 in
theorem fits_any {w : World} {base sb : Nat} {P : Nat → Prop} {p : Prob} {sv rv gv : Value} {given : List Int} {most : Nat} {keep : Bool} {many : Nat} {fv : Value} {vs : List Value} {found : List (List Int)} (hsol : SolAt w base sb P p sv rv gv given most keep many fv vs found)
    (hgood : Good p) (hgl : given.length ≤ p.sizes.length) :
    Calls Try.prog 43 #[.pointer (some ⟨sb, 0, none⟩)] w fun e w' => ∃ b, e = .returned (.bool b) ∧ (b = true ↔ fits p.rels given) ∧ Below w.heap.size w w' := by
  have HP : Hid (Under P w.heap.size) := Lib.hid (hsol.under.le (Nat.le_trans hsol.hb (Nat.le_of_lt hsol.lt)))
  have hlt := hsol.lt
  obtain ⟨hcs0, hc1, hc2, _⟩ := hsol.cells
  obtain ⟨ga, gcap, gb, go, hgv, hgr⟩ := hsol.giv.ints
  have HGP : Hid (Under (fun k => gv.ownBlock = some k) w.heap.size) := Lib.hid fun k hk => (hsol.giv.lt hk).2
  have HGR := Lib.hid hgr
  obtain ⟨ra, rcap, rb, ro, rvs, hrv, hrr, hrs⟩ := hsol.rels
  have HRR := Lib.hid hrr
  have HRS := Lib.hid hrs
  have hrc := hrr.hcap
  have hrm1 : rcap ≤ 9223372036854775807 := by have := hrr.hmax; unfold maxLen at this; omega
  have hgc := hgr.hcap
  have hgm1 : gcap ≤ 9223372036854775807 := by have := hgr.hmax; unfold maxLen at this; omega
  rw [hrv] at hc1
  rw [hgv] at hc2
  have HC1 := Lib.hid hc1
  have HC2 := Lib.hid hc2
  have HGOOD := Lib.hid hgood
  obtain ⟨lr, hlr⟩ : ∃ lr, p.rels.length = lr := ⟨_, rfl⟩
  obtain ⟨lg, hlg⟩ : ∃ lg, given.length = lg := ⟨_, rfl⟩
  have hl96 : lr ≤ 96 := by rw [← hlr]; exact hgood.rels
  have hl16 : lg ≤ 16 := by have := hgood.len; omega
  rw [hlr] at HRR HRS HC1 hrc hc1
  rw [hlg] at HGR HC2 hgc hc2
  have HLR := Lib.hid hlr
  have HLG := Lib.hid hlg
  clear hsol hcs0 hgv hgr hrv hrr hrs hgood hlr hlg hgl hc2
  go_enter Try.func43, Try.ntmps43
  go_wp2
  go_step3
  go_wp2
  try go_step3
  go_wp2
  clear hc1
  go_loopg [17] lr (fun g17 i wr => ∃ q : Nat, q + g17 = lr ∧ i = .int .i64 q ∧ Below w.heap.size w wr ∧ ∀ i, i < q → (∀ k, k < (p.rels.getD i default).vars.length → vN (p.rels.getD i default) k < given.length) → satR (p.rels.getD i default) given)
  case atStart => exact ⟨0, by omega, rfl, Below.refl _ _, fun i hi => by omega⟩
  case round =>
    obtain ⟨q, hq, rfl, hbel, hall⟩ := hrel
    have HB := Lib.hid hbel
    have HALL := Lib.hid hall
    clear hall
    cases gk with
    | zero =>
      have hkl : ¬ (q : Int) < lr := by omega
      clear hbel
      go_wp2
      try rw [Exit.noGoto_ret]
      go_ret
      exact ⟨_, rfl, ⟨fun _ i hi hk => HALL.out i (by rw [HLR.out] at hi; omega) hk, fun _ => rfl⟩, HB.out⟩
    | succ gk1 =>
      have hql : q < lr := by omega
      obtain ⟨rfl, hpr⟩ := HRR.out.ha (by omega)
      have hk' := Below.keptB hbel HP.out
      have d0 := (HRR.out.kept hk').hc (q * 2) (by omega)
      have d1 : wr.cell? ⟨rb, ro + q * 2 + 1, none⟩ = some (rvs (q * 2 + 1)) := (HRR.out.kept hk').hc (q * 2 + 1) (by omega)
      obtain ⟨f1, f2⟩ := HRS.out q hql
      have hfine := HGOOD.out.fine q (by rw [HLR.out]; exact hql)
      obtain ⟨r, hre⟩ : ∃ r, p.rels.getD q default = r := ⟨_, rfl⟩
      have HRE := Lib.hid hre
      rw [hre] at f1 f2 hfine
      have HFINE := Lib.hid hfine
      obtain ⟨va, vcap, vb, vo, hvv, hvr⟩ := f1
      obtain ⟨aa, acap, ab, ao, avs, hav, har, has⟩ := f2
      have HV := Lib.hid hvr
      have HA := Lib.hid har
      have HAS := Lib.hid has
      have hvc := hvr.hcap
      have hac := har.hcap
      have hvm : vcap ≤ 9223372036854775807 := by have := hvr.hmax; unfold maxLen at this; omega
      have ham : acap ≤ 9223372036854775807 := by have := har.hmax; unfold maxLen at this; omega
      have hl1 := hfine.len1
      have hl3 := hfine.len3
      have hla := hfine.few
      rw [hvv] at d0
      rw [hav] at d1
      obtain ⟨kv, hkv⟩ : ∃ kv, r.vars.length = kv := ⟨_, rfl⟩
      obtain ⟨ka, hka⟩ : ∃ ka, r.allowed.length = ka := ⟨_, rfl⟩
      rw [hkv] at d0 HV hvc hl1 hl3
      rw [hka] at d1 HA HAS hac hla
      have HKV := Lib.hid hkv
      have HKA := Lib.hid hka
      have hbl := (Below.refl wr.heap.size wr).alloc (Nat.le_refl _) (.cells #[.slice va kv vcap, .slice aa ka acap] 46)
      have HBX : Hid (CyAt wr (.slice va kv vcap) (.slice aa ka acap) (wr.alloc (.cells #[.slice va kv vcap, .slice aa ka acap] 46))) := Lib.hid ⟨hbl, heap_alloc_new _ _⟩
      have hstep : ((∀ k, k < r.vars.length → vN r k < given.length) → satR r given) → ∀ i, i < q + 1 → (∀ k, k < (p.rels.getD i default).vars.length → vN (p.rels.getD i default) k < given.length) → satR (p.rels.getD i default) given := fun hn i hi => by
        by_cases e : i = q
        · rw [e, HRE.out]; exact hn
        · exact HALL.out i (by omega)
      have HSTEP := Lib.hid hstep
      clear hbel hk' hfine hvr har has hkv hka hre hvv hav hbl hstep
      generalize wr = W1 at *
      go_wp2
      go_step3
      go_wp2
      clear d0 d1
      generalize W1.alloc (.cells #[.slice va kv vcap, .slice aa ka acap] 46) = W2 at *
      go_loopg [24] kv (fun g24 i wr => ∃ k : Nat, k + g24 = kv ∧ i = .int .i64 k ∧ Below W2.heap.size W2 wr ∧ ∀ j, j < k → vN r j < given.length)
      case atStart => exact ⟨0, by omega, rfl, Below.refl _ _, fun i hi => by omega⟩
      case round =>
        obtain ⟨k, hk, rfl, hb2, hall2⟩ := hrel
        have HB2 := Lib.hid hb2
        have HALL2 := Lib.hid hall2
        have hbx := HBX.out.next hb2
        have HBX2 := Lib.hid hbx
        have hfull := Below.next HB.out hbx.bel
        have HF := Lib.hid hfull
        have c0 := hbx.v
        have c1 := hbx.a
        have c2 := (hfull.cell (p := ⟨sb, 2, none⟩) hlt).trans HC2.out
        clear hall2
        cases gk with
        | zero =>
          have hkl : ¬ (k : Int) < kv := by omega
          have hk' : k = kv := by omega
          have hv : ∀ j, j < r.vars.length → vN r j < given.length := fun j hj => HALL2.out j (by rw [HKV.out] at hj; omega)
          have HVAL := Lib.hid hv
          clear hb2 hbx hfull hv
          go_wp2
          try go_step3
          go_wp2
          generalize wr = W3 at *
          clear c0 c1 c2
          go_loopg [39] ka (fun g39 i wr => ∃ J : Nat, J + g39 = ka ∧ i = .int .i64 J ∧ Below W3.heap.size W3 wr ∧ ∀ j, j < J → ¬ ∀ k, k < r.vars.length → given.getD (vN r k) 0 = (tN r j k : Int))
          case atStart => exact ⟨0, by omega, rfl, Below.refl _ _, fun i hi => by omega⟩
          case round =>
            obtain ⟨J, hJ, rfl, hb3, hall3⟩ := hrel
            have HB3 := Lib.hid hb3
            have HALL3 := Lib.hid hall3
            have hfull := Below.next HF.out hb3
            have HF3 := Lib.hid hfull
            have hbx3 := HBX2.out.next hb3
            have HBX3 := Lib.hid hbx3
            have c0 := hbx3.v
            have c1 := hbx3.a
            clear hall3
            cases gk with
            | zero =>
              have hkl2 : ¬ (J : Int) < ka := by omega
              have hno : ¬ fits p.rels given := fun hf => by
                have := hf q (by rw [HLR.out]; exact hql)
                rw [HRE.out] at this
                obtain ⟨j, hj, hm⟩ := this HVAL.out
                exact HALL3.out j (by rw [HKA.out] at hj; omega) hm
              have HNO := Lib.hid hno
              clear hb3 hfull hbx3 hno
              go_wp2
              try rw [Exit.noGoto_ret]
              try rw [Exit.noGoto_ret]
              go_ret
              exact ⟨_, rfl, ⟨fun e => absurd e (by simp), fun e => absurd e HNO.out⟩, HF3.out⟩
            | succ gk3 =>
              have hJl : J < ka := by omega
              obtain ⟨rfl, hpa⟩ := HA.out.ha (by omega)
              have d1 := (HA.out.kept (Below.keptB hfull HP.out)).hc J (by omega)
              obtain ⟨ta, tc, tb, to, htv, htr⟩ := HAS.out J hJl
              have HTR := Lib.hid htr
              have htl := HFINE.out.wide J (by rw [HKA.out]; exact hJl)
              rw [HKV.out] at htl
              have htc := htr.hcap
              have htm : tc ≤ 9223372036854775807 := by have := htr.hmax; unfold maxLen at this; omega
              rw [htv] at d1
              rw [htl] at d1 htc HTR
              obtain ⟨rfl, hpt⟩ := HTR.out.ha (by omega)
              obtain ⟨rfl, hpv⟩ := HV.out.ha (by omega)
              clear hb3 hfull hbx3 htv htr htl
              generalize wr = W4 at *
              go_wp2
              clear c0 c1 d1
              go_loopg [45] kv (fun g45 i wr => ∃ q : Nat, q + g45 = kv ∧ i = .int .i64 q ∧ Below W4.heap.size W4 wr ∧ ∀ k, k < q → given.getD (vN r k) 0 = (tN r J k : Int))
              case atStart => exact ⟨0, by omega, rfl, Below.refl _ _, fun i hi => by omega⟩
              case round =>
                obtain ⟨q4, hq4, rfl, hb4, hall4⟩ := hrel
                have HB4 := Lib.hid hb4
                have HALL4 := Lib.hid hall4
                have hfull := Below.next HF3.out hb4
                have HF4 := Lib.hid hfull
                have hbx4 := HBX3.out.next hb4
                have c0 := hbx4.v
                have c2 := (hfull.cell (p := ⟨sb, 2, none⟩) hlt).trans HC2.out
                clear hall4
                cases gk with
                | zero =>
                  have hkl2 : ¬ (q4 : Int) < kv := by omega
                  have hm : satR r given := ⟨J, by rw [HKA.out]; exact hJl, fun k hk => HALL4.out k (by rw [HKV.out] at hk; omega)⟩
                  have HMM := Lib.hid hm
                  clear hb4 hfull hbx4 hm
                  go_wp2
                  try rw [Exit.noGoto_exit]
                  go_wp2
                  go_roundg gk1
                  case measure => omega
                  case rel => exact ⟨q + 1, by omega, by go_num, HF4.out, HSTEP.out fun _ => HMM.out⟩
                | succ gk4 =>
                  have hql4 : q4 < kv := by omega
                  have d1 := (HTR.out.kept (Below.keptB hfull HP.out)).hc q4 (by omega)
                  have d2 := (HV.out.kept (Below.keptB hfull HP.out)).hc q4 (by omega)
                  obtain ⟨hvk, hvk2⟩ := HFINE.out.var q4 (by rw [HKV.out]; exact hql4)
                  have hvl := HVAL.out q4 (by rw [HKV.out]; exact hql4)
                  rw [HLG.out] at hvl
                  obtain ⟨htq, htq2⟩ := HFINE.out.tup J q4 (by rw [HKA.out]; exact hJl) (by rw [HKV.out]; exact hql4)
                  rw [hvk] at d2
                  rw [htq] at d1
                  obtain ⟨rfl, hpg⟩ := HGR.out.ha (by omega)
                  have d3 := (HGR.out.kept (Below.keptB hfull HGP.out)).hc (vN r q4) (by omega)
                  clear hb4 hfull hbx4 htq2
                  by_cases heq : given.getD (vN r q4) 0 = (tN r J q4 : Int)
                  · rw [heq] at d3
                    have hst : ∀ k, k < q4 + 1 → given.getD (vN r k) 0 = (tN r J k : Int) := fun k hk => by
                      by_cases e : k = q4
                      · rw [e]; exact heq
                      · exact HALL4.out k (by omega)
                    have HST := Lib.hid hst
                    clear hst heq
                    go_wp2
                    go_quiet (fail)
                    go_wp2
                    go_roundg gk4
                    case measure => omega
                    case rel => exact ⟨q4 + 1, by omega, by go_num, below_drewN HB4.out _, HST.out⟩
                  · have hno : ¬ ∀ k, k < r.vars.length → given.getD (vN r k) 0 = (tN r J k : Int) := fun e => heq (e q4 (by rw [HKV.out]; exact hql4))
                    have HNO := Lib.hid hno
                    clear hno
                    have hne : ¬ (given.getD (vN r q4) 0 = (tN r J q4 : Int)) := heq
                    clear heq
                    generalize given.getD (vN r q4) 0 = y at *
                    go_wp2
                    go_quiet (fail)
                    go_wp2
                    go_roundg gk3
                    case measure => omega
                    case rel => exact ⟨J + 1, by omega, by go_num, Below.next HB3.out (below_drewN HB4.out _), fun j hj => by
                      by_cases e : j = J
                      · rw [e]; exact HNO.out
                      · exact HALL3.out j (by omega)⟩
        | succ gk2 =>
          have hkl : k < kv := by omega
          obtain ⟨rfl, hpv⟩ := HV.out.ha (by omega)
          have d2 := (HV.out.kept (Below.keptB hfull HP.out)).hc k (by omega)
          obtain ⟨hvk, hvk2⟩ := HFINE.out.var k (by rw [HKV.out]; exact hkl)
          rw [hvk] at d2
          clear hb2 hbx hfull
          by_cases hbig : vN r k < lg
          · have hbig2 : ¬ (lg : Int) ≤ vN r k := by omega
            go_wp2
            go_roundg gk2
            case measure => omega
            case rel => exact ⟨k + 1, by omega, by go_num, HB2.out, fun j hj => by
              by_cases e : j = k
              · rw [e, HLG.out]; exact hbig
              · exact HALL2.out j (by omega)⟩
          · have hbig2 : (lg : Int) ≤ vN r k := by omega
            go_wp2
            rw [Exit.noGoto_exit]
            go_wp2
            go_roundg gk1
            case measure => omega
            case rel => exact ⟨q + 1, by omega, by go_num, HF.out, HSTEP.out fun hn => absurd (hn k (by rw [HKV.out]; exact hkl)) (by rw [HLG.out]; exact hbig)⟩
end Go.Proofs.Ytamidopeojipkaa
