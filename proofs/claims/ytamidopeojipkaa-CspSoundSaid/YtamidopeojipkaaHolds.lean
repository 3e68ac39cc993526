/- holds: the walk. -/
import Derived.Test.YtamidopeojipkaaBefore
namespace Go.Proofs.Ytamidopeojipkaa
open Go.RowKit
set_option linter.unusedVariables false

set_option maxRecDepth 20000 in
set_option maxHeartbeats 1600000 in
theorem holds_any {w : World} {P Q : Nat → Prop} {sv rv av : Value} {p : Prob} {a : List Int} (hs : IntsAt w P sv p.sizes) (hr : RelsAt w P rv p.rels) (hP : Under P w.heap.size) (hgood : Good p) (ha : IntsAt w Q av a) (hQ : Under Q w.heap.size) (hal : a.length = p.sizes.length) :
    Calls Try.prog 27 #[.agg #[sv, rv], av] w (BoolP (sat p.rels a) w) := by
  obtain ⟨sa, sc, sb, so, rfl, hsr⟩ := hs
  obtain ⟨ra, rcap, rb, ro, rvs, rfl, hrr, hrs⟩ := hr
  obtain ⟨ga, gcap, gb, go, rfl, hgr⟩ := ha
  have hbx : PxAt w (.slice sa p.sizes.length sc) (.slice ra p.rels.length rcap) (w.alloc (.cells #[.slice sa p.sizes.length sc, .slice ra p.rels.length rcap] 25)) := ⟨(Below.refl _ _).alloc (Nat.le_refl _) _, heap_alloc_new _ _⟩
  have HBX := Lib.hid hbx
  have HRR := Lib.hid hrr
  have HRS := Lib.hid hrs
  have HGR := Lib.hid hgr
  have HP := Lib.hid hP
  have HQ := Lib.hid hQ
  have HGOOD := Lib.hid hgood
  have hrc := hrr.hcap
  have hgc := hgr.hcap
  have hsc := hsr.hcap
  have hrm1 : rcap ≤ 9223372036854775807 := by have := hrr.hmax; unfold maxLen at this; omega
  have hgm1 : gcap ≤ 9223372036854775807 := by have := hgr.hmax; unfold maxLen at this; omega
  have hsm1 : sc ≤ 9223372036854775807 := by have := hsr.hmax; unfold maxLen at this; omega
  have hl96 := hgood.rels
  have hl16 := hgood.len
  obtain ⟨lr, hlr⟩ : ∃ lr, p.rels.length = lr := ⟨_, rfl⟩
  obtain ⟨n, hn⟩ : ∃ n, p.sizes.length = n := ⟨_, rfl⟩
  rw [hn] at hal HBX hsc hl16 ⊢
  rw [hal] at HGR hgc ⊢
  rw [hlr] at HRR HRS HBX hrc hl96 ⊢
  have HLR := Lib.hid hlr
  have HN := Lib.hid hn
  clear hsr hrr hrs hgr hP hQ hbx hgood hlr hn hal
  go_enter Try.func27, Try.ntmps27
  go_wp2
  generalize w.alloc (.cells #[.slice sa n sc, .slice ra lr rcap] 25) = W at *
  go_loopg [21] lr (fun g21 i wr => ∃ q : Nat, q + g21 = lr ∧ i = .int .i64 q ∧ PxAt w (.slice sa n sc) (.slice ra lr rcap) wr ∧ ∀ i, i < q → satR (p.rels.getD i default) a)
  case atStart => exact ⟨0, by omega, rfl, HBX.out, fun i hi => by omega⟩
  case round =>
    obtain ⟨q, hq, rfl, hbx, hall⟩ := hrel
    have HB := Lib.hid hbx
    have HALL := Lib.hid hall
    clear hall
    cases gk with
    | zero =>
      have hkl : ¬ (q : Int) < lr := by omega
      have hyes : sat p.rels a := fun i hi => HALL.out i (by rw [HLR.out] at hi; omega)
      have HY := Lib.hid hyes
      clear hbx hyes
      go_wp2
      go_ret
      exact ⟨_, rfl, ⟨fun _ => HY.out, fun _ => rfl⟩, HB.out.bel⟩
    | succ gk1 =>
      have hql : q < lr := by omega
      obtain ⟨rfl, hpr⟩ := HRR.out.ha (by omega)
      have hk' := Below.keptB hbx.bel HP.out
      have d0 := (HRR.out.kept hk').hc (q * 2) (by omega)
      have d1 : wr.cell? ⟨rb, ro + q * 2 + 1, none⟩ = some (rvs (q * 2 + 1)) := (HRR.out.kept hk').hc (q * 2 + 1) (by omega)
      obtain ⟨f1, f2⟩ := HRS.out q hql
      have hfine := HGOOD.out.fine q (by rw [HLR.out]; exact hql)
      obtain ⟨r, hre⟩ : ∃ r, p.rels.getD q default = r := ⟨_, rfl⟩
      have HRE := Lib.hid hre
      rw [hre] at f1 f2 hfine
      have HFINE := Lib.hid hfine
      obtain ⟨va, vcap, vb, vo, hvv, hvr⟩ := f1
      obtain ⟨aa, acap, ab, ao, avs, hav, har, has⟩ := f2
      have HV := Lib.hid hvr
      have HA := Lib.hid har
      have HAS := Lib.hid has
      have hvc := hvr.hcap
      have hac := har.hcap
      have hvm : vcap ≤ 9223372036854775807 := by have := hvr.hmax; unfold maxLen at this; omega
      have ham : acap ≤ 9223372036854775807 := by have := har.hmax; unfold maxLen at this; omega
      have hl1 := hfine.len1
      have hl3 := hfine.len3
      have hla := hfine.few
      rw [hvv] at d0
      rw [hav] at d1
      obtain ⟨kv, hkv⟩ : ∃ kv, r.vars.length = kv := ⟨_, rfl⟩
      obtain ⟨ka, hka⟩ : ∃ ka, r.allowed.length = ka := ⟨_, rfl⟩
      rw [hkv] at d0 HV hvc hl1 hl3
      rw [hka] at d1 HA HAS hac hla
      have HKV := Lib.hid hkv
      have HKA := Lib.hid hka
      obtain ⟨rfl, hpv⟩ := HV.out.ha (by omega)
      have hbl := (Below.refl wr.heap.size wr).alloc (Nat.le_refl _) (.cells #[.slice (some ⟨vb, vo, none⟩) kv vcap, .slice aa ka acap] 46)
      have HBL : Hid (CyAt wr (.slice (some ⟨vb, vo, none⟩) kv vcap) (.slice aa ka acap) (wr.alloc (.cells #[.slice (some ⟨vb, vo, none⟩) kv vcap, .slice aa ka acap] 46))) := Lib.hid ⟨hbl, heap_alloc_new _ _⟩
      clear hbx hk' hfine hvr har has hkv hka hre hvv hav hbl
      generalize wr = W1 at *
      go_wp2
      clear d0 d1
      generalize W1.alloc (.cells #[.slice (some ⟨vb, vo, none⟩) kv vcap, .slice aa ka acap] 46) = W2 at *
      go_loopg [7, 28] ka (fun g28 fd i wr => ∃ (J : Nat) (b : Bool), J + g28 = ka ∧ i = .int .i64 J ∧ fd = .bool b ∧ CyAt W1 (.slice (some ⟨vb, vo, none⟩) kv vcap) (.slice aa ka acap) wr ∧ (b = true ↔ ∃ j, j < J ∧ ∀ k, k < r.vars.length → a.getD (vN r k) 0 = (tN r j k : Int)))
      case atStart => exact ⟨0, false, by omega, rfl, rfl, HBL.out, ⟨fun e => absurd e (by simp), fun ⟨j, hj, _⟩ => by omega⟩⟩
      case round =>
        obtain ⟨J, b, hJ, rfl, rfl, hcy, hb⟩ := hrel
        have HCY := Lib.hid hcy
        have HBB := Lib.hid hb
        have HB2 := Lib.hid (HB.out.next hcy.bel)
        clear hb
        cases gk with
        | zero =>
          have hkl : ¬ (J : Int) < ka := by omega
          clear hcy
          cases b with
          | true =>
            have hst : ∀ i, i < q + 1 → satR (p.rels.getD i default) a := fun i hi => by
              by_cases e : i = q
              · rw [e, HRE.out]
                obtain ⟨j, hj, hm⟩ := HBB.out.1 rfl
                exact ⟨j, by rw [HKA.out]; omega, hm⟩
              · exact HALL.out i (by omega)
            have HST := Lib.hid hst
            clear hst
            go_wp2
            go_roundg gk1
            case measure => omega
            case rel => exact ⟨q + 1, by omega, by go_num, HB2.out, HST.out⟩
          | false =>
            have hno : ¬ sat p.rels a := fun e => by
              have h1 := e q (by rw [HLR.out]; exact hql)
              rw [HRE.out] at h1
              obtain ⟨j, hj, hm⟩ := h1
              exact absurd (HBB.out.2 ⟨j, by rw [HKA.out] at hj; omega, hm⟩) (by simp)
            have HNO := Lib.hid hno
            clear hno
            go_wp2
            go_ret
            exact ⟨_, rfl, ⟨fun e => absurd e (by simp), fun e => absurd e HNO.out⟩, HB2.out.bel⟩
        | succ gk2 =>
          have hJl : J < ka := by omega
          obtain ⟨rfl, hpa⟩ := HA.out.ha (by omega)
          have c0 := hcy.v
          have d1 := (HA.out.kept (Below.keptB HB2.out.bel HP.out)).hc J (by omega)
          obtain ⟨ta, tc, tb, to, htv, htr⟩ := HAS.out J hJl
          have HTR := Lib.hid htr
          have htl := HFINE.out.wide J (by rw [HKA.out]; exact hJl)
          rw [HKV.out] at htl
          have htc := htr.hcap
          have htm : tc ≤ 9223372036854775807 := by have := htr.hmax; unfold maxLen at this; omega
          rw [htv] at d1
          rw [htl] at d1 htc HTR
          obtain ⟨rfl, hpt⟩ := HTR.out.ha (by omega)
          clear hcy htv htr htl
          generalize wr = W3 at *
          go_wp2
          clear c0 d1
          go_loopg [10, 11] (kv + 1) (fun g10 sm i wr => ∃ (i0 : Nat) (s : Bool), i0 + g10 = kv + 1 ∧ i0 ≤ kv ∧ i = .int .i64 i0 ∧ sm = .bool s ∧ Below W3.heap.size W3 wr ∧ (s = true → ∀ k, k < i0 → a.getD (vN r k) 0 = (tN r J k : Int)) ∧ (s = false → ¬ ∀ k, k < r.vars.length → a.getD (vN r k) 0 = (tN r J k : Int)))
          case atStart => exact ⟨0, true, by omega, by omega, rfl, rfl, Below.refl _ _, fun _ k hk => by omega, fun e => absurd e (by simp)⟩
          case round =>
            obtain ⟨i0, s, hi0, hi1, rfl, rfl, hbel, hs1, hs2⟩ := hrel
            have HBE := Lib.hid hbel
            have HS1 := Lib.hid hs1
            have HS2 := Lib.hid hs2
            have HB3 := Lib.hid (HB2.out.next hbel)
            have HCY3 := Lib.hid (HCY.out.next hbel)
            clear hs1 hs2
            by_cases hend : i0 < kv ∧ s = true
            · obtain ⟨hik, rfl⟩ := hend
              have d1 := (HTR.out.kept (Below.keptB HB3.out.bel HP.out)).hc i0 (by omega)
              have d2 := (HV.out.kept (Below.keptB HB3.out.bel HP.out)).hc i0 (by omega)
              have c0 := HCY3.out.v
              obtain ⟨hvk, hvk2⟩ := HFINE.out.var i0 (by rw [HKV.out]; exact hik)
              rw [HN.out] at hvk2
              obtain ⟨htq, htq2⟩ := HFINE.out.tup J i0 (by rw [HKA.out]; exact hJl) (by rw [HKV.out]; exact hik)
              rw [hvk] at d2
              rw [htq] at d1
              obtain ⟨rfl, hpg⟩ := HGR.out.ha (by omega)
              have d3 := (HGR.out.kept (Below.keptB HB3.out.bel HQ.out)).hc (vN r i0) (by omega)
              clear hbel htq2
              by_cases heq : a.getD (vN r i0) 0 = (tN r J i0 : Int)
              · rw [heq] at d3
                have hst : ∀ k, k < i0 + 1 → a.getD (vN r k) 0 = (tN r J k : Int) := fun k hk => by
                  by_cases e : k = i0
                  · rw [e]; exact heq
                  · exact HS1.out rfl k (by omega)
                have HST := Lib.hid hst
                clear hst heq
                go_wp2
                go_quiet (fail)
                go_wp2
                go_roundg (gk - 1)
                case measure => omega
                case rel => exact ⟨i0 + 1, true, by omega, by omega, by go_num, rfl, below_drewN HBE.out _, fun _ => HST.out, fun e => absurd e (by simp)⟩
              · have hno : ¬ ∀ k, k < r.vars.length → a.getD (vN r k) 0 = (tN r J k : Int) := fun e => heq (e i0 (by rw [HKV.out]; exact hik))
                have HNO := Lib.hid hno
                have hne : (a.getD (vN r i0) 0 == (tN r J i0 : Int)) = false := by simpa using heq
                clear hno heq
                generalize a.getD (vN r i0) 0 = y at *
                go_wp2
                go_quiet (fail)
                go_wp2
                go_roundg (gk - 1)
                case measure => omega
                case rel => exact ⟨i0 + 1, false, by omega, by omega, by go_num, rfl, below_drewN HBE.out _, fun e => absurd e (by simp), fun _ => HNO.out⟩
            · have hfull : s = true ↔ ∀ k, k < r.vars.length → a.getD (vN r k) 0 = (tN r J k : Int) := by
                cases s with
                | true =>
                  have : i0 = kv := by
                    by_cases e : i0 < kv
                    · exact absurd ⟨e, rfl⟩ hend
                    · omega
                  exact ⟨fun _ k hk => HS1.out rfl k (by rw [HKV.out] at hk; omega), fun _ => rfl⟩
                | false => exact ⟨fun e => absurd e (by simp), fun e => absurd e (HS2.out rfl)⟩
              have hnew : (b || s) = true ↔ ∃ j, j < J + 1 ∧ ∀ k, k < r.vars.length → a.getD (vN r k) 0 = (tN r j k : Int) := by
                rw [Bool.or_eq_true]
                constructor
                · rintro (e | e)
                  · obtain ⟨j, hj, hm⟩ := HBB.out.1 e; exact ⟨j, by omega, hm⟩
                  · exact ⟨J, by omega, hfull.1 e⟩
                · rintro ⟨j, hj, hm⟩
                  by_cases e : j = J
                  · subst e; exact .inr (hfull.2 hm)
                  · exact .inl (HBB.out.2 ⟨j, by omega, hm⟩)
              have HNEW := Lib.hid hnew
              clear hfull hnew hbel
              cases s with
              | true =>
                have hge : ¬ (i0 : Int) < kv := by
                  intro e
                  exact hend ⟨by omega, rfl⟩
                clear hend
                cases b with
                | true =>
                  go_wp2
                  go_roundg gk2
                  case measure => omega
                  case rel => exact ⟨J + 1, true, by omega, by go_num, rfl, HCY3.out, by simpa using HNEW.out⟩
                | false =>
                  go_wp2
                  go_roundg gk2
                  case measure => omega
                  case rel => exact ⟨J + 1, true, by omega, by go_num, rfl, HCY3.out, by simpa using HNEW.out⟩
              | false =>
                clear hend
                by_cases hik : i0 < kv
                · cases b with
                  | true =>
                    go_wp2
                    go_roundg gk2
                    case measure => omega
                    case rel => exact ⟨J + 1, true, by omega, by go_num, rfl, HCY3.out, by simpa using HNEW.out⟩
                  | false =>
                    go_wp2
                    go_roundg gk2
                    case measure => omega
                    case rel => exact ⟨J + 1, false, by omega, by go_num, rfl, HCY3.out, by simpa using HNEW.out⟩
                · have hik2 : ¬ (i0 : Int) < kv := by omega
                  cases b with
                  | true =>
                    go_wp2
                    go_roundg gk2
                    case measure => omega
                    case rel => exact ⟨J + 1, true, by omega, by go_num, rfl, HCY3.out, by simpa using HNEW.out⟩
                  | false =>
                    go_wp2
                    go_roundg gk2
                    case measure => omega
                    case rel => exact ⟨J + 1, false, by omega, by go_num, rfl, HCY3.out, by simpa using HNEW.out⟩
end Go.Proofs.Ytamidopeojipkaa
