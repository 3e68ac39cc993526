/- satisfies of the reference: the walk. -/
import Derived.Test.YtamidopeojipkaaSols
import Derived.Deep.LoopGhost
namespace Go.Proofs.Ytamidopeojipkaa
open Go.RowKit
set_option linter.unusedVariables false

/-- a call that hands back the flag of a proposition -/
def BoolP (q : Prop) (w : World) (e : Ending) (w' : World) : Prop := ∃ b, e = .returned (.bool b) ∧ (b = true ↔ q) ∧ Below w.heap.size w w'
set_option maxRecDepth 20000 in
set_option maxHeartbeats 1600000 in
theorem satisfies_any {w : World} {P Q : Nat → Prop} {vv uv av : Value} {sizes : List Int} {r : Rel} {a : List Int} (hv : IntsAt w P vv r.vars) (hu : ListsAt w P uv r.allowed) (hP : Under P w.heap.size) (hfine : Fine sizes r)
    (ha : IntsAt w Q av a) (hQ : Under Q w.heap.size) (hal : a.length = sizes.length) (hsl : sizes.length ≤ 16) :
    Calls Try.prog 42 #[.agg #[vv, uv], av] w (BoolP (satR r a) w) := by
  obtain ⟨va, vcap, vb, vo, rfl, hvr⟩ := hv
  obtain ⟨aa, acap, ab, ao, avs, rfl, har, has⟩ := hu
  obtain ⟨ga, gcap, gb, go, rfl, hgr⟩ := ha
  have HV := Lib.hid hvr
  have HA := Lib.hid har
  have HAS := Lib.hid has
  have HGR := Lib.hid hgr
  have HP := Lib.hid hP
  have HQ := Lib.hid hQ
  have HF := Lib.hid hfine
  have hvc := hvr.hcap
  have hac := har.hcap
  have hgc := hgr.hcap
  have hvm : vcap ≤ 9223372036854775807 := by have := hvr.hmax; unfold maxLen at this; omega
  have ham : acap ≤ 9223372036854775807 := by have := har.hmax; unfold maxLen at this; omega
  have hgm : gcap ≤ 9223372036854775807 := by have := hgr.hmax; unfold maxLen at this; omega
  have hbx : CyAt w (.slice va r.vars.length vcap) (.slice aa r.allowed.length acap) (w.alloc (.cells #[.slice va r.vars.length vcap, .slice aa r.allowed.length acap] 46)) := ⟨(Below.refl _ _).alloc (Nat.le_refl _) _, heap_alloc_new _ _⟩
  have HBX := Lib.hid hbx
  have hl1 := hfine.len1
  have hl3 := hfine.len3
  have hla := hfine.few
  obtain ⟨n, hn⟩ : ∃ n, a.length = n := ⟨_, rfl⟩
  obtain ⟨kv, hkv⟩ : ∃ kv, r.vars.length = kv := ⟨_, rfl⟩
  obtain ⟨ka, hka⟩ : ∃ ka, r.allowed.length = ka := ⟨_, rfl⟩
  have HAL : Hid (sizes.length = n) := Lib.hid (by rw [← hn, hal])
  rw [hn] at HGR hgc ⊢
  rw [hkv] at HV HBX hvc hl1 hl3 ⊢
  rw [hka] at HA HAS HBX hac hla ⊢
  have hn16 : n ≤ 16 := by omega
  have HKV := Lib.hid hkv
  have HKA := Lib.hid hka
  obtain ⟨rfl, hpv⟩ := HV.out.ha (by omega)
  clear hvr har has hgr hP hQ hbx hfine hn hkv hka hal hsl
  go_enter Try.func42, Try.ntmps42
  go_wp2
  generalize w.alloc (.cells #[.slice (some ⟨vb, vo, none⟩) kv vcap, .slice aa ka acap] 46) = W at *
  go_loopg [13] ka (fun g13 i wr => ∃ J : Nat, J + g13 = ka ∧ i = .int .i64 J ∧ CyAt w (.slice (some ⟨vb, vo, none⟩) kv vcap) (.slice aa ka acap) wr ∧ ∀ j, j < J → ¬ ∀ k, k < r.vars.length → a.getD (vN r k) 0 = (tN r j k : Int))
  case atStart => exact ⟨0, by omega, rfl, HBX.out, fun j hj => by omega⟩
  case round =>
    obtain ⟨J, hJ, rfl, hbx, hall⟩ := hrel
    have HB := Lib.hid hbx
    have HALL := Lib.hid hall
    have c0 := hbx.v
    have c1 := hbx.a
    clear hall
    cases gk with
    | zero =>
      have hkl : ¬ (J : Int) < ka := by omega
      have hno : ¬ satR r a := fun ⟨j, hj, hm⟩ => HALL.out j (by rw [HKA.out] at hj; omega) hm
      have HNO := Lib.hid hno
      clear hbx hno
      go_wp2
      go_ret
      exact ⟨_, rfl, ⟨fun e => absurd e (by simp), fun e => absurd e HNO.out⟩, HB.out.bel⟩
    | succ gk2 =>
      have hJl : J < ka := by omega
      obtain ⟨rfl, hpa⟩ := HA.out.ha (by omega)
      have d1 := (HA.out.kept (Below.keptB hbx.bel HP.out)).hc J (by omega)
      obtain ⟨ta, tc, tb, to, htv, htr⟩ := HAS.out J hJl
      have HTR := Lib.hid htr
      have htl := HF.out.wide J (by rw [HKA.out]; exact hJl)
      rw [HKV.out] at htl
      have htc := htr.hcap
      have htm : tc ≤ 9223372036854775807 := by have := htr.hmax; unfold maxLen at this; omega
      rw [htv] at d1
      rw [htl] at d1 htc HTR
      obtain ⟨rfl, hpt⟩ := HTR.out.ha (by omega)
      clear hbx htv htr htl
      generalize wr = W1 at *
      go_wp2
      clear c0 c1 d1
      go_loopg [7, 20] kv (fun g20 ok i wr => ∃ (q : Nat) (b : Bool), q + g20 = kv ∧ i = .int .i64 q ∧ ok = .bool b ∧ (b = true ↔ ∀ k, k < q → a.getD (vN r k) 0 = (tN r J k : Int)) ∧ CyAt w (.slice (some ⟨vb, vo, none⟩) kv vcap) (.slice (some ⟨ab, ao, none⟩) ka acap) wr)
      case atStart => exact ⟨0, true, by omega, rfl, rfl, ⟨fun _ k hk => by omega, fun _ => rfl⟩, HB.out⟩
      case round =>
        obtain ⟨q, b, hq, rfl, rfl, hb, hbx⟩ := hrel
        have HB2 := Lib.hid hbx
        have HBB := Lib.hid hb
        clear hb
        cases gk with
        | zero =>
          have hkl : ¬ (q : Int) < kv := by omega
          have hq' : q = kv := by omega
          clear hbx
          cases b with
          | true =>
            have hyes : satR r a := ⟨J, by rw [HKA.out]; exact hJl, fun k hk => HBB.out.1 rfl k (by rw [HKV.out] at hk; omega)⟩
            have HY := Lib.hid hyes
            clear hyes
            go_wp2
            go_ret
            exact ⟨_, rfl, ⟨fun _ => HY.out, fun _ => rfl⟩, HB2.out.bel⟩
          | false =>
            have hno : ∀ j, j < J + 1 → ¬ ∀ k, k < r.vars.length → a.getD (vN r k) 0 = (tN r j k : Int) := fun j hj hm => by
              by_cases e : j = J
              · subst e
                have := HBB.out.2 fun k hk => hm k (by rw [HKV.out]; omega)
                exact absurd this (by simp)
              · exact HALL.out j (by omega) hm
            have HNO := Lib.hid hno
            clear hno
            go_wp2
            go_roundg gk2
            case measure => omega
            case rel => exact ⟨J + 1, by omega, by go_num, HB2.out, HNO.out⟩
        | succ gk3 =>
          have hql : q < kv := by omega
          have d2 := (HV.out.kept (Below.keptB hbx.bel HP.out)).hc q (by omega)
          obtain ⟨hvk, hvk2⟩ := HF.out.var q (by rw [HKV.out]; exact hql)
          rw [HAL.out] at hvk2
          rw [hvk] at d2
          cases b with
          | false =>
            have hst : (false = true ↔ ∀ k, k < q + 1 → a.getD (vN r k) 0 = (tN r J k : Int)) := ⟨fun e => absurd e (by simp), fun hm => HBB.out.2 fun k hk => hm k (by omega)⟩
            have HST := Lib.hid hst
            clear hbx hst
            go_wp2
            go_quiet (fail)
            go_wp2
            go_roundg gk3
            case measure => omega
            case rel => exact ⟨q + 1, false, by omega, by go_num, rfl, HST.out, HB2.out.next (below_drewN (Below.refl _ _) _)⟩
          | true =>
            have d1 := (HTR.out.kept (Below.keptB hbx.bel HP.out)).hc q (by omega)
            obtain ⟨htq, htq2⟩ := HF.out.tup J q (by rw [HKA.out]; exact hJl) (by rw [HKV.out]; exact hql)
            rw [htq] at d1
            obtain ⟨rfl, hpg⟩ := HGR.out.ha (by omega)
            have d3 := (HGR.out.kept (Below.keptB hbx.bel HQ.out)).hc (vN r q) (by omega)
            clear hbx htq2
            by_cases heq : a.getD (vN r q) 0 = (tN r J q : Int)
            · rw [heq] at d3
              have hst : (true = true ↔ ∀ k, k < q + 1 → a.getD (vN r k) 0 = (tN r J k : Int)) := ⟨fun _ k hk => by
                by_cases e : k = q
                · rw [e]; exact heq
                · exact HBB.out.1 rfl k (by omega), fun _ => rfl⟩
              have HST := Lib.hid hst
              clear hst heq
              go_wp2
              go_quiet (fail)
              go_wp2
              go_roundg gk3
              case measure => omega
              case rel => exact ⟨q + 1, true, by omega, by go_num, rfl, by simpa using HST.out, HB2.out.next (below_drewN (Below.refl _ _) _)⟩
            · have hst : (false = true ↔ ∀ k, k < q + 1 → a.getD (vN r k) 0 = (tN r J k : Int)) := ⟨fun e => absurd e (by simp), fun hm => absurd (hm q (by omega)) heq⟩
              have HST := Lib.hid hst
              have hne : (a.getD (vN r q) 0 == (tN r J q : Int)) = false := by simpa using heq
              clear hst heq
              generalize a.getD (vN r q) 0 = y at *
              go_wp2
              go_quiet (fail)
              go_wp2
              go_roundg gk3
              case measure => omega
              case rel => exact ⟨q + 1, false, by omega, by go_num, rfl, HST.out, HB2.out.next (below_drewN (Below.refl _ _) _)⟩
end Go.Proofs.Ytamidopeojipkaa
