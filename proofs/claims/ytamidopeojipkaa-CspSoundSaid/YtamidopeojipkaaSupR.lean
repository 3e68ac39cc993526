/- supported of the reference: the walk. -/
import Derived.Test.YtamidopeojipkaaSatR
namespace Go.Proofs.Ytamidopeojipkaa
open Go.RowKit
set_option linter.unusedVariables false

/-- supported, as the reference reckons it -/
def suppT (f : Nat → Nat → Bool) (r : Rel) (k x j : Nat) : Prop := tN r j k = x ∧ ∀ i, i < r.vars.length → i = k ∨ f (vN r i) (tN r j i) = true
def suppR (f : Nat → Nat → Bool) (r : Rel) (k x : Nat) : Prop := ∃ j, j < r.allowed.length ∧ suppT f r k x j
theorem suppR_iff {f : Nat → Nat → Bool} {r : Rel} {k x : Nat} (h : f (vN r k) x = true) : suppR f r k x ↔ supp f r k x := by
  constructor
  · rintro ⟨j, hj, h1, h2⟩
    refine ⟨j, hj, h1, fun i hi => ?_⟩
    rcases h2 i hi with e | e
    · rw [e, h1]; exact h
    · exact e
  · rintro ⟨j, hj, h1, h2⟩
    exact ⟨j, hj, h1, fun i hi => .inr (h2 i hi)⟩

set_option maxRecDepth 20000 in
set_option maxHeartbeats 1600000 in
theorem supported_any {w : World} {P : Nat → Prop} {vv uv lv : Value} {base : Nat} {sizes : List Int} {r : Rel} {bs : Nat → Nat} {f : Nat → Nat → Bool} {k x : Nat} (hv : IntsAt w P vv r.vars) (hu : ListsAt w P uv r.allowed) (hP : Under P w.heap.size) (hfine : Fine sizes r)
    (htab : TabAt w base lv bs sizes.length (szs sizes) f) (hm : ∀ i, szs sizes i ≤ 1000) (hk : k < r.vars.length) (hx : x ≤ 1000) :
    Calls Try.prog 34 #[.agg #[vv, uv], lv, .int .i64 k, .int .i64 x] w (BoolP (suppR f r k x) w) := by
  obtain ⟨va, vcap, vb, vo, rfl, hvr⟩ := hv
  obtain ⟨aa, acap, ab, ao, avs, rfl, har, has⟩ := hu
  have HV := Lib.hid hvr
  have HA := Lib.hid har
  have HAS := Lib.hid has
  have HP := Lib.hid hP
  have HF := Lib.hid hfine
  have HT := Lib.hid htab
  have HM := Lib.hid hm
  have hvc := hvr.hcap
  have hac := har.hcap
  have hvm : vcap ≤ 9223372036854775807 := by have := hvr.hmax; unfold maxLen at this; omega
  have ham : acap ≤ 9223372036854775807 := by have := har.hmax; unfold maxLen at this; omega
  have hbx : CyAt w (.slice va r.vars.length vcap) (.slice aa r.allowed.length acap) (w.alloc (.cells #[.slice va r.vars.length vcap, .slice aa r.allowed.length acap] 46)) := ⟨(Below.refl _ _).alloc (Nat.le_refl _) _, heap_alloc_new _ _⟩
  have HBX := Lib.hid hbx
  have hl1 := hfine.len1
  have hl3 := hfine.len3
  have hla := hfine.few
  have hls : sizes.length ≠ 0 := by have := (hfine.var 0 hl1).2; omega
  obtain ⟨g, gcap, hlve, hgc, hgm, hgl⟩ : ∃ g cap, lv = .slice (some ⟨g, 0, none⟩) sizes.length cap ∧ sizes.length ≤ cap ∧ cap ≤ 9223372036854775807 ∧ g < w.heap.size := by
    rcases htab.shape with ⟨_, h0⟩ | ⟨g, cap, h1, h2, h3, h4, _⟩
    · exact absurd h0 hls
    · exact ⟨g, cap, h1, h2, h3, h4⟩
  obtain ⟨n, hn⟩ : ∃ n, sizes.length = n := ⟨_, rfl⟩
  obtain ⟨m, hmm⟩ : ∃ m, szs sizes = m := ⟨_, rfl⟩
  obtain ⟨kv, hkv⟩ : ∃ kv, r.vars.length = kv := ⟨_, rfl⟩
  obtain ⟨ka, hka⟩ : ∃ ka, r.allowed.length = ka := ⟨_, rfl⟩
  rw [hn, hmm] at HT
  rw [hmm] at HM
  rw [hn] at hgc hlve
  subst hlve
  rw [hkv] at HV HBX hvc hl1 hl3 hk ⊢
  rw [hka] at HA HAS HBX hac hla ⊢
  have HKV := Lib.hid hkv
  have HKA := Lib.hid hka
  have HN := Lib.hid hn
  have HMM := Lib.hid hmm
  obtain ⟨rfl, hpv⟩ := HV.out.ha (by omega)
  clear hvr har has hP hbx hfine htab hm hls hn hmm hkv hka
  go_enter Try.func34, Try.ntmps34
  go_wp2
  generalize w.alloc (.cells #[.slice (some ⟨vb, vo, none⟩) kv vcap, .slice aa ka acap] 46) = W at *
  go_loopg [17] ka (fun g13 i wr => ∃ J : Nat, J + g13 = ka ∧ i = .int .i64 J ∧ CyAt w (.slice (some ⟨vb, vo, none⟩) kv vcap) (.slice aa ka acap) wr ∧ ∀ j, j < J → ¬ suppT f r k x j)
  case atStart => exact ⟨0, by omega, rfl, HBX.out, fun j hj => by omega⟩
  case round =>
    obtain ⟨J, hJ, rfl, hbx, hall⟩ := hrel
    have HB := Lib.hid hbx
    have HALL := Lib.hid hall
    have c0 := hbx.v
    have c1 := hbx.a
    clear hall
    cases gk with
    | zero =>
      have hkl : ¬ (J : Int) < ka := by omega
      have hno : ¬ suppR f r k x := fun ⟨j, hj, hm⟩ => HALL.out j (by rw [HKA.out] at hj; omega) hm
      have HNO := Lib.hid hno
      clear hbx hno
      go_wp2
      go_ret
      exact ⟨_, rfl, ⟨fun e => absurd e (by simp), fun e => absurd e HNO.out⟩, HB.out.bel⟩
    | succ gk2 =>
      have hJl : J < ka := by omega
      obtain ⟨rfl, hpa⟩ := HA.out.ha (by omega)
      have d1 := (HA.out.kept (Below.keptB hbx.bel HP.out)).hc J (by omega)
      obtain ⟨ta, tc, tb, to, htv, htr⟩ := HAS.out J hJl
      have HTR := Lib.hid htr
      have htl := HF.out.wide J (by rw [HKA.out]; exact hJl)
      rw [HKV.out] at htl
      have htc := htr.hcap
      have htm : tc ≤ 9223372036854775807 := by have := htr.hmax; unfold maxLen at this; omega
      rw [htv] at d1
      rw [htl] at d1 htc HTR
      obtain ⟨rfl, hpt⟩ := HTR.out.ha (by omega)
      have d2 := (HTR.out.kept (Below.keptB hbx.bel HP.out)).hc k (by omega)
      obtain ⟨htk, htk2⟩ := HF.out.tup J k (by rw [HKA.out]; exact hJl) (by rw [HKV.out]; exact hk)
      rw [htk] at d2
      clear hbx htv htr htl htk2 htk
      generalize wr = W1 at *
      obtain ⟨b0, hb0, hb0i⟩ : ∃ b0 : Bool, (((tN r J k : Nat) : Int) == (x : Int)) = b0 ∧ (b0 = true ↔ tN r J k = x) := ⟨_, rfl, by rw [beq_iff_eq]; omega⟩
      have HB0 := Lib.hid hb0i
      clear hb0i
      go_wp2
      try rw [hb0]
      clear c0 c1 d1 d2 hb0
      go_loopg [11, 30] kv (fun g20 ok i wr => ∃ (q : Nat) (b : Bool), q + g20 = kv ∧ i = .int .i64 q ∧ ok = .bool b ∧ (b = true ↔ tN r J k = x ∧ ∀ i, i < q → i = k ∨ f (vN r i) (tN r J i) = true) ∧ CyAt w (.slice (some ⟨vb, vo, none⟩) kv vcap) (.slice (some ⟨ab, ao, none⟩) ka acap) wr)
      case atStart => exact ⟨0, b0, by omega, rfl, rfl, ⟨fun e => ⟨HB0.out.1 e, fun k hk => by omega⟩, fun e => HB0.out.2 e.1⟩, HB.out⟩
      case round =>
        obtain ⟨q, b, hq, rfl, rfl, hb, hbx⟩ := hrel
        have HB2 := Lib.hid hbx
        have HBB := Lib.hid hb
        clear hb
        cases gk with
        | zero =>
          have hkl : ¬ (q : Int) < kv := by omega
          have hq' : q = kv := by omega
          clear hbx
          cases b with
          | true =>
            have hyes : suppR f r k x := ⟨J, by rw [HKA.out]; exact hJl, (HBB.out.1 rfl).1, fun i hi => (HBB.out.1 rfl).2 i (by rw [HKV.out] at hi; omega)⟩
            have HY := Lib.hid hyes
            clear hyes
            go_wp2
            go_ret
            exact ⟨_, rfl, ⟨fun _ => HY.out, fun _ => rfl⟩, HB2.out.bel⟩
          | false =>
            have hno : ∀ j, j < J + 1 → ¬ suppT f r k x j := fun j hj hm => by
              by_cases e : j = J
              · subst e
                have := HBB.out.2 ⟨hm.1, fun i hi => hm.2 i (by rw [HKV.out]; omega)⟩
                exact absurd this (by simp)
              · exact HALL.out j (by omega) hm
            have HNO := Lib.hid hno
            clear hno
            go_wp2
            go_roundg gk2
            case measure => omega
            case rel => exact ⟨J + 1, by omega, by go_num, HB2.out, HNO.out⟩
        | succ gk3 =>
          have hql : q < kv := by omega
          have d2 := (HV.out.kept (Below.keptB hbx.bel HP.out)).hc q (by omega)
          obtain ⟨hvk, hvk2⟩ := HF.out.var q (by rw [HKV.out]; exact hql)
          rw [HN.out] at hvk2
          rw [hvk] at d2
          cases b with
          | false =>
            have hst : (false = true ↔ tN r J k = x ∧ ∀ i, i < q + 1 → i = k ∨ f (vN r i) (tN r J i) = true) := ⟨fun e => absurd e (by simp), fun hm => HBB.out.2 ⟨hm.1, fun i hi => hm.2 i (by omega)⟩⟩
            have HST := Lib.hid hst
            clear hbx hst
            go_wp2
            go_quiet (fail)
            go_wp2
            go_roundg gk3
            case measure => omega
            case rel => exact ⟨q + 1, false, by omega, by go_num, rfl, HST.out, HB2.out.next (below_drewN (Below.refl _ _) _)⟩
          | true =>
            by_cases hqk : q = k
            · have hst : (true = true ↔ tN r J k = x ∧ ∀ i, i < q + 1 → i = k ∨ f (vN r i) (tN r J i) = true) := ⟨fun _ => ⟨(HBB.out.1 rfl).1, fun i hi => by
                by_cases e : i = q
                · exact .inl (by rw [e, hqk])
                · exact (HBB.out.1 rfl).2 i (by omega)⟩, fun _ => rfl⟩
              have HST := Lib.hid hst
              have hqi : ((q : Int) == (k : Int)) = true := by simp [hqk]
              have hqd : decide ((q : Int) = (k : Int)) = true := by simp [hqk]
              clear hbx hst hqk
              go_wp2
              go_quiet (fail)
              go_wp2
              go_roundg gk3
              case measure => omega
              case rel => exact ⟨q + 1, true, by omega, by go_num, rfl, by simpa using HST.out, HB2.out.next (below_drewN (Below.refl _ _) _)⟩
            · have hqi : ((q : Int) == (k : Int)) = false := by rw [beq_eq_false_iff_ne]; omega
              have hqd : decide ((q : Int) = (k : Int)) = false := by simp; omega
              have hqn : ¬ (q : Int) = (k : Int) := by omega
              have d1 := (HTR.out.kept (Below.keptB hbx.bel HP.out)).hc q (by omega)
              obtain ⟨htq, htq2⟩ := HF.out.tup J q (by rw [HKA.out]; exact hJl) (by rw [HKV.out]; exact hql)
              rw [HMM.out] at htq2
              rw [htq] at d1
              have htw := HT.out.below hbx.bel
              have d3 := htw.at hvk2
              have d4 := (htw.flag hvk2 htq2).1
              have hmk := HM.out (vN r q)
              clear hbx htw
              by_cases hfl : f (vN r q) (tN r J q) = true
              · rw [hfl] at d4
                have hst : (true = true ↔ tN r J k = x ∧ ∀ i, i < q + 1 → i = k ∨ f (vN r i) (tN r J i) = true) := ⟨fun _ => ⟨(HBB.out.1 rfl).1, fun i hi => by
                  by_cases e : i = q
                  · exact .inr (by rw [e]; exact hfl)
                  · exact (HBB.out.1 rfl).2 i (by omega)⟩, fun _ => rfl⟩
                have HST := Lib.hid hst
                clear hst hfl
                go_wp2
                go_quiet (fail)
                go_wp2
                go_roundg gk3
                case measure => omega
                case rel => exact ⟨q + 1, true, by omega, by go_num, rfl, by simpa using HST.out, HB2.out.next (below_drewN (Below.refl _ _) _)⟩
              · have hfl2 : f (vN r q) (tN r J q) = false := by simpa using hfl
                rw [hfl2] at d4
                have hst : (false = true ↔ tN r J k = x ∧ ∀ i, i < q + 1 → i = k ∨ f (vN r i) (tN r J i) = true) := ⟨fun e => absurd e (by simp), fun hm => by
                  rcases hm.2 q (by omega) with e | e
                  · exact absurd e hqk
                  · exact absurd e hfl⟩
                have HST := Lib.hid hst
                clear hst hfl hfl2
                go_wp2
                go_quiet (fail)
                go_wp2
                go_roundg gk3
                case measure => omega
                case rel => exact ⟨q + 1, false, by omega, by go_num, rfl, HST.out, HB2.out.next (below_drewN (Below.refl _ _) _)⟩
end Go.Proofs.Ytamidopeojipkaa
