/- before and holds: the walks. -/
import Derived.Test.YtamidopeojipkaaSatR
import Derived.Test.YtamidopeojipkaaGac
namespace Go.Proofs.Ytamidopeojipkaa
open Go.RowKit
set_option linter.unusedVariables false

/-- a comes before b -/
def lexLt (a b : List Int) : Prop := ∃ k, k < a.length ∧ a.getD k 0 < b.getD k 0 ∧ ∀ j, j < k → a.getD j 0 = b.getD j 0

set_option maxRecDepth 20000 in
set_option maxHeartbeats 1600000 in
theorem before_any {w : World} {P Q : Nat → Prop} {av bv : Value} {a b : List Int} (ha : IntsAt w P av a) (hb : IntsAt w Q bv b) (hP : Under P w.heap.size) (hQ : Under Q w.heap.size) (hl : a.length = b.length) (h16 : a.length ≤ 16) :
    Calls Try.prog 28 #[av, bv] w (BoolP (lexLt a b) w) := by
  obtain ⟨a1, c1, b1, o1, rfl, hr1⟩ := ha
  obtain ⟨a2, c2, b2, o2, rfl, hr2⟩ := hb
  have H1 := Lib.hid hr1
  have H2 := Lib.hid hr2
  have HP := Lib.hid hP
  have HQ := Lib.hid hQ
  have hc1 := hr1.hcap
  have hc2 := hr2.hcap
  have hm1 : c1 ≤ 9223372036854775807 := by have := hr1.hmax; unfold maxLen at this; omega
  have hm2 : c2 ≤ 9223372036854775807 := by have := hr2.hmax; unfold maxLen at this; omega
  rw [← hl] at H2 hc2 ⊢
  obtain ⟨n, hn⟩ : ∃ n, a.length = n := ⟨_, rfl⟩
  rw [hn] at H1 H2 hc1 hc2 h16 ⊢
  have HN := Lib.hid hn
  clear hr1 hr2 hP hQ hl hn
  go_enter Try.func28, Try.ntmps28
  go_wp2
  go_loopg [8] n (fun g8 i wr => ∃ q : Nat, q + g8 = n ∧ i = .int .i64 q ∧ Below w.heap.size w wr ∧ ∀ j, j < q → a.getD j 0 = b.getD j 0)
  case atStart => exact ⟨0, by omega, rfl, Below.refl _ _, fun j hj => by omega⟩
  case round =>
    obtain ⟨q, hq, rfl, hbel, hall⟩ := hrel
    have HB := Lib.hid hbel
    have HALL := Lib.hid hall
    clear hall
    cases gk with
    | zero =>
      have hkl : ¬ (q : Int) < n := by omega
      have hno : ¬ lexLt a b := fun ⟨k, hk, h1, h2⟩ => by
        have := HALL.out k (by rw [HN.out] at hk; omega)
        omega
      have HNO := Lib.hid hno
      clear hbel hno
      go_wp2
      go_ret
      exact ⟨_, rfl, ⟨fun e => absurd e (by simp), fun e => absurd e HNO.out⟩, HB.out⟩
    | succ gk2 =>
      have hql : q < n := by omega
      obtain ⟨rfl, hp1⟩ := H1.out.ha (by omega)
      obtain ⟨rfl, hp2⟩ := H2.out.ha (by omega)
      have d1 := (H1.out.kept (Below.keptB hbel HP.out)).hc q (by omega)
      have d2 := (H2.out.kept (Below.keptB hbel HQ.out)).hc q (by omega)
      clear hbel
      by_cases heq : a.getD q 0 = b.getD q 0
      · have hst : ∀ j, j < q + 1 → a.getD j 0 = b.getD j 0 := fun j hj => by
          by_cases e : j = q
          · rw [e]; exact heq
          · exact HALL.out j (by omega)
        have HST := Lib.hid hst
        rw [heq] at d1
        clear hst heq
        generalize b.getD q 0 = y at *
        go_wp2
        go_quiet (fail)
        go_wp2
        go_roundg gk2
        case measure => omega
        case rel => exact ⟨q + 1, by omega, by go_num, below_drewN HB.out _, HST.out⟩
      · have hiff : a.getD q 0 < b.getD q 0 ↔ lexLt a b := by
          constructor
          · exact fun e => ⟨q, by rw [HN.out]; exact hql, e, HALL.out⟩
          · rintro ⟨k, hk, h1, h2⟩
            rcases Nat.lt_trichotomy k q with l | l | l
            · have := HALL.out k l; omega
            · rw [← l]; exact h1
            · exact absurd (h2 q l) heq
        have HIFF := Lib.hid hiff
        have hne : (a.getD q 0 == b.getD q 0) = false := by simpa using heq
        have hnd : ¬ a.getD q 0 = b.getD q 0 := heq
        clear hiff heq
        generalize a.getD q 0 = x at *
        generalize b.getD q 0 = y at *
        by_cases hxy : x < y
        · have hxd : decide (x < y) = true := by simp [hxy]
          have HX := Lib.hid (HIFF.out.1 hxy)
          clear hxy
          go_wp2
          go_quiet (fail)
          go_wp2
          go_quiet (fail)
          go_wp2
          go_ret
          exact ⟨_, rfl, ⟨fun _ => HX.out, fun _ => rfl⟩, below_drewN (below_drewN HB.out _) _⟩
        · have hxd : decide (x < y) = false := by simp [hxy]
          have HX : Hid (¬ lexLt a b) := Lib.hid fun e => hxy (HIFF.out.2 e)
          clear hxy
          go_wp2
          go_quiet (fail)
          go_wp2
          go_quiet (fail)
          go_wp2
          go_ret
          exact ⟨_, rfl, ⟨fun e => absurd e (by simp), fun e => absurd e HX.out⟩, below_drewN (below_drewN HB.out _) _⟩
end Go.Proofs.Ytamidopeojipkaa
