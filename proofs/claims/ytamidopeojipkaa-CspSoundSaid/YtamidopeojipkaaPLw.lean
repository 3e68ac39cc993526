/- CspPropagates: the walk. -/
import Derived.Test.YtamidopeojipkaaPropR
import Derived.Test.YtamidopeojipkaaPropP
import Derived.Test.YtamidopeojipkaaSmall
import Derived.Test.YtamidopeojipkaaAlive
namespace Go.Proofs.Ytamidopeojipkaa
open Go.RowKit
set_option linter.unusedVariables false

theorem tab_slice {w : World} {base : Nat} {v : Value} {bs : Nat → Nat} {n : Nat} {m : Nat → Nat} {f : Nat → Nat → Bool} (h : TabAt w base v bs n m f) : ∃ a c, v = .slice a n c ∧ n ≤ c ∧ c ≤ 9223372036854775807 := by
  rcases h.shape with ⟨h1, h2⟩ | ⟨g, cap, h1, h2, h3, _⟩
  · exact ⟨none, 0, by rw [h1, h2], by omega, by omega⟩
  · exact ⟨_, _, h1, h2, h3⟩
theorem tab_some {w : World} {base : Nat} {a : Option Addr} {c : Nat} {bs : Nat → Nat} {n : Nat} {m : Nat → Nat} {f : Nat → Nat → Bool} (h : TabAt w base (.slice a n c) bs n m f) (hn : 0 < n) : ∃ g, a = some ⟨g, 0, none⟩ := by
  rcases h.shape with ⟨_, h2⟩ | ⟨g, cap, h1, _⟩
  · omega
  · cases h1; exact ⟨g, rfl⟩

set_option maxRecDepth 20000 in
set_option maxHeartbeats 1600000 in
theorem props_walk {w : World} {P : Nat → Prop} {sv rv : Value} {p : Prob} (hs : IntsAt w P sv p.sizes) (hr : RelsAt w P rv p.rels) (hP : Under P w.heap.size) :
    Calls Try.prog 4 #[.agg #[sv, rv]] w (OneB true w) := by
  have hbel := (Below.refl _ w).alloc (Nat.le_refl _) (.cells #[sv, rv] 25)
  have hsm : ∀ w1, Below w.heap.size w w1 → Calls Try.prog 10 #[.agg #[sv, rv]] w1 (SomeB w1) := fun w1 hb => small_any (hs.kept (Below.keptB hb hP)) (hr.kept (Below.keptB hb hP)) (hP.le hb.size)
  have HSM := Lib.hid hsm
  have hbx : PxAt w sv rv (w.alloc (.cells #[sv, rv] 25)) := ⟨hbel, heap_alloc_new _ _⟩
  have HBX := Lib.hid hbx
  by_cases hok : checkE p = 0
  · have h14 : ∀ w1, Below w.heap.size w w1 → Calls Try.prog 14 #[.agg #[sv, rv]] w1 fun e w' => ∃ v bs f, e = .returned (.tuple #[v, .int .i64 0]) ∧ TabAt w' w1.heap.size v bs p.sizes.length (szs p.sizes) f ∧ (∀ a x, a < p.sizes.length → x < szs p.sizes a → f a x = gac p a x) ∧ Below w1.heap.size w1 w' := fun w1 hb => propP_yes (hs.kept (Below.keptB hb hP)) (hr.kept (Below.keptB hb hP)) (hP.le hb.size) hok
    have h15 : ∀ w1, Below w.heap.size w w1 → Calls Try.prog 15 #[.agg #[sv, rv]] w1 fun e w' => ∃ v bs f, e = .returned (.tuple #[v, .int .i64 0]) ∧ TabAt w' w1.heap.size v bs p.sizes.length (szs p.sizes) f ∧ (∀ a x, a < p.sizes.length → x < szs p.sizes a → f a x = gac p a x) ∧ Below w1.heap.size w1 w' := fun w1 hb => propR_yes (hs.kept (Below.keptB hb hP)) (hr.kept (Below.keptB hb hP)) (hP.le hb.size) hok
    have H14 := Lib.hid h14
    have H15 := Lib.hid h15
    have hgood := Good.of hok
    have HSZ := Lib.hid hgood.szs
    have hl16 := hgood.len
    obtain ⟨n, hn⟩ : ∃ n, p.sizes.length = n := ⟨_, rfl⟩
    obtain ⟨m, hmm⟩ : ∃ m, szs p.sizes = m := ⟨_, rfl⟩
    rw [hn, hmm] at H14 H15
    rw [hmm] at HSZ
    rw [hn] at hl16
    obtain ⟨sa, sl, sc, rfl⟩ := hs.slice
    obtain ⟨ra, rl, rc, rfl⟩ := hr.slice
    clear hs hr hP hbel hsm h14 h15 hbx hok hgood hn hmm
    go_enter Try.func4, Try.ntmps4
    go_wp2_with (first
      | (go_at_call 10; refine (HSM.out _ HBX.out.bel).mono ?_; rintro e w1 ⟨b, rfl, hb1⟩; have HB1 := Lib.hid (HBX.out.next hb1); have c0 := HB1.out.s; have c1 := HB1.out.r; clear hb1; cases b)
      | (go_at_call 14; refine (H14.out _ HB1.out.bel).mono ?_; rintro e w3 ⟨v3, bs3, f3, rfl, ht3, hf3, hb3⟩; obtain ⟨a3, q3, rfl, hc3, hm3⟩ := tab_slice ht3; have HT3 := Lib.hid ht3; have HF3 := Lib.hid hf3; have HB3 := Lib.hid (HB1.out.next hb3); have d0 := HB3.out.s; have d1 := HB3.out.r; clear hb3 ht3 hf3)
      | (go_at_call 15; refine (H15.out _ HB3.out.bel).mono ?_; rintro e w4 ⟨v4, bs4, f4, rfl, ht4, hf4, hb4⟩; obtain ⟨a4, q4, rfl, hc4, hm4⟩ := tab_slice ht4; have HT4 := Lib.hid ht4; have HF4 := Lib.hid hf4; have HB4 := Lib.hid (HB3.out.next hb4); have HT34 := Lib.hid (HT3.out.below hb4); clear hb4 ht4 hf4)
      | (go_at_call 11; refine (alive_any _).mono ?_; rintro e w2 ⟨rfl, hb2⟩))
    · go_ret
      exact ⟨rfl, (HB1.out.next hb2).bel⟩
    · clear c0 c1 d0 d1
      go_loopg [35] n (fun g35 i wr => ∃ q : Nat, q + g35 = n ∧ i = .int .i64 q ∧ Below w4.heap.size w4 wr)
      case atStart => exact ⟨0, by omega, rfl, Below.refl _ _⟩
      case round =>
        obtain ⟨q, hq, rfl, hbel⟩ := hrel
        have HBL := Lib.hid hbel
        cases gk with
        | zero =>
          have hkl : ¬ (q : Int) < n := by omega
          clear hbel
          go_wp2_with (first | (go_at_call 11; refine (alive_any _).mono ?_; rintro e w2 ⟨rfl, hb2⟩))
          go_ret
          exact ⟨rfl, Below.next (Below.next HB4.out.bel HBL.out) hb2⟩
        | succ gk2 =>
          have hql : q < n := by omega
          obtain ⟨g3, rfl⟩ := tab_some HT34.out (by omega)
          obtain ⟨g4, rfl⟩ := tab_some HT4.out (by omega)
          have d1 := (HT34.out.below hbel).at hql
          have d2 := (HT4.out.below hbel).at hql
          have hmq := HSZ.out q
          clear hbel
          go_wp2
          go_quiet (fail)
          go_wp2
          have HB5 : Hid (Below w4.heap.size w4 (wr.drewN nq)) := Lib.hid (below_drewN HBL.out _)
          generalize wr.drewN nq = W5 at *
          clear d1 d2
          go_loopg [54] (m q) (fun g54 i wr => ∃ x : Nat, x + g54 = m q ∧ i = .int .i64 x ∧ Below w4.heap.size w4 wr)
          case atStart => exact ⟨0, by omega, rfl, HB5.out⟩
          case round =>
            obtain ⟨x, hx, rfl, hbel⟩ := hrel
            have HB6 := Lib.hid hbel
            cases gk with
            | zero =>
              have hkl : ¬ (x : Int) < m q := by omega
              clear hbel
              go_wp2
              go_roundg gk2
              case measure => omega
              case rel => exact ⟨q + 1, by omega, by go_num, HB6.out⟩
            | succ gk3 =>
              have hxl : x < m q := by omega
              have d1 := (HT34.out.below hbel).at hql
              have d2 := (HT4.out.below hbel).at hql
              have d3 := ((HT34.out.below hbel).flag hql hxl).1
              have d4 := ((HT4.out.below hbel).flag hql hxl).1
              rw [HF3.out q x hql hxl] at d3
              rw [HF4.out q x hql hxl] at d4
              clear hbel
              generalize gac p q x = B at *
              cases B with
              | true =>
                go_wp2
                go_quiet (fail)
                go_wp2
                go_roundg gk3
                case measure => omega
                case rel => exact ⟨x + 1, by omega, by go_num, below_drewN HB6.out _⟩
              | false =>
                go_wp2
                go_quiet (fail)
                go_wp2
                go_roundg gk3
                case measure => omega
                case rel => exact ⟨x + 1, by omega, by go_num, below_drewN HB6.out _⟩
  · have h14 : ∀ w1, Below w.heap.size w w1 → Calls Try.prog 14 #[.agg #[sv, rv]] w1 fun e w' => e = .returned (.tuple #[.slice none 0 0, .int .i64 (checkE p)]) ∧ Below w1.heap.size w1 w' := fun w1 hb => propP_no (hs.kept (Below.keptB hb hP)) (hr.kept (Below.keptB hb hP)) (hP.le hb.size) hok
    have h15 : ∀ w1, Below w.heap.size w w1 → Calls Try.prog 15 #[.agg #[sv, rv]] w1 fun e w' => e = .returned (.tuple #[.slice none 0 0, .int .i64 (checkE p)]) ∧ Below w1.heap.size w1 w' := fun w1 hb => propR_no (hs.kept (Below.keptB hb hP)) (hr.kept (Below.keptB hb hP)) (hP.le hb.size) hok
    have H14 := Lib.hid h14
    have H15 := Lib.hid h15
    obtain ⟨sa, sl, sc, rfl⟩ := hs.slice
    obtain ⟨ra, rl, rc, rfl⟩ := hr.slice
    generalize checkE p = E at *
    clear hs hr hP hbel hsm h14 h15 hbx hok
    go_enter Try.func4, Try.ntmps4
    go_wp2_with (first
      | (go_at_call 10; refine (HSM.out _ HBX.out.bel).mono ?_; rintro e w1 ⟨b, rfl, hb1⟩; have HB1 := Lib.hid (HBX.out.next hb1); have c0 := HB1.out.s; have c1 := HB1.out.r; clear hb1; cases b)
      | (go_at_call 14; refine (H14.out _ HB1.out.bel).mono ?_; rintro e w3 ⟨rfl, hb3⟩; have HB3 := Lib.hid (HB1.out.next hb3); have d0 := HB3.out.s; have d1 := HB3.out.r; clear hb3)
      | (go_at_call 15; refine (H15.out _ HB3.out.bel).mono ?_; rintro e w4 ⟨rfl, hb4⟩; have HB4 := Lib.hid (HB3.out.next hb4); clear hb4)
      | (go_at_call 11; refine (alive_any _).mono ?_; rintro e w2 ⟨rfl, hb2⟩))
    · go_ret
      exact ⟨rfl, (HB1.out.next hb2).bel⟩
    · go_loopg [35] 0 (fun g35 i wr => i = .int .i64 0 ∧ Below w4.heap.size w4 wr)
      case atStart => exact ⟨rfl, Below.refl _ _⟩
      case round =>
        obtain ⟨rfl, hbel⟩ := hrel
        have HBL := Lib.hid hbel
        clear hbel
        go_wp2_with (first | (go_at_call 11; refine (alive_any _).mono ?_; rintro e w2 ⟨rfl, hb2⟩))
        go_ret
        exact ⟨rfl, Below.next (Below.next HB4.out.bel HBL.out) hb2⟩
end Go.Proofs.Ytamidopeojipkaa
