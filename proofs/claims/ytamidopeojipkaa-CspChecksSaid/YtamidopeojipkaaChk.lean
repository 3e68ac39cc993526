/- CspChecks: the walk. -/
import Derived.Test.YtamidopeojipkaaSmall
import Derived.Test.YtamidopeojipkaaAlive
import Derived.Deep.RegionHeld3
namespace Go.Proofs.Ytamidopeojipkaa
open Go.RowKit
set_option linter.unusedVariables false

set_option maxRecDepth 20000 in
set_option maxHeartbeats 1600000 in
theorem checks_walk {w : World} {P : Nat → Prop} {sv rv : Value} {p : Prob} (hs : IntsAt w P sv p.sizes) (hr : RelsAt w P rv p.rels) (hP : Under P w.heap.size) :
    Calls Try.prog 3 #[.agg #[sv, rv]] w (OneB true w) := by
  have hbel := (Below.refl _ w).alloc (Nat.le_refl _) (.cells #[sv, rv] 25)
  have hsm : ∀ w1, Below w.heap.size w w1 → Calls Try.prog 10 #[.agg #[sv, rv]] w1 (SomeB w1) := fun w1 hb => small_any (hs.kept (Below.keptB hb hP)) (hr.kept (Below.keptB hb hP)) (hP.le hb.size)
  have hcp : ∀ w1, Below w.heap.size w w1 → Calls Try.prog 12 #[.agg #[sv, rv]] w1 (OneI (checkE p) w1) := fun w1 hb => checkP_any (hs.kept (Below.keptB hb hP)) (hr.kept (Below.keptB hb hP)) (hP.le hb.size)
  have hcr : ∀ w1, Below w.heap.size w w1 → Calls Try.prog 13 #[.agg #[sv, rv]] w1 (OneI (checkE p) w1) := fun w1 hb => checkR_any (hs.kept (Below.keptB hb hP)) (hr.kept (Below.keptB hb hP)) (hP.le hb.size)
  have HSM := Lib.hid hsm
  have HCP := Lib.hid hcp
  have HCR := Lib.hid hcr
  have hbx : PxAt w sv rv (w.alloc (.cells #[sv, rv] 25)) := ⟨hbel, heap_alloc_new _ _⟩
  have HBX := Lib.hid hbx
  obtain ⟨sa, sl, sc, rfl⟩ := hs.slice
  obtain ⟨ra, rl, rc, rfl⟩ := hr.slice
  generalize checkE p = E at *
  clear hs hr hP hbel hsm hcp hcr hbx
  go_enter Try.func3, Try.ntmps3
  go_wp2_with (first
    | (go_at_call 10; refine (HSM.out _ HBX.out.bel).mono ?_; rintro e w1 ⟨b, rfl, hb1⟩; have HB1 := Lib.hid (HBX.out.next hb1); have hd1 := HB1.out.next (Below.refl _ w1).drew; have HD1 := Lib.hid hd1; have c0 := hd1.s; have c1 := hd1.r; clear hb1 hd1; cases b)
    | (go_at_call 11; refine (alive_any _).mono ?_; rintro e w2 ⟨rfl, hb2⟩))
  · go_ret
    exact ⟨rfl, (HB1.out.next hb2).bel⟩
  · go_region_held3 (fun w' => w'.cell? ⟨w.heap.size, 0, none⟩ = some (.slice sa sl sc) ∧ w'.cell? ⟨w.heap.size, 1, none⟩ = some (.slice ra rl rc))
      (first | exact ⟨c0, c1⟩ | exact ⟨f0, f1⟩ | exact ⟨g0, g1⟩ | exact ⟨k0, k1⟩)
      (first
        | (go_at_call 12; refine (HCP.out _ HD1.out.bel).mono ?_; rintro e w3 ⟨rfl, hb3⟩; have HB3 := Lib.hid (HD1.out.next hb3); have f0 := HB3.out.s; have f1 := HB3.out.r)
        | (go_at_call 13; refine (HCR.out _ HB3.out.bel).mono ?_; rintro e w4 ⟨rfl, hb4⟩; have HB4 := Lib.hid (HB3.out.next hb4); have g0 := HB4.out.s; have g1 := HB4.out.r)
        | (go_at_call 11; refine (alive_any _).mono ?_; rintro e w5 ⟨rfl, hb5⟩; have HB5 := Lib.hid (HB4.out.next hb5); have k0 := HB5.out.s; have k1 := HB5.out.r))
    go_wp2
    go_ret
    exact ⟨rfl, HB5.out.bel⟩
end Go.Proofs.Ytamidopeojipkaa
