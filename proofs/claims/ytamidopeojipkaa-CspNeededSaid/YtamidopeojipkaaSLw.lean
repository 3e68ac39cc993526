/- CspSolves, CspLists: the walks. -/
import Derived.Test.YtamidopeojipkaaAllR
import Derived.Test.YtamidopeojipkaaSmall
import Derived.Test.YtamidopeojipkaaAlive
namespace Go.Proofs.Ytamidopeojipkaa
open Go.RowKit
set_option linter.unusedVariables false

theorem ints_same {w : World} {P Q : Nat → Prop} {v1 v2 : Value} {xs : List Int} (h1 : IntsAt w P v1 xs) (h2 : IntsAt w Q v2 xs) (hP : Under P w.heap.size) (hQ : Under Q w.heap.size) : Calls Try.prog 20 #[v1, v2] w (OneB true w) := by
  have h := ints_any h1 h2 hP hQ
  rw [decide_eq_true (Eq.refl xs)] at h
  exact h
theorem lists_same {w : World} {P Q : Nat → Prop} {v1 v2 : Value} {xs : List (List Int)} (h1 : ListsAt w P v1 xs) (h2 : ListsAt w Q v2 xs) (hP : Under P w.heap.size) (hQ : Under Q w.heap.size) : Calls Try.prog 23 #[v1, v2] w (OneB true w) := by
  have h := lists_any h1 h2 hP hQ
  rw [decide_eq_true (Eq.refl xs)] at h
  exact h
theorem ho_under {w w' : World} {base : Nat} {v : Value} {xs : List Int} (h : OwnI w base v xs) (hb : Below w.heap.size w w') : Under (fun k => v.ownBlock = some k) w'.heap.size := fun k hk => Nat.lt_of_lt_of_le (h.lt hk).2 hb.size
theorem ho_ints {w w' : World} {base : Nat} {v : Value} {xs : List Int} (h : OwnI w base v xs) (hb : Below w.heap.size w w') : IntsAt w' (fun k => v.ownBlock = some k) v xs := h.ints.kept (Below.keptB hb fun k hk => (h.lt hk).2)
set_option maxRecDepth 20000 in
set_option maxHeartbeats 1600000 in
theorem solves_walk {w : World} {P : Nat → Prop} {sv rv : Value} {p : Prob} (hs : IntsAt w P sv p.sizes) (hr : RelsAt w P rv p.rels) (hP : Under P w.heap.size) :
    Calls Try.prog 5 #[.agg #[sv, rv]] w (OneB true w) := by
  have hbel := (Below.refl _ w).alloc (Nat.le_refl _) (.cells #[sv, rv] 25)
  have hsm : ∀ w1, Below w.heap.size w w1 → Calls Try.prog 10 #[.agg #[sv, rv]] w1 (SomeB w1) := fun w1 hb => small_any (hs.kept (Below.keptB hb hP)) (hr.kept (Below.keptB hb hP)) (hP.le hb.size)
  have h16 : ∀ w1, Below w.heap.size w w1 → Calls Try.prog 16 #[.agg #[sv, rv]] w1 (SolvePost p w1) := fun w1 hb => solve_any (hs.kept (Below.keptB hb hP)) (hr.kept (Below.keptB hb hP)) (hP.le hb.size)
  have h17 : ∀ w1, Below w.heap.size w w1 → Calls Try.prog 17 #[.agg #[sv, rv]] w1 (SolvePost p w1) := fun w1 hb => solveR_any (hs.kept (Below.keptB hb hP)) (hr.kept (Below.keptB hb hP)) (hP.le hb.size)
  have h18 : ∀ w1, Below w.heap.size w w1 → Calls Try.prog 18 #[.agg #[sv, rv]] w1 fun e w' => e = .returned (.tuple #[.int .i64 (countN p), .int .i64 (countE p)]) ∧ Below w1.heap.size w1 w' := fun w1 hb => count_any (hs.kept (Below.keptB hb hP)) (hr.kept (Below.keptB hb hP)) (hP.le hb.size)
  have h19 : ∀ w1, Below w.heap.size w w1 → Calls Try.prog 19 #[.agg #[sv, rv]] w1 fun e w' => e = .returned (.tuple #[.int .i64 (countN p), .int .i64 (countE p)]) ∧ Below w1.heap.size w1 w' := fun w1 hb => countR_any (hs.kept (Below.keptB hb hP)) (hr.kept (Below.keptB hb hP)) (hP.le hb.size)
  have HSM := Lib.hid hsm
  have H16 := Lib.hid h16
  have H17 := Lib.hid h17
  have H18 := Lib.hid h18
  have H19 := Lib.hid h19
  have hbx : PxAt w sv rv (w.alloc (.cells #[sv, rv] 25)) := ⟨hbel, heap_alloc_new _ _⟩
  have HBX := Lib.hid hbx
  obtain ⟨sa, sl, sc, rfl⟩ := hs.slice
  obtain ⟨ra, rl, rc, rfl⟩ := hr.slice
  clear hs hr hP hbel hsm h16 h17 h18 h19 hbx
  go_enter Try.func5, Try.ntmps5
  go_wp2_with (first
    | (go_at_call 10; refine (HSM.out _ HBX.out.bel).mono ?_; rintro e w1 ⟨b, rfl, hb1⟩; have HB1 := Lib.hid (HBX.out.next hb1); have c0 := HB1.out.s; have c1 := HB1.out.r; clear hb1; cases b)
    | (go_at_call 16; refine (H16.out _ HB1.out.bel).mono ?_; rintro e w3 ⟨v3, rfl, ho3, hb3⟩; obtain ⟨a3, l3, q3, rfl⟩ := ho3.ints.slice; have HO3 := Lib.hid ho3; have HB3 := Lib.hid (HB1.out.next hb3); have d0 := HB3.out.s; have d1 := HB3.out.r; clear hb3 ho3)
    | (go_at_call 17; refine (H17.out _ HB3.out.bel).mono ?_; rintro e w4 ⟨v4, rfl, ho4, hb4⟩; obtain ⟨a4, l4, q4, rfl⟩ := ho4.ints.slice; have HO4 := Lib.hid ho4; have HB4 := Lib.hid (HB3.out.next hb4); have HN4 := Lib.hid hb4; have e0 := HB4.out.s; have e1 := HB4.out.r; clear hb4 ho4)
    | (go_at_call 18; refine (H18.out _ HB4.out.bel).mono ?_; rintro e w5 ⟨rfl, hb5⟩; have HB5 := Lib.hid (HB4.out.next hb5); have HN5 := Lib.hid hb5; have f0 := HB5.out.s; have f1 := HB5.out.r; clear hb5)
    | (go_at_call 19; refine (H19.out _ HB5.out.bel).mono ?_; rintro e w6 ⟨rfl, hb6⟩; have HB6 := Lib.hid (HB5.out.next hb6); have hn6 := Below.next HN5.out hb6; have hn3 := Below.next HN4.out hn6; have HI := Lib.hid (ints_same (ho_ints HO3.out hn3) (ho_ints HO4.out hn6) (ho_under HO3.out hn3) (ho_under HO4.out hn6)); clear hb6 hn6 hn3)
    | (go_at_call 20; refine HI.out.mono ?_; rintro e w7 ⟨rfl, hb7⟩; have HB7 := Lib.hid (HB6.out.next hb7); clear hb7)
    | (go_at_call 11; refine (alive_any _).mono ?_; rintro e w2 ⟨rfl, hb2⟩))
  · go_ret
    exact ⟨rfl, (HB1.out.next hb2).bel⟩
  · go_ret
    exact ⟨rfl, (HB7.out.next hb2).bel⟩

set_option maxRecDepth 20000 in
set_option maxHeartbeats 1600000 in
theorem lists_walk {w : World} {P : Nat → Prop} {sv rv : Value} {p : Prob} (hs : IntsAt w P sv p.sizes) (hr : RelsAt w P rv p.rels) (hP : Under P w.heap.size) (most : Int) :
    Calls Try.prog 6 #[.agg #[sv, rv], .int .i64 most] w (OneB true w) := by
  have hbel := (Below.refl _ w).alloc (Nat.le_refl _) (.cells #[sv, rv] 25)
  have hsm : ∀ w1, Below w.heap.size w w1 → Calls Try.prog 10 #[.agg #[sv, rv]] w1 (SomeB w1) := fun w1 hb => small_any (hs.kept (Below.keptB hb hP)) (hr.kept (Below.keptB hb hP)) (hP.le hb.size)
  have h21 : ∀ w1, Below w.heap.size w w1 → Calls Try.prog 21 #[.agg #[sv, rv], .int .i64 most] w1 (AllPost p most w1) := fun w1 hb => all_any (hs.kept (Below.keptB hb hP)) (hr.kept (Below.keptB hb hP)) (hP.le hb.size) most
  have h22 : ∀ w1, Below w.heap.size w w1 → Calls Try.prog 22 #[.agg #[sv, rv], .int .i64 most] w1 (AllPost p most w1) := fun w1 hb => allR_any (hs.kept (Below.keptB hb hP)) (hr.kept (Below.keptB hb hP)) (hP.le hb.size) most
  have HSM := Lib.hid hsm
  have H21 := Lib.hid h21
  have H22 := Lib.hid h22
  have hbx : PxAt w sv rv (w.alloc (.cells #[sv, rv] 25)) := ⟨hbel, heap_alloc_new _ _⟩
  have HBX := Lib.hid hbx
  obtain ⟨sa, sl, sc, rfl⟩ := hs.slice
  obtain ⟨ra, rl, rc, rfl⟩ := hr.slice
  clear hs hr hP hbel hsm h21 h22 hbx
  go_enter Try.func6, Try.ntmps6
  go_wp2_with (first
    | (go_at_call 10; refine (HSM.out _ HBX.out.bel).mono ?_; rintro e w1 ⟨b, rfl, hb1⟩; have HB1 := Lib.hid (HBX.out.next hb1); have c0 := HB1.out.s; have c1 := HB1.out.r; clear hb1; cases b)
    | (go_at_call 21; refine (H21.out _ HB1.out.bel).mono ?_; rintro e w3 ⟨v3, vs3, rfl, ho3, hb3⟩; obtain ⟨a3, l3, q3, rfl⟩ := ho3.lists.slice; have HO3 := Lib.hid ho3; have HB3 := Lib.hid (HB1.out.next hb3); have d0 := HB3.out.s; have d1 := HB3.out.r; clear hb3 ho3)
    | (go_at_call 22; refine (H22.out _ HB3.out.bel).mono ?_; rintro e w4 ⟨v4, vs4, rfl, ho4, hb4⟩; obtain ⟨a4, l4, q4, rfl⟩ := ho4.lists.slice; have HB4 := Lib.hid (HB3.out.next hb4); have HI := Lib.hid (lists_same (HO3.out.lists.kept (Below.keptB hb4 HO3.out.under)) ho4.lists (HO3.out.under.le hb4.size) ho4.under); clear hb4 ho4)
    | (go_at_call 23; refine HI.out.mono ?_; rintro e w7 ⟨rfl, hb7⟩; have HB7 := Lib.hid (HB4.out.next hb7); clear hb7)
    | (go_at_call 11; refine (alive_any _).mono ?_; rintro e w2 ⟨rfl, hb2⟩))
  · go_ret
    exact ⟨rfl, (HB1.out.next hb2).bel⟩
  · go_ret
    exact ⟨rfl, (HB7.out.next hb2).bel⟩
end Go.Proofs.Ytamidopeojipkaa
