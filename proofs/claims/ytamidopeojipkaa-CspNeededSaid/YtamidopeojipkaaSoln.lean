/- solutions, All, Solve, Count of the program: the walks. -/
import Derived.Test.YtamidopeojipkaaSearch
import Derived.Test.YtamidopeojipkaaCheckP
namespace Go.Proofs.Ytamidopeojipkaa
open Go.RowKit
set_option linter.unusedVariables false

theorem solver_new {w W : World} {P : Nat → Prop} {sv rv : Value} {p : Prob} {most : Nat} {keep : Bool} (hs : IntsAt w P sv p.sizes) (hr : RelsAt w P rv p.rels) (hP : Under P w.heap.size) (hb : Below w.heap.size w W) :
    SolAt (W.alloc (.cells #[sv, rv, .slice none 0 0, .int .i64 most, .bool keep, .int .i64 0, .slice none 0 0] 56)) w.heap.size W.heap.size P p sv rv (.slice none 0 0) [] most keep 0 (.slice none 0 0) [] [] := by
  have hb2 := hb.alloc hb.size (.cells #[sv, rv, .slice none 0 0, .int .i64 most, .bool keep, .int .i64 0, .slice none 0 0] 56)
  exact ⟨heap_alloc_new _ _, hb.size, hP, hs.kept (Below.keptB hb2 hP), hr.kept (Below.keptB hb2 hP), OwnI.nil _ _, OwnL.nil _ _, fun u hu => by simp at hu⟩

set_option maxRecDepth 20000 in
set_option maxHeartbeats 1600000 in
theorem solutions_any {w : World} {P : Nat → Prop} {sv rv : Value} {p : Prob} (hs : IntsAt w P sv p.sizes) (hr : RelsAt w P rv p.rels) (hP : Under P w.heap.size) (hgood : Good p) {most : Nat} (h1 : 1 ≤ most) (hmost : most ≤ 2000000) :
    Calls Try.prog 38 #[.agg #[sv, rv], .int .i64 most] w fun e w' => ∃ fv vs, e = .returned fv ∧ OwnL w' w.heap.size fv vs ((sols p []).take most) ∧ Below w.heap.size w w' := by
  have hbel := (Below.refl _ w).alloc (Nat.le_refl _) (.cells #[sv, rv] 25)
  have hsol := solver_new (most := most) (keep := true) hs hr hP hbel
  have hbel2 := hbel.alloc hbel.size (.cells #[sv, rv, .slice none 0 0, .int .i64 most, .bool true, .int .i64 0, .slice none 0 0] 56)
  have hC := search_any hgood hmost p.sizes.length _ _ _ _ _ _ _ (by simp) hsol h1 (Nat.le_refl _)
  have HC := Lib.hid hC
  have HB := Lib.hid hbel2
  obtain ⟨sa, sl, sc, rfl⟩ := hs.slice
  obtain ⟨ra, rl, rc, rfl⟩ := hr.slice
  rw [World.size_alloc] at HC
  clear hs hr hP hbel hsol hbel2 hC hgood
  go_enter Try.func38, Try.ntmps38
  go_wp2_with (first | (go_at_call 37; refine HC.out.mono ?_; rintro e w1 ⟨gv, fv, vs, rfl, hsol, hb⟩; have HSOL := Lib.hid hsol; obtain ⟨c0, c1, c2, c3, c4, c5, c6⟩ := hsol.cells; clear hsol))
  go_ret
  refine ⟨fv, vs, rfl, ?_, HB.out.trans hb⟩
  have := HSOL.out.fnd
  unfold fndTo at this
  rw [if_pos rfl, List.nil_append, Nat.sub_zero] at this
  exact this

theorem OwnL.mono {w : World} {base base2 : Nat} {v : Value} {vs : List Value} {xss : List (List Int)} (h : OwnL w base v vs xss) (hb : base2 ≤ base) : OwnL w base2 v vs xss := by
  refine ⟨h.1, ⟨h.2.1.1, ?_⟩, fun i hi => (h.2.2 i hi).mono hb⟩
  rcases h.2.1.2 with h2 | ⟨g, cap, cur, h1, h2, h3⟩
  · exact .inl h2
  · exact .inr ⟨g, cap, cur, h1, Nat.le_trans hb h2, h3⟩
/-- the error of All -/
def allE (p : Prob) (most : Int) : Int := if checkE p ≠ 0 then checkE p else if most < 1 ∨ 4096 < most then 1 else if limW 1 p.sizes = true then 0 else 10
open Classical in
/-- what All lists -/
noncomputable def allL (p : Prob) (most : Int) : List (List Int) := if allE p most = 0 then (sols p []).take most.toNat else []
def AllPost (p : Prob) (most : Int) (w : World) (e : Ending) (w' : World) : Prop :=
  ∃ fv vs, e = .returned (.tuple #[fv, .int .i64 (allE p most)]) ∧ OwnL w' w.heap.size fv vs (allL p most) ∧ Below w.heap.size w w'

set_option maxRecDepth 20000 in
set_option maxHeartbeats 1600000 in
theorem all_any {w : World} {P : Nat → Prop} {sv rv : Value} {p : Prob} (hs : IntsAt w P sv p.sizes) (hr : RelsAt w P rv p.rels) (hP : Under P w.heap.size) (most : Int) :
    Calls Try.prog 21 #[.agg #[sv, rv], .int .i64 most] w (AllPost p most w) := by
  have hbel := (Below.refl _ w).alloc (Nat.le_refl _) (.cells #[sv, rv] 25)
  have HC := Lib.hid (checkP_any (hs.kept (Below.keptB hbel hP)) (hr.kept (Below.keptB hbel hP)) (hP.le hbel.size))
  have hlim : ∀ w1, Below w.heap.size w w1 → Calls Try.prog 36 #[.agg #[sv, rv]] w1 (OneB (limW 1 p.sizes) w1) := fun w1 hb => limited_any (hs.kept (Below.keptB hb hP)) (hP.le hb.size) hr.slice
  have hsln : ∀ w1, Below w.heap.size w w1 → Good p → 1 ≤ most.toNat → most.toNat ≤ 2000000 → Calls Try.prog 38 #[.agg #[sv, rv], .int .i64 (most.toNat : Int)] w1 fun e w' => ∃ fv vs, e = .returned fv ∧ OwnL w' w1.heap.size fv vs ((sols p []).take most.toNat) ∧ Below w1.heap.size w1 w' := fun w1 hb hg h1 h2 => solutions_any (hs.kept (Below.keptB hb hP)) (hr.kept (Below.keptB hb hP)) (hP.le hb.size) hg h1 h2
  have HLIM := Lib.hid hlim
  have HSLN := Lib.hid hsln
  have hr0 : (w.alloc (.cells #[sv, rv] 25)).heap[w.heap.size]? = some (.cells #[sv, rv] 25 (0, 0)) := heap_alloc_new _ _
  have HR0 := Lib.hid hr0
  obtain ⟨sa, sl, sc, rfl⟩ := hs.slice
  obtain ⟨ra, rl, rc, rfl⟩ := hr.slice
  have hbx : PxAt w (.slice sa sl sc) (.slice ra rl rc) (w.alloc (.cells #[.slice sa sl sc, .slice ra rl rc] 25)) := ⟨hbel, HR0.out⟩
  have HBX := Lib.hid hbx
  clear hs hr hP hbel hr0 hlim hsln hbx
  by_cases he : checkE p = 0
  · have hgood := Good.of he
    have HGOOD := Lib.hid hgood
    have HE := Lib.hid he
    rw [he] at HC
    by_cases hm : most < 1 ∨ 4096 < most
    · have hres : allE p most = 1 := by unfold allE; rw [if_neg (by simp [HE.out]), if_pos hm]
      have hlst : allL p most = [] := by unfold allL; rw [if_neg (by rw [hres]; decide)]
      unfold AllPost
      rw [hres, hlst]
      clear he hgood hres hlst
      rcases hm with hm | hm
      · go_enter Try.func21, Try.ntmps21
        go_wp2_with (first | (go_at_call 12; refine HC.out.mono ?_; rintro e w1 ⟨rfl, hb⟩))
        go_ret2
        exact ⟨_, [], rfl, OwnL.nil _ _, (HBX.out.next hb).bel⟩
      · have hm2 : ¬ most < 1 := by omega
        go_enter Try.func21, Try.ntmps21
        go_wp2_with (first | (go_at_call 12; refine HC.out.mono ?_; rintro e w1 ⟨rfl, hb⟩))
        go_ret2
        exact ⟨_, [], rfl, OwnL.nil _ _, (HBX.out.next hb).bel⟩
    · have hm1 : ¬ most < 1 := fun e => hm (.inl e)
      have hm2 : ¬ 4096 < most := fun e => hm (.inr e)
      have hnat : ((most.toNat : Nat) : Int) = most := by omega
      have HNAT := Lib.hid hnat
      cases hl : limW 1 p.sizes with
      | false =>
        have hres : allE p most = 10 := by unfold allE; rw [if_neg (by simp [HE.out]), if_neg hm, hl]; rfl
        have hlst : allL p most = [] := by unfold allL; rw [if_neg (by rw [hres]; decide)]
        unfold AllPost
        rw [hres, hlst]
        rw [hl] at HLIM
        clear he hgood hres hlst hm hnat hl
        go_enter Try.func21, Try.ntmps21
        go_wp2_with (first | (go_at_call 12; refine HC.out.mono ?_; rintro e w1 ⟨rfl, hb⟩; have HB1 := Lib.hid (HBX.out.next hb); have c0 := HB1.out.s; have c1 := HB1.out.r) | (go_at_call 36; refine (HLIM.out _ HB1.out.bel).mono ?_; rintro e w2 ⟨rfl, hb2⟩))
        go_ret2
        exact ⟨_, [], rfl, OwnL.nil _ _, (HB1.out.next hb2).bel⟩
      | true =>
        have hres : allE p most = 0 := by unfold allE; rw [if_neg (by simp [HE.out]), if_neg hm, hl]; rfl
        have hlst : allL p most = (sols p []).take most.toNat := by unfold allL; rw [if_pos hres]
        unfold AllPost
        rw [hres, hlst]
        rw [hl] at HLIM
        have hq1 : 1 ≤ most.toNat := by omega
        have hq2 : most.toNat ≤ 2000000 := by omega
        have HQ := Lib.hid (And.intro hq1 hq2)
        rw [hnat] at HSLN
        clear he hgood hres hlst hm hnat hl hq1 hq2
        go_enter Try.func21, Try.ntmps21
        go_wp2_with (first | (go_at_call 12; refine HC.out.mono ?_; rintro e w1 ⟨rfl, hb⟩; have HB1 := Lib.hid (HBX.out.next hb); have c0 := HB1.out.s; have c1 := HB1.out.r; clear hb) | (go_at_call 36; refine (HLIM.out _ HB1.out.bel).mono ?_; rintro e w2 ⟨rfl, hb2⟩; have HB2 := Lib.hid (HB1.out.next hb2); have d0 := HB2.out.s; have d1 := HB2.out.r; clear hb2) | (go_at_call 38; refine (HSLN.out _ HB2.out.bel HGOOD.out HQ.out.1 HQ.out.2).mono ?_; rintro e w3 ⟨fv, vs, rfl, hol, hb3⟩; have HOL := Lib.hid hol; clear hol))
        go_ret2
        exact ⟨_, vs, rfl, HOL.out.mono HB2.out.bel.size, (HB2.out.next hb3).bel⟩
  · have hres : allE p most = checkE p := by unfold allE; rw [if_pos he]
    have hlst : allL p most = [] := by unfold allL; rw [if_neg (by rw [hres]; exact he)]
    unfold AllPost
    rw [hres, hlst]
    clear hres hlst
    generalize checkE p = E at *
    go_enter Try.func21, Try.ntmps21
    go_wp2_with (first | (go_at_call 12; refine HC.out.mono ?_; rintro e w1 ⟨rfl, hb⟩))
    go_ret2
    exact ⟨_, [], rfl, OwnL.nil _ _, (HBX.out.next hb).bel⟩
end Go.Proofs.Ytamidopeojipkaa
