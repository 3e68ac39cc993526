/- Solve and Count of the program: the walks. -/
import Derived.Test.YtamidopeojipkaaSoln
namespace Go.Proofs.Ytamidopeojipkaa
open Go.RowKit
set_option linter.unusedVariables false

/-- the error of Solve, its solution -/
noncomputable def solveE (p : Prob) : Int := if allE p 1 ≠ 0 then allE p 1 else if (allL p 1).length = 0 then 7 else 0
noncomputable def solveL (p : Prob) : List Int := if solveE p = 0 then (allL p 1).getD 0 [] else []
def SolvePost (p : Prob) (w : World) (e : Ending) (w' : World) : Prop :=
  ∃ v, e = .returned (.tuple #[v, .int .i64 (solveE p)]) ∧ OwnI w' w.heap.size v (solveL p) ∧ Below w.heap.size w w'

theorem own_first {w : World} {base : Nat} {v : Value} {vs : List Value} {xss : List (List Int)} (h : OwnL w base v vs xss) (h0 : 0 < xss.length) :
    ∃ g cap, v = .slice (some ⟨g, 0, none⟩) xss.length cap ∧ xss.length ≤ cap ∧ cap ≤ 9223372036854775807 ∧ w.cell? ⟨g, 0, none⟩ = some (vs.getD 0 undef) := by
  rcases h.2.1.2 with ⟨_, h1⟩ | ⟨g, cap, cur, hv, hb, hg, hn, hm, hs, ht⟩
  · omega
  · refine ⟨g, cap, hv, hn, by unfold maxLen at hm; omega, ?_⟩
    have h1 := h.1
    rw [cell_of_row w g 0 cur _ (0, 0) hg]
    have e : cur[0]? = (cur.toList.take (xss.length * 1))[0]? := by
      rw [List.getElem?_take, if_pos (by omega)]; simp
    rw [e, ht]
    simp [List.getD, show 0 < vs.length by omega]
set_option maxRecDepth 20000 in
set_option maxHeartbeats 1600000 in
theorem solve_any {w : World} {P : Nat → Prop} {sv rv : Value} {p : Prob} (hs : IntsAt w P sv p.sizes) (hr : RelsAt w P rv p.rels) (hP : Under P w.heap.size) :
    Calls Try.prog 16 #[.agg #[sv, rv]] w (SolvePost p w) := by
  have hbel := (Below.refl _ w).alloc (Nat.le_refl _) (.cells #[sv, rv] 25)
  have HC := Lib.hid (all_any (hs.kept (Below.keptB hbel hP)) (hr.kept (Below.keptB hbel hP)) (hP.le hbel.size) 1)
  have HBEL := Lib.hid hbel
  obtain ⟨sa, sl, sc, rfl⟩ := hs.slice
  obtain ⟨ra, rl, rc, rfl⟩ := hr.slice
  clear hs hr hP hbel
  by_cases he : allE p 1 = 0
  · by_cases hl : (allL p 1).length = 0
    · have hres : solveE p = 7 := by unfold solveE; rw [if_neg (by simp [he]), if_pos hl]
      have hlst : solveL p = [] := by unfold solveL; rw [if_neg (by rw [hres]; decide)]
      unfold SolvePost
      rw [hres, hlst]
      have HE := Lib.hid he
      have HL := Lib.hid hl
      clear he hl hres hlst
      go_enter Try.func16, Try.ntmps16
      go_wp2_with (first | (go_at_call 21; refine HC.out.mono ?_; rintro e w1 ⟨fv, vs, rfl, hol, hb⟩; rw [HE.out]; obtain ⟨a1, c1, b1, o1, q1, rfl, _⟩ := hol.lists; rw [HL.out]; clear hol))
      go_ret2
      exact ⟨_, rfl, OwnI.nil _ _, Below.next HBEL.out hb⟩
    · have hres : solveE p = 0 := by unfold solveE; rw [if_neg (by simp [he]), if_neg hl]
      have hlst : solveL p = (allL p 1).getD 0 [] := by unfold solveL; rw [if_pos hres]
      unfold SolvePost
      rw [hres, hlst]
      have HE := Lib.hid he
      obtain ⟨k, hk⟩ : ∃ k, (allL p 1).length = k := ⟨_, rfl⟩
      have HL := Lib.hid hk
      rw [hk] at hl
      clear he hres hlst hk
      have hk2 : ¬ (k : Int) = 0 := by omega
      go_enter Try.func16, Try.ntmps16
      go_wp2_with (first | (go_at_call 21; refine HC.out.mono ?_; rintro e w1 ⟨fv, vs, rfl, hol, hb⟩; rw [HE.out]; have HOL := Lib.hid hol; obtain ⟨g, cap, rfl, hkc, hcm, hc0⟩ := own_first hol (by rw [HL.out]; omega); rw [HL.out]; obtain ⟨ua, ul, uc, hu⟩ := (hol.2.2 0 (by rw [HL.out]; omega)).ints.slice; rw [hu] at hc0; have HU := Lib.hid hu; clear hol hu))
      go_ret2
      refine ⟨_, rfl, ?_, Below.next HBEL.out hb⟩
      have := HOL.out.2.2 0 (by rw [HL.out]; omega)
      rw [HU.out] at this
      exact this.mono HBEL.out.size
  · have hres : solveE p = allE p 1 := by unfold solveE; rw [if_pos he]
    have hlst : solveL p = [] := by unfold solveL; rw [if_neg (by rw [hres]; exact he)]
    unfold SolvePost
    rw [hres, hlst]
    clear hres hlst
    unfold AllPost at HC
    generalize allE p 1 = E at *
    go_enter Try.func16, Try.ntmps16
    go_wp2_with (first | (go_at_call 21; refine HC.out.mono ?_; rintro e w1 ⟨fv, vs, rfl, hol, hb⟩; clear hol))
    go_ret2
    exact ⟨_, rfl, OwnI.nil _ _, Below.next HBEL.out hb⟩

/-- the error of Count, its number -/
def countE (p : Prob) : Int := if checkE p ≠ 0 then checkE p else if limW 1 p.sizes = true then 0 else 10
noncomputable def countN (p : Prob) : Nat := if countE p = 0 then min 1048577 (sols p []).length else 0

set_option maxRecDepth 20000 in
set_option maxHeartbeats 1600000 in
theorem count_any {w : World} {P : Nat → Prop} {sv rv : Value} {p : Prob} (hs : IntsAt w P sv p.sizes) (hr : RelsAt w P rv p.rels) (hP : Under P w.heap.size) :
    Calls Try.prog 18 #[.agg #[sv, rv]] w fun e w' => e = .returned (.tuple #[.int .i64 (countN p), .int .i64 (countE p)]) ∧ Below w.heap.size w w' := by
  have hbel := (Below.refl _ w).alloc (Nat.le_refl _) (.cells #[sv, rv] 25)
  have HC := Lib.hid (checkP_any (hs.kept (Below.keptB hbel hP)) (hr.kept (Below.keptB hbel hP)) (hP.le hbel.size))
  have hlim : ∀ w1, Below w.heap.size w w1 → Calls Try.prog 36 #[.agg #[sv, rv]] w1 (OneB (limW 1 p.sizes) w1) := fun w1 hb => limited_any (hs.kept (Below.keptB hb hP)) (hP.le hb.size) hr.slice
  have hsea : ∀ w1, Below w.heap.size w w1 → Good p → Calls Try.prog 37 #[.pointer (some ⟨w1.heap.size, 0, none⟩)] (w1.alloc (.cells #[sv, rv, .slice none 0 0, .int .i64 1048577, .bool false, .int .i64 0, .slice none 0 0] 56)) (SearchPost w.heap.size w1.heap.size P p sv rv [] 1048577 false 0 [] (sols p []) (w1.alloc (.cells #[sv, rv, .slice none 0 0, .int .i64 1048577, .bool false, .int .i64 0, .slice none 0 0] 56))) :=
    fun w1 hb hg => search_any hg (by omega) p.sizes.length _ _ _ _ _ _ _ (by simp) (solver_new (most := 1048577) (keep := false) hs hr hP hb) (by omega) (Nat.le_refl _)
  have HLIM := Lib.hid hlim
  have HSEA := Lib.hid hsea
  have HR0 : Hid ((w.alloc (.cells #[sv, rv] 25)).heap[w.heap.size]? = some (.cells #[sv, rv] 25 (0, 0))) := Lib.hid (heap_alloc_new _ _)
  obtain ⟨sa, sl, sc, rfl⟩ := hs.slice
  obtain ⟨ra, rl, rc, rfl⟩ := hr.slice
  have hbx : PxAt w (.slice sa sl sc) (.slice ra rl rc) (w.alloc (.cells #[.slice sa sl sc, .slice ra rl rc] 25)) := ⟨hbel, HR0.out⟩
  have HBX := Lib.hid hbx
  clear hs hr hP hbel hlim hsea hbx
  by_cases he : checkE p = 0
  · have hgood := Good.of he
    have HGOOD := Lib.hid hgood
    have HE := Lib.hid he
    rw [he] at HC
    cases hl : limW 1 p.sizes with
    | false =>
      have hres : countE p = 10 := by unfold countE; rw [if_neg (by simp [HE.out]), hl]; rfl
      have hlst : countN p = 0 := by unfold countN; rw [if_neg (by rw [hres]; decide)]
      rw [hres, hlst]
      rw [hl] at HLIM
      clear he hgood hres hlst hl
      go_enter Try.func18, Try.ntmps18
      go_wp2_with (first | (go_at_call 12; refine HC.out.mono ?_; rintro e w1 ⟨rfl, hb⟩; have HB1 := Lib.hid (HBX.out.next hb); have c0 := HB1.out.s; have c1 := HB1.out.r) | (go_at_call 36; refine (HLIM.out _ HB1.out.bel).mono ?_; rintro e w2 ⟨rfl, hb2⟩))
      go_ret2
      exact ⟨rfl, (HB1.out.next hb2).bel⟩
    | true =>
      have hres : countE p = 0 := by unfold countE; rw [if_neg (by simp [HE.out]), hl]; rfl
      have hlst : countN p = cntTo 0 1048577 (sols p []) := by unfold countN cntTo; rw [if_pos hres]; omega
      rw [hres, hlst]
      rw [hl] at HLIM
      clear he hgood hres hlst hl
      obtain ⟨N, hN⟩ : ∃ N, cntTo 0 1048577 (sols p []) = N := ⟨_, rfl⟩
      rw [hN]
      have HN := Lib.hid hN
      clear hN
      go_enter Try.func18, Try.ntmps18
      go_wp2_with (first | (go_at_call 12; refine HC.out.mono ?_; rintro e w1 ⟨rfl, hb⟩; have HB1 := Lib.hid (HBX.out.next hb); have c0 := HB1.out.s; have c1 := HB1.out.r; clear hb) | (go_at_call 36; refine (HLIM.out _ HB1.out.bel).mono ?_; rintro e w2 ⟨rfl, hb2⟩; have HB2 := Lib.hid (HB1.out.next hb2); have d0 := HB2.out.s; have d1 := HB2.out.r; clear hb2) | (go_at_call 37; refine (HSEA.out _ HB2.out.bel HGOOD.out).mono ?_; rintro e w3 ⟨gv, fv, vs, rfl, hsol, hb3⟩; obtain ⟨e0, e1, e2, e3, e4, e5, e6⟩ := hsol.cells; rw [HN.out] at e5; have HB3 := Lib.hid ((HB2.out.bel.alloc HB2.out.bel.size (.cells #[.slice sa sl sc, .slice ra rl rc, .slice none 0 0, .int .i64 1048577, .bool false, .int .i64 0, .slice none 0 0] 56)).trans hb3); clear hsol))
      go_ret2
      exact ⟨rfl, HB3.out⟩
  · have hres : countE p = checkE p := by unfold countE; rw [if_pos he]
    have hlst : countN p = 0 := by unfold countN; rw [if_neg (by rw [hres]; exact he)]
    rw [hres, hlst]
    clear hres hlst
    generalize checkE p = E at *
    go_enter Try.func18, Try.ntmps18
    go_wp2_with (first | (go_at_call 12; refine HC.out.mono ?_; rintro e w1 ⟨rfl, hb⟩))
    go_ret2
    exact ⟨rfl, (HBX.out.next hb).bel⟩
end Go.Proofs.Ytamidopeojipkaa
