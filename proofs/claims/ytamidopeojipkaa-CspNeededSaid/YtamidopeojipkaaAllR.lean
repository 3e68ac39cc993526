/- All, Solve, Count of the reference: the walks. -/
import Derived.Test.YtamidopeojipkaaSolR
import Derived.Test.YtamidopeojipkaaSolC
import Derived.Test.YtamidopeojipkaaCheckS
namespace Go.Proofs.Ytamidopeojipkaa
open Go.RowKit
set_option linter.unusedVariables false

theorem mul_range {n k : Int} (h1 : 1 ≤ n) (h2 : n ≤ 1048577) (h3 : 1 ≤ k) (h4 : k ≤ 64) : n ≤ n * k ∧ n * k ≤ 67108928 := by
  constructor
  · have := Int.mul_le_mul_of_nonneg_left h3 (show 0 ≤ n by omega)
    omega
  · have := Int.mul_le_mul_of_nonneg_left h4 (show 0 ≤ n by omega)
    omega
theorem wrap_small {m : Int} (h1 : 0 ≤ m) (h2 : m ≤ 67108928) : wrap64 m = m := by
  unfold wrap64; omega
theorem ass_over : ∀ (xs : List Int), (∀ x ∈ xs, 1 ≤ x ∧ x ≤ 64) → assW 1048577 xs = 1048577
  | [], _ => rfl
  | k :: r, h => by
    have hk := h k (by simp)
    have hm := mul_range (n := 1048577) (by omega) (by omega) hk.1 hk.2
    have hw := wrap_small (m := 1048577 * k) (by omega) hm.2
    show assW (if 1048577 < wrap64 (1048577 * k) then 1048577 else wrap64 (1048577 * k)) r = _
    rw [hw]
    have e : (if 1048577 < 1048577 * k then 1048577 else 1048577 * k) = 1048577 := by split <;> omega
    rw [e]
    exact ass_over r fun x hx => h x (by simp [hx])
theorem lim_ass : ∀ (xs : List Int) (n : Int), 1 ≤ n → n ≤ 1048576 → (∀ x ∈ xs, 1 ≤ x ∧ x ≤ 64) → (limW n xs = true → assW n xs ≤ 1048576) ∧ (limW n xs = false → assW n xs = 1048577)
  | [], n, h1, h2, _ => ⟨fun _ => h2, fun e => absurd e (by simp [limW])⟩
  | k :: r, n, h1, h2, h => by
    have hk := h k (by simp)
    have hm := mul_range (n := n) h1 (by omega) hk.1 hk.2
    have hw := wrap_small (m := n * k) (by omega) hm.2
    have hr : ∀ x ∈ r, 1 ≤ x ∧ x ≤ 64 := fun x hx => h x (by simp [hx])
    show ((if 1048576 < wrap64 (n * k) then false else limW (wrap64 (n * k)) r) = true → assW (if 1048577 < wrap64 (n * k) then 1048577 else wrap64 (n * k)) r ≤ 1048576) ∧ ((if 1048576 < wrap64 (n * k) then false else limW (wrap64 (n * k)) r) = false → assW (if 1048577 < wrap64 (n * k) then 1048577 else wrap64 (n * k)) r = 1048577)
    rw [hw]
    by_cases hb : 1048576 < n * k
    · rw [if_pos hb]
      have e : (if 1048577 < n * k then 1048577 else n * k) = 1048577 := by split <;> omega
      rw [e]
      exact ⟨fun e => absurd e (by simp), fun _ => ass_over r hr⟩
    · rw [if_neg hb, if_neg (by omega)]
      exact lim_ass r (n * k) (by omega) (by omega) hr
theorem good_mem {p : Prob} (h : Good p) : ∀ x ∈ p.sizes, 1 ≤ x ∧ x ≤ 64 := fun m hm => by
  obtain ⟨i, hi, he⟩ := List.mem_iff_getElem.1 hm
  have := h.size i hi
  simpa [List.getD, hi, he] using this
theorem lim_yes {p : Prob} (h : Good p) (hl : limW 1 p.sizes = true) : assW 1 p.sizes ≤ 1048576 := (lim_ass p.sizes 1 (by omega) (by omega) (good_mem h)).1 hl
theorem lim_no {p : Prob} (h : Good p) (hl : limW 1 p.sizes = false) : assW 1 p.sizes = 1048577 := (lim_ass p.sizes 1 (by omega) (by omega) (good_mem h)).2 hl

set_option maxRecDepth 20000 in
set_option maxHeartbeats 1600000 in
theorem allR_any {w : World} {P : Nat → Prop} {sv rv : Value} {p : Prob} (hs : IntsAt w P sv p.sizes) (hr : RelsAt w P rv p.rels) (hP : Under P w.heap.size) (most : Int) :
    Calls Try.prog 22 #[.agg #[sv, rv], .int .i64 most] w (AllPost p most w) := by
  have hbel := (Below.refl _ w).alloc (Nat.le_refl _) (.cells #[sv, rv] 25)
  have HC := Lib.hid (checkR_any (hs.kept (Below.keptB hbel hP)) (hr.kept (Below.keptB hbel hP)) (hP.le hbel.size))
  have hlim : ∀ w1, Below w.heap.size w w1 → Calls Try.prog 29 #[.agg #[sv, rv]] w1 (OneI (assW 1 p.sizes) w1) := fun w1 hb => assign_any (hs.kept (Below.keptB hb hP)) (hP.le hb.size) hr.slice
  have hsln : ∀ w1, Below w.heap.size w w1 → Good p → 1 ≤ most.toNat → most.toNat ≤ 2000000 → Calls Try.prog 35 #[sv, rv, .int .i64 (most.toNat : Int)] w1 fun e w' => ∃ fv vs, e = .returned fv ∧ OwnL w' w1.heap.size fv vs ((sols p []).take most.toNat) ∧ Below w1.heap.size w1 w' := fun w1 hb hg h1 h2 => solR_any (hs.kept (Below.keptB hb hP)) (hr.kept (Below.keptB hb hP)) (hP.le hb.size) hg h1 h2
  have HLIM := Lib.hid hlim
  have HSLN := Lib.hid hsln
  have hr0 : (w.alloc (.cells #[sv, rv] 25)).heap[w.heap.size]? = some (.cells #[sv, rv] 25 (0, 0)) := heap_alloc_new _ _
  have HR0 := Lib.hid hr0
  obtain ⟨sa, sl, sc, rfl⟩ := hs.slice
  obtain ⟨ra, rl, rc, rfl⟩ := hr.slice
  have hbx : PxAt w (.slice sa sl sc) (.slice ra rl rc) (w.alloc (.cells #[.slice sa sl sc, .slice ra rl rc] 25)) := ⟨hbel, HR0.out⟩
  have HBX := Lib.hid hbx
  clear hs hr hP hbel hr0 hlim hsln hbx
  by_cases he : checkE p = 0
  · have hgood := Good.of he
    have HGOOD := Lib.hid hgood
    have HE := Lib.hid he
    rw [he] at HC
    by_cases hm : most < 1 ∨ 4096 < most
    · have hres : allE p most = 1 := by unfold allE; rw [if_neg (by simp [HE.out]), if_pos hm]
      have hlst : allL p most = [] := by unfold allL; rw [if_neg (by rw [hres]; decide)]
      unfold AllPost
      rw [hres, hlst]
      clear he hgood hres hlst
      rcases hm with hm | hm
      · go_enter Try.func22, Try.ntmps22
        go_wp2_with (first | (go_at_call 13; refine HC.out.mono ?_; rintro e w1 ⟨rfl, hb⟩))
        go_ret2
        exact ⟨_, [], rfl, OwnL.nil _ _, (HBX.out.next hb).bel⟩
      · have hm2 : ¬ most < 1 := by omega
        go_enter Try.func22, Try.ntmps22
        go_wp2_with (first | (go_at_call 13; refine HC.out.mono ?_; rintro e w1 ⟨rfl, hb⟩))
        go_ret2
        exact ⟨_, [], rfl, OwnL.nil _ _, (HBX.out.next hb).bel⟩
    · have hm1 : ¬ most < 1 := fun e => hm (.inl e)
      have hm2 : ¬ 4096 < most := fun e => hm (.inr e)
      have hnat : ((most.toNat : Nat) : Int) = most := by omega
      have HNAT := Lib.hid hnat
      cases hl : limW 1 p.sizes with
      | false =>
        have hres : allE p most = 10 := by unfold allE; rw [if_neg (by simp [HE.out]), if_neg hm, hl]; rfl
        have hlst : allL p most = [] := by unfold allL; rw [if_neg (by rw [hres]; decide)]
        unfold AllPost
        rw [hres, hlst]
        rw [lim_no hgood hl] at HLIM
        clear he hgood hres hlst hm hnat hl
        go_enter Try.func22, Try.ntmps22
        go_wp2_with (first | (go_at_call 13; refine HC.out.mono ?_; rintro e w1 ⟨rfl, hb⟩; have HB1 := Lib.hid (HBX.out.next hb); have c0 := HB1.out.s; have c1 := HB1.out.r) | (go_at_call 29; refine (HLIM.out _ HB1.out.bel).mono ?_; rintro e w2 ⟨rfl, hb2⟩))
        go_ret2
        exact ⟨_, [], rfl, OwnL.nil _ _, (HB1.out.next hb2).bel⟩
      | true =>
        have hres : allE p most = 0 := by unfold allE; rw [if_neg (by simp [HE.out]), if_neg hm, hl]; rfl
        have hlst : allL p most = (sols p []).take most.toNat := by unfold allL; rw [if_pos hres]
        unfold AllPost
        rw [hres, hlst]
        have hle := lim_yes hgood hl
        generalize assW 1 p.sizes = A at *
        have hle2 : ¬ 1048576 < A := by omega
        have hq1 : 1 ≤ most.toNat := by omega
        have hq2 : most.toNat ≤ 2000000 := by omega
        have HQ := Lib.hid (And.intro hq1 hq2)
        rw [hnat] at HSLN
        clear he hgood hres hlst hm hnat hl hq1 hq2
        go_enter Try.func22, Try.ntmps22
        go_wp2_with (first | (go_at_call 13; refine HC.out.mono ?_; rintro e w1 ⟨rfl, hb⟩; have HB1 := Lib.hid (HBX.out.next hb); have c0 := HB1.out.s; have c1 := HB1.out.r; clear hb) | (go_at_call 29; refine (HLIM.out _ HB1.out.bel).mono ?_; rintro e w2 ⟨rfl, hb2⟩; have HB2 := Lib.hid (HB1.out.next hb2); have d0 := HB2.out.s; have d1 := HB2.out.r; clear hb2) | (go_at_call 35; refine (HSLN.out _ HB2.out.bel HGOOD.out HQ.out.1 HQ.out.2).mono ?_; rintro e w3 ⟨fv, vs, rfl, hol, hb3⟩; have HOL := Lib.hid hol; clear hol))
        go_ret2
        exact ⟨_, vs, rfl, HOL.out.mono HB2.out.bel.size, (HB2.out.next hb3).bel⟩
  · have hres : allE p most = checkE p := by unfold allE; rw [if_pos he]
    have hlst : allL p most = [] := by unfold allL; rw [if_neg (by rw [hres]; exact he)]
    unfold AllPost
    rw [hres, hlst]
    clear hres hlst
    generalize checkE p = E at *
    go_enter Try.func22, Try.ntmps22
    go_wp2_with (first | (go_at_call 13; refine HC.out.mono ?_; rintro e w1 ⟨rfl, hb⟩))
    go_ret2
    exact ⟨_, [], rfl, OwnL.nil _ _, (HBX.out.next hb).bel⟩

set_option maxRecDepth 20000 in
set_option maxHeartbeats 1600000 in
theorem countR_any {w : World} {P : Nat → Prop} {sv rv : Value} {p : Prob} (hs : IntsAt w P sv p.sizes) (hr : RelsAt w P rv p.rels) (hP : Under P w.heap.size) :
    Calls Try.prog 19 #[.agg #[sv, rv]] w fun e w' => e = .returned (.tuple #[.int .i64 (countN p), .int .i64 (countE p)]) ∧ Below w.heap.size w w' := by
  have hbel := (Below.refl _ w).alloc (Nat.le_refl _) (.cells #[sv, rv] 25)
  have HC := Lib.hid (checkR_any (hs.kept (Below.keptB hbel hP)) (hr.kept (Below.keptB hbel hP)) (hP.le hbel.size))
  have hlim : ∀ w1, Below w.heap.size w w1 → Calls Try.prog 29 #[.agg #[sv, rv]] w1 (OneI (assW 1 p.sizes) w1) := fun w1 hb => assign_any (hs.kept (Below.keptB hb hP)) (hP.le hb.size) hr.slice
  have hsea : ∀ w1, Below w.heap.size w w1 → Good p → Calls Try.prog 35 #[sv, rv, .int .i64 ((1048577 : Nat) : Int)] w1 (RefSols p 1048577 w1) := fun w1 hb hg => solR_any (hs.kept (Below.keptB hb hP)) (hr.kept (Below.keptB hb hP)) (hP.le hb.size) hg (by omega) (by omega)
  have HLIM := Lib.hid hlim
  have HSEA := Lib.hid hsea
  have HR0 : Hid ((w.alloc (.cells #[sv, rv] 25)).heap[w.heap.size]? = some (.cells #[sv, rv] 25 (0, 0))) := Lib.hid (heap_alloc_new _ _)
  obtain ⟨sa, sl, sc, rfl⟩ := hs.slice
  obtain ⟨ra, rl, rc, rfl⟩ := hr.slice
  have hbx : PxAt w (.slice sa sl sc) (.slice ra rl rc) (w.alloc (.cells #[.slice sa sl sc, .slice ra rl rc] 25)) := ⟨hbel, HR0.out⟩
  have HBX := Lib.hid hbx
  clear hs hr hP hbel hlim hsea hbx
  by_cases he : checkE p = 0
  · have hgood := Good.of he
    have HGOOD := Lib.hid hgood
    have HE := Lib.hid he
    rw [he] at HC
    cases hl : limW 1 p.sizes with
    | false =>
      have hres : countE p = 10 := by unfold countE; rw [if_neg (by simp [HE.out]), hl]; rfl
      have hlst : countN p = 0 := by unfold countN; rw [if_neg (by rw [hres]; decide)]
      rw [hres, hlst]
      rw [lim_no hgood hl] at HLIM
      clear he hgood hres hlst hl
      go_enter Try.func19, Try.ntmps19
      go_wp2_with (first | (go_at_call 13; refine HC.out.mono ?_; rintro e w1 ⟨rfl, hb⟩; have HB1 := Lib.hid (HBX.out.next hb); have c0 := HB1.out.s; have c1 := HB1.out.r) | (go_at_call 29; refine (HLIM.out _ HB1.out.bel).mono ?_; rintro e w2 ⟨rfl, hb2⟩))
      go_ret2
      exact ⟨rfl, (HB1.out.next hb2).bel⟩
    | true =>
      have hres : countE p = 0 := by unfold countE; rw [if_neg (by simp [HE.out]), hl]; rfl
      have hlst : countN p = ((sols p []).take 1048577).length := by unfold countN; rw [if_pos hres, List.length_take]
      rw [hres, hlst]
      have hle := lim_yes hgood hl
      generalize assW 1 p.sizes = A at *
      have hle2 : ¬ 1048576 < A := by omega
      clear he hgood hres hlst hl
      obtain ⟨N, hN⟩ : ∃ N, ((sols p []).take 1048577).length = N := ⟨_, rfl⟩
      rw [hN]
      have HN := Lib.hid hN
      clear hN
      go_enter Try.func19, Try.ntmps19
      go_wp2_with (first | (go_at_call 13; refine HC.out.mono ?_; rintro e w1 ⟨rfl, hb⟩; have HB1 := Lib.hid (HBX.out.next hb); have c0 := HB1.out.s; have c1 := HB1.out.r; clear hb) | (go_at_call 29; refine (HLIM.out _ HB1.out.bel).mono ?_; rintro e w2 ⟨rfl, hb2⟩; have HB2 := Lib.hid (HB1.out.next hb2); have d0 := HB2.out.s; have d1 := HB2.out.r; clear hb2) | (go_at_call 35; refine (HSEA.out _ HB2.out.bel HGOOD.out).mono ?_; rintro e w3 ⟨fv, vs, rfl, hol, hb3⟩; obtain ⟨a3, c3, b3, o3, q3, rfl, _⟩ := hol.lists; rw [HN.out]; have HB3 := Lib.hid (HB2.out.next hb3); clear hol))
      go_ret2
      exact ⟨rfl, HB3.out.bel⟩
  · have hres : countE p = checkE p := by unfold countE; rw [if_pos he]
    have hlst : countN p = 0 := by unfold countN; rw [if_neg (by rw [hres]; exact he)]
    rw [hres, hlst]
    clear hres hlst
    generalize checkE p = E at *
    go_enter Try.func19, Try.ntmps19
    go_wp2_with (first | (go_at_call 13; refine HC.out.mono ?_; rintro e w1 ⟨rfl, hb⟩))
    go_ret2
    exact ⟨rfl, (HBX.out.next hb).bel⟩

set_option maxRecDepth 20000 in
set_option maxHeartbeats 1600000 in
theorem solveR_any {w : World} {P : Nat → Prop} {sv rv : Value} {p : Prob} (hs : IntsAt w P sv p.sizes) (hr : RelsAt w P rv p.rels) (hP : Under P w.heap.size) :
    Calls Try.prog 17 #[.agg #[sv, rv]] w (SolvePost p w) := by
  have hbel := (Below.refl _ w).alloc (Nat.le_refl _) (.cells #[sv, rv] 25)
  have HC := Lib.hid (checkR_any (hs.kept (Below.keptB hbel hP)) (hr.kept (Below.keptB hbel hP)) (hP.le hbel.size))
  have hlim : ∀ w1, Below w.heap.size w w1 → Calls Try.prog 29 #[.agg #[sv, rv]] w1 (OneI (assW 1 p.sizes) w1) := fun w1 hb => assign_any (hs.kept (Below.keptB hb hP)) (hP.le hb.size) hr.slice
  have hsea : ∀ w1, Below w.heap.size w w1 → Good p → Calls Try.prog 35 #[sv, rv, .int .i64 ((1 : Nat) : Int)] w1 (RefSols p 1 w1) := fun w1 hb hg => solR_any (hs.kept (Below.keptB hb hP)) (hr.kept (Below.keptB hb hP)) (hP.le hb.size) hg (by omega) (by omega)
  have HLIM := Lib.hid hlim
  have HSEA := Lib.hid hsea
  have HR0 : Hid ((w.alloc (.cells #[sv, rv] 25)).heap[w.heap.size]? = some (.cells #[sv, rv] 25 (0, 0))) := Lib.hid (heap_alloc_new _ _)
  obtain ⟨sa, sl, sc, rfl⟩ := hs.slice
  obtain ⟨ra, rl, rc, rfl⟩ := hr.slice
  have hbx : PxAt w (.slice sa sl sc) (.slice ra rl rc) (w.alloc (.cells #[.slice sa sl sc, .slice ra rl rc] 25)) := ⟨hbel, HR0.out⟩
  have HBX := Lib.hid hbx
  clear hs hr hP hbel hlim hsea hbx
  by_cases he : checkE p = 0
  · have hgood := Good.of he
    have HGOOD := Lib.hid hgood
    have HE := Lib.hid he
    rw [he] at HC
    cases hl : limW 1 p.sizes with
    | false =>
      have hal : allE p 1 = 10 := by unfold allE; rw [if_neg (by simp [HE.out]), if_neg (by decide), hl]; rfl
      have hres : solveE p = 10 := by unfold solveE; rw [if_pos (by rw [hal]; decide), hal]
      have hlst : solveL p = [] := by unfold solveL; rw [if_neg (by rw [hres]; decide)]
      unfold SolvePost
      rw [hres, hlst]
      rw [lim_no hgood hl] at HLIM
      clear he hgood hres hlst hl hal
      go_enter Try.func17, Try.ntmps17
      go_wp2_with (first | (go_at_call 13; refine HC.out.mono ?_; rintro e w1 ⟨rfl, hb⟩; have HB1 := Lib.hid (HBX.out.next hb); have c0 := HB1.out.s; have c1 := HB1.out.r) | (go_at_call 29; refine (HLIM.out _ HB1.out.bel).mono ?_; rintro e w2 ⟨rfl, hb2⟩))
      go_ret2
      exact ⟨_, rfl, OwnI.nil _ _, (HB1.out.next hb2).bel⟩
    | true =>
      have hal : allE p 1 = 0 := by unfold allE; rw [if_neg (by simp [HE.out]), if_neg (by decide), hl]; rfl
      have hll : allL p 1 = (sols p []).take 1 := by unfold allL; rw [if_pos hal]; rfl
      have hle := lim_yes hgood hl
      generalize assW 1 p.sizes = A at *
      have hle2 : ¬ 1048576 < A := by omega
      by_cases hlen : ((sols p []).take 1).length = 0
      · have hres : solveE p = 7 := by unfold solveE; rw [if_neg (by rw [hal]; simp), hll, if_pos hlen]
        have hlst : solveL p = [] := by unfold solveL; rw [if_neg (by rw [hres]; decide)]
        unfold SolvePost
        rw [hres, hlst]
        have HL := Lib.hid hlen
        clear he hgood hres hlst hl hal hll hlen
        go_enter Try.func17, Try.ntmps17
        go_wp2_with (first | (go_at_call 13; refine HC.out.mono ?_; rintro e w1 ⟨rfl, hb⟩; have HB1 := Lib.hid (HBX.out.next hb); have c0 := HB1.out.s; have c1 := HB1.out.r; clear hb) | (go_at_call 29; refine (HLIM.out _ HB1.out.bel).mono ?_; rintro e w2 ⟨rfl, hb2⟩; have HB2 := Lib.hid (HB1.out.next hb2); have d0 := HB2.out.s; have d1 := HB2.out.r; clear hb2) | (go_at_call 35; refine (HSEA.out _ HB2.out.bel HGOOD.out).mono ?_; rintro e w3 ⟨fv, vs, rfl, hol, hb3⟩; obtain ⟨a3, c3, b3, o3, q3, rfl, _⟩ := hol.lists; rw [HL.out]; have HB3 := Lib.hid (HB2.out.next hb3); clear hol))
        go_ret2
        exact ⟨_, rfl, OwnI.nil _ _, HB3.out.bel⟩
      · have hres : solveE p = 0 := by unfold solveE; rw [if_neg (by rw [hal]; simp), hll, if_neg hlen]
        have hlst : solveL p = ((sols p []).take 1).getD 0 [] := by unfold solveL; rw [if_pos hres, hll]
        unfold SolvePost
        rw [hres, hlst]
        obtain ⟨k, hk⟩ : ∃ k, ((sols p []).take 1).length = k := ⟨_, rfl⟩
        rw [hk] at hlen
        have HL := Lib.hid hk
        have hk2 : ¬ (k : Int) = 0 := by omega
        clear he hgood hres hlst hl hal hll hk
        go_enter Try.func17, Try.ntmps17
        go_wp2_with (first | (go_at_call 13; refine HC.out.mono ?_; rintro e w1 ⟨rfl, hb⟩; have HB1 := Lib.hid (HBX.out.next hb); have c0 := HB1.out.s; have c1 := HB1.out.r; clear hb) | (go_at_call 29; refine (HLIM.out _ HB1.out.bel).mono ?_; rintro e w2 ⟨rfl, hb2⟩; have HB2 := Lib.hid (HB1.out.next hb2); have d0 := HB2.out.s; have d1 := HB2.out.r; clear hb2) | (go_at_call 35; refine (HSEA.out _ HB2.out.bel HGOOD.out).mono ?_; rintro e w3 ⟨fv, vs, rfl, hol, hb3⟩; have HOL := Lib.hid hol; obtain ⟨g, cap, rfl, hkc, hcm, hc0⟩ := own_first hol (by rw [HL.out]; omega); rw [HL.out]; obtain ⟨ua, ul, uc, hu⟩ := (hol.2.2 0 (by rw [HL.out]; omega)).ints.slice; rw [hu] at hc0; have HU := Lib.hid hu; have HB3 := Lib.hid (HB2.out.next hb3); clear hol hu))
        go_ret2
        refine ⟨_, rfl, ?_, HB3.out.bel⟩
        have := HOL.out.2.2 0 (by rw [HL.out]; omega)
        rw [HU.out] at this
        exact this.mono HB2.out.bel.size
  · have hal : allE p 1 = checkE p := by unfold allE; rw [if_pos he]
    have hres : solveE p = checkE p := by unfold solveE; rw [if_pos (by rw [hal]; exact he), hal]
    have hlst : solveL p = [] := by unfold solveL; rw [if_neg (by rw [hres]; exact he)]
    unfold SolvePost
    rw [hres, hlst]
    clear hres hlst hal
    generalize checkE p = E at *
    go_enter Try.func17, Try.ntmps17
    go_wp2_with (first | (go_at_call 13; refine HC.out.mono ?_; rintro e w1 ⟨rfl, hb⟩))
    go_ret2
    exact ⟨_, rfl, OwnI.nil _ _, (HBX.out.next hb).bel⟩

end Go.Proofs.Ytamidopeojipkaa
