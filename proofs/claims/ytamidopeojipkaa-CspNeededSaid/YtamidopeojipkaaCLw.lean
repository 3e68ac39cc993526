/- Core of the reference, tiny, CspCores: the walks. -/
import Derived.Test.YtamidopeojipkaaCoreT
import Derived.Test.YtamidopeojipkaaSLw
namespace Go.Proofs.Ytamidopeojipkaa
open Go.RowKit
set_option linter.unusedVariables false

theorem core0 {p : Prob} (h : Good p) : coreS p 0 [] 0 = none := by
  unfold coreS
  rw [if_neg]
  intro e
  have e1 := sols_fil (subP p [])
  have e2 : (subP p []).sizes = p.sizes := rfl
  rw [e2, ext_zero _ h.pos, from_step _ _ h.pos (in_zero _ h.pos), fil_yes (fun i hi => by simp [subP] at hi)] at e1
  rw [e] at e1
  cases e1

set_option maxRecDepth 20000 in
set_option maxHeartbeats 1600000 in
theorem coreU_any {w : World} {P : Nat → Prop} {sv rv : Value} {p : Prob} (hs : IntsAt w P sv p.sizes) (hr : RelsAt w P rv p.rels) (hP : Under P w.heap.size) :
    Calls Try.prog 26 #[.agg #[sv, rv]] w (CoreAll p w) := by
  have hbel := (Below.refl _ w).alloc (Nat.le_refl _) (.cells #[sv, rv] 25)
  have HC := Lib.hid (checkR_any (hs.kept (Below.keptB hbel hP)) (hr.kept (Below.keptB hbel hP)) (hP.le hbel.size))
  have hlim : ∀ w1, Below w.heap.size w w1 → Calls Try.prog 29 #[.agg #[sv, rv]] w1 (OneI (assW 1 p.sizes) w1) := fun w1 hb => assign_any (hs.kept (Below.keptB hb hP)) (hP.le hb.size) hr.slice
  have hcor : ∀ w1 (k : Nat), Below w.heap.size w w1 → Good p → 0 < k → k ≤ 96 → Calls Try.prog 40 #[.agg #[sv, rv], .slice none 0 0, .int .i64 0, .int .i64 k] w1 (RefCore w.heap.size (coreS p k [] 0) w1) := fun w1 k hb hg h0 hk => by
    have := coreT_any hg k w1 P w.heap.size sv rv (.slice none 0 0) [] 0 (hs.kept (Below.keptB hb hP)) (hr.kept (Below.keptB hb hP)) (hP.le hb.size) (OwnI.nil _ _) hb.size (by simpa using hk) (by simpa using h0) (by simp) (by omega)
    simpa using this
  have HLIM := Lib.hid hlim
  have HCOR := Lib.hid hcor
  have HR0 : Hid ((w.alloc (.cells #[sv, rv] 25)).heap[w.heap.size]? = some (.cells #[sv, rv] 25 (0, 0))) := Lib.hid (heap_alloc_new _ _)
  obtain ⟨sa, sl, sc, rfl⟩ := hs.slice
  obtain ⟨ra, rc, rb, ro, rvs, rfl, hrr, _⟩ := hr
  have hrc := hrr.hcap
  have hrm : rc ≤ 9223372036854775807 := by have := hrr.hmax; unfold maxLen at this; omega
  have hbx : PxAt w (.slice sa sl sc) (.slice ra p.rels.length rc) (w.alloc (.cells #[.slice sa sl sc, .slice ra p.rels.length rc] 25)) := ⟨hbel, HR0.out⟩
  have HBX := Lib.hid hbx
  obtain ⟨lr, hlr⟩ : ∃ lr, p.rels.length = lr := ⟨_, rfl⟩
  rw [hlr] at HC HLIM HCOR HR0 HBX hrc ⊢
  have HLR := Lib.hid hlr
  clear hs hP hbel hlim hcor hbx hrr hlr
  by_cases he : checkE p = 0
  · have hgood := Good.of he
    have HGOOD := Lib.hid hgood
    have HE := Lib.hid he
    have hl96 : lr ≤ 96 := by rw [← HLR.out]; exact hgood.rels
    rw [he] at HC
    cases hl : limW 1 p.sizes with
    | false =>
      have hres : coreE p = 10 := by unfold coreE; rw [if_neg (by simp [HE.out]), hl, if_neg (by simp)]
      have hlst : coreL p = [] := by unfold coreL; rw [if_neg (by rw [hres]; decide)]
      unfold CoreAll
      rw [hres, hlst]
      rw [lim_no hgood hl] at HLIM
      clear he hgood hres hlst hl
      go_enter Try.func26, Try.ntmps26
      go_wp2_with (first | (go_at_call 13; refine HC.out.mono ?_; rintro e w1 ⟨rfl, hb⟩; have HB1 := Lib.hid (HBX.out.next hb); have c0 := HB1.out.s; have c1 := HB1.out.r) | (go_at_call 29; refine (HLIM.out _ HB1.out.bel).mono ?_; rintro e w2 ⟨rfl, hb2⟩))
      go_ret2
      exact ⟨_, rfl, OwnI.nil _ _, (HB1.out.next hb2).bel⟩
    | true =>
      by_cases h12 : 12 < lr
      · have hres : coreE p = 10 := by unfold coreE; rw [if_neg (by simp [HE.out]), hl, if_neg (by rw [HLR.out]; omega)]
        have hlst : coreL p = [] := by unfold coreL; rw [if_neg (by rw [hres]; decide)]
        unfold CoreAll
        rw [hres, hlst]
        have hle := lim_yes hgood hl
        generalize assW 1 p.sizes = A at *
        have hle2 : ¬ 1048576 < A := by omega
        have h12i : (12 : Int) < lr := by omega
        clear he hgood hres hlst hl
        go_enter Try.func26, Try.ntmps26
        go_wp2_with (first | (go_at_call 13; refine HC.out.mono ?_; rintro e w1 ⟨rfl, hb⟩; have HB1 := Lib.hid (HBX.out.next hb); have c0 := HB1.out.s; have c1 := HB1.out.r) | (go_at_call 29; refine (HLIM.out _ HB1.out.bel).mono ?_; rintro e w2 ⟨rfl, hb2⟩; have HB2 := Lib.hid (HB1.out.next hb2); have d0 := HB2.out.s; have d1 := HB2.out.r))
        go_ret2
        exact ⟨_, rfl, OwnI.nil _ _, HB2.out.bel⟩
      · have h12i : ¬ (12 : Int) < lr := by omega
        have hres : coreE p = if (coreR p).isSome = true then 0 else 7 := by unfold coreE; rw [if_neg (by simp [HE.out]), hl, if_pos ⟨rfl, by rw [HLR.out]; omega⟩]
        have HRES := Lib.hid hres
        have hle := lim_yes hgood hl
        generalize assW 1 p.sizes = A at *
        have hle2 : ¬ 1048576 < A := by omega
        have HZ := Lib.hid (core0 hgood)
        clear he hgood hres hl
        go_enter Try.func26, Try.ntmps26
        go_wp2_with (first | (go_at_call 13; refine HC.out.mono ?_; rintro e w1 ⟨rfl, hb⟩; have HB1 := Lib.hid (HBX.out.next hb); have c0 := HB1.out.s; have c1 := HB1.out.r; clear hb) | (go_at_call 29; refine (HLIM.out _ HB1.out.bel).mono ?_; rintro e w2 ⟨rfl, hb2⟩; have HB2 := Lib.hid (HB1.out.next hb2); have d0 := HB2.out.s; have d1 := HB2.out.r; clear hb2))
        clear c0 c1 d0 d1
        go_loopg [5] lr (fun g26 i wr => ∃ q : Nat, q + g26 = lr + 1 ∧ 1 ≤ q ∧ i = .int .i64 q ∧ PxAt w (.slice sa sl sc) (.slice ra lr rc) wr ∧ ∀ j, j < q → coreS p j [] 0 = none)
        case atStart => exact ⟨1, by omega, by omega, rfl, HB2.out, fun j hj => by rw [show j = 0 by omega]; exact HZ.out⟩
        case round =>
          obtain ⟨q, hq, hq1, rfl, hbx, hall⟩ := hrel
          have HB3 := Lib.hid hbx
          have HALL := Lib.hid hall
          have c0 := hbx.s
          have c1 := hbx.r
          clear hbx hall
          cases gk with
          | zero =>
            have hkl : ¬ (q : Int) ≤ (lr : Int) := by omega
            have hno : coreR p = none := fs_none fun j _ hj => HALL.out j (by rw [HLR.out] at hj; omega)
            have hres : coreE p = 7 := by rw [HRES.out, hno]; rfl
            have hlst : coreL p = [] := by unfold coreL; rw [if_neg (by rw [hres]; decide)]
            go_wp2
            go_ret2
            show CoreAll p w _ _
            unfold CoreAll
            rw [hres, hlst]
            exact ⟨_, rfl, OwnI.nil _ _, HB3.out.bel⟩
          | succ gk2 =>
            have hkl : (q : Int) ≤ (lr : Int) := by omega
            have HCQ := Lib.hid (HCOR.out wr q HB3.out.bel HGOOD.out (by omega) (by omega))
            obtain ⟨G, hG⟩ : ∃ G, coreS p q [] 0 = G := ⟨_, rfl⟩
            rw [hG] at HCQ
            have HG := Lib.hid hG
            clear hG
            rcases G with _ | L
            · have hst : ∀ j, j < q + 1 → coreS p j [] 0 = none := fun j h1 => by
                by_cases e : j = q
                · rw [e]; exact HG.out
                · exact HALL.out j (by omega)
              have HST := Lib.hid hst
              clear hst
              go_wp2_with (first | (go_at_call 40; refine HCQ.out.mono ?_; rintro e w7 ⟨rfl, hb7⟩; have hneq := neq_nil w7))
              go_roundg gk2
              case measure => omega
              case rel => exact ⟨q + 1, by omega, by omega, by go_num, HB3.out.next hb7, HST.out⟩
            · have hyes : coreR p = some L := fs_at _ 0 q (by omega) (by rw [HLR.out]; omega) (fun j _ hj => HALL.out j hj) HG.out
              have hres : coreE p = 0 := by rw [HRES.out, hyes]; rfl
              have hlst : coreL p = L.map Int.ofNat := by unfold coreL; rw [if_pos hres, hyes]; rfl
              have HRL := Lib.hid (And.intro hres hlst)
              clear hyes hres hlst
              go_wp2_with (first | (go_at_call 40; refine HCQ.out.mono ?_; rintro e w7 ⟨⟨g7, n7, c7, rfl, ho7⟩, hb7⟩; have hneq := neq_some w7 g7 n7 c7; have HO7 := Lib.hid ho7; clear ho7))
              go_ret2
              show CoreAll p w _ _
              unfold CoreAll
              rw [HRL.out.1, HRL.out.2]
              exact ⟨_, rfl, HO7.out, (HB3.out.next hb7).bel⟩
  · have hres : coreE p = checkE p := by unfold coreE; rw [if_pos he]
    have hlst : coreL p = [] := by unfold coreL; rw [if_neg (by rw [hres]; exact he)]
    unfold CoreAll
    rw [hres, hlst]
    clear hres hlst
    generalize checkE p = E at *
    go_enter Try.func26, Try.ntmps26
    go_wp2_with (first | (go_at_call 13; refine HC.out.mono ?_; rintro e w1 ⟨rfl, hb⟩))
    go_ret2
    exact ⟨_, rfl, OwnI.nil _ _, (HBX.out.next hb).bel⟩

set_option maxRecDepth 20000 in
set_option maxHeartbeats 1600000 in
theorem tiny_any {w : World} {P : Nat → Prop} {sv rv : Value} {p : Prob} (hs : IntsAt w P sv p.sizes) (hr : RelsAt w P rv p.rels) (hP : Under P w.heap.size) :
    Calls Try.prog 24 #[.agg #[sv, rv]] w (SomeB w) := by
  have hbel := (Below.refl _ w).alloc (Nat.le_refl _) (.cells #[sv, rv] 25)
  have hass : ∀ w1, Below w.heap.size w w1 → Calls Try.prog 29 #[.agg #[sv, rv]] w1 (OneI (assW 1 p.sizes) w1) := fun w1 hb => assign_any (hs.kept (Below.keptB hb hP)) (hP.le hb.size) hr.slice
  have hchk : ∀ w1, Below w.heap.size w w1 → Calls Try.prog 13 #[.agg #[sv, rv]] w1 (OneI (checkE p) w1) := fun w1 hb => checkR_any (hs.kept (Below.keptB hb hP)) (hr.kept (Below.keptB hb hP)) (hP.le hb.size)
  have HASS := Lib.hid hass
  have HCHK := Lib.hid hchk
  have HR0 : Hid ((w.alloc (.cells #[sv, rv] 25)).heap[w.heap.size]? = some (.cells #[sv, rv] 25 (0, 0))) := Lib.hid (heap_alloc_new _ _)
  obtain ⟨sa, sl, sc, rfl⟩ := hs.slice
  obtain ⟨ra, rc, rb, ro, rvs, rfl, hrr, _⟩ := hr
  have hrc := hrr.hcap
  have hrm : rc ≤ 9223372036854775807 := by have := hrr.hmax; unfold maxLen at this; omega
  have hbx : PxAt w (.slice sa sl sc) (.slice ra p.rels.length rc) (w.alloc (.cells #[.slice sa sl sc, .slice ra p.rels.length rc] 25)) := ⟨hbel, HR0.out⟩
  have HBX := Lib.hid hbx
  obtain ⟨lr, hlr⟩ : ∃ lr, p.rels.length = lr := ⟨_, rfl⟩
  rw [hlr] at HASS HCHK HBX hrc ⊢
  generalize assW 1 p.sizes = A at *
  generalize checkE p = E at *
  clear hs hP hbel hass hchk hrr hbx hlr HR0
  by_cases h8 : lr ≤ 8
  · have h8i : (lr : Int) ≤ 8 := by omega
    go_enter Try.func24, Try.ntmps24
    go_wp2
    go_ret
    exact ⟨_, rfl, HBX.out.bel⟩
  · have h8i : ¬ (lr : Int) ≤ 8 := by omega
    by_cases h12 : 12 < lr
    · have h12i : (12 : Int) < lr := by omega
      go_enter Try.func24, Try.ntmps24
      go_wp2
      go_ret
      exact ⟨_, rfl, HBX.out.bel⟩
    · have h12i : ¬ (12 : Int) < lr := by omega
      by_cases h30 : A ≤ 30
      · go_enter Try.func24, Try.ntmps24
        go_wp2_with (first
          | (go_at_call 29; refine (HASS.out _ HBX.out.bel).mono ?_; rintro e w3 ⟨rfl, hb3⟩; have HB3 := Lib.hid (HBX.out.next hb3); have d0 := HB3.out.s; have d1 := HB3.out.r; clear hb3))
        go_ret
        exact ⟨_, rfl, HB3.out.bel⟩
      · go_enter Try.func24, Try.ntmps24
        go_wp2_with (first
          | (go_at_call 29; refine (HASS.out _ HBX.out.bel).mono ?_; rintro e w3 ⟨rfl, hb3⟩; have HB3 := Lib.hid (HBX.out.next hb3); have d0 := HB3.out.s; have d1 := HB3.out.r; clear hb3)
          | (go_at_call 13; refine (HCHK.out _ HB3.out.bel).mono ?_; rintro e w4 ⟨rfl, hb4⟩; have HB4 := Lib.hid (HB3.out.next hb4); clear hb4))
        go_ret
        exact ⟨_, rfl, HB4.out.bel⟩

set_option maxRecDepth 20000 in
set_option maxHeartbeats 1600000 in
theorem cores_walk {w : World} {P : Nat → Prop} {sv rv : Value} {p : Prob} (hs : IntsAt w P sv p.sizes) (hr : RelsAt w P rv p.rels) (hP : Under P w.heap.size) :
    Calls Try.prog 7 #[.agg #[sv, rv]] w (OneB true w) := by
  have hbel := (Below.refl _ w).alloc (Nat.le_refl _) (.cells #[sv, rv] 25)
  have hsm : ∀ w1, Below w.heap.size w w1 → Calls Try.prog 10 #[.agg #[sv, rv]] w1 (SomeB w1) := fun w1 hb => small_any (hs.kept (Below.keptB hb hP)) (hr.kept (Below.keptB hb hP)) (hP.le hb.size)
  have hty : ∀ w1, Below w.heap.size w w1 → Calls Try.prog 24 #[.agg #[sv, rv]] w1 (SomeB w1) := fun w1 hb => tiny_any (hs.kept (Below.keptB hb hP)) (hr.kept (Below.keptB hb hP)) (hP.le hb.size)
  have h25 : ∀ w1, Below w.heap.size w w1 → Calls Try.prog 25 #[.agg #[sv, rv]] w1 (CoreAll p w1) := fun w1 hb => coreQ_any (hs.kept (Below.keptB hb hP)) (hr.kept (Below.keptB hb hP)) (hP.le hb.size)
  have h26 : ∀ w1, Below w.heap.size w w1 → Calls Try.prog 26 #[.agg #[sv, rv]] w1 (CoreAll p w1) := fun w1 hb => coreU_any (hs.kept (Below.keptB hb hP)) (hr.kept (Below.keptB hb hP)) (hP.le hb.size)
  have HSM := Lib.hid hsm
  have HTY := Lib.hid hty
  have H25 := Lib.hid h25
  have H26 := Lib.hid h26
  have hbx : PxAt w sv rv (w.alloc (.cells #[sv, rv] 25)) := ⟨hbel, heap_alloc_new _ _⟩
  have HBX := Lib.hid hbx
  obtain ⟨sa, sl, sc, rfl⟩ := hs.slice
  obtain ⟨ra, rl, rc, rfl⟩ := hr.slice
  clear hs hr hP hbel hsm hty h25 h26 hbx
  go_enter Try.func7, Try.ntmps7
  go_wp2_with (first
    | (go_at_call 10; refine (HSM.out _ HBX.out.bel).mono ?_; rintro e w1 ⟨b, rfl, hb1⟩; have HB1 := Lib.hid (HBX.out.next hb1); have c0 := HB1.out.s; have c1 := HB1.out.r; clear hb1; cases b)
    | (go_at_call 24; refine (HTY.out _ HB1.out.bel).mono ?_; rintro e w2 ⟨b2, rfl, hb2⟩; have HB2 := Lib.hid (HB1.out.next hb2); have b0 := HB2.out.s; have b1 := HB2.out.r; clear hb2; cases b2)
    | (go_at_call 25; refine (H25.out _ HB2.out.bel).mono ?_; rintro e w3 ⟨v3, rfl, ho3, hb3⟩; obtain ⟨a3, l3, q3, rfl⟩ := ho3.ints.slice; have HO3 := Lib.hid ho3; have HB3 := Lib.hid (HB2.out.next hb3); have d0 := HB3.out.s; have d1 := HB3.out.r; clear hb3 ho3)
    | (go_at_call 26; refine (H26.out _ HB3.out.bel).mono ?_; rintro e w4 ⟨v4, rfl, ho4, hb4⟩; obtain ⟨a4, l4, q4, rfl⟩ := ho4.ints.slice; have HB4 := Lib.hid (HB3.out.next hb4); have HI := Lib.hid (ints_same (ho_ints HO3.out hb4) (ho_ints ho4 (Below.refl _ _)) (ho_under HO3.out hb4) (ho_under ho4 (Below.refl _ _))); clear hb4 ho4)
    | (go_at_call 20; refine HI.out.mono ?_; rintro e w7 ⟨rfl, hb7⟩; have HB7 := Lib.hid (HB4.out.next hb7); clear hb7)
    | (go_at_call 11; refine (alive_any _).mono ?_; rintro e w9 ⟨rfl, hb9⟩))
  · go_ret
    exact ⟨rfl, (HB1.out.next hb9).bel⟩
  · go_ret
    exact ⟨rfl, (HB2.out.next hb9).bel⟩
  · go_ret
    exact ⟨rfl, (HB7.out.next hb9).bel⟩
end Go.Proofs.Ytamidopeojipkaa
