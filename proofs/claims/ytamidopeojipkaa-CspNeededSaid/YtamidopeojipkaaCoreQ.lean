/- Core of the program: the walk. -/
import Derived.Test.YtamidopeojipkaaCoreP
namespace Go.Proofs.Ytamidopeojipkaa
open Go.RowKit
set_option linter.unusedVariables false

theorem core_any {p : Prob} (hgood : Good p) : ∀ (k : Nat) (w : World) (P : Nat → Prop) (base : Nat) (sv rv cv : Value) (ch : List Nat) (from_ : Nat), IntsAt w P sv p.sizes → RelsAt w P rv p.rels → Under P w.heap.size → OwnI w base cv (ch.map Int.ofNat) → base ≤ w.heap.size → ch.length + k ≤ 96 → (∀ i ∈ ch, i < p.rels.length) → from_ ≤ p.rels.length →
    Calls Try.prog 39 #[.agg #[sv, rv], cv, .int .i64 from_, .int .i64 k] w (CorePost base (coreS p k ch from_) w)
  | 0, w, P, base, sv, rv, cv, ch, from_, hs, hr, hP, hc, hb, hl, hch, hf => core_zero hs hr hP hgood hc (by omega) hch from_
  | k + 1, w, P, base, sv, rv, cv, ch, from_, hs, hr, hP, hc, hb, hl, hch, hf => by
    refine core_succ (P := P) hs.slice ?_ hgood.rels hc (by omega) (by omega) from_ hf hb fun w1 cv1 i hb1 hc1 hi => ?_
    · obtain ⟨a, c, b, o, vs, h1, h2, _⟩ := hr
      exact ⟨a, c, h1, h2.hcap, by have := h2.hmax; unfold maxLen at this; omega⟩
    · exact core_any hgood k w1 P w.heap.size sv rv cv1 (ch ++ [i]) (i + 1) (hs.kept (Below.keptB hb1 hP)) (hr.kept (Below.keptB hb1 hP)) (hP.le hb1.size) hc1 hb1.size (by rw [List.length_append]; simp; omega) (fun j hj => by
        rcases List.mem_append.1 hj with h | h
        · exact hch j h
        · rw [List.mem_singleton.1 h]; exact hi) (by omega)

/-- the first smallest core -/
noncomputable def coreR (p : Prob) : Option (List Nat) := (List.range' 0 (p.rels.length + 1)).findSome? fun k => coreS p k [] 0
/-- the error of Core, its relations -/
noncomputable def coreE (p : Prob) : Int := if checkE p ≠ 0 then checkE p else if limW 1 p.sizes = true ∧ p.rels.length ≤ 12 then (if (coreR p).isSome = true then 0 else 7) else 10
noncomputable def coreL (p : Prob) : List Int := if coreE p = 0 then ((coreR p).getD []).map Int.ofNat else []
def CoreAll (p : Prob) (w : World) (e : Ending) (w' : World) : Prop :=
  ∃ v, e = .returned (.tuple #[v, .int .i64 (coreE p)]) ∧ OwnI w' w.heap.size v (coreL p) ∧ Below w.heap.size w w'

set_option maxRecDepth 20000 in
set_option maxHeartbeats 1600000 in
theorem coreQ_any {w : World} {P : Nat → Prop} {sv rv : Value} {p : Prob} (hs : IntsAt w P sv p.sizes) (hr : RelsAt w P rv p.rels) (hP : Under P w.heap.size) :
    Calls Try.prog 25 #[.agg #[sv, rv]] w (CoreAll p w) := by
  have hbel := (Below.refl _ w).alloc (Nat.le_refl _) (.cells #[sv, rv] 25)
  have HC := Lib.hid (checkP_any (hs.kept (Below.keptB hbel hP)) (hr.kept (Below.keptB hbel hP)) (hP.le hbel.size))
  have hlim : ∀ w1, Below w.heap.size w w1 → Calls Try.prog 36 #[.agg #[sv, rv]] w1 (OneB (limW 1 p.sizes) w1) := fun w1 hb => limited_any (hs.kept (Below.keptB hb hP)) (hP.le hb.size) hr.slice
  have hcor : ∀ w1 (k : Nat), Below w.heap.size w w1 → Good p → k ≤ 96 → Calls Try.prog 39 #[.agg #[sv, rv], .slice none 0 0, .int .i64 0, .int .i64 k] w1 (CorePost w.heap.size (coreS p k [] 0) w1) := fun w1 k hb hg hk =>
    core_any hg k w1 P w.heap.size sv rv (.slice none 0 0) [] 0 (hs.kept (Below.keptB hb hP)) (hr.kept (Below.keptB hb hP)) (hP.le hb.size) (OwnI.nil _ _) hb.size (by simpa using hk) (by simp) (by omega)
  have HLIM := Lib.hid hlim
  have HCOR := Lib.hid hcor
  have HR0 : Hid ((w.alloc (.cells #[sv, rv] 25)).heap[w.heap.size]? = some (.cells #[sv, rv] 25 (0, 0))) := Lib.hid (heap_alloc_new _ _)
  obtain ⟨sa, sl, sc, rfl⟩ := hs.slice
  obtain ⟨ra, rc, rb, ro, rvs, rfl, hrr, _⟩ := hr
  have hrc := hrr.hcap
  have hrm : rc ≤ 9223372036854775807 := by have := hrr.hmax; unfold maxLen at this; omega
  have hbx : PxAt w (.slice sa sl sc) (.slice ra p.rels.length rc) (w.alloc (.cells #[.slice sa sl sc, .slice ra p.rels.length rc] 25)) := ⟨hbel, HR0.out⟩
  have HBX := Lib.hid hbx
  obtain ⟨lr, hlr⟩ : ∃ lr, p.rels.length = lr := ⟨_, rfl⟩
  rw [hlr] at HC HLIM HCOR HR0 HBX hrc ⊢
  have HLR := Lib.hid hlr
  clear hs hP hbel hlim hcor hbx hrr hlr
  by_cases he : checkE p = 0
  · have hgood := Good.of he
    have HGOOD := Lib.hid hgood
    have HE := Lib.hid he
    have hl96 : lr ≤ 96 := by rw [← HLR.out]; exact hgood.rels
    rw [he] at HC
    cases hl : limW 1 p.sizes with
    | false =>
      have hres : coreE p = 10 := by unfold coreE; rw [if_neg (by simp [HE.out]), hl, if_neg (by simp)]
      have hlst : coreL p = [] := by unfold coreL; rw [if_neg (by rw [hres]; decide)]
      unfold CoreAll
      rw [hres, hlst]
      rw [hl] at HLIM
      clear he hgood hres hlst hl
      go_enter Try.func25, Try.ntmps25
      go_wp2_with (first | (go_at_call 12; refine HC.out.mono ?_; rintro e w1 ⟨rfl, hb⟩; have HB1 := Lib.hid (HBX.out.next hb); have c0 := HB1.out.s; have c1 := HB1.out.r) | (go_at_call 36; refine (HLIM.out _ HB1.out.bel).mono ?_; rintro e w2 ⟨rfl, hb2⟩))
      go_ret2
      exact ⟨_, rfl, OwnI.nil _ _, (HB1.out.next hb2).bel⟩
    | true =>
      by_cases h12 : 12 < lr
      · have hres : coreE p = 10 := by unfold coreE; rw [if_neg (by simp [HE.out]), hl, if_neg (by rw [HLR.out]; omega)]
        have hlst : coreL p = [] := by unfold coreL; rw [if_neg (by rw [hres]; decide)]
        unfold CoreAll
        rw [hres, hlst]
        rw [hl] at HLIM
        have h12i : (12 : Int) < lr := by omega
        clear he hgood hres hlst hl
        go_enter Try.func25, Try.ntmps25
        go_wp2_with (first | (go_at_call 12; refine HC.out.mono ?_; rintro e w1 ⟨rfl, hb⟩; have HB1 := Lib.hid (HBX.out.next hb); have c0 := HB1.out.s; have c1 := HB1.out.r) | (go_at_call 36; refine (HLIM.out _ HB1.out.bel).mono ?_; rintro e w2 ⟨rfl, hb2⟩; have HB2 := Lib.hid (HB1.out.next hb2); have d0 := HB2.out.s; have d1 := HB2.out.r))
        go_ret2
        exact ⟨_, rfl, OwnI.nil _ _, HB2.out.bel⟩
      · have h12i : ¬ (12 : Int) < lr := by omega
        have hres : coreE p = if (coreR p).isSome = true then 0 else 7 := by unfold coreE; rw [if_neg (by simp [HE.out]), hl, if_pos ⟨rfl, by rw [HLR.out]; omega⟩]
        have HRES := Lib.hid hres
        rw [hl] at HLIM
        clear he hgood hres hl
        go_enter Try.func25, Try.ntmps25
        go_wp2_with (first | (go_at_call 12; refine HC.out.mono ?_; rintro e w1 ⟨rfl, hb⟩; have HB1 := Lib.hid (HBX.out.next hb); have c0 := HB1.out.s; have c1 := HB1.out.r; clear hb) | (go_at_call 36; refine (HLIM.out _ HB1.out.bel).mono ?_; rintro e w2 ⟨rfl, hb2⟩; have HB2 := Lib.hid (HB1.out.next hb2); have d0 := HB2.out.s; have d1 := HB2.out.r; clear hb2))
        clear c0 c1 d0 d1
        go_loopg [26] (lr + 1) (fun g26 i wr => ∃ q : Nat, q + g26 = lr + 1 ∧ i = .int .i64 q ∧ PxAt w (.slice sa sl sc) (.slice ra lr rc) wr ∧ ∀ j, j < q → coreS p j [] 0 = none)
        case atStart => exact ⟨0, by omega, rfl, HB2.out, fun j hj => by omega⟩
        case round =>
          obtain ⟨q, hq, rfl, hbx, hall⟩ := hrel
          have HB3 := Lib.hid hbx
          have HALL := Lib.hid hall
          have c0 := hbx.s
          have c1 := hbx.r
          clear hbx hall
          cases gk with
          | zero =>
            have hkl : ¬ (q : Int) < (lr : Int) + 1 := by omega
            have hno : coreR p = none := fs_none fun j _ hj => HALL.out j (by rw [HLR.out] at hj; omega)
            have hres : coreE p = 7 := by rw [HRES.out, hno]; rfl
            have hlst : coreL p = [] := by unfold coreL; rw [if_neg (by rw [hres]; decide)]
            go_wp2
            go_ret2
            show CoreAll p w _ _
            unfold CoreAll
            rw [hres, hlst]
            exact ⟨_, rfl, OwnI.nil _ _, HB3.out.bel⟩
          | succ gk2 =>
            have hkl : (q : Int) < (lr : Int) + 1 := by omega
            have HCQ := Lib.hid (HCOR.out wr q HB3.out.bel HGOOD.out (by omega))
            obtain ⟨G, hG⟩ : ∃ G, coreS p q [] 0 = G := ⟨_, rfl⟩
            rw [hG] at HCQ
            have HG := Lib.hid hG
            clear hG
            rcases G with _ | L
            · have hst : ∀ j, j < q + 1 → coreS p j [] 0 = none := fun j h1 => by
                by_cases e : j = q
                · rw [e]; exact HG.out
                · exact HALL.out j (by omega)
              have HST := Lib.hid hst
              clear hst
              go_wp2_with (first | (go_at_call 39; refine HCQ.out.mono ?_; rintro e w7 ⟨⟨a7, l7, c7, rfl⟩, hb7⟩))
              go_roundg gk2
              case measure => omega
              case rel => exact ⟨q + 1, by omega, by go_num, HB3.out.next hb7, HST.out⟩
            · have hyes : coreR p = some L := fs_at _ 0 q (by omega) (by rw [HLR.out]; omega) (fun j _ hj => HALL.out j hj) HG.out
              have hres : coreE p = 0 := by rw [HRES.out, hyes]; rfl
              have hlst : coreL p = L.map Int.ofNat := by unfold coreL; rw [if_pos hres, hyes]; rfl
              have HRL := Lib.hid (And.intro hres hlst)
              clear hyes hres hlst
              go_wp2_with (first | (go_at_call 39; refine HCQ.out.mono ?_; rintro e w7 ⟨⟨v7, rfl, ho7⟩, hb7⟩; obtain ⟨a7, l7, c7, rfl⟩ := row_slice ho7; have HO7 := Lib.hid ho7; clear ho7))
              go_ret2
              show CoreAll p w _ _
              unfold CoreAll
              rw [HRL.out.1, HRL.out.2]
              exact ⟨_, rfl, HO7.out, (HB3.out.next hb7).bel⟩
  · have hres : coreE p = checkE p := by unfold coreE; rw [if_pos he]
    have hlst : coreL p = [] := by unfold coreL; rw [if_neg (by rw [hres]; exact he)]
    unfold CoreAll
    rw [hres, hlst]
    clear hres hlst
    generalize checkE p = E at *
    go_enter Try.func25, Try.ntmps25
    go_wp2_with (first | (go_at_call 12; refine HC.out.mono ?_; rintro e w1 ⟨rfl, hb⟩))
    go_ret2
    exact ⟨_, rfl, OwnI.nil _ _, (HBX.out.next hb).bel⟩
end Go.Proofs.Ytamidopeojipkaa
