/- CspSound: the walk. -/
import Derived.Test.YtamidopeojipkaaHolds
import Derived.Test.YtamidopeojipkaaSoundP
import Derived.Test.YtamidopeojipkaaPLw
import Derived.Test.YtamidopeojipkaaSLw
namespace Go.Proofs.Ytamidopeojipkaa
open Go.RowKit
set_option linter.unusedVariables false

theorem cntR_bound (f : Nat → Bool) : ∀ k, cntR f k ≤ k
  | 0 => Nat.le_refl _
  | k + 1 => by
    have := cntR_bound f k
    unfold cntR
    split <;> omega
theorem allE_cases {p : Prob} (h : checkE p = 0) : allE p 4096 = 0 ∨ allE p 4096 = 10 := by
  unfold allE
  rw [if_neg (by simp [h]), if_neg (by decide)]
  split
  · exact .inl rfl
  · exact .inr rfl
theorem getD_mem {L : List (List Int)} {i : Nat} (h : i < L.length) : L.getD i [] ∈ L := by
  have e : L.getD i [] = L[i] := by simp [List.getD, h]
  rw [e]; exact List.getElem_mem _
theorem allL_sub {p : Prob} {a : List Int} (h : a ∈ allL p 4096) : a ∈ sols p [] := by
  unfold allL at h
  split at h
  · exact List.mem_of_mem_take h
  · simp at h
theorem allL_order (p : Prob) {i : Nat} (h : i + 1 < (allL p 4096).length) : lexLt ((allL p 4096).getD i []) ((allL p 4096).getD (i + 1) []) := by
  have hp : (allL p 4096).Pairwise lexLt := by
    unfold allL
    split
    · exact (sols_order p).sublist (List.take_sublist _ _)
    · exact List.Pairwise.nil
  rw [List.pairwise_iff_getElem] at hp
  have := hp i (i + 1) (by omega) h (by omega)
  simpa [List.getD, h, show i < (allL p 4096).length by omega] using this

set_option maxRecDepth 20000 in
set_option maxHeartbeats 1600000 in
theorem sound_walk {w : World} {P : Nat → Prop} {sv rv : Value} {p : Prob} (hs : IntsAt w P sv p.sizes) (hr : RelsAt w P rv p.rels) (hP : Under P w.heap.size) :
    Calls Try.prog 8 #[.agg #[sv, rv]] w (OneB true w) := by
  have hbel := (Below.refl _ w).alloc (Nat.le_refl _) (.cells #[sv, rv] 25)
  have HSM := Lib.hid (fun w1 (hb : Below w.heap.size w w1) => small_any (hs.kept (Below.keptB hb hP)) (hr.kept (Below.keptB hb hP)) (hP.le hb.size))
  have HCR := Lib.hid (fun w1 (hb : Below w.heap.size w w1) => checkR_any (hs.kept (Below.keptB hb hP)) (hr.kept (Below.keptB hb hP)) (hP.le hb.size))
  have HAL := Lib.hid (fun w1 (hb : Below w.heap.size w w1) => all_any (hs.kept (Below.keptB hb hP)) (hr.kept (Below.keptB hb hP)) (hP.le hb.size) 4096)
  have hbx : PxAt w sv rv (w.alloc (.cells #[sv, rv] 25)) := ⟨hbel, heap_alloc_new _ _⟩
  have HBX := Lib.hid hbx
  by_cases hok : checkE p = 0
  · have HPP := Lib.hid (fun w1 (hb : Below w.heap.size w w1) => propP_yes (hs.kept (Below.keptB hb hP)) (hr.kept (Below.keptB hb hP)) (hP.le hb.size) hok)
    have hgood := Good.of hok
    have HGOOD := Lib.hid hgood
    have HHO := Lib.hid (fun w1 (Q : Nat → Prop) (av : Value) (a : List Int) (hb : Below w.heap.size w w1) (ha : IntsAt w1 Q av a) (hQ : Under Q w1.heap.size) (hal : a.length = p.sizes.length) => holds_any (hs.kept (Below.keptB hb hP)) (hr.kept (Below.keptB hb hP)) (hP.le hb.size) hgood ha hQ hal)
    have HEC := Lib.hid (allE_cases hok)
    have HOK := Lib.hid hok
    have hl16 := hgood.len
    obtain ⟨sa, sc, sb, so, rfl, hsr⟩ := hs
    obtain ⟨ra, rl, rc, rfl⟩ := hr.slice
    have HSR := Lib.hid hsr
    have HP := Lib.hid hP
    have hsc := hsr.hcap
    have hsm1 : sc ≤ 9223372036854775807 := by have := hsr.hmax; unfold maxLen at this; omega
    obtain ⟨n, hn⟩ : ∃ n, p.sizes.length = n := ⟨_, rfl⟩
    rw [hn] at HSM HCR HAL HBX HPP HHO HSR hsc hl16 ⊢
    rw [hok] at HCR
    have HN := Lib.hid hn
    clear hr hP hbel hbx hok hgood hsr hn
    go_enter Try.func8, Try.ntmps8
    go_wp2_with (first
      | (go_at_call 10; refine (HSM.out _ HBX.out.bel).mono ?_; rintro e w1 ⟨b, rfl, hb1⟩; have HB1 := Lib.hid (HBX.out.next hb1); have c0 := HB1.out.s; have c1 := HB1.out.r; clear hb1; cases b)
      | (go_at_call 13; refine (HCR.out _ HB1.out.bel).mono ?_; rintro e w2 ⟨rfl, hb2⟩; have HB2 := Lib.hid (HB1.out.next hb2); have b0 := HB2.out.s; have b1 := HB2.out.r; clear hb2)
      | (go_at_call 21; refine (HAL.out _ HB2.out.bel).mono ?_; rintro e w3 ⟨v3, vs3, rfl, ho3, hb3⟩; obtain ⟨a3, q3, g3, o3, f3, rfl, hr3, hs3⟩ := ho3.lists; have HO3 := Lib.hid ho3; have HR3 := Lib.hid hr3; have HS3 := Lib.hid hs3; have HB3 := Lib.hid (HB2.out.next hb3); have d0 := HB3.out.s; have d1 := HB3.out.r; clear hb3 ho3 hr3 hs3)
      | (go_at_call 14; refine (HPP.out _ HB3.out.bel).mono ?_; rintro e w4 ⟨v4, bs4, f4, rfl, ht4, hf4, hb4⟩; obtain ⟨a4, q4, rfl, hc4, hm4⟩ := tab_slice ht4; have HT4 := Lib.hid ht4; have HF4 := Lib.hid hf4; have HB4 := Lib.hid (HB3.out.next hb4); have HN4 := Lib.hid hb4; have e0 := HB4.out.s; have e1 := HB4.out.r; clear hb4 ht4 hf4)
      | (go_at_call 11; refine (alive_any _).mono ?_; rintro e w9 ⟨rfl, hb9⟩))
    · go_ret
      exact ⟨rfl, (HB1.out.next hb9).bel⟩
    · clear c0 c1 b0 b1 d0 d1 e0 e1
      obtain ⟨m, hmm⟩ : ∃ m, szs p.sizes = m := ⟨_, rfl⟩
      rw [hmm] at HT4 HF4
      have HMM := Lib.hid hmm
      have HM : Hid (∀ i, m i ≤ 1000) := Lib.hid (by rw [← hmm]; exact HGOOD.out.szs)
      obtain ⟨lL, hlL⟩ : ∃ lL, (allL p 4096).length = lL := ⟨_, rfl⟩
      rw [hlL] at HR3 HS3 ⊢
      have HLL := Lib.hid hlL
      clear hmm hlL
      have hlc3 := HR3.out.hcap
      have hlm3 : q3 ≤ 9223372036854775807 := by have := HR3.out.hmax; unfold maxLen at this; omega
      go_loopg [7, 8, 49] n (fun g49 one non i wr => ∃ (q : Nat) (t1 t2 : Bool), q + g49 = n ∧ i = .int .i64 q ∧ one = .bool t1 ∧ non = .bool t2 ∧ Below w4.heap.size w4 wr ∧ (t1 = true ↔ ∀ v, v < q → cntR (gac p v) (m v) = 1) ∧ (t2 = true ↔ ∃ v, v < q ∧ cntR (gac p v) (m v) = 0))
      case atStart => exact ⟨0, true, false, by omega, rfl, rfl, rfl, Below.refl _ _, ⟨fun _ v hv => by omega, fun _ => rfl⟩, ⟨fun e => absurd e (by simp), fun ⟨v, hv, _⟩ => by omega⟩⟩
      case round =>
        obtain ⟨q, t1, t2, hq, rfl, rfl, rfl, hbel, ht1, ht2⟩ := hrel
        have HBL := Lib.hid hbel
        have HT1 := Lib.hid ht1
        have HT2 := Lib.hid ht2
        have HBW := Lib.hid (HB4.out.next hbel)
        clear ht1 ht2
        cases gk with
        | zero =>
          have hkl : ¬ (q : Int) < n := by omega
          have hq' : q = n := by omega
          clear hbel
          generalize wr = W5 at *
          rcases HEC.out with hE | hE
          · have hone : t1 = true → lL = 1 := fun e => by
              have h1 := one_sols HGOOD.out fun v hv => by
                rw [HMM.out]; exact HT1.out.1 e v (by rw [HN.out] at hv; omega)
              rw [← HLL.out]
              unfold allL
              rw [if_pos hE, List.length_take, h1]; rfl
            have hnon : t2 = true → lL = 0 := fun e => by
              obtain ⟨v, hv, hz⟩ := HT2.out.1 e
              have h1 := none_sols HGOOD.out (v := v) (by rw [HN.out]; omega) (by rw [HMM.out]; exact hz)
              rw [← HLL.out]
              unfold allL
              rw [if_pos hE, h1]; rfl
            have HONE := Lib.hid hone
            have HNON := Lib.hid hnon
            clear hone hnon
            rw [hE]
            clear hE
            go_wp2
            go_loopg [92] lL (fun g92 i wr => ∃ j : Nat, j + g92 = lL ∧ i = .int .i64 j ∧ Below w4.heap.size w4 wr)
            case atStart => exact ⟨0, by omega, rfl, HBL.out⟩
            case round =>
              obtain ⟨j, hj, rfl, hbel⟩ := hrel
              have HB6 := Lib.hid hbel
              have HBW6 := Lib.hid (HB4.out.next hbel)
              cases gk with
              | zero =>
                have hkl2 : ¬ (j : Int) < lL := by omega
                clear hbel
                cases t1 <;> cases t2
                · go_wp2_with (first | (go_at_call 11; refine (alive_any _).mono ?_; rintro e w9 ⟨rfl, hb9⟩))
                  go_ret
                  exact ⟨rfl, (HBW6.out.next hb9).bel⟩
                · have h0 : lL = 0 := HNON.out rfl
                  subst h0
                  go_wp2_with (first | (go_at_call 11; refine (alive_any _).mono ?_; rintro e w9 ⟨rfl, hb9⟩))
                  go_ret
                  exact ⟨rfl, (HBW6.out.next hb9).bel⟩
                · have h0 : lL = 1 := HONE.out rfl
                  subst h0
                  go_wp2_with (first | (go_at_call 11; refine (alive_any _).mono ?_; rintro e w9 ⟨rfl, hb9⟩))
                  go_ret
                  exact ⟨rfl, (HBW6.out.next hb9).bel⟩
                · have h0 : lL = 1 := HONE.out rfl
                  have h1 : lL = 0 := HNON.out rfl
                  omega
              | succ gk2 =>
                have hjl : j < lL := by omega
                obtain ⟨rfl, hpl⟩ := HR3.out.ha (by omega)
                have hb36 := Below.next HN4.out hbel
                have HB36 := Lib.hid hb36
                have hk3 := Below.keptB hb36 HO3.out.under
                have d1 := (HR3.out.kept hk3).hc j (by omega)
                have hia := (HS3.out j hjl).kept hk3
                have hmem : (allL p 4096).getD j [] ∈ sols p [] := allL_sub (getD_mem (by rw [HLL.out]; exact hjl))
                obtain ⟨hme, hms⟩ := mem_sols.1 hmem
                have hal : ((allL p 4096).getD j []).length = n := by rw [ext_len _ _ hme, HN.out]
                have HMEM := Lib.hid hmem
                have HEXT := Lib.hid (ext_in _ _ hme)
                have HHC : Hid (Calls Try.prog 27 #[.agg #[.slice sa n sc, .slice ra rl rc], f3 j] wr (OneB true wr)) := Lib.hid ((HHO.out wr _ (f3 j) _ HBW6.out.bel hia (HO3.out.under.le hb36.size) hal).mono fun e w' ⟨b, g1, g2, g3⟩ => ⟨by rw [g1, g2.2 hms], g3⟩)
                obtain ⟨xa, xc, xb, xo, hfj, hxr⟩ := hia
                rw [hal] at hfj hxr
                rw [hfj] at d1 HHC
                have HXR := Lib.hid hxr
                have HFJ := Lib.hid hfj
                have HAL2 := Lib.hid hal
                have hxc := hxr.hcap
                have hxm : xc ≤ 9223372036854775807 := by have := hxr.hmax; unfold maxLen at this; omega
                have c0 := HBW6.out.s
                have c1 := HBW6.out.r
                clear hbel hb36 hk3 hmem hme hms hal hfj hxr
                generalize wr = W6 at *
                go_wp2_with (first | (go_at_call 27; refine HHC.out.mono ?_; rintro e w7 ⟨rfl, hb7⟩; have HB7 := Lib.hid hb7; clear hb7))
                clear d1 c0 c1
                go_loopg [103] n (fun g103 i wr => ∃ k : Nat, k + g103 = n ∧ i = .int .i64 k ∧ Below W6.heap.size W6 wr)
                case atStart => exact ⟨0, by omega, rfl, HB7.out⟩
                case round =>
                  obtain ⟨k, hk, rfl, hbel⟩ := hrel
                  have HB8 := Lib.hid hbel
                  have HBW8 := Lib.hid (HBW6.out.next hbel)
                  have HB48 := Lib.hid (Below.next HB6.out hbel)
                  have HB38 := Lib.hid (Below.next HB36.out hbel)
                  cases gk with
                  | zero =>
                    have hkl2 : ¬ (k : Int) < n := by omega
                    have hk3 := Below.keptB HB38.out HO3.out.under
                    clear hbel
                    rcases (show j = 0 ∨ ∃ j', j = j' + 1 from by cases j with | zero => exact .inl rfl | succ j' => exact .inr ⟨j', rfl⟩) with rfl | ⟨j', rfl⟩
                    · clear hk3
                      go_wp2
                      go_roundg gk2
                      case measure => omega
                      case rel => exact ⟨0 + 1, by omega, by go_num, HB48.out⟩
                    · have hin1 := (HS3.out j' (by omega)).kept hk3
                      have hin2 := (HS3.out (j' + 1) hjl).kept hk3
                      have e1 := (HR3.out.kept hk3).hc j' (by omega)
                      have hl1 : ((allL p 4096).getD j' []).length = n := by
                        rw [ext_len _ _ (mem_sols.1 (allL_sub (getD_mem (by rw [HLL.out]; omega)))).1, HN.out]
                      have hbf := before_any hin1 hin2 (HO3.out.under.le HB38.out.size) (HO3.out.under.le HB38.out.size) (by rw [hl1, HAL2.out]) (by rw [hl1]; exact hl16)
                      have hlt := allL_order p (i := j') (by rw [HLL.out]; exact hjl)
                      have HBF : Hid (Calls Try.prog 28 #[f3 j', f3 (j' + 1)] wr (OneB true wr)) := Lib.hid (hbf.mono fun e w' ⟨b, g1, g2, g3⟩ => ⟨by rw [g1, g2.2 hlt], g3⟩)
                      obtain ⟨ya, yl, yc, hy⟩ := hin1.slice
                      rw [hy] at e1 HBF
                      rw [HFJ.out] at HBF
                      have hjp : ((j' + 1 : Nat) : Int) - 1 = (j' : Int) := by omega
                      clear hk3 hin1 hin2 hl1 hbf hlt hy
                      go_wp2_with (first | (go_at_call 28; refine HBF.out.mono ?_; rintro e w9 ⟨rfl, hb9⟩; have HB9 := Lib.hid hb9; clear hb9))
                      go_roundg gk2
                      case measure => omega
                      case rel => exact ⟨j' + 1 + 1, by omega, by go_num, Below.next HB48.out HB9.out⟩
                  | succ gk3 =>
                    have hkn : k < n := by omega
                    obtain ⟨rfl, hpx⟩ := HXR.out.ha (by omega)
                    obtain ⟨rfl, hps⟩ := HSR.out.ha (by omega)
                    obtain ⟨g4, rfl⟩ := tab_some HT4.out (by omega)
                    have d1 := (HXR.out.kept (Below.keptB hbel (HO3.out.under.le HB36.out.size))).hc k (by omega)
                    have d2 := (HSR.out.kept (Below.keptB HBW8.out.bel HP.out)).hc k (by omega)
                    have hin := HEXT.out k (by rw [HN.out]; exact hkn)
                    have hgc := sol_gac HGOOD.out HMEM.out (k := k) (by rw [HN.out]; exact hkn)
                    obtain ⟨x, hx⟩ : ∃ x : Nat, ((allL p 4096).getD j []).getD k 0 = (x : Int) := ⟨(((allL p 4096).getD j []).getD k 0).toNat, by omega⟩
                    have hszk : p.sizes.getD k 0 = (m k : Int) := by
                      have := HGOOD.out.size k (by rw [HN.out]; exact hkn)
                      rw [← HMM.out]; unfold szs; omega
                    rw [hx] at d1 hin hgc
                    rw [hszk] at d2 hin
                    have hxm2 : x < m k := by omega
                    rw [Int.toNat_natCast] at hgc
                    have htw := HT4.out.below HB48.out
                    have d3 := htw.at hkn
                    have d4 := (htw.flag hkn hxm2).1
                    rw [HF4.out k x hkn hxm2, hgc] at d4
                    have c0 := HBW8.out.s
                    have hmk := HM.out k
                    clear hbel hin hgc hx hszk htw
                    go_wp2
                    go_roundg gk3
                    case measure => omega
                    case rel => exact ⟨k + 1, by omega, by go_num, HB8.out⟩
          · rw [hE]
            clear hE
            go_wp2_with (first | (go_at_call 11; refine (alive_any _).mono ?_; rintro e w9 ⟨rfl, hb9⟩))
            go_ret
            exact ⟨rfl, (HBW.out.next hb9).bel⟩
        | succ gk2 =>
          have hql : q < n := by omega
          obtain ⟨g4, rfl⟩ := tab_some HT4.out (by omega)
          obtain ⟨rfl, hps⟩ := HSR.out.ha (by omega)
          have d1 := (HT4.out.below hbel).at hql
          have d2 := (HSR.out.kept (Below.keptB HBW.out.bel HP.out)).hc q (by omega)
          have hszq : p.sizes.getD q 0 = (m q : Int) := by
            have := HGOOD.out.size q (by rw [HN.out]; exact hql)
            rw [← HMM.out]; unfold szs; omega
          rw [hszq] at d2
          have c0 := HBW.out.s
          have hmq := HM.out q
          clear hbel hszq
          go_wp2
          clear d1 d2 c0
          generalize wr = W5 at *
          go_loopg [11, 64] (m q) (fun g64 cn i wr => ∃ x : Nat, x + g64 = m q ∧ i = .int .i64 x ∧ cn = .int .i64 (cntR (gac p q) x) ∧ Below w4.heap.size w4 wr)
          case atStart => exact ⟨0, by omega, rfl, rfl, HBL.out⟩
          case round =>
            obtain ⟨x, hx, rfl, rfl, hbel⟩ := hrel
            have HB6 := Lib.hid hbel
            have hcb := cntR_bound (gac p q) x
            cases gk with
            | zero =>
              have hkl : ¬ (x : Int) < m q := by omega
              have hx' : x = m q := by omega
              have hN1 : (t1 && decide (cntR (gac p q) x = 1)) = true ↔ ∀ v, v < q + 1 → cntR (gac p v) (m v) = 1 := by
                rw [Bool.and_eq_true, decide_eq_true_eq, hx']
                constructor
                · rintro ⟨e1, e2⟩ v hv
                  by_cases e : v = q
                  · rw [e]; exact e2
                  · exact HT1.out.1 e1 v (by omega)
                · exact fun hh => ⟨HT1.out.2 fun v hv => hh v (by omega), hh q (by omega)⟩
              have hN2 : (t2 || decide (cntR (gac p q) x = 0)) = true ↔ ∃ v, v < q + 1 ∧ cntR (gac p v) (m v) = 0 := by
                rw [Bool.or_eq_true, decide_eq_true_eq, hx']
                constructor
                · rintro (e1 | e2)
                  · obtain ⟨v, hv, hz⟩ := HT2.out.1 e1; exact ⟨v, by omega, hz⟩
                  · exact ⟨q, by omega, e2⟩
                · rintro ⟨v, hv, hz⟩
                  by_cases e : v = q
                  · rw [e] at hz; exact .inr hz
                  · exact .inl (HT2.out.2 ⟨v, by omega, hz⟩)
              have HN1 := Lib.hid hN1
              have HN2 := Lib.hid hN2
              clear hN1 hN2 hbel
              generalize cntR (gac p q) x = N at *
              rcases (show N = 0 ∨ N = 1 ∨ 2 ≤ N by omega) with rfl | rfl | h2N
              · cases t1 <;> cases t2
                all_goals
                  go_wp2
                  go_roundg gk2
                  case measure => omega
                  case rel => exact ⟨q + 1, _, _, by omega, by go_num, rfl, rfl, HB6.out, by simpa using HN1.out, by simpa using HN2.out⟩
              · cases t1 <;> cases t2
                all_goals
                  go_wp2
                  go_roundg gk2
                  case measure => omega
                  case rel => exact ⟨q + 1, _, _, by omega, by go_num, rfl, rfl, HB6.out, by simpa using HN1.out, by simpa using HN2.out⟩
              · have n1 : ¬ (N : Int) = 1 := by omega
                have n0 : ¬ (N : Int) = 0 := by omega
                have n1b : ((N : Int) == 1) = false := by rw [beq_eq_false_iff_ne]; omega
                have n0b : ((N : Int) == 0) = false := by rw [beq_eq_false_iff_ne]; omega
                have n1n : ¬ N = 1 := by omega
                have n0n : ¬ N = 0 := by omega
                have HN1' : Hid (false = true ↔ ∀ v, v < q + 1 → cntR (gac p v) (m v) = 1) := Lib.hid (by have := HN1.out; rw [decide_eq_false n1n, Bool.and_false] at this; exact this)
                have HN2' : Hid (t2 = true ↔ ∃ v, v < q + 1 ∧ cntR (gac p v) (m v) = 0) := Lib.hid (by have := HN2.out; rw [decide_eq_false n0n, Bool.or_false] at this; exact this)
                cases t1 <;> cases t2
                all_goals
                  go_wp2
                  go_roundg gk2
                  case measure => omega
                  case rel => exact ⟨q + 1, _, _, by omega, by go_num, rfl, rfl, HB6.out, by simpa using HN1'.out, by simpa using HN2'.out⟩
            | succ gk3 =>
              have hxl : x < m q := by omega
              have d1 := ((HT4.out.below hbel).flag hql hxl).1
              rw [HF4.out q x (by first | exact hql | omega) hxl] at d1
              have hcs : cntR (gac p q) (x + 1) = cntR (gac p q) x + if gac p q x = true then 1 else 0 := rfl
              have HCS := Lib.hid hcs
              clear hbel hcs
              cases hB : gac p q x with
              | true =>
                rw [hB] at d1
                have HC2 : Hid (cntR (gac p q) (x + 1) = cntR (gac p q) x + 1) := Lib.hid (by rw [HCS.out, hB]; rfl)
                clear hB
                go_wp2
                go_roundg gk3
                case measure => omega
                case rel => exact ⟨x + 1, by omega, by go_num, by rw [HC2.out]; go_num, HB6.out⟩
              | false =>
                rw [hB] at d1
                have HC2 : Hid (cntR (gac p q) (x + 1) = cntR (gac p q) x) := Lib.hid (by rw [HCS.out, hB]; rfl)
                clear hB
                go_wp2
                go_roundg gk3
                case measure => omega
                case rel => exact ⟨x + 1, by omega, by go_num, by rw [HC2.out], HB6.out⟩
  · obtain ⟨sa, sl, sc, rfl⟩ := hs.slice
    obtain ⟨ra, rl, rc, rfl⟩ := hr.slice
    generalize checkE p = E at *
    clear hs hr hP hbel hbx HAL
    go_enter Try.func8, Try.ntmps8
    go_wp2_with (first
      | (go_at_call 10; refine (HSM.out _ HBX.out.bel).mono ?_; rintro e w1 ⟨b, rfl, hb1⟩; have HB1 := Lib.hid (HBX.out.next hb1); have c0 := HB1.out.s; have c1 := HB1.out.r; clear hb1; cases b)
      | (go_at_call 13; refine (HCR.out _ HB1.out.bel).mono ?_; rintro e w2 ⟨rfl, hb2⟩; have HB2 := Lib.hid (HB1.out.next hb2); clear hb2)
      | (go_at_call 11; refine (alive_any _).mono ?_; rintro e w9 ⟨rfl, hb9⟩))
    · go_ret
      exact ⟨rfl, (HB1.out.next hb9).bel⟩
    · go_ret
      exact ⟨rfl, (HB2.out.next hb9).bel⟩
end Go.Proofs.Ytamidopeojipkaa
