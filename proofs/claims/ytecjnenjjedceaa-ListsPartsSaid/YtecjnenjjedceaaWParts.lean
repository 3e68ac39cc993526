/- ListsParts returns true: the walk. -/
import Derived.Test.YtecjnenjjedceaaWZips
import Derived.Test.YtecjnenjjedceaaElem
import Derived.Test.YtecjnenjjedceaaWTakes
import Derived.Test.YtecjnenjjedceaaWSorts
namespace Go.Proofs.Ytecjnenjjedceaa
open Go.RowKit
set_option linter.unusedVariables false

theorem sort_again (xs : List Int) : sortL (sortL xs) = sortL xs :=
  sorted_unique (sortL_sorted _) (sortL_sorted _) (sortL_perm _)
theorem sort_rev (xs : List Int) : sortL (revL xs) = sortL xs :=
  sorted_unique (sortL_sorted _) (sortL_sorted _) ((sortL_perm _).trans ((List.reverse_perm xs).trans (sortL_perm xs).symm))
theorem rev_rev (xs : List Int) : revL (revL xs) = xs := List.reverse_reverse xs
theorem app_parts (xs : List Int) (n : Int) (h : xs.length ≤ 16) : appZ (takeL xs n) (dropL xs n) = xs ∧ appErr (takeL xs n) (dropL xs n) = 0 := by
  have hl : (takeL xs n).length + (dropL xs n).length = xs.length := by
    rw [← List.length_append]; unfold takeL dropL; rw [List.take_append_drop]
  unfold appZ appErr
  rw [hl, if_pos h, if_pos h]
  exact ⟨List.take_append_drop _ _, rfl⟩
theorem takeL_len (xs : List Int) (n : Int) : (takeL xs n).length ≤ xs.length := by simp [takeL]; omega
theorem dropL_len (xs : List Int) (n : Int) : (dropL xs n).length ≤ xs.length := by simp [dropL]
theorem cnt_perm {xs ys : List Int} (h : xs.Perm ys) (n : Int) : cnt xs n = cnt ys n := (h.filter _).length_eq

set_option maxRecDepth 100000 in
set_option maxHeartbeats 3200000 in
theorem parts_walk (a : Option Addr) (l c : Nat) (xs : List Int) (n : Int) (w : World) (hA : Sl w a l c xs) :
    Calls Try.prog 11 #[.slice a l c, .int .i64 n] w (Yes w) := by
  by_cases hl : l ≤ 16
  · have hxl := Lib.hid hA.hlen
    have HA := Lib.hid hA
    have hap := app_parts xs n (by rw [hA.hlen]; exact hl)
    have HAP1 := Lib.hid hap.1
    have HAP2 := Lib.hid hap.2
    have htl := Lib.hid (takeL_len xs n)
    have hdl := Lib.hid (dropL_len xs n)
    clear hA hap
    go_enter Try.func11, Try.ntmps11
    go_wp2_with fail
    refine (take_n a l c xs n w HA.out (by omega)).mono ?_
    rintro e w1 ⟨v1, rfl, hown1, hb1⟩
    obtain ⟨a1, c1, rfl, hs1⟩ := hown1.sl
    clear hown1
    go_wp2_with fail
    refine (drop_n a l c xs n _ (HA.out.below hb1) (by omega)).mono ?_
    rintro e w2 ⟨v2, rfl, hown2, hb2⟩
    obtain ⟨a2, c2, rfl, hs2, hn2⟩ := hown2.sl'
    have hq2 := bnext hb1 hb2
    have HCA := Lib.hid (append_any a1 a2 _ _ c1 c2 _ _ w2 (hs1.below hb2) hs2 hn2 (by have := htl.out; rw [hxl.out] at this; omega) (by have := hdl.out; rw [hxl.out] at this; omega))
    clear hown2 hs1 hs2 hn2
    go_wp2_with fail
    refine HCA.out.mono ?_
    rintro e w3 ⟨v3, rfl, hown3, hb3⟩
    rw [HAP1.out] at hown3
    rw [HAP2.out]
    obtain ⟨a3, c3, rfl, hs3⟩ := hown3.sl
    have hq3 := bnext hq2 hb3
    rw [hxl.out] at hs3 ⊢
    have HS3 := Lib.hid hs3
    clear hown3 hs3 HCA
    go_wp2_with fail
    refine (same_true _ _ _ _ _ _ _ _ _ HS3.out (HA.out.below hq3) rfl).mono ?_
    rintro e w4 ⟨rfl, hb4⟩
    have hq4 := bnext hq3 hb4
    clear HS3
    go_wp2_with fail
    refine (reverse_n a l c xs _ (HA.out.below hq4) (by omega)).mono ?_
    rintro e w5 ⟨v5, rfl, hown5, hb5⟩
    obtain ⟨a5, c5, rfl, hs5⟩ := hown5.sl
    have hrl : (revL xs).length = l := by unfold revL; rw [List.length_reverse, hxl.out]
    rw [hrl] at hs5 ⊢
    have hq5 := bnext hq4 hb5
    have HS5 := Lib.hid hs5
    clear hown5 hs5 hrl
    go_wp2_with fail
    refine (reverse_n a5 l c5 _ _ HS5.out (by omega)).mono ?_
    rintro e w6 ⟨v6, rfl, hown6, hb6⟩
    rw [rev_rev] at hown6
    obtain ⟨a6, c6, rfl, hs6⟩ := hown6.sl
    rw [hxl.out] at hs6 ⊢
    have hq6 := bnext hq5 hb6
    have HS6 := Lib.hid hs6
    clear hown6 hs6
    go_wp2_with fail
    refine (same_true _ _ _ _ _ _ _ _ _ HS6.out (HA.out.below hq6) rfl).mono ?_
    rintro e w7 ⟨rfl, hb7⟩
    have hq7 := bnext hq6 hb7
    clear HS5 HS6 hb1 hb2 hb3 hb4 hb5 hb6 hb7 hq2 hq3 hq4 hq5 hq6
    go_wp2_with fail
    refine (sort_any a l c xs _ (HA.out.below hq7) (by omega)).mono ?_
    rintro e w8 ⟨v8, rfl, hown8, hb8⟩
    obtain ⟨a8, c8, rfl, hs8⟩ := hown8.sl
    have hq8 := bnext hq7 hb8
    have hsl : (sortL xs).length = l := by rw [(sortL_perm xs).length_eq, hxl.out]
    rw [hsl] at hs8 ⊢
    have HS8 := Lib.hid hs8
    have HSL := Lib.hid hsl
    clear hown8 hs8 hsl
    go_wp2_with fail
    refine (reverse_n a l c xs _ (HA.out.below hq8) (by omega)).mono ?_
    rintro e w9 ⟨v9, rfl, hown9, hb9⟩
    obtain ⟨a9, c9, rfl, hs9⟩ := hown9.sl
    have hrl : (revL xs).length = l := by unfold revL; rw [List.length_reverse, hxl.out]
    rw [hrl] at hs9 ⊢
    have hq9 := bnext hq8 hb9
    have HS9 := Lib.hid hs9
    clear hown9 hs9 hrl
    go_wp2_with fail
    refine (sort_any a9 l c9 _ _ HS9.out (by omega)).mono ?_
    rintro e w10 ⟨v10, rfl, hown10, hb10⟩
    rw [sort_rev] at hown10
    obtain ⟨a10, c10, rfl, hs10⟩ := hown10.sl
    rw [HSL.out] at hs10 ⊢
    have hq10 := bnext hq9 hb10
    have HS10 := Lib.hid hs10
    clear hown10 hs10
    go_wp2_with fail
    refine (same_true _ _ _ _ _ _ _ _ _ HS10.out ((HS8.out.below hb9).below hb10) rfl).mono ?_
    rintro e w11 ⟨rfl, hb11⟩
    have hq11 := bnext hq10 hb11
    have h8 := bnext (bnext hb9 hb10) hb11
    clear HS9 HS10 hb9 hb10 hb11 hq9 hq10
    go_wp2_with fail
    refine (sort_any a8 l c8 _ _ (HS8.out.below h8) (by omega)).mono ?_
    rintro e w12 ⟨v12, rfl, hown12, hb12⟩
    rw [sort_again] at hown12
    obtain ⟨a12, c12, rfl, hs12⟩ := hown12.sl
    rw [HSL.out] at hs12 ⊢
    have hq12 := bnext hq11 hb12
    have HS12 := Lib.hid hs12
    clear hown12 hs12
    go_wp2_with fail
    refine (same_true _ _ _ _ _ _ _ _ _ HS12.out ((HS8.out.below h8).below hb12) rfl).mono ?_
    rintro e w13 ⟨rfl, hb13⟩
    have hq13 := bnext hq12 hb13
    have h13 := bnext (bnext h8 hb12) hb13
    have HS13 := Lib.hid (HS8.out.below h13)
    clear HS12 hb12 hb13 hq12 h8 h13 HS8 hq11 hq8 hb8 hq7
    obtain ⟨b1, o1, ha0, hac⟩ := HS13.out.cell
    have HAC := Lib.hid hac
    have hso := Lib.hid (sortL_sorted xs)
    have hpm := Lib.hid (sortL_perm xs)
    clear hac
    go_wp2
    go_loopw [8] (fun i wr => ∃ k : Nat, i = .int .i64 ((k : Int) + 1) ∧ (k + 1 ≤ l ∨ k = 0) ∧ Below w13.heap.size w13 wr) (fun i _ => l - (intOf i).toNat)
    case atStart => exact ⟨0, rfl, .inr rfl, Below.refl _ _⟩
    case round =>
      obtain ⟨k, rfl, hk, hbel⟩ := hrel
      by_cases hlt : k + 1 < l
      · obtain ⟨rfl, hz1⟩ := ha0 (by omega)
        have c1 : wr.cell? ⟨b1, o1 + (k + 1), none⟩ = some (.int .i64 ((sortL xs).getD (k + 1) 0)) := (hbel.cell hz1).trans (HAC.out (k + 1) hlt)
        have c2 : wr.cell? ⟨b1, o1 + k, none⟩ = some (.int .i64 ((sortL xs).getD k 0)) := (hbel.cell hz1).trans (HAC.out k (by omega))
        have hle := sorted_getD hso.out (i := k) (j := k + 1) (by omega) (by rw [HSL.out]; exact hlt)
        generalize (sortL xs).getD (k + 1) 0 = p at c1 hle
        generalize (sortL xs).getD k 0 = q at c2 hle
        have e1 : IntKind.i64.wrap ((k : Int) + 1 - 1) = (k : Int) := by rw [IntWalk.i64_in _ (by omega)]; omega
        have hlt2 : (k : Int) + 1 < l := by omega
        have hlt3 : (k : Int) < l := by omega
        have e3 : ((k : Int) + 1).toNat = k + 1 := by omega
        have h01 : (0 : Int) ≤ (k : Int) + 1 := by omega
        go_wp2
        go_quiet (fail)
        clear e1 e3
        go_wp2
        go_roundw
        case rel => exact ⟨k + 1, by go_num, .inl (by omega), below_drewN hbel nq⟩
        case measure => simp [intOf]; omega
      · have hbb := bnext hq13 hbel
        by_cases h0 : l = 0
        · subst h0
          clear hk
          go_wp2_with fail
          refine (alive_any _).mono ?_
          rintro e w14 ⟨rfl, hb14⟩
          go_wp2
          go_ret
          exact ⟨rfl, bnext hbb hb14⟩
        · have hl0 : ((l : Int) == 0) = false := by simp; omega
          have hlp : (0 : Int) < l := by omega
          obtain ⟨m, hm⟩ : ∃ m : Nat, l = m + 1 := ⟨l - 1, by omega⟩
          have eml : IntKind.i64.wrap ((l : Int) - 1) = (m : Int) := by rw [IntWalk.i64_in _ (by omega)]; omega
          have hml : (m : Int) < l := by omega
          have ev0 : elemV (sortL xs) 0 = (sortL xs).getD 0 0 ∧ elemE (sortL xs) 0 = 0 := by
            unfold elemV elemE
            rw [HSL.out]
            rw [if_pos (by omega), if_pos hlp, if_pos (by omega), if_pos hlp]; exact ⟨rfl, rfl⟩
          have ev1 : elemV (sortL xs) (-1) = (sortL xs).getD m 0 ∧ elemE (sortL xs) (-1) = 0 := by
            unfold elemV elemE
            rw [HSL.out]
            rw [if_neg (by omega), if_pos (by omega), if_neg (by omega), if_pos (by omega)]
            refine ⟨?_, rfl⟩
            congr 1
            omega
          have HM := Lib.hid hm
          have g0 := HAC.out 0 (by omega)
          have g1 := HAC.out m (by omega)
          rw [Nat.add_zero] at g0
          generalize (sortL xs).getD 0 0 = p at ev0 g0
          generalize (sortL xs).getD m 0 = q at ev1 g1
          have G0 := Lib.hid g0
          have G1 := Lib.hid g1
          clear g0 g1
          have EV0 := Lib.hid ev0
          have EV1 := Lib.hid ev1
          have EML := Lib.hid eml
          clear hm ev0 ev1 eml
          go_wp2_with fail
          refine (min_any a l c xs _ (HA.out.below hbb) (by omega)).mono ?_
          rintro e w14 ⟨rfl, hb14⟩
          rw [EV0.out.1, EV0.out.2]
          have hq14 := bnext hbb hb14
          go_wp2_with fail
          refine (max_any a l c xs _ (HA.out.below hq14) (by omega)).mono ?_
          rintro e w15 ⟨rfl, hb15⟩
          rw [EV1.out.1, EV1.out.2]
          have hq15 := bnext hq14 hb15
          have h15 := bnext (bnext hbel hb14) hb15
          obtain ⟨rfl, hz1⟩ := ha0 (by omega)
          have c1 : w15.cell? ⟨b1, o1, none⟩ = some (.int .i64 p) := (h15.cell hz1).trans G0.out
          have c2 : w15.cell? ⟨b1, o1 + m, none⟩ = some (.int .i64 q) := (h15.cell hz1).trans G1.out
          have eml := EML.out
          have hcp := Lib.hid (cnt_perm hpm.out p)
          go_wp2_with fail
          refine (count_n _ l c8 (sortL xs) p _ (HS13.out.below h15) (by omega)).mono ?_
          rintro e w16 ⟨rfl, hb16⟩
          rw [hcp.out]
          have hq16 := bnext hq15 hb16
          go_wp2_with fail
          refine (count_n a l c xs p _ (HA.out.below hq16) (by omega)).mono ?_
          rintro e w17 ⟨rfl, hb17⟩
          have hq17 := bnext hq16 hb17
          go_wp2_with fail
          refine (alive_any _).mono ?_
          rintro e w18 ⟨rfl, hb18⟩
          go_wp2
          go_ret
          exact ⟨rfl, bnext hq17 hb18⟩
  · clear hA
    go_enter Try.func11, Try.ntmps11
    go_wp2_with fail
    refine (alive_any _).mono ?_
    rintro e w7 ⟨rfl, hb7⟩
    go_wp2
    go_ret
    exact ⟨rfl, hb7⟩
end Go.Proofs.Ytecjnenjjedceaa
