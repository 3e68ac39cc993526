/- Append and its reference; ListsZips: the walk. -/
import Derived.Test.YtecjnenjjedceaaRefZip
import Derived.Test.YtecjnenjjedceaaWSelects
namespace Go.Proofs.Ytecjnenjjedceaa
open Go.RowKit
set_option linter.unusedVariables false

def appZ (xs ys : List Int) : List Int := if xs.length + ys.length ≤ 16 then xs ++ ys else []
def appErr (xs ys : List Int) : Int := if xs.length + ys.length ≤ 16 then 0 else 2

theorem append_any (a b : Option Addr) (la lb ca cb : Nat) (xs ys : List Int) (w : World) (hA : Sl w a la ca xs) (hB : Sl w b lb cb ys) (hnb : b = none → cb = 0) (hla : la ≤ 1000) (hlb : lb ≤ 1000) :
    Calls Try.prog 40 #[.slice a la ca, .slice b lb cb] w (GivesE (appZ xs ys) (appErr xs ys) w) := by
  have hxl := Lib.hid hA.hlen
  have hyl := Lib.hid hB.hlen
  have HA := Lib.hid hA
  have HB := Lib.hid hB
  have HNB := Lib.hid hnb
  clear hA hB hnb
  by_cases hs : la + lb ≤ 16
  · have e1 : appZ xs ys = xs ++ ys := by unfold appZ; rw [hxl.out, hyl.out, if_pos hs]
    have e2 : appErr xs ys = 0 := by unfold appErr; rw [hxl.out, hyl.out, if_pos hs]
    rw [e1, e2]
    clear e1 e2
    go_enter Try.func40, Try.ntmps40
    go_wp2_with fail
    refine (copied_any a la ca xs w HA.out hla).mono ?_
    rintro e w1 ⟨v, rfl, hown, hb⟩
    have hs1 := hb.size
    go_wp2_with (at_builtin; refine wpList_app rfl (.tmp 13) (.tmp 14) rfl w.heap.size _ _ rfl hown b lb cb ys rfl (HB.out.below hb) HNB.out (by rw [hxl.out]; omega) hs1 ?_; intro v1 w4 hown4 hg4)
    go_ret2
    exact ⟨_, rfl, hown4, hb.grown hg4 hs1 (fun k h => (hown.lt k h).1)⟩
  · have e1 : appZ xs ys = [] := by unfold appZ; rw [hxl.out, hyl.out, if_neg hs]
    have e2 : appErr xs ys = 2 := by unfold appErr; rw [hxl.out, hyl.out, if_neg hs]
    rw [e1, e2]
    clear e1 e2
    go_enter Try.func40, Try.ntmps40
    go_wp2
    go_ret2
    exact ⟨_, rfl, Own.nil _ _, Below.refl _ _⟩

theorem refAppend_any (a b : Option Addr) (la lb ca cb : Nat) (xs ys : List Int) (w : World) (hA : Sl w a la ca xs) (hB : Sl w b lb cb ys) (hna : a = none → ca = 0) (hnb : b = none → cb = 0) (hla : la ≤ 1000) (hlb : lb ≤ 1000) :
    Calls Try.prog 41 #[.slice a la ca, .slice b lb cb] w (GivesE (appZ xs ys) (appErr xs ys) w) := by
  have hxl := Lib.hid hA.hlen
  have hyl := Lib.hid hB.hlen
  have HA := Lib.hid hA
  have HB := Lib.hid hB
  have HNA := Lib.hid hna
  have HNB := Lib.hid hnb
  clear hA hB hnb hna
  by_cases hs : la + lb ≤ 16
  · have e1 : appZ xs ys = xs ++ ys := by unfold appZ; rw [hxl.out, hyl.out, if_pos hs]
    have e2 : appErr xs ys = 0 := by unfold appErr; rw [hxl.out, hyl.out, if_pos hs]
    rw [e1, e2]
    clear e1 e2
    go_enter Try.func41, Try.ntmps41
    go_wp2_with (first
      | (at_builtin; refine wpList_app rfl (.tmp 18) (.tmp 19) rfl w.heap.size (.slice none 0 0) [] rfl (Own.nil _ _) a la ca xs rfl HA.out HNA.out (by simp; omega) (Nat.le_refl _) ?_; intro v1 w1 hown1 hg1; have hb1 := (Below.refl w.heap.size w).grown hg1 (Nat.le_refl _) (fun k h => by cases h))
      | (at_builtin; refine wpList_app rfl (.tmp 21) (.tmp 22) rfl w.heap.size v1 _ rfl hown1 b lb cb ys rfl (HB.out.below hb1) HNB.out (by rw [List.nil_append, hxl.out]; omega) hg1.size ?_; intro v2 w2 hown2 hg2))
    go_ret2
    exact ⟨_, rfl, hown2, hb1.grown hg2 hg1.size (fun k h => (hown1.lt k h).1)⟩
  · have e1 : appZ xs ys = [] := by unfold appZ; rw [hxl.out, hyl.out, if_neg hs]
    have e2 : appErr xs ys = 2 := by unfold appErr; rw [hxl.out, hyl.out, if_neg hs]
    rw [e1, e2]
    clear e1 e2
    by_cases h16 : 16 < la
    all_goals
      go_enter Try.func41, Try.ntmps41
      go_wp2
      go_ret2
      exact ⟨_, rfl, Own.nil _ _, Below.refl _ _⟩

set_option maxHeartbeats 800000 in
theorem zips_walk (a b : Option Addr) (la lb ca cb : Nat) (xs ys : List Int) (w : World) (hA : Sl w a la ca xs) (hB : Sl w b lb cb ys) (hna : a = none → ca = 0) (hnb : b = none → cb = 0) :
    Calls Try.prog 9 #[.slice a la ca, .slice b lb cb] w (Yes w) := by
  by_cases hl : la ≤ 60 ∧ lb ≤ 60
  · obtain ⟨hla, hlb⟩ := hl
    have HA := Lib.hid hA
    have HB := Lib.hid hB
    have HNA := Lib.hid hna
    have HNB := Lib.hid hnb
    have hcz := zip_comm ys xs
    have HC1 := Lib.hid hcz.1
    have HC2 := Lib.hid hcz.2
    clear hA hB hna hnb hcz
    go_enter Try.func9, Try.ntmps9
    go_wp2_with fail
    refine (zip_any a b la lb ca cb xs ys w HA.out HB.out (by omega) (by omega)).mono ?_
    rintro e w1 ⟨v1, rfl, hown1, hb1⟩
    obtain ⟨a1, c1, rfl, hs1⟩ := hown1.sl
    clear hown1
    go_wp2_with fail
    refine (refZip_any a b la lb ca cb xs ys _ (HA.out.below hb1) (HB.out.below hb1) (by omega) (by omega)).mono ?_
    rintro e w2 ⟨v2, rfl, hown2, hb2⟩
    obtain ⟨a2, c2, rfl, hs2⟩ := hown2.sl
    have hq2 := bnext hb1 hb2
    clear hown2
    go_wp2_with fail
    refine (zip_any b a lb la cb ca ys xs _ (HB.out.below hq2) (HA.out.below hq2) (by omega) (by omega)).mono ?_
    rintro e w3 ⟨v3, rfl, hown3, hb3⟩
    rw [HC1.out] at hown3
    rw [HC2.out]
    obtain ⟨a3, c3, rfl, hs3⟩ := hown3.sl
    have hq3 := bnext hq2 hb3
    clear hown3
    go_wp2_with fail
    refine (append_any a b la lb ca cb xs ys _ (HA.out.below hq3) (HB.out.below hq3) HNB.out (by omega) (by omega)).mono ?_
    rintro e w4 ⟨v4, rfl, hown4, hb4⟩
    obtain ⟨a4, c4, rfl, hs4⟩ := hown4.sl
    have hq4 := bnext hq3 hb4
    clear hown4
    go_wp2_with fail
    refine (refAppend_any a b la lb ca cb xs ys _ (HA.out.below hq4) (HB.out.below hq4) HNA.out HNB.out (by omega) (by omega)).mono ?_
    rintro e w5 ⟨v5, rfl, hown5, hb5⟩
    obtain ⟨a5, c5, rfl, hs5⟩ := hown5.sl
    have hq5 := bnext hq4 hb5
    clear hown5
    go_wp2_with fail
    refine (same_true _ _ _ _ _ _ _ _ _ ((((hs1.below hb2).below hb3).below hb4).below hb5) (((hs2.below hb3).below hb4).below hb5) rfl).mono ?_
    rintro e w6 ⟨rfl, hb6⟩
    have hq6 := bnext hq5 hb6
    go_wp2_with fail
    refine (same_true _ _ _ _ _ _ _ _ _ (((((hs1.below hb2).below hb3).below hb4).below hb5).below hb6) (((hs3.below hb4).below hb5).below hb6) rfl).mono ?_
    rintro e w7 ⟨rfl, hb7⟩
    have hq7 := bnext hq6 hb7
    go_wp2_with fail
    refine (same_true _ _ _ _ _ _ _ _ _ (((hs4.below hb5).below hb6).below hb7) ((hs5.below hb6).below hb7) rfl).mono ?_
    rintro e w8 ⟨rfl, hb8⟩
    have hq8 := bnext hq7 hb8
    clear hs1 hs2 hs3 hs4 hs5
    go_wp2_with fail
    refine (alive_any _).mono ?_
    rintro e w9 ⟨rfl, hb9⟩
    go_wp2
    go_ret
    exact ⟨rfl, bnext hq8 hb9⟩
  · clear hA hB
    by_cases hla : la ≤ 60
    · have hlb : ¬ lb ≤ 60 := fun h => hl ⟨hla, h⟩
      clear hl
      go_enter Try.func9, Try.ntmps9
      go_wp2_with fail
      refine (alive_any _).mono ?_
      rintro e w7 ⟨rfl, hb7⟩
      go_wp2
      go_ret
      exact ⟨rfl, hb7⟩
    · clear hl
      go_enter Try.func9, Try.ntmps9
      go_wp2_with fail
      refine (alive_any _).mono ?_
      rintro e w7 ⟨rfl, hb7⟩
      go_wp2
      go_ret
      exact ⟨rfl, hb7⟩

theorem IsRow.nil {k : IntKind} {w : World} {a : Option Addr} {len cap : Nat} {zs : List Int} (h : IsRow k w a len cap zs) : a = none → cap = 0 := by
  intro e
  rcases h with ⟨_, _, h, _⟩ | ⟨x, h, _⟩
  · exact h
  · rw [e] at h; cases h
end Go.Proofs.Ytecjnenjjedceaa
