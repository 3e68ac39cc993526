/- ListsTotals returns true: the walk. -/
import Derived.Test.YtecjnenjjedceaaRunning
import Derived.Test.YtecjnenjjedceaaWSelects
namespace Go.Proofs.Ytecjnenjjedceaa
open Go.RowKit
set_option linter.unusedVariables false

theorem runs_get : ∀ (xs : List Int) (s : Int) {zs : List Int}, runs s xs = some zs → ∀ i, i < xs.length → zs.getD i 0 = s + (xs.take (i + 1)).sum
  | [], s, zs, h, i, hi => by simp at hi
  | x :: xs, s, zs, h, i, hi => by
    simp only [runs] at h
    split at h
    · obtain ⟨ys, h1, rfl⟩ := Option.map_eq_some_iff.1 h
      match i, hi with
      | 0, _ => simp
      | i + 1, hi =>
        have ih := runs_get xs (s + x) h1 i (by simpa using hi)
        simp only [List.getD_cons_succ, ih, List.take_succ_cons, List.sum_cons]
        omega
    · cases h

theorem runs_permSum {xs : List Int} {zs : List Int} (h : runs 0 xs = some zs) : permB xs.sum = true := by
  by_cases h0 : xs = []
  · subst h0; rfl
  · have key : ∀ (xs : List Int) (s : Int) {zs : List Int}, runs s xs = some zs → xs ≠ [] → permB (s + xs.sum) = true := by
      intro xs
      induction xs with
      | nil => intro s zs _ h; exact absurd rfl h
      | cons x xs ih =>
        intro s zs h _
        simp only [runs] at h
        split at h
        · rename_i hc
          obtain ⟨ys, h1, rfl⟩ := Option.map_eq_some_iff.1 h
          by_cases hx : xs = []
          · subst hx
            simp only [Bool.and_eq_true] at hc
            simpa using hc.2
          · have := ih (s + x) h1 hx
            rw [List.sum_cons, ← Int.add_assoc]; exact this
        · cases h
    simpa using key xs 0 h h0

theorem totals_facts {xs zs : List Int} (h : runs 0 xs = some zs) (h0 : 0 < xs.length) :
    zs.length = xs.length ∧ sumErr xs = 0 ∧ zs.getD (xs.length - 1) 0 = sumOf xs ∧ zs.getD 0 0 = xs.getD 0 0 ∧ ∀ i, i + 1 < xs.length → zs.getD (i + 1) 0 = zs.getD i 0 + xs.getD (i + 1) 0 := by
  have h1 := runs_all _ _ h
  have h2 := runs_permSum h
  have hg := runs_get xs 0 h
  refine ⟨runs_length _ _ h, by unfold sumErr; rw [h1, h2]; rfl, ?_, ?_, fun i hi => ?_⟩
  · rw [hg _ (by omega)]
    unfold sumOf
    rw [h1, h2, show xs.length - 1 + 1 = xs.length by omega, List.take_length]
    simp
  · rw [hg 0 h0]
    have := sum_take_succ xs 0 _ h0 rfl
    rw [this]; simp
  · rw [hg (i + 1) hi, hg i (by omega), sum_take_succ xs (i + 1) _ hi rfl]
    omega

theorem runs_bd {xs zs : List Int} {s : Int} (h : runs s xs = some zs) : ∀ i, permB (zs.getD i 0) = true := by
  induction xs generalizing s zs with
  | nil => simp [runs] at h; subst h; intro i; simp [permB]
  | cons x xs ih =>
    simp only [runs] at h
    split at h
    · rename_i hc
      obtain ⟨ys, h1, rfl⟩ := Option.map_eq_some_iff.1 h
      simp only [Bool.and_eq_true] at hc
      intro i
      match i with
      | 0 => exact hc.2
      | i + 1 => exact ih h1 i
    · cases h

set_option maxRecDepth 100000 in
set_option maxHeartbeats 1600000 in
theorem totals_walk (a : Option Addr) (l c : Nat) (xs : List Int) (w : World) (hA : Sl w a l c xs) :
    Calls Try.prog 7 #[.slice a l c] w (Yes w) := by
  by_cases hl : l ≤ 60 ∧ 0 < l
  · obtain ⟨hl, hl0⟩ := hl
    have hxl := Lib.hid hA.hlen
    have HA := Lib.hid hA
    have HR := Lib.hid (running_any a l c xs w hA (by omega))
    clear hA
    have hl0' : ((l : Int) == 0) = false := by simp; omega
    go_enter Try.func7, Try.ntmps7
    go_wp2_with fail
    refine HR.out.mono ?_
    rintro e w1 ⟨v, rfl, hown, hb⟩
    cases hr : runs 0 xs with
    | none =>
      have e1 : runErr xs = 1 := by unfold runErr; rw [hr]; rfl
      have e2 : runZ xs = [] := by unfold runZ; rw [hr]; rfl
      rw [e2] at hown
      rw [e1]
      obtain ⟨a1, c1, rfl, _⟩ := hown.sl
      clear hr e1 e2 hown
      go_wp2_with fail
      refine (alive_any _).mono ?_
      rintro e w7 ⟨rfl, hb7⟩
      go_wp2
      go_ret
      exact ⟨rfl, Below.next hb hb7⟩
    | some zs =>
      have e1 : runErr xs = 0 := by unfold runErr; rw [hr]; rfl
      have e2 : runZ xs = zs := by unfold runZ; rw [hr]; rfl
      obtain ⟨f1, f2, f3, f4, f5⟩ := totals_facts hr (by rw [hxl.out]; exact hl0)
      have fb := Lib.hid (runs_bd hr)
      have F5 := Lib.hid f5
      rw [hxl.out] at f1 f3
      rw [e2] at hown
      rw [e1]
      obtain ⟨a1, c1, rfl, hs⟩ := hown.sl
      rw [f1] at hs ⊢
      have HS := Lib.hid (sum_any a l c xs w1 (HA.out.below hb) (by omega))
      rw [f2] at HS
      have F3 := Lib.hid f3
      have F4 := Lib.hid f4
      clear hr e1 e2 hown f1 f2 f5 f3 f4
      go_wp2_with fail
      refine HS.out.mono ?_
      rintro e w2 ⟨rfl, rfl⟩
      obtain ⟨b1, o1, ha0, hac⟩ := hs.cell
      obtain ⟨b2, o2, hb0, hbc⟩ := (HA.out.below hb).cell
      obtain ⟨rfl, hz1⟩ := ha0 hl0
      obtain ⟨rfl, hz2⟩ := hb0 hl0
      obtain ⟨m, hm⟩ : ∃ m : Nat, l = m + 1 := ⟨l - 1, by omega⟩
      have c1 := hac m (by omega)
      have c2 := hac 0 hl0
      have c3 := hbc 0 hl0
      have f3 := F3.out
      rw [show l - 1 = m by omega] at f3
      rw [f3] at c1
      rw [F4.out] at c2
      have eml : IntKind.i64.wrap ((l : Int) - 1) = (m : Int) := by rw [IntWalk.i64_in _ (by omega)]; omega
      have hml : (m : Int) < l := by omega
      have hl1 : (0 : Int) < l := by omega
      have HAC := Lib.hid hac
      have HBC := Lib.hid hbc
      have HMM := Lib.hid hm
      rw [Nat.add_zero] at c2 c3
      generalize sumOf xs = sm at c1 HS F3 f3 ⊢
      generalize xs.getD 0 0 = x0 at c2 c3 F4
      clear hac hbc ha0 hb0 hm f3 HS F3 F4
      go_wp2
      go_quiet (fail)
      have hbq := below_drewN hb nq
      have hs1 := (below_drewN (Below.refl w1.heap.size w1) nq)
      generalize w1.drewN nq = W1 at hbq hs1 ⊢
      clear c1 c2 c3 eml hml
      go_wp2
      go_loopw [7] (fun i wr => ∃ k : Nat, i = .int .i64 ((k : Int) + 1) ∧ k + 1 ≤ l ∧ Below w1.heap.size w1 wr) (fun i _ => l - (intOf i).toNat)
      case atStart => exact ⟨0, rfl, by omega, hs1⟩
      case round =>
        obtain ⟨k, rfl, hk, hbel⟩ := hrel
        by_cases hlt : k + 1 < l
        · have c1 : wr.cell? ⟨b1, o1 + (k + 1), none⟩ = some (.int .i64 (zs.getD (k + 1) 0)) := (hbel.cell hz1).trans (HAC.out (k + 1) hlt)
          have c2 : wr.cell? ⟨b1, o1 + k, none⟩ = some (.int .i64 (zs.getD k 0)) := (hbel.cell hz1).trans (HAC.out k (by omega))
          have c3 : wr.cell? ⟨b2, o2 + (k + 1), none⟩ = some (.int .i64 (xs.getD (k + 1) 0)) := (hbel.cell hz2).trans (HBC.out (k + 1) hlt)
          have hb1 := permB_true (fb.out (k + 1))
          have hb2 := permB_true (fb.out k)
          have hx := F5.out k (by rw [hxl.out]; exact hlt)
          generalize zs.getD (k + 1) 0 = p at c1 hb1 hx
          generalize zs.getD k 0 = q at c2 hb2 hx
          generalize xs.getD (k + 1) 0 = r at c3 hx
          subst hx
          have e1 : IntKind.i64.wrap ((k : Int) + 1 - 1) = (k : Int) := by rw [IntWalk.i64_in _ (by omega)]; omega
          have e2 : IntKind.i64.wrap (q + r - q) = r := by rw [IntWalk.i64_in _ (by omega)]; omega
          have hlt2 : (k : Int) + 1 < l := by omega
          have hlt3 : (k : Int) < l := by omega
          have e3 : ((k : Int) + 1).toNat = k + 1 := by omega
          have h01 : (0 : Int) ≤ (k : Int) + 1 := by omega
          go_wp2
          go_quiet (fail)
          clear e1 e2 e3
          go_wp2
          go_roundw
          case rel => exact ⟨k + 1, by go_num, by omega, below_drewN hbel nq⟩
          case measure => simp [intOf]; omega
        · have hbb := Below.next hb hbel
          go_wp2_with fail
          refine (alive_any _).mono ?_
          rintro e w7 ⟨rfl, hb7⟩
          go_wp2
          go_ret
          exact ⟨rfl, Below.next hbb hb7⟩
  · clear hA
    by_cases h60 : 60 < l
    · go_enter Try.func7, Try.ntmps7
      go_wp2_with fail
      refine (alive_any _).mono ?_
      rintro e w7 ⟨rfl, hb7⟩
      go_wp2
      go_ret
      exact ⟨rfl, hb7⟩
    · have hl0 : l = 0 := by omega
      subst hl0
      clear hl h60
      go_enter Try.func7, Try.ntmps7
      go_wp2_with fail
      refine (alive_any _).mono ?_
      rintro e w7 ⟨rfl, hb7⟩
      go_wp2
      go_ret
      exact ⟨rfl, hb7⟩
end Go.Proofs.Ytecjnenjjedceaa
