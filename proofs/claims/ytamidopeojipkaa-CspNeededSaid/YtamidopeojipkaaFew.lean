/- Contains, Assignments, limited. -/
import Derived.Test.YtamidopeojipkaaBase
namespace Go.Proofs.Ytamidopeojipkaa
open Go.RowKit
set_option linter.unusedVariables false

/-- the place of a number, or -1 -/
def idxI (x : Int) : List Int → Int
  | [] => -1
  | y :: r => if x = y then 0 else (if idxI x r = -1 then -1 else idxI x r + 1)

theorem index_any {w : World} {P : Nat → Prop} {v : Value} {xs : List Int} (h1 : IntsAt w P v xs) (hP : Under P w.heap.size) (x : Int) :
    Calls Try.prog 45 #[v, .int .i64 x] w fun e w' => ∃ n : Int, e = .returned (.int .i64 n) ∧ (0 ≤ n ↔ x ∈ xs) ∧ Below w.heap.size w w' := by
  obtain ⟨a1, c1, b1, o1, rfl, hr1⟩ := h1
  have hc1 := hr1.hcap
  have hm1 : c1 ≤ 9223372036854775807 := by have := hr1.hmax; unfold maxLen at this; omega
  have H1 := Lib.hid hr1
  have HP := Lib.hid hP
  obtain ⟨l1, hl1⟩ : ∃ l1, xs.length = l1 := ⟨_, rfl⟩
  rw [hl1] at hc1 H1 ⊢
  have HL1 := Lib.hid hl1
  clear hr1 hP hl1
  go_enter Try.func45, Try.ntmps45
  go_wp2
  go_loopw [8] (fun i wr => ∃ k : Nat, k ≤ l1 ∧ i = .int .i64 k ∧ Below w.heap.size w wr ∧ ∀ j, j < k → xs.getD j 0 ≠ x) (fun i _ => l1 - (intOf i).toNat)
  case atStart => exact ⟨0, by omega, rfl, Below.refl _ _, fun j hj => by omega⟩
  case round =>
    obtain ⟨k, hk, rfl, hbel, hall⟩ := hrel
    have HALL := Lib.hid hall
    have HBEL := Lib.hid hbel
    clear hall
    by_cases hlt : k < l1
    · obtain ⟨rfl, hp1⟩ := H1.out.ha (by omega)
      have d1 := (H1.out.kept (Below.keptB hbel HP.out)).hc k (by omega)
      by_cases heq : x = xs.getD k 0
      · have hmem : x ∈ xs := by
          have e : xs.getD k 0 = xs[k]'(by rw [HL1.out]; exact hlt) := by simp [List.getD, HL1.out, hlt]
          rw [heq, e]
          exact List.getElem_mem _
        have HM := Lib.hid hmem
        rw [← heq] at d1
        clear heq hmem hbel
        go_wp2
        go_ret
        exact ⟨k, rfl, ⟨fun _ => HM.out, fun _ => by omega⟩, HBEL.out⟩
      · have hstep : ∀ j, j < k + 1 → xs.getD j 0 ≠ x := fun j hj => by
          by_cases e : j = k
          · subst e; exact fun h => heq h.symm
          · exact HALL.out j (by omega)
        have HST := Lib.hid hstep
        have hx : ¬ (x = xs.getD k 0) := heq
        generalize xs.getD k 0 = y at *
        clear hstep heq hbel
        go_wp2
        go_roundw
        case rel => exact ⟨k + 1, by omega, by go_num, HBEL.out, HST.out⟩
        case measure => simp [intOf]; omega
    · have hno : x ∉ xs := fun hm => by
        obtain ⟨j, hj, he⟩ := List.mem_iff_getElem.1 hm
        have := HALL.out j (by have := HL1.out; omega)
        apply this
        simp [List.getD, hj, he]
      have HN := Lib.hid hno
      clear hno hbel
      have hkl : ¬ (k : Int) < l1 := by omega
      go_wp2
      go_ret
      exact ⟨-1, rfl, ⟨fun h => by omega, fun h => absurd h HN.out⟩, HBEL.out⟩
theorem contains_any {w : World} {P : Nat → Prop} {v : Value} {xs : List Int} (h1 : IntsAt w P v xs) (hP : Under P w.heap.size) (x : Int) :
    Calls Try.prog 41 #[v, .int .i64 x] w (OneB (decide (x ∈ xs)) w) := by
  have HI := Lib.hid (index_any h1 hP x)
  obtain ⟨a, l, c, rfl⟩ := h1.slice
  clear h1 hP
  go_enter Try.func41, Try.ntmps41
  go_wp2_with fail
  refine HI.out.mono ?_
  rintro e w1 ⟨n, rfl, hn, hb⟩
  have HN := Lib.hid hn
  clear hn
  go_wp2
  go_ret
  refine ⟨?_, hb⟩
  congr 2
  by_cases h : 0 ≤ n
  · simp [h, HN.out.1 h]
  · have : x ∉ xs := fun hm => h (HN.out.2 hm)
    simp [h, this]

/-- the product of the sizes as Assignments reckons it -/
def assW (n : Int) : List Int → Int
  | [] => n
  | k :: r => assW (if 1048577 < wrap64 (n * k) then 1048577 else wrap64 (n * k)) r
theorem assW_append (n : Int) (xs ys : List Int) : assW n (xs ++ ys) = assW (assW n xs) ys := by
  induction xs generalizing n with
  | nil => rfl
  | cons x xs ih => exact ih _
/-- whether the product stays within the bound, as limited reckons it -/
def limW (n : Int) : List Int → Bool
  | [] => true
  | k :: r => if 1048576 < wrap64 (n * k) then false else limW (wrap64 (n * k)) r
def prodW (n : Int) : List Int → Int
  | [] => n
  | k :: r => prodW (wrap64 (n * k)) r
theorem take_snoc (xs : List Int) (k : Nat) (hk : k < xs.length) : xs.take (k + 1) = xs.take k ++ [xs.getD k 0] := by
  rw [List.take_succ_eq_append_getElem hk]; simp [List.getD, hk]

theorem assign_any {w : World} {P : Nat → Prop} {v u : Value} {xs : List Int} (h1 : IntsAt w P v xs) (hP : Under P w.heap.size) (hu : ∃ a l c, u = .slice a l c) :
    Calls Try.prog 29 #[.agg #[v, u]] w (OneI (assW 1 xs) w) := by
  obtain ⟨ua, ul, uc, rfl⟩ := hu
  obtain ⟨a1, c1, b1, o1, rfl, hr1⟩ := h1
  have hc1 := hr1.hcap
  have hm1 : c1 ≤ 9223372036854775807 := by have := hr1.hmax; unfold maxLen at this; omega
  have H1 := Lib.hid hr1
  have HP := Lib.hid hP
  obtain ⟨l1, hl1⟩ : ∃ l1, xs.length = l1 := ⟨_, rfl⟩
  rw [hl1] at hc1 H1 ⊢
  have HL1 := Lib.hid hl1
  obtain ⟨R, hR⟩ : ∃ R, assW 1 xs = R := ⟨_, rfl⟩
  rw [hR]
  have HR := Lib.hid hR
  clear hr1 hP hl1 hR
  go_enter Try.func29, Try.ntmps29
  go_wp2
  go_loopw [3, 9] (fun n i wr => ∃ k : Nat, k ≤ l1 ∧ i = .int .i64 k ∧ n = .int .i64 (assW 1 (xs.take k)) ∧ Below w.heap.size w wr) (fun _ i _ => l1 - (intOf i).toNat)
  case atStart => exact ⟨0, by omega, rfl, rfl, (Below.refl _ _).alloc (Nat.le_refl _) _⟩
  case round =>
    obtain ⟨k, hk, rfl, rfl, hbel⟩ := hrel
    have HBEL := Lib.hid hbel
    by_cases hlt : k < l1
    · obtain ⟨rfl, hp1⟩ := H1.out.ha (by omega)
      have d1 := (H1.out.kept (Below.keptB hbel HP.out)).hc k (by omega)
      have hst : assW 1 (xs.take (k + 1)) = (if 1048577 < wrap64 (assW 1 (xs.take k) * xs.getD k 0) then 1048577 else wrap64 (assW 1 (xs.take k) * xs.getD k 0)) := by
        rw [take_snoc xs k (by rw [HL1.out]; exact hlt), assW_append]; rfl
      have HST := Lib.hid hst
      generalize xs.getD k 0 = x at *
      generalize assW 1 (xs.take k) = n at *
      clear hst hbel
      go_wp2
      exact ⟨⟨k + 1, by omega, by go_num, by rw [HST.out], HBEL.out⟩, by simp [intOf]; omega⟩
    · have hk' : k = l1 := by omega
      have he : assW 1 (xs.take k) = R := by rw [hk', List.take_of_length_le (by rw [HL1.out]; exact Nat.le_refl _), HR.out]
      have HE := Lib.hid he
      have hkl : ¬ (k : Int) < l1 := by omega
      clear he hbel hk'
      generalize assW 1 (xs.take k) = n at *
      go_wp2
      go_ret
      exact ⟨by rw [← HE.out]; rfl, HBEL.out⟩
theorem limW_append (n : Int) (xs ys : List Int) : limW n (xs ++ ys) = (limW n xs && limW (prodW n xs) ys) := by
  induction xs generalizing n with
  | nil => simp [limW, prodW]
  | cons x xs ih =>
    show (if 1048576 < wrap64 (n * x) then false else limW (wrap64 (n * x)) (xs ++ ys)) = ((if 1048576 < wrap64 (n * x) then false else limW (wrap64 (n * x)) xs) && limW (prodW (wrap64 (n * x)) xs) ys)
    split
    · rfl
    · exact ih _
theorem prodW_append (n : Int) (xs ys : List Int) : prodW n (xs ++ ys) = prodW (prodW n xs) ys := by
  induction xs generalizing n with
  | nil => rfl
  | cons x xs ih => exact ih _

theorem limited_any {w : World} {P : Nat → Prop} {v u : Value} {xs : List Int} (h1 : IntsAt w P v xs) (hP : Under P w.heap.size) (hu : ∃ a l c, u = .slice a l c) :
    Calls Try.prog 36 #[.agg #[v, u]] w (OneB (limW 1 xs) w) := by
  obtain ⟨ua, ul, uc, rfl⟩ := hu
  obtain ⟨a1, c1, b1, o1, rfl, hr1⟩ := h1
  have hc1 := hr1.hcap
  have hm1 : c1 ≤ 9223372036854775807 := by have := hr1.hmax; unfold maxLen at this; omega
  have H1 := Lib.hid hr1
  have HP := Lib.hid hP
  obtain ⟨l1, hl1⟩ : ∃ l1, xs.length = l1 := ⟨_, rfl⟩
  rw [hl1] at hc1 H1 ⊢
  have HL1 := Lib.hid hl1
  obtain ⟨R, hR⟩ : ∃ R, limW 1 xs = R := ⟨_, rfl⟩
  rw [hR]
  have HR := Lib.hid hR
  clear hr1 hP hl1 hR
  go_enter Try.func36, Try.ntmps36
  go_wp2
  go_loopw [3, 9] (fun n i wr => ∃ k : Nat, k ≤ l1 ∧ i = .int .i64 k ∧ n = .int .i64 (prodW 1 (xs.take k)) ∧ limW 1 (xs.take k) = true ∧ Below w.heap.size w wr) (fun _ i _ => l1 - (intOf i).toNat)
  case atStart => exact ⟨0, by omega, rfl, rfl, rfl, (Below.refl _ _).alloc (Nat.le_refl _) _⟩
  case round =>
    obtain ⟨k, hk, rfl, rfl, htr, hbel⟩ := hrel
    have HBEL := Lib.hid hbel
    have HTR := Lib.hid htr
    clear htr
    by_cases hlt : k < l1
    · obtain ⟨rfl, hp1⟩ := H1.out.ha (by omega)
      have d1 := (H1.out.kept (Below.keptB hbel HP.out)).hc k (by omega)
      have hst : prodW 1 (xs.take (k + 1)) = wrap64 (prodW 1 (xs.take k) * xs.getD k 0) := by
        rw [take_snoc xs k (by rw [HL1.out]; exact hlt), prodW_append]; rfl
      have hst2 : limW 1 (xs.take (k + 1)) = if 1048576 < wrap64 (prodW 1 (xs.take k) * xs.getD k 0) then false else true := by
        rw [take_snoc xs k (by rw [HL1.out]; exact hlt), limW_append, HTR.out]; rfl
      have hall : limW 1 (xs.take (k + 1)) = false → R = false := fun hf => by
        have e := limW_append 1 (xs.take (k + 1)) (xs.drop (k + 1))
        rw [List.take_append_drop, hf, Bool.false_and, HR.out] at e
        exact e
      have HST := Lib.hid hst
      have HST2 := Lib.hid hst2
      have HALL := Lib.hid hall
      clear hst hst2 hbel hall
      generalize hgx : xs.getD k 0 = x at *
      generalize hgn : prodW 1 (xs.take k) = n at *
      clear hgx hgn
      by_cases hbig : 1048576 < wrap64 (n * x)
      · have hf : R = false := HALL.out (by rw [HST2.out, if_pos hbig])
        subst hf
        go_wp2
        go_ret
        exact ⟨rfl, HBEL.out⟩
      · go_wp2
        go_roundw
        case rel => exact ⟨k + 1, by omega, by go_num, by rw [HST.out], by rw [HST2.out, if_neg hbig], HBEL.out⟩
        case measure => simp [intOf]; omega
    · have hk' : k = l1 := by omega
      have he : R = true := by rw [← HR.out, ← HTR.out, hk', List.take_of_length_le (by rw [HL1.out]; exact Nat.le_refl _)]
      subst he
      have hkl : ¬ (k : Int) < l1 := by omega
      clear hbel hk'
      generalize prodW 1 (xs.take k) = n at *
      go_wp2
      go_ret
      exact ⟨rfl, HBEL.out⟩
end Go.Proofs.Ytamidopeojipkaa
