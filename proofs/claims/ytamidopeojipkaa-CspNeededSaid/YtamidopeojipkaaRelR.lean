/- relation of the reference. -/
import Derived.Test.YtamidopeojipkaaLists
namespace Go.Proofs.Ytamidopeojipkaa
open Go.RowKit
set_option linter.unusedVariables false

/-- the error of a tuple, but for its place among the others -/
def tupE (sizes vars t : List Int) : Int :=
  if t.length ≠ vars.length then 2 else if ∃ k, k < t.length ∧ (t.getD k 0 < 0 ∨ sizes.getD (vars.getD k 0).toNat 0 ≤ t.getD k 0) then 1 else 0
/-- the first error of tuples behind those that were seen -/
def scanE (sizes vars : List Int) (seen : List (List Int)) : List (List Int) → Int
  | [] => 0
  | t :: r => if tupE sizes vars t ≠ 0 then tupE sizes vars t else if t ∈ seen then 6 else scanE sizes vars (seen ++ [t]) r
/-- the error of a relation -/
def relE (sizes : List Int) (r : Rel) : Int :=
  if r.vars.length < 1 ∨ 3 < r.vars.length then 2
  else if ∃ k, k < r.vars.length ∧ (r.vars.getD k 0 < 0 ∨ (sizes.length : Int) ≤ r.vars.getD k 0) then 1
  else if ¬ r.vars.Nodup then 6
  else if 4096 < r.allowed.length then 2
  else scanE sizes r.vars [] r.allowed

theorem scan_split (sizes vars : List Int) : ∀ (seen xs ys : List (List Int)), (∀ i, i < xs.length → tupE sizes vars (xs.getD i []) = 0) → (∀ i k, k < i → i < xs.length → xs.getD k [] ≠ xs.getD i []) → (∀ x, x ∈ xs → x ∉ seen) →
    scanE sizes vars seen (xs ++ ys) = scanE sizes vars (seen ++ xs) ys
  | seen, [], ys, _, _, _ => by simp
  | seen, x :: xs, ys, h1, h2, h3 => by
    have e0 : tupE sizes vars x = 0 := h1 0 (by simp)
    have hns : x ∉ seen := h3 x (by simp)
    rw [List.cons_append]
    show (if tupE sizes vars x ≠ 0 then _ else if x ∈ seen then (6 : Int) else scanE sizes vars (seen ++ [x]) (xs ++ ys)) = _
    rw [if_neg (by rw [e0]; simp), if_neg hns, scan_split sizes vars (seen ++ [x]) xs ys (fun i hi => h1 (i + 1) (by simpa using hi)) (fun i k hk hi => h2 (i + 1) (k + 1) (by omega) (by simpa using hi)) (fun y hy hm => ?_)]
    · rw [List.append_assoc]; rfl
    · rcases List.mem_append.1 hm with hm | hm
      · exact h3 y (by simp [hy]) hm
      · simp at hm
        subst hm
        obtain ⟨i, hi, he⟩ := List.mem_iff_getElem.1 hy
        have := h2 (i + 1) 0 (by omega) (by simpa using hi)
        apply this
        simp [List.getD, hi, he]
/-- what scanE says where the first k tuples are in order -/
theorem scan_at {sizes vars : List Int} {xs : List (List Int)} {k : Nat} (hk : k < xs.length) (h1 : ∀ i, i < k → tupE sizes vars (xs.getD i []) = 0) (h2 : ∀ i j, j < i → i < k → xs.getD j [] ≠ xs.getD i []) :
    scanE sizes vars [] xs = if tupE sizes vars (xs.getD k []) ≠ 0 then tupE sizes vars (xs.getD k []) else if xs.getD k [] ∈ xs.take k then 6 else scanE sizes vars (xs.take (k + 1)) (xs.drop (k + 1)) := by
  have e := scan_split sizes vars [] (xs.take k) (xs.drop k) (fun i hi => ?_) (fun i j hj hi => ?_) (fun x _ => by simp)
  · rw [List.take_append_drop] at e
    rw [e, List.drop_eq_getElem_cons hk, List.nil_append]
    have eg : xs.getD k [] = xs[k] := by simp [List.getD, hk]
    rw [eg, List.take_succ_eq_append_getElem hk]
    rfl
  · have hi2 : i < k := by rw [List.length_take] at hi; omega
    have : (xs.take k).getD i [] = xs.getD i [] := by simp [List.getD, hi2]
    rw [this]; exact h1 i hi2
  · have hi2 : i < k := by rw [List.length_take] at hi; omega
    have e1 : (xs.take k).getD i [] = xs.getD i [] := by simp [List.getD, hi2]
    have e2 : (xs.take k).getD j [] = xs.getD j [] := by simp [List.getD, show j < k by omega]
    rw [e1, e2]; exact h2 i j hj hi2
theorem scan_end {sizes vars : List Int} {xs : List (List Int)} (h1 : ∀ i, i < xs.length → tupE sizes vars (xs.getD i []) = 0) (h2 : ∀ i j, j < i → i < xs.length → xs.getD j [] ≠ xs.getD i []) : scanE sizes vars [] xs = 0 := by
  have e := scan_split sizes vars [] xs [] h1 h2 (fun x _ => by simp)
  rw [List.append_nil] at e
  rw [e]; rfl
end Go.Proofs.Ytamidopeojipkaa
