/- Solutions: the plain part. -/
import Derived.Test.YtamidopeojipkaaGac
namespace Go.Proofs.Ytamidopeojipkaa
open Go.RowKit
set_option linter.unusedVariables false

/-- all rows of values of variables with these sizes, in order -/
def ext : List Int → List (List Int)
  | [] => [[]]
  | n :: s => (List.range n.toNat).flatMap fun x : Nat => (ext s).map fun b => (x : Int) :: b
/-- an assignment satisfies a relation -/
def satR (r : Rel) (a : List Int) : Prop := ∃ j, j < r.allowed.length ∧ ∀ k, k < r.vars.length → a.getD (vN r k) 0 = (tN r j k : Int)
/-- an assignment satisfies all relations -/
def sat (rs : List Rel) (a : List Int) : Prop := ∀ i, i < rs.length → satR (rs.getD i default) a
/-- no relation whose variables all have values is violated -/
def fits (rs : List Rel) (g : List Int) : Prop := ∀ i, i < rs.length → (∀ k, k < (rs.getD i default).vars.length → vN (rs.getD i default) k < g.length) → satR (rs.getD i default) g
open Classical in
/-- the solutions that begin with g -/
noncomputable def sols (p : Prob) (g : List Int) : List (List Int) := ((ext (p.sizes.drop g.length)).map fun b => g ++ b).filter fun a => decide (sat p.rels a)
theorem ext_len : ∀ (s : List Int) (b : List Int), b ∈ ext s → b.length = s.length
  | [], b, h => by simp [ext] at h; simp [h]
  | n :: s, b, h => by
    simp only [ext, List.mem_flatMap, List.mem_map] at h
    obtain ⟨x, _, c, hc, rfl⟩ := h
    simp [ext_len s c hc]
theorem satR_app {r : Rel} {g b : List Int} (h : ∀ k, k < r.vars.length → vN r k < g.length) : satR r (g ++ b) ↔ satR r g := by
  have e : ∀ k, k < r.vars.length → (g ++ b).getD (vN r k) 0 = g.getD (vN r k) 0 := fun k hk => by
    simp [List.getD, List.getElem?_append, h k hk]
  unfold satR
  constructor
  · rintro ⟨j, hj, h1⟩; exact ⟨j, hj, fun k hk => (e k hk).symm.trans (h1 k hk)⟩
  · rintro ⟨j, hj, h1⟩; exact ⟨j, hj, fun k hk => (e k hk).trans (h1 k hk)⟩
theorem sols_none {p : Prob} {g : List Int} (h : ¬ fits p.rels g) : sols p g = [] := by
  unfold sols
  rw [List.filter_eq_nil_iff]
  intro a ha hs
  rw [List.mem_map] at ha
  obtain ⟨b, _, rfl⟩ := ha
  have hs2 : sat p.rels (g ++ b) := by simpa using hs
  exact h fun i hi hk => (satR_app hk).1 (hs2 i hi)
theorem sols_one {p : Prob} {g : List Int} (hg : g.length = p.sizes.length) (hf : ∀ i, i < p.rels.length → Fine p.sizes (p.rels.getD i default)) (h : fits p.rels g) : sols p g = [g] := by
  unfold sols
  rw [hg, List.drop_length]
  have hs : sat p.rels g := fun i hi => h i hi fun k hk => by rw [hg]; exact ((hf i hi).var k hk).2
  simp [ext, hs]
theorem ext_drop {s : List Int} {k : Nat} (hk : k < s.length) : ext (s.drop k) = (List.range (s.getD k 0).toNat).flatMap fun x : Nat => (ext (s.drop (k + 1))).map fun b => (x : Int) :: b := by
  rw [List.drop_eq_getElem_cons hk]
  simp [ext, List.getD, hk]
theorem sols_step {p : Prob} {g : List Int} (hg : g.length < p.sizes.length) : sols p g = (List.range (szs p.sizes g.length)).flatMap fun x : Nat => sols p (g ++ [(x : Int)]) := by
  unfold sols
  rw [ext_drop hg, List.map_flatMap, List.filter_flatMap]
  unfold szs
  congr 1
  funext x
  rw [List.map_map, List.length_append]
  show _ = List.filter _ (List.map _ (ext (p.sizes.drop (g.length + 1))))
  congr 1
  refine List.map_congr_left fun b _ => ?_
  simp
/-- the solutions behind g with the next value below x -/
noncomputable def solsTo (p : Prob) (g : List Int) (x : Nat) : List (List Int) := (List.range x).flatMap fun y : Nat => sols p (g ++ [(y : Int)])
theorem solsTo_zero (p : Prob) (g : List Int) : solsTo p g 0 = [] := rfl
theorem solsTo_succ (p : Prob) (g : List Int) (x : Nat) : solsTo p g (x + 1) = solsTo p g x ++ sols p (g ++ [(x : Int)]) := by
  unfold solsTo
  rw [List.range_succ, List.flatMap_append]; simp
theorem solsTo_split (p : Prob) (g : List Int) {x n : Nat} (h : x ≤ n) : ∃ r, solsTo p g n = solsTo p g x ++ r := by
  induction n with
  | zero => exact ⟨[], by simp [show x = 0 by omega]⟩
  | succ n ih =>
    by_cases e : x = n + 1
    · exact ⟨[], by simp [e]⟩
    · obtain ⟨r, hr⟩ := ih (by omega)
      exact ⟨r ++ sols p (g ++ [(n : Int)]), by rw [solsTo_succ, hr, List.append_assoc]⟩
/-- how many there are behind the search, and what was found -/
def cntTo (many most : Nat) (L : List (List Int)) : Nat := many + min (most - many) L.length
def fndTo (keep : Bool) (found : List (List Int)) (many most : Nat) (L : List (List Int)) : List (List Int) := if keep = true then found ++ L.take (most - many) else found
theorem cntTo_nil (many most : Nat) : cntTo many most [] = many := by simp [cntTo]
theorem fndTo_nil (keep : Bool) (found : List (List Int)) (many most : Nat) : fndTo keep found many most [] = found := by simp [fndTo]
theorem cntTo_app {many most : Nat} {L M : List (List Int)} : cntTo (cntTo many most L) most M = cntTo many most (L ++ M) := by
  unfold cntTo; rw [List.length_append]; omega
theorem fndTo_app {keep : Bool} {found : List (List Int)} {many most : Nat} {L M : List (List Int)} : fndTo keep (fndTo keep found many most L) (cntTo many most L) most M = fndTo keep found many most (L ++ M) := by
  unfold fndTo
  cases keep
  · rfl
  · simp only [if_true]
    rw [List.append_assoc, List.take_append]
    congr 3
    unfold cntTo; omega
theorem cntTo_full {many most : Nat} {L M : List (List Int)} (h : most ≤ cntTo many most L) : cntTo many most (L ++ M) = cntTo many most L := by
  unfold cntTo at *; rw [List.length_append]; omega
theorem fndTo_full {keep : Bool} {found : List (List Int)} {many most : Nat} {L M : List (List Int)} (h : most ≤ cntTo many most L) : fndTo keep found many most (L ++ M) = fndTo keep found many most L := by
  unfold fndTo
  cases keep
  · rfl
  · simp only [if_true]
    congr 1
    unfold cntTo at h
    rw [List.take_append, show most - many - L.length = 0 by omega]; simp
end Go.Proofs.Ytamidopeojipkaa
