/- The examples of alive: what the specifications say of them. -/
import Derived.Test.YtamidopeojipkaaCoreQ
namespace Go.Proofs.Ytamidopeojipkaa
open Go.RowKit
set_option linter.unusedVariables false

/-- sat, reckoned -/
def satC (rs : List Rel) (a : List Int) : Bool := (List.range rs.length).all fun i => (List.range (rs.getD i default).allowed.length).any fun j => (List.range (rs.getD i default).vars.length).all fun k => a.getD (vN (rs.getD i default) k) 0 == (tN (rs.getD i default) j k : Int)
theorem satC_iff (rs : List Rel) (a : List Int) : satC rs a = true ↔ sat rs a := by
  unfold satC sat satR
  simp only [List.all_eq_true, List.any_eq_true, List.mem_range, beq_iff_eq]
def solsC (p : Prob) (g : List Int) : List (List Int) := ((ext (p.sizes.drop g.length)).map fun b => g ++ b).filter fun a => satC p.rels a
open Classical in
theorem sols_eq (p : Prob) (g : List Int) : sols p g = solsC p g := by
  unfold sols solsC
  congr 1
  funext a
  by_cases h : sat p.rels a
  · rw [(satC_iff _ _).2 h]; exact decide_eq_true h
  · have : satC p.rels a = false := by
      cases e : satC p.rels a
      · rfl
      · exact absurd ((satC_iff _ _).1 e) h
    rw [this]; exact decide_eq_false h
def coreC (p : Prob) : Nat → List Nat → Nat → Option (List Nat)
  | 0, ch, _ => if solsC (subP p ch) [] = [] then some ch else none
  | k + 1, ch, from_ => (List.range' from_ (p.rels.length - from_)).findSome? fun i => coreC p k (ch ++ [i]) (i + 1)
open Classical in
theorem coreS_eq (p : Prob) : ∀ (k : Nat) (ch : List Nat) (from_ : Nat), coreS p k ch from_ = coreC p k ch from_
  | 0, ch, _ => by
    unfold coreS coreC
    rw [sols_eq]
  | k + 1, ch, from_ => by
    unfold coreS coreC
    congr 1
    funext i
    exact coreS_eq p k _ _

def relA : Rel := ⟨[0, 1], [[0, 1], [1, 0]]⟩
def relB : Rel := ⟨[1], [[0]]⟩
def relC : Rel := ⟨[0], [[0]]⟩
def relD : Rel := ⟨[0], [[0], [1]]⟩
def relF : Rel := ⟨[0], [[1]]⟩
def prA : Prob := ⟨[2, 2], [relA]⟩
def prB : Prob := ⟨[2, 2], [relA, relB]⟩
def prC : Prob := ⟨[2], [relC, relD, relF]⟩
def prE : Prob := ⟨[], []⟩
theorem prA_ok : checkE prA = 0 := by decide
theorem prB_ok : checkE prB = 0 := by decide
theorem prC_ok : checkE prC = 0 := by decide
theorem prE_ok : checkE prE = 0 := by decide
theorem solsA : sols prA [] = [[0, 1], [1, 0]] := by rw [sols_eq]; decide
theorem solsE : sols prE [] = [[]] := by rw [sols_eq]; decide
theorem limA : limW 1 prA.sizes = true := by kernel_rfl
theorem limC : limW 1 prC.sizes = true := by kernel_rfl
theorem limE : limW 1 prE.sizes = true := by kernel_rfl
theorem countA : countE prA = 0 ∧ countN prA = 2 := by
  have h : countE prA = 0 := by unfold countE; rw [if_neg (by rw [prA_ok]; simp), if_pos limA]
  refine ⟨h, ?_⟩
  unfold countN; rw [if_pos h, solsA]; rfl
theorem countE0 : countE prE = 0 ∧ countN prE = 1 := by
  have h : countE prE = 0 := by unfold countE; rw [if_neg (by rw [prE_ok]; simp), if_pos limE]
  refine ⟨h, ?_⟩
  unfold countN; rw [if_pos h, solsE]; rfl
theorem solveA : solveE prA = 0 ∧ solveL prA = [0, 1] := by
  have h : allE prA 1 = 0 := by unfold allE; rw [if_neg (by rw [prA_ok]; simp), if_neg (by decide), if_pos limA]
  have hl : allL prA 1 = [[0, 1]] := by unfold allL; rw [if_pos h, solsA]; rfl
  have h2 : solveE prA = 0 := by unfold solveE; rw [if_neg (by rw [h]; simp), hl]; rfl
  refine ⟨h2, ?_⟩
  unfold solveL; rw [if_pos h2, hl]; rfl
theorem coreA : coreE prC = 0 ∧ coreL prC = [0, 2] := by
  have hr : coreR prC = some [0, 2] := by
    unfold coreR
    have : (fun k => coreS prC k [] 0) = fun k => coreC prC k [] 0 := by funext k; exact coreS_eq _ _ _ _
    rw [this]; decide
  have h : coreE prC = 0 := by
    unfold coreE
    rw [if_neg (by rw [prC_ok]; simp), if_pos ⟨limC, by decide⟩, hr]; rfl
  refine ⟨h, ?_⟩
  unfold coreL; rw [if_pos h, hr]; rfl
def keepB : Nat → Nat → Bool := fun v x => (v == 0 && x == 1) || (v == 1 && x == 0)
theorem closedB : Closed prB keepB := by
  intro i hi k hk x hx hs
  have hi' : i < 2 := hi
  match i, hi' with
  | 0, _ =>
    have hk' : k < 2 := hk
    match k, hk' with
    | 0, _ =>
      have hx' : x < 2 := hx
      match x, hx' with
      | 0, _ => exact absurd hs (by decide)
      | 1, _ => exact ⟨1, by decide, by decide, fun j hj => by have hj' : j < 2 := hj; match j, hj' with | 0, _ => decide | 1, _ => decide⟩
    | 1, _ =>
      have hx' : x < 2 := hx
      match x, hx' with
      | 0, _ => exact ⟨1, by decide, by decide, fun j hj => by have hj' : j < 2 := hj; match j, hj' with | 0, _ => decide | 1, _ => decide⟩
      | 1, _ => exact absurd hs (by decide)
  | 1, _ =>
    have hk' : k < 1 := hk
    match k, hk' with
    | 0, _ =>
      have hx' : x < 2 := hx
      match x, hx' with
      | 0, _ => exact ⟨0, by decide, by decide, fun j hj => by have hj' : j < 1 := hj; match j, hj' with | 0, _ => decide⟩
      | 1, _ => exact absurd hs (by decide)
theorem notB1 {S : Nat → Nat → Bool} (h : Closed prB S) : S 1 1 = false := by
  cases e : S 1 1
  · rfl
  · obtain ⟨j, hj, h1, h2⟩ := h 1 (by decide) 0 (by decide) 1 (by decide) e
    have hj' : j < 1 := hj
    match j, hj' with
    | 0, _ => exact absurd h1 (by decide)
theorem notB0 {S : Nat → Nat → Bool} (h : Closed prB S) : S 0 0 = false := by
  cases e : S 0 0
  · rfl
  · obtain ⟨j, hj, h1, h2⟩ := h 0 (by decide) 0 (by decide) 0 (by decide) e
    have hj' : j < 2 := hj
    match j, hj' with
    | 0, _ =>
      have : S 1 1 = true := h2 1 (by decide)
      rw [notB1 h] at this; exact absurd this (by simp)
    | 1, _ => exact absurd h1 (by decide)
theorem gacB : gac prB 0 0 = false ∧ gac prB 0 1 = true ∧ gac prB 1 0 = true ∧ gac prB 1 1 = false := by
  unfold gac
  refine ⟨?_, ?_, ?_, ?_⟩
  · simp only [decide_eq_false_iff_not]
    rintro ⟨S, h1, h2⟩
    rw [notB0 h1] at h2; exact absurd h2 (by simp)
  · simp only [decide_eq_true_eq]; exact ⟨keepB, closedB, by decide⟩
  · simp only [decide_eq_true_eq]; exact ⟨keepB, closedB, by decide⟩
  · simp only [decide_eq_false_iff_not]
    rintro ⟨S, h1, h2⟩
    rw [notB1 h1] at h2; exact absurd h2 (by simp)
end Go.Proofs.Ytamidopeojipkaa
