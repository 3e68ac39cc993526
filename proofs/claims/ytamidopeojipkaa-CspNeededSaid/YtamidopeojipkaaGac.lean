/- The values that remain: the greatest closed set. -/
import Derived.Test.YtamidopeojipkaaRevise
namespace Go.Proofs.Ytamidopeojipkaa
open Go.RowKit
set_option linter.unusedVariables false

/-- a problem in order -/
structure Good (p : Prob) : Prop where
  len : p.sizes.length ≤ 16
  size : ∀ n, n < p.sizes.length → 1 ≤ p.sizes.getD n 0 ∧ p.sizes.getD n 0 ≤ 64
  rels : p.rels.length ≤ 96
  fine : ∀ i, i < p.rels.length → Fine p.sizes (p.rels.getD i default)
theorem first_all (sizes : List Int) : ∀ {rs : List Rel}, firstE sizes rs = 0 → ∀ i, i < rs.length → relE sizes (rs.getD i default) = 0
  | [], _, i, hi => by simp at hi
  | r :: rs, h, i, hi => by
    rw [show firstE sizes (r :: rs) = if relE sizes r ≠ 0 then relE sizes r else firstE sizes rs from rfl] at h
    by_cases e : relE sizes r = 0
    · rw [if_neg (by simp [e])] at h
      cases i with
      | zero => exact e
      | succ i => exact first_all sizes h i (by simpa using hi)
    · rw [if_pos e] at h; exact absurd h e
theorem Good.of {p : Prob} (h : checkE p = 0) : Good p := by
  unfold checkE at h
  by_cases h1 : 16 < p.sizes.length
  · rw [if_pos h1] at h; cases h
  rw [if_neg h1] at h
  by_cases h2 : ∃ k, k < p.sizes.length ∧ (p.sizes.getD k 0 < 1 ∨ 64 < p.sizes.getD k 0)
  · rw [if_pos h2] at h; cases h
  rw [if_neg h2] at h
  by_cases h3 : 96 < p.rels.length
  · rw [if_pos h3] at h; cases h
  rw [if_neg h3] at h
  refine ⟨by omega, fun n hn => ?_, by omega, fun i hi => Fine.of (first_all _ h i hi)⟩
  by_cases e : p.sizes.getD n 0 < 1 ∨ 64 < p.sizes.getD n 0
  · exact absurd ⟨n, hn, e⟩ h2
  · omega
theorem Good.szs {p : Prob} (h : Good p) (i : Nat) : szs p.sizes i ≤ 1000 := by
  unfold Ytamidopeojipkaa.szs
  by_cases hi : i < p.sizes.length
  · have := h.size i hi; omega
  · have : p.sizes.getD i 0 = 0 := by simp [List.getD, show p.sizes.length ≤ i by omega]
    rw [this]; decide

/-- every value of every variable of every relation is supported -/
def Closed (p : Prob) (S : Nat → Nat → Bool) : Prop :=
  ∀ i, i < p.rels.length → ∀ k, k < (p.rels.getD i default).vars.length → ∀ x, x < szs p.sizes (vN (p.rels.getD i default) k) → S (vN (p.rels.getD i default) k) x = true → supp S (p.rels.getD i default) k x
/-- S lies in f -/
def Sub (p : Prob) (S f : Nat → Nat → Bool) : Prop := ∀ v x, v < p.sizes.length → x < szs p.sizes v → S v x = true → f v x = true
/-- f holds every closed set -/
def Above (p : Prob) (f : Nat → Nat → Bool) : Prop := ∀ S, Closed p S → Sub p S f
open Classical in
/-- the greatest closed set -/
noncomputable def gac (p : Prob) : Nat → Nat → Bool := fun v x => decide (∃ S, Closed p S ∧ S v x = true)
open Classical in
theorem gac_eq {p : Prob} {f : Nat → Nat → Bool} (ha : Above p f) (hc : Closed p f) {v x : Nat} (hv : v < p.sizes.length) (hx : x < szs p.sizes v) : f v x = gac p v x := by
  by_cases e : f v x = true
  · rw [e]; exact (decide_eq_true ⟨f, hc, e⟩).symm
  · have e2 : f v x = false := by simpa using e
    rw [e2]; exact (decide_eq_false fun ⟨S, h1, h2⟩ => e (ha S h1 v x hv hx h2)).symm
theorem supp_mono {p : Prob} {S f : Nat → Nat → Bool} {r : Rel} (hf : Fine p.sizes r) (hs : Sub p S f) {k x : Nat} (h : supp S r k x) : supp f r k x := by
  obtain ⟨j, hj, h1, h2⟩ := h
  exact ⟨j, hj, h1, fun i hi => hs _ _ (hf.var i hi).2 (hf.tup j i hj hi).2 (h2 i hi)⟩
theorem Above.rev {p : Prob} {f f' : Nat → Nat → Bool} {c : Bool} {i : Nat} (hi : i < p.rels.length) (hf : Fine p.sizes (p.rels.getD i default)) (ha : Above p f) (h : RevP (p.rels.getD i default) p.sizes.length (szs p.sizes) f f' c) : Above p f' := by
  intro S hS v x hv hx hs
  by_cases e : f' v x = true
  · exact e
  · have e1 := ha S hS v x hv hx hs
    obtain ⟨k, hk, rfl, hn⟩ := h.why v x e1 (by simpa using e)
    exact absurd (supp_mono hf (ha S hS) (hS i hi k hk x hx hs)) hn

/-- how many flags of a row, of a table, are up -/
def cntR (f : Nat → Bool) : Nat → Nat
  | 0 => 0
  | k + 1 => cntR f k + if f k = true then 1 else 0
def cntT (m : Nat → Nat) (f : Nat → Nat → Bool) : Nat → Nat
  | 0 => 0
  | k + 1 => cntT m f k + cntR (f k) (m k)
theorem cntR_le {f g : Nat → Bool} (h : ∀ x, f x = true → g x = true) : ∀ k, cntR f k ≤ cntR g k
  | 0 => Nat.le_refl _
  | k + 1 => by
    have := cntR_le h k
    have h1 := h k
    unfold cntR
    by_cases e : f k = true
    · rw [if_pos e, if_pos (h1 e)]; omega
    · rw [if_neg e]; omega
theorem cntR_lt {f g : Nat → Bool} (h : ∀ x, f x = true → g x = true) {x : Nat} (hg : g x = true) (hf : f x = false) : ∀ k, x < k → cntR f k < cntR g k
  | 0, hk => by omega
  | k + 1, hk => by
    have h1 := h k
    unfold cntR
    by_cases e2 : x = k
    · subst e2
      have := cntR_le h x
      rw [if_pos hg, if_neg (by simp [hf])]; omega
    · have := cntR_lt h hg hf k (by omega)
      by_cases e : f k = true
      · rw [if_pos e, if_pos (h1 e)]; omega
      · rw [if_neg e]; omega
theorem cntT_le {m : Nat → Nat} {f g : Nat → Nat → Bool} (h : ∀ v x, f v x = true → g v x = true) : ∀ k, cntT m f k ≤ cntT m g k
  | 0 => Nat.le_refl _
  | k + 1 => by have := cntT_le (m := m) h k; have := cntR_le (h k) (m k); unfold cntT; omega
theorem cntT_lt {m : Nat → Nat} {f g : Nat → Nat → Bool} (h : ∀ v x, f v x = true → g v x = true) {v x : Nat} (hx : x < m v) (hg : g v x = true) (hf : f v x = false) : ∀ k, v < k → cntT m f k < cntT m g k
  | 0, hk => by omega
  | k + 1, hk => by
    unfold cntT
    by_cases e : v = k
    · subst e
      have := cntT_le (m := m) h v
      have := cntR_lt (h v) hg hf (m v) hx
      omega
    · have := cntT_lt h hx hg hf k (by omega)
      have := cntR_le (h k) (m k)
      omega
/-- a pass on its way: behind relation q -/
structure Pass (p : Prob) (f0 f : Nat → Nat → Bool) (c : Bool) (q : Nat) : Prop where
  le : ∀ v x, f v x = true → f0 v x = true
  above : Above p f
  same : c = false → f = f0 ∧ ∀ i, i < q → ∀ k, k < (p.rels.getD i default).vars.length → ∀ x, x < szs p.sizes (vN (p.rels.getD i default) k) → f (vN (p.rels.getD i default) k) x = true → supp f (p.rels.getD i default) k x
  diff : c = true → cntT (szs p.sizes) f p.sizes.length < cntT (szs p.sizes) f0 p.sizes.length
theorem Pass.start {p : Prob} {f : Nat → Nat → Bool} (h : Above p f) : Pass p f f false 0 := ⟨fun _ _ e => e, h, fun _ => ⟨rfl, fun i hi => by omega⟩, fun e => absurd e (by simp)⟩
theorem Pass.step {p : Prob} {f0 f f' : Nat → Nat → Bool} {c c' : Bool} {q : Nat} (h : Pass p f0 f c q) (hq : q < p.rels.length) (hf : Fine p.sizes (p.rels.getD q default)) (hr : RevP (p.rels.getD q default) p.sizes.length (szs p.sizes) f f' c') : Pass p f0 f' (c' || c) (q + 1) := by
  refine ⟨fun v x e => h.le v x (hr.le v x e), h.above.rev hq hf hr, fun e => ?_, fun e => ?_⟩
  · obtain ⟨e1, e2⟩ : c' = false ∧ c = false := by simpa using e
    have e3 := hr.same e1
    subst e3
    obtain ⟨h1, h2⟩ := h.same e2
    refine ⟨h1, fun i hi k hk x hx hs => ?_⟩
    by_cases e4 : i = q
    · subst e4; exact hr.done k hk x hx hs
    · exact h2 i (by omega) k hk x hx hs
  · have hle := cntT_le (m := szs p.sizes) hr.le p.sizes.length
    have hle2 := cntT_le (m := szs p.sizes) h.le p.sizes.length
    by_cases e1 : c' = true
    · obtain ⟨v, x, hv, hx, h1, h2⟩ := hr.diff e1
      have := cntT_lt hr.le hx h1 h2 p.sizes.length hv
      omega
    · have e2 : c = true := by simpa [e1] using e
      have := h.diff e2
      omega
theorem Pass.closed {p : Prob} {f0 f : Nat → Nat → Bool} {q : Nat} (h : Pass p f0 f false q) (hq : p.rels.length ≤ q) : Closed p f := fun i hi => (h.same rfl).2 i (by omega)
theorem above_full (p : Prob) : Above p fun _ _ => true := fun _ _ _ _ _ _ _ => rfl
end Go.Proofs.Ytamidopeojipkaa
