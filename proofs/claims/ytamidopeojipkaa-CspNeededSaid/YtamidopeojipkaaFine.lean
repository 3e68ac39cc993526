/- What a relation in order is; what revise comes to. -/
import Derived.Test.YtamidopeojipkaaFull
namespace Go.Proofs.Ytamidopeojipkaa
open Go.RowKit
set_option linter.unusedVariables false

theorem near_grown {w w' : World} {row : Option Nat} (h : w.grownBy w' row) : Near (fun k => row = some k) w w' := ⟨h.os, h.tape, h.output, h.size, fun k hk hd => h.block k hk (fun e => hd e.symm)⟩
theorem TabAt.mono {w : World} {base base2 : Nat} {v : Value} {bs : Nat → Nat} {n : Nat} {m : Nat → Nat} {f : Nat → Nat → Bool} (h : TabAt w base v bs n m f) (hb : base2 ≤ base) : TabAt w base2 v bs n m f := by
  refine ⟨⟨h.own.1, ?_⟩, fun i hi => ⟨Nat.le_trans hb (h.rows i hi).1, (h.rows i hi).2⟩, h.inj⟩
  rcases h.own.2 with h2 | ⟨g, cap, cur, h1, h2, h3⟩
  · exact .inl h2
  · exact .inr ⟨g, cap, cur, h1, Nat.le_trans hb h2, h3⟩
theorem TabAt.at {w : World} {base : Nat} {g cap : Nat} {bs : Nat → Nat} {n : Nat} {m : Nat → Nat} {f : Nat → Nat → Bool} (h : TabAt w base (.slice (some ⟨g, 0, none⟩) n cap) bs n m f) {i : Nat} (hi : i < n) : w.cell? ⟨g, i, none⟩ = some (.slice (some ⟨bs i, 0, none⟩) (m i) (m i)) := by
  rcases h.shape with ⟨h0, _⟩ | ⟨g', cap', hv, _, _, _, _, hc⟩
  · cases h0
  · cases hv; exact hc i hi
theorem TabAt.flag {w : World} {base : Nat} {v : Value} {bs : Nat → Nat} {n : Nat} {m : Nat → Nat} {f : Nat → Nat → Bool} (h : TabAt w base v bs n m f) {i j : Nat} (hi : i < n) (hj : j < m i) : w.cell? ⟨bs i, j, none⟩ = some (.bool (f i j)) ∧ w.frozen? ⟨bs i, j, none⟩ = false :=
  ⟨(cell_row' _ _ _ _ _ (h.row hi)).trans (rowB_at _ hj), frozen_row' _ _ _ _ _ (h.row hi)⟩
/-- variable i of a relation; value i of tuple j -/
def vN (r : Rel) (i : Nat) : Nat := (r.vars.getD i 0).toNat
def tN (r : Rel) (j i : Nat) : Nat := ((r.allowed.getD j []).getD i 0).toNat
/-- a relation in order -/
structure Fine (sizes : List Int) (r : Rel) : Prop where
  len1 : 1 ≤ r.vars.length
  len3 : r.vars.length ≤ 3
  var : ∀ i, i < r.vars.length → r.vars.getD i 0 = (vN r i : Int) ∧ vN r i < sizes.length
  inj : ∀ i k, i < r.vars.length → k < r.vars.length → vN r i = vN r k → i = k
  few : r.allowed.length ≤ 4096
  wide : ∀ j, j < r.allowed.length → (r.allowed.getD j []).length = r.vars.length
  tup : ∀ j i, j < r.allowed.length → i < r.vars.length → (r.allowed.getD j []).getD i 0 = (tN r j i : Int) ∧ tN r j i < szs sizes (vN r i)
theorem scan_tup {sizes vars : List Int} : ∀ {seen xs : List (List Int)}, scanE sizes vars seen xs = 0 → ∀ i, i < xs.length → tupE sizes vars (xs.getD i []) = 0
  | seen, [], _, i, hi => by simp at hi
  | seen, x :: xs, h, i, hi => by
    rw [show scanE sizes vars seen (x :: xs) = (if tupE sizes vars x ≠ 0 then tupE sizes vars x else if x ∈ seen then (6 : Int) else scanE sizes vars (seen ++ [x]) xs) from rfl] at h
    by_cases e : tupE sizes vars x = 0
    · rw [if_neg (by simp [e])] at h
      by_cases e2 : x ∈ seen
      · rw [if_pos e2] at h; cases h
      · rw [if_neg e2] at h
        cases i with
        | zero => exact e
        | succ i => exact scan_tup h i (by simpa using hi)
    · rw [if_pos e] at h; exact absurd h e
theorem Fine.of {sizes : List Int} {r : Rel} (h : relE sizes r = 0) : Fine sizes r := by
  unfold relE at h
  by_cases h1 : r.vars.length < 1 ∨ 3 < r.vars.length
  · rw [if_pos h1] at h; cases h
  rw [if_neg h1] at h
  by_cases h2 : ∃ k, k < r.vars.length ∧ (r.vars.getD k 0 < 0 ∨ (sizes.length : Int) ≤ r.vars.getD k 0)
  · rw [if_pos h2] at h; cases h
  rw [if_neg h2] at h
  by_cases h3 : ¬ r.vars.Nodup
  · rw [if_pos h3] at h; cases h
  rw [if_neg h3] at h
  by_cases h4 : 4096 < r.allowed.length
  · rw [if_pos h4] at h; cases h
  rw [if_neg h4] at h
  have ht := scan_tup h
  have hv : ∀ i, i < r.vars.length → r.vars.getD i 0 = (vN r i : Int) ∧ vN r i < sizes.length := fun i hi => by
    by_cases e : r.vars.getD i 0 < 0 ∨ (sizes.length : Int) ≤ r.vars.getD i 0
    · exact absurd ⟨i, hi, e⟩ h2
    · unfold vN; omega
  have hw : ∀ j, j < r.allowed.length → (r.allowed.getD j []).length = r.vars.length := fun j hj => by
    have := ht j hj
    unfold tupE at this
    by_cases e : (r.allowed.getD j []).length = r.vars.length
    · exact e
    · rw [if_pos e] at this; cases this
  refine ⟨by omega, by omega, hv, ?_, by omega, hw, ?_⟩
  · intro i k hi hk e
    have e2 : r.vars.getD i 0 = r.vars.getD k 0 := by rw [(hv i hi).1, (hv k hk).1, e]
    have hn : r.vars.Nodup := Classical.not_not.1 h3
    rw [List.nodup_iff_pairwise_ne, List.pairwise_iff_getElem] at hn
    rcases Nat.lt_trichotomy i k with l | l | l
    · exact absurd (by simpa [List.getD, hi, hk] using e2) (hn i k hi hk l)
    · exact l
    · exact absurd (by simpa [List.getD, hi, hk] using e2.symm) (hn k i hk hi l)
  · intro j i hj hi
    have h0 := ht j hj
    unfold tupE at h0
    rw [if_neg (by rw [hw j hj]; simp)] at h0
    by_cases e : ∃ k, k < (r.allowed.getD j []).length ∧ ((r.allowed.getD j []).getD k 0 < 0 ∨ sizes.getD (r.vars.getD k 0).toNat 0 ≤ (r.allowed.getD j []).getD k 0)
    · rw [if_pos e] at h0; cases h0
    · by_cases e2 : (r.allowed.getD j []).getD i 0 < 0 ∨ sizes.getD (r.vars.getD i 0).toNat 0 ≤ (r.allowed.getD j []).getD i 0
      · exact absurd ⟨i, by rw [hw j hj]; exact hi, e2⟩ e
      · unfold tN szs vN; omega

/-- tuple j has remaining values alone -/
def okT (f : Nat → Nat → Bool) (r : Rel) (j : Nat) : Prop := ∀ i, i < r.vars.length → f (vN r i) (tN r j i) = true
/-- value x of variable k of the relation is supported -/
def supp (f : Nat → Nat → Bool) (r : Rel) (k x : Nat) : Prop := ∃ j, j < r.allowed.length ∧ tN r j k = x ∧ okT f r j
/-- the same, with the first J tuples alone -/
def suppJ (f : Nat → Nat → Bool) (r : Rel) (J k x : Nat) : Prop := ∃ j, j < J ∧ tN r j k = x ∧ okT f r j
open Classical in
/-- the table of what is supported -/
noncomputable def spB (f : Nat → Nat → Bool) (r : Rel) (J : Nat) : Nat → Nat → Bool := fun k x => decide (suppJ f r J k x)
/-- the same, with the first q values of tuple J besides -/
noncomputable def spQ (f : Nat → Nat → Bool) (r : Rel) (J q : Nat) : Nat → Nat → Bool := fun k x => spB f r J k x || decide (k < q ∧ x = tN r J k)
open Classical in
theorem spB_zero (f : Nat → Nat → Bool) (r : Rel) (k x : Nat) : spB f r 0 k x = false := by
  unfold spB
  exact decide_eq_false fun ⟨j, hj, _⟩ => by omega
open Classical in
theorem spB_skip {f : Nat → Nat → Bool} {r : Rel} {J : Nat} (h : ¬ okT f r J) : spB f r (J + 1) = spB f r J := by
  funext k x
  unfold spB
  refine decide_eq_decide.2 ⟨fun ⟨j, hj, h1, h2⟩ => ⟨j, ?_, h1, h2⟩, fun ⟨j, hj, h1, h2⟩ => ⟨j, by omega, h1, h2⟩⟩
  by_cases e : j = J
  · subst e; exact absurd h2 h
  · omega
open Classical in
theorem spQ_zero (f : Nat → Nat → Bool) (r : Rel) (J : Nat) : spQ f r J 0 = spB f r J := by
  funext k x; simp [spQ]
open Classical in
theorem spQ_step (f : Nat → Nat → Bool) (r : Rel) (J q : Nat) : upd2 (spQ f r J q) q (tN r J q) true = spQ f r J (q + 1) := by
  funext k x
  unfold upd2
  by_cases e : k = q ∧ x = tN r J q
  · rw [if_pos e]
    obtain ⟨rfl, rfl⟩ := e
    simp [spQ]
  · rw [if_neg e]
    unfold spQ
    congr 1
    refine decide_eq_decide.2 ⟨fun h => ⟨by omega, h.2⟩, fun h => ⟨?_, h.2⟩⟩
    by_cases e2 : k = q
    · subst e2; exact absurd ⟨rfl, h.2⟩ e
    · omega
open Classical in
theorem spQ_full {f : Nat → Nat → Bool} {r : Rel} {J : Nat} (h : okT f r J) {k : Nat} (hk : k < r.vars.length) (x : Nat) : spQ f r J r.vars.length k x = spB f r (J + 1) k x := by
  have e : (spQ f r J r.vars.length k x = true) ↔ (spB f r (J + 1) k x = true) := by
    unfold spQ spB
    simp only [Bool.or_eq_true, decide_eq_true_eq]
    constructor
    · rintro (⟨j, hj, h1, h2⟩ | ⟨_, h1⟩)
      · exact ⟨j, by omega, h1, h2⟩
      · exact ⟨J, by omega, h1.symm, h⟩
    · rintro ⟨j, hj, h1, h2⟩
      by_cases e : j = J
      · subst e; exact .inr ⟨hk, h1.symm⟩
      · exact .inl ⟨j, by omega, h1, h2⟩
  cases h1 : spQ f r J r.vars.length k x <;> cases h2 : spB f r (J + 1) k x <;> simp [h1, h2] at e ⊢
open Classical in
theorem spB_supp {f : Nat → Nat → Bool} {r : Rel} {k x : Nat} : spB f r r.allowed.length k x = true ↔ supp f r k x := by
  unfold spB supp suppJ; simp
/-- what revise comes to -/
structure RevP (r : Rel) (n : Nat) (m : Nat → Nat) (f f' : Nat → Nat → Bool) (c : Bool) : Prop where
  le : ∀ v x, f' v x = true → f v x = true
  why : ∀ v x, f v x = true → f' v x = false → ∃ k, k < r.vars.length ∧ vN r k = v ∧ ¬ supp f r k x
  done : ∀ k, k < r.vars.length → ∀ x, x < m (vN r k) → f' (vN r k) x = true → supp f r k x
  same : c = false → f' = f
  diff : c = true → ∃ v x, v < n ∧ x < m v ∧ f v x = true ∧ f' v x = false
/-- revise on its way: behind value x0 of variable p -/
structure RevQ (r : Rel) (n : Nat) (m : Nat → Nat) (f f' : Nat → Nat → Bool) (c : Bool) (p x0 : Nat) : Prop where
  le : ∀ v x, f' v x = true → f v x = true
  why : ∀ v x, f v x = true → f' v x = false → ∃ k, k < r.vars.length ∧ vN r k = v ∧ ¬ supp f r k x
  done : ∀ k, k < r.vars.length → ∀ x, x < m (vN r k) → (k < p ∨ k = p ∧ x < x0) → f' (vN r k) x = true → supp f r k x
  same : c = false → f' = f
  diff : c = true → ∃ v x, v < n ∧ x < m v ∧ f v x = true ∧ f' v x = false
theorem RevQ.start (r : Rel) (n : Nat) (m : Nat → Nat) (f : Nat → Nat → Bool) : RevQ r n m f f false 0 0 :=
  ⟨fun _ _ h => h, fun v x h1 h2 => absurd (h1.symm.trans h2) (by simp), fun k hk x hx hh => by omega, fun _ => rfl, fun h => absurd h (by simp)⟩
theorem RevQ.keep {r : Rel} {n : Nat} {m : Nat → Nat} {f f' : Nat → Nat → Bool} {c : Bool} {p x : Nat} (h : RevQ r n m f f' c p x) (hs : f' (vN r p) x = true → supp f r p x) : RevQ r n m f f' c p (x + 1) :=
  ⟨h.le, h.why, fun k hk y hy hh e => by
    by_cases e2 : k = p ∧ y = x
    · obtain ⟨rfl, rfl⟩ := e2; exact hs e
    · exact h.done k hk y hy (by omega) e, h.same, h.diff⟩
theorem RevQ.drop {r : Rel} {n : Nat} {m : Nat → Nat} {f f' : Nat → Nat → Bool} {c : Bool} {p x : Nat} (h : RevQ r n m f f' c p x) (hp : p < r.vars.length) (hn : vN r p < n) (hx : x < m (vN r p)) (hf : f' (vN r p) x = true) (hs : ¬ supp f r p x) :
    RevQ r n m f (upd2 f' (vN r p) x false) true p (x + 1) := by
  have hle : ∀ v y, upd2 f' (vN r p) x false v y = true → f' v y = true ∧ ¬ (v = vN r p ∧ y = x) := fun v y e => by
    unfold upd2 at e
    by_cases e2 : v = vN r p ∧ y = x
    · rw [if_pos e2] at e; cases e
    · rw [if_neg e2] at e; exact ⟨e, e2⟩
  refine ⟨fun v y e => h.le v y (hle v y e).1, fun v y e1 e2 => ?_, fun k hk y hy hh e => ?_, fun e => absurd e (by simp), fun _ => ⟨vN r p, x, hn, hx, h.le _ _ hf, by simp [upd2]⟩⟩
  · by_cases e3 : v = vN r p ∧ y = x
    · obtain ⟨rfl, rfl⟩ := e3
      exact ⟨p, hp, rfl, hs⟩
    · unfold upd2 at e2
      rw [if_neg e3] at e2
      exact h.why v y e1 e2
  · obtain ⟨e1, e2⟩ := hle _ _ e
    by_cases e3 : k = p ∧ y = x
    · obtain ⟨rfl, rfl⟩ := e3; exact absurd ⟨rfl, rfl⟩ e2
    · exact h.done k hk y hy (by omega) e1
theorem RevQ.next {r : Rel} {n : Nat} {m : Nat → Nat} {f f' : Nat → Nat → Bool} {c : Bool} {p x : Nat} (h : RevQ r n m f f' c p x) (hx : m (vN r p) ≤ x) : RevQ r n m f f' c (p + 1) 0 :=
  ⟨h.le, h.why, fun k hk y hy hh e => h.done k hk y hy (by
    by_cases e2 : k = p
    · subst e2; exact .inr ⟨rfl, by omega⟩
    · exact .inl (by omega)) e, h.same, h.diff⟩
theorem RevQ.fin {r : Rel} {n : Nat} {m : Nat → Nat} {f f' : Nat → Nat → Bool} {c : Bool} {p x : Nat} (h : RevQ r n m f f' c p x) (hp : r.vars.length ≤ p) : RevP r n m f f' c :=
  ⟨h.le, h.why, fun k hk y hy e => h.done k hk y hy (.inl (by omega)) e, h.same, h.diff⟩
/-- the world of revise's last loop -/
structure RvAt (w wr : World) (base : Nat) (lv : Value) (bs : Nat → Nat) (n : Nat) (m : Nat → Nat) (vv av sv : Value) (sbs : Nat → Nat) (k : Nat) (m2 : Nat → Nat) (sp f : Nat → Nat → Bool) : Prop where
  near : Near (Tabs lv bs n) w wr
  box : wr.heap[w.heap.size]? = some (.cells #[vv, av] 46 (0, 0))
  sup : TabAt wr (w.heap.size + 1) sv sbs k m2 sp
  tab : TabAt wr base lv bs n m f
theorem RvAt.set {w wr : World} {base : Nat} {lv : Value} {bs : Nat → Nat} {n : Nat} {m : Nat → Nat} {vv av sv : Value} {sbs : Nat → Nat} {k : Nat} {m2 : Nat → Nat} {sp f : Nat → Nat → Bool} (h : RvAt w wr base lv bs n m vv av sv sbs k m2 sp f)
    (hlt : Under (Tabs lv bs n) w.heap.size) {i : Nat} (hi : i < n) (j : Nat) (b : Bool) : RvAt w (wr.setCell ⟨bs i, j, none⟩ (.bool b)) base lv bs n m vv av sv sbs k m2 sp (upd2 f i j b) := by
  have hon := (Only.refl (fun b => b = bs i) wr).setCell (b := bs i) rfl j (.bool b)
  have hb := hlt (bs i) (.inr ⟨i, hi, rfl⟩)
  exact ⟨h.near.trans (hon.near.wide fun q _ hq => .inr ⟨i, hi, hq.symm⟩), (hon.block _ (by omega)).trans h.box, h.sup.near hon.near (fun q hq e => by have := h.sup.base q e; omega), h.tab.set hi j b⟩
theorem RvAt.c0 {w wr : World} {base : Nat} {lv : Value} {bs : Nat → Nat} {n : Nat} {m : Nat → Nat} {vv av sv : Value} {sbs : Nat → Nat} {k : Nat} {m2 : Nat → Nat} {sp f : Nat → Nat → Bool} (h : RvAt w wr base lv bs n m vv av sv sbs k m2 sp f) : wr.cell? ⟨w.heap.size, 0, none⟩ = some vv := (cell_row' _ _ 0 _ _ h.box).trans rfl
theorem Near.kept {D P : Nat → Prop} {w wr : World} (h : Near D w wr) (hP : Under P w.heap.size) (hD : ∀ k, P k → ¬ D k) : Kept P w wr := fun k hk => h.block k (hP k hk) (hD k hk)
end Go.Proofs.Ytamidopeojipkaa
