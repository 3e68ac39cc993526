/- Slices laid by the program's own literals. -/
import Derived.Test.YtamidopeojipkaaAliveP
namespace Go.Proofs.Ytamidopeojipkaa
open Go.RowKit
set_option linter.unusedVariables false

/-- objects laid one after another -/
def laid (w : World) (os : List Obj) : World := os.foldl World.alloc w
theorem laid_heap : ∀ (os : List Obj) (w : World), (laid w os).heap = w.heap ++ os.toArray
  | [], w => by simp [laid]
  | o :: os, w => by
    show (laid (w.alloc o) os).heap = _
    rw [laid_heap os (w.alloc o)]
    show w.heap.push o ++ os.toArray = _
    simp
theorem laid_size (w : World) (os : List Obj) : (laid w os).heap.size = w.heap.size + os.length := by rw [laid_heap]; simp
theorem laid_at (w : World) (os : List Obj) (i : Nat) : (laid w os).heap[w.heap.size + i]? = os[i]? := by
  rw [laid_heap]; simp [Array.getElem?_append]; intro e; omega
theorem laid_below : ∀ (os : List Obj) (w : World) (B : Nat), B ≤ w.heap.size → Below B w (laid w os)
  | [], w, B, h => Below.refl _ _
  | o :: os, w, B, h => ((Below.refl B w).alloc h o).trans (laid_below os (w.alloc o) B (by rw [World.size_alloc]; omega))

theorem ints_lit {W : World} {b : Nat} {xs : List Int} {P : Nat → Prop} (h : W.heap[b]? = some (.cells (xs.map (Value.int .i64)).toArray 3 (0, 0))) (hp : P b) (hl : xs.length ≤ 1000) : IntsAt W P (.slice (some ⟨b, 0, none⟩) xs.length xs.length) xs := by
  refine ⟨_, _, b, 0, rfl, Nat.le_refl _, by unfold maxLen; omega, fun _ => ⟨rfl, hp⟩, fun j hj => ?_⟩
  rw [cell_row' _ _ _ _ _ h, Nat.zero_add]
  simp [List.getD, show j < xs.length by omega]
theorem lists_lit {W : World} {b : Nat} {vs : List Value} {xss : List (List Int)} {P : Nat → Prop} (h : W.heap[b]? = some (.cells vs.toArray 22 (0, 0))) (hp : P b) (hv : vs.length = xss.length) (hl : xss.length ≤ 1000) (hs : ∀ i, i < xss.length → IntsAt W P (vs.getD i undef) (xss.getD i [])) : ListsAt W P (.slice (some ⟨b, 0, none⟩) xss.length xss.length) xss := by
  refine ⟨_, _, b, 0, fun i => vs.getD i undef, rfl, ⟨Nat.le_refl _, by unfold maxLen; omega, fun _ => ⟨rfl, hp⟩, fun j hj => ?_⟩, hs⟩
  rw [cell_row' _ _ _ _ _ h, Nat.zero_add]
  simp [List.getD, show j < vs.length by omega]
theorem rels_lit {W : World} {b base : Nat} {us : List (Value × Value)} {rs : List Rel} {P : Nat → Prop} (h : W.heap[b]? = some (.cells (rowR us).toArray 46 (0, 0))) (hb : base ≤ b) (hv : us.length = rs.length) (hl : rs.length ≤ 1000)
    (hs : ∀ i, i < rs.length → IntsAt W P (us.getD i default).1 (rs.getD i default).vars ∧ ListsAt W P (us.getD i default).2 (rs.getD i default).allowed) : OwnR W base P (.slice (some ⟨b, 0, none⟩) rs.length rs.length) rs := by
  have hlen : ∀ us : List (Value × Value), (rowR us).length = us.length * 2 := fun us => by
    induction us with
    | nil => rfl
    | cons u us ih => simp only [rowR, List.length_cons]; omega
  have h2 := hlen us
  exact ⟨us, hv, ⟨by rw [h2, hv], .inr ⟨b, _, _, rfl, hb, h, Nat.le_refl _, by unfold maxLen; omega, by simp [h2, hv], by rw [← hv, ← h2]; simp⟩⟩, hs⟩

/-- the first problem of alive, on its way -/
structure AlA (w W : World) (P : Nat → Prop) (rv : Value) (rs : List Rel) : Prop where
  bel : Below w.heap.size w W
  box : W.heap[w.heap.size + 6]? = some (.cells #[.slice (some ⟨w.heap.size, 0, none⟩) 2 2, rv] 25 (0, 0))
  siz : IntsAt W P (.slice (some ⟨w.heap.size, 0, none⟩) 2 2) [2, 2]
  own : OwnR W w.heap.size P rv rs
  hp : ∀ k, P k → w.heap.size ≤ k ∧ k < W.heap.size ∧ k ≠ w.heap.size + 6 ∧ rv.ownBlock ≠ some k
  hr : rv.ownBlock ≠ some (w.heap.size + 6)
theorem AlA.lt {w W : World} {P : Nat → Prop} {rv : Value} {rs : List Rel} (h : AlA w W P rv rs) : w.heap.size + 6 < W.heap.size := (Array.getElem?_eq_some_iff.1 h.box).1
theorem AlA.under {w W : World} {P : Nat → Prop} {rv : Value} {rs : List Rel} (h : AlA w W P rv rs) : Under P W.heap.size := fun k hk => (h.hp k hk).2.1
theorem AlA.next {w W W' : World} {P : Nat → Prop} {rv : Value} {rs : List Rel} (h : AlA w W P rv rs) (hb : Below W.heap.size W W') : AlA w W' P rv rs :=
  ⟨Below.next h.bel hb, (hb.block _ h.lt).trans h.box, h.siz.kept (Below.keptB hb h.under), h.own.below h.under hb, fun k hk => ⟨(h.hp k hk).1, Nat.lt_of_lt_of_le (h.hp k hk).2.1 hb.size, (h.hp k hk).2.2⟩, h.hr⟩
theorem AlA.s {w W : World} {P : Nat → Prop} {rv : Value} {rs : List Rel} (h : AlA w W P rv rs) : W.cell? ⟨w.heap.size + 6, 0, none⟩ = some (.slice (some ⟨w.heap.size, 0, none⟩) 2 2) := (cell_row' _ _ 0 _ _ h.box).trans rfl
theorem AlA.r {w W : World} {P : Nat → Prop} {rv : Value} {rs : List Rel} (h : AlA w W P rv rs) : W.cell? ⟨w.heap.size + 6, 1, none⟩ = some rv := (cell_row' _ _ 1 _ _ h.box).trans rfl
theorem AlA.u {w W : World} {P : Nat → Prop} {rv : Value} {rs : List Rel} (h : AlA w W P rv rs) : Under (fun k => P k ∨ rv.ownBlock = some k) W.heap.size := h.own.under h.under
theorem AlA.sz {w W : World} {P : Nat → Prop} {rv : Value} {rs : List Rel} (h : AlA w W P rv rs) : IntsAt W (fun k => P k ∨ rv.ownBlock = some k) (.slice (some ⟨w.heap.size, 0, none⟩) 2 2) [2, 2] := h.siz.wide fun k hk => .inl hk

/-- the objects of the first problem -/
def objA (h : Nat) : List Obj := [.cells #[.int .i64 2, .int .i64 2] 3, .cells #[.int .i64 0, .int .i64 1] 3, .cells #[.int .i64 0, .int .i64 1] 3, .cells #[.int .i64 1, .int .i64 0] 3,
  .cells #[.slice (some ⟨h + 2, 0, none⟩) 2 2, .slice (some ⟨h + 3, 0, none⟩) 2 2] 22, .cells #[.slice (some ⟨h + 1, 0, none⟩) 2 2, .slice (some ⟨h + 4, 0, none⟩) 2 2] 46,
  .cells #[.slice (some ⟨h, 0, none⟩) 2 2, .slice (some ⟨h + 5, 0, none⟩) 1 1] 25]
theorem AlA.start (w : World) : AlA w (laid w (objA w.heap.size)) (fun k => w.heap.size ≤ k ∧ k < w.heap.size + 5) (.slice (some ⟨w.heap.size + 5, 0, none⟩) 1 1) [relA] := by
  have hat := laid_at w (objA w.heap.size)
  refine ⟨laid_below _ _ _ (Nat.le_refl _), hat 6, ints_lit (xs := [2, 2]) (hat 0) ⟨by omega, by omega⟩ (by decide), ?_, fun k hk => ⟨hk.1, ?_, by omega, ?_⟩, ?_⟩
  · refine rels_lit (us := [(.slice (some ⟨w.heap.size + 1, 0, none⟩) 2 2, .slice (some ⟨w.heap.size + 4, 0, none⟩) 2 2)]) (rs := [relA]) (hat 5) (by omega) rfl (by decide) fun i hi => ?_
    have hi' : i < 1 := hi
    match i, hi' with
    | 0, _ =>
      refine ⟨ints_lit (xs := [0, 1]) (hat 1) ⟨by omega, by omega⟩ (by decide), lists_lit (vs := [.slice (some ⟨w.heap.size + 2, 0, none⟩) 2 2, .slice (some ⟨w.heap.size + 3, 0, none⟩) 2 2]) (xss := [[0, 1], [1, 0]]) (hat 4) ⟨by omega, by omega⟩ rfl (by decide) fun j hj => ?_⟩
      have hj' : j < 2 := hj
      match j, hj' with
      | 0, _ => exact ints_lit (xs := [0, 1]) (hat 2) ⟨by omega, by omega⟩ (by decide)
      | 1, _ => exact ints_lit (xs := [1, 0]) (hat 3) ⟨by omega, by omega⟩ (by decide)
  · rw [laid_size]; simp [objA]; omega
  · intro e
    have : w.heap.size + 5 = k := by simpa [Value.ownBlock] using e
    omega
  · intro e
    simp [Value.ownBlock] at e
/-- the objects of the relation that is put behind -/
def objB (h : Nat) : List Obj := [.cells #[.int .i64 1] 3, .cells #[.int .i64 0] 3, .cells #[.slice (some ⟨h + 1, 0, none⟩) 1 1] 22]
theorem AlA.more {w W : World} {P : Nat → Prop} {rv : Value} {rs : List Rel} (h : AlA w W P rv rs) : AlA w (laid W (objB W.heap.size)) (fun k => P k ∨ (W.heap.size ≤ k ∧ k < W.heap.size + 3)) rv rs ∧
    IntsAt (laid W (objB W.heap.size)) (fun k => P k ∨ (W.heap.size ≤ k ∧ k < W.heap.size + 3)) (.slice (some ⟨W.heap.size, 0, none⟩) 1 1) relB.vars ∧ ListsAt (laid W (objB W.heap.size)) (fun k => P k ∨ (W.heap.size ≤ k ∧ k < W.heap.size + 3)) (.slice (some ⟨W.heap.size + 2, 0, none⟩) 1 1) relB.allowed := by
  have hat := laid_at W (objB W.heap.size)
  have h2 := h.next (laid_below (objB W.heap.size) W _ (Nat.le_refl _))
  have hl := h.lt
  have hsz := laid_size W (objB W.heap.size)
  refine ⟨⟨h2.bel, h2.box, h2.siz.wide fun k hk => .inl hk, ?_, fun k hk => ?_, h2.hr⟩, ints_lit (xs := [1]) (hat 0) (.inr ⟨by omega, by omega⟩) (by decide), lists_lit (vs := [.slice (some ⟨W.heap.size + 1, 0, none⟩) 1 1]) (xss := [[0]]) (hat 2) (.inr ⟨by omega, by omega⟩) rfl (by decide) fun j hj => ?_⟩
  · obtain ⟨us, a1, a2, a3⟩ := h2.own
    exact ⟨us, a1, a2, fun i hi => ⟨(a3 i hi).1.wide fun k hk => .inl hk, (a3 i hi).2.wide fun k hk => .inl hk⟩⟩
  · rcases hk with hk | hk
    · exact h2.hp k hk
    · refine ⟨by omega, by rw [hsz]; simp [objB]; omega, by omega, fun e => ?_⟩
      have := (h.own.lt e).2
      omega
  · have hj' : j < 1 := hj
    match j, hj' with
    | 0, _ => exact ints_lit (xs := [0]) (hat 1) (.inr ⟨by omega, by omega⟩) (by decide)
theorem AlA.push {w W W' : World} {P : Nat → Prop} {rv rv' : Value} {rs rs' : List Rel} (h : AlA w W P rv rs) (hg : W.grownBy W' rv.ownBlock) (ho : OwnR W' w.heap.size P rv' rs') (hat : ∀ k, rv'.ownBlock = some k → rv.ownBlock = some k ∨ W.heap.size ≤ k) :
    AlA w (W'.setCell ⟨w.heap.size + 6, 1, none⟩ rv') P rv' rs' := by
  have hl := h.lt
  have hold : ∀ k, k < W.heap.size → rv.ownBlock ≠ some k → W'.heap[k]? = W.heap[k]? := fun k hk he => hg.block k hk fun e => he e.symm
  have hne : ∀ k, k ≠ w.heap.size + 6 → (W'.setCell ⟨w.heap.size + 6, 1, none⟩ rv').heap[k]? = W'.heap[k]? := fun k hk => Below.heap_setCell _ _ _ _ hk
  have hrow := (hold _ hl h.hr).trans h.box
  have hpk : Kept P W (W'.setCell ⟨w.heap.size + 6, 1, none⟩ rv') := fun k hk => (hne k (h.hp k hk).2.2.1).trans (hold k (h.hp k hk).2.1 (h.hp k hk).2.2.2)
  have hr' : rv'.ownBlock ≠ some (w.heap.size + 6) := fun e => by
    rcases hat _ e with e2 | e2
    · exact h.hr e2
    · omega
  refine ⟨(below_row h.bel hg (fun k hk => (h.own.lt hk).1) h.bel.size).setCell (show w.heap.size ≤ (⟨w.heap.size + 6, 1, none⟩ : Addr).block from by show w.heap.size ≤ w.heap.size + 6; omega) _, (setCell_row 1 _ hrow).trans rfl, h.siz.kept hpk,
    ho.kept (fun k hk => hne k (h.hp k hk).2.2.1) (fun k hk => hne k fun e => hr' (by rw [← e]; exact hk)), fun k hk => ⟨(h.hp k hk).1, ?_, (h.hp k hk).2.2.1, fun e => ?_⟩, hr'⟩
  · have := (h.hp k hk).2.1
    have := hg.size
    rw [heap_setCell_size]; omega
  · rcases hat k e with e2 | e2
    · exact (h.hp k hk).2.2.2 e2
    · have := (h.hp k hk).2.1; omega
/-- the objects of the second problem -/
def objC (h : Nat) : List Obj := [.cells #[.int .i64 2] 3, .cells #[.int .i64 0] 3, .cells #[.int .i64 0] 3, .cells #[.slice (some ⟨h + 2, 0, none⟩) 1 1] 22,
  .cells #[.int .i64 0] 3, .cells #[.int .i64 0] 3, .cells #[.int .i64 1] 3, .cells #[.slice (some ⟨h + 5, 0, none⟩) 1 1, .slice (some ⟨h + 6, 0, none⟩) 1 1] 22,
  .cells #[.int .i64 0] 3, .cells #[.int .i64 1] 3, .cells #[.slice (some ⟨h + 9, 0, none⟩) 1 1] 22,
  .cells #[.slice (some ⟨h + 1, 0, none⟩) 1 1, .slice (some ⟨h + 3, 0, none⟩) 1 1, .slice (some ⟨h + 4, 0, none⟩) 1 1, .slice (some ⟨h + 7, 0, none⟩) 2 2, .slice (some ⟨h + 8, 0, none⟩) 1 1, .slice (some ⟨h + 10, 0, none⟩) 1 1] 46,
  .cells #[.slice (some ⟨h, 0, none⟩) 1 1, .slice (some ⟨h + 11, 0, none⟩) 3 3] 25]
theorem objC_ok (W : World) : IntsAt (laid W (objC W.heap.size)) (Here (laid W (objC W.heap.size))) (.slice (some ⟨W.heap.size, 0, none⟩) 1 1) prC.sizes ∧ RelsAt (laid W (objC W.heap.size)) (Here (laid W (objC W.heap.size))) (.slice (some ⟨W.heap.size + 11, 0, none⟩) 3 3) prC.rels := by
  have hat := laid_at W (objC W.heap.size)
  have hsz := laid_size W (objC W.heap.size)
  have hin : ∀ i, i < 13 → Here (laid W (objC W.heap.size)) (W.heap.size + i) := fun i hi => by unfold Here; rw [hsz]; simp [objC]; omega
  refine ⟨ints_lit (xs := [2]) (hat 0) (hin 0 (by omega)) (by decide), ?_⟩
  have hown : OwnR (laid W (objC W.heap.size)) 0 (Here (laid W (objC W.heap.size))) (.slice (some ⟨W.heap.size + 11, 0, none⟩) 3 3) prC.rels := by
    refine rels_lit (us := [(.slice (some ⟨W.heap.size + 1, 0, none⟩) 1 1, .slice (some ⟨W.heap.size + 3, 0, none⟩) 1 1), (.slice (some ⟨W.heap.size + 4, 0, none⟩) 1 1, .slice (some ⟨W.heap.size + 7, 0, none⟩) 2 2), (.slice (some ⟨W.heap.size + 8, 0, none⟩) 1 1, .slice (some ⟨W.heap.size + 10, 0, none⟩) 1 1)]) (rs := prC.rels) (hat 11) (by omega) rfl (by decide) fun i hi => ?_
    have hi' : i < 3 := hi
    match i, hi' with
    | 0, _ =>
      refine ⟨ints_lit (xs := [0]) (hat 1) (hin 1 (by omega)) (by decide), lists_lit (vs := [.slice (some ⟨W.heap.size + 2, 0, none⟩) 1 1]) (xss := [[0]]) (hat 3) (hin 3 (by omega)) rfl (by decide) fun j hj => ?_⟩
      have hj' : j < 1 := hj
      match j, hj' with
      | 0, _ => exact ints_lit (xs := [0]) (hat 2) (hin 2 (by omega)) (by decide)
    | 1, _ =>
      refine ⟨ints_lit (xs := [0]) (hat 4) (hin 4 (by omega)) (by decide), lists_lit (vs := [.slice (some ⟨W.heap.size + 5, 0, none⟩) 1 1, .slice (some ⟨W.heap.size + 6, 0, none⟩) 1 1]) (xss := [[0], [1]]) (hat 7) (hin 7 (by omega)) rfl (by decide) fun j hj => ?_⟩
      have hj' : j < 2 := hj
      match j, hj' with
      | 0, _ => exact ints_lit (xs := [0]) (hat 5) (hin 5 (by omega)) (by decide)
      | 1, _ => exact ints_lit (xs := [1]) (hat 6) (hin 6 (by omega)) (by decide)
    | 2, _ =>
      refine ⟨ints_lit (xs := [0]) (hat 8) (hin 8 (by omega)) (by decide), lists_lit (vs := [.slice (some ⟨W.heap.size + 9, 0, none⟩) 1 1]) (xss := [[1]]) (hat 10) (hin 10 (by omega)) rfl (by decide) fun j hj => ?_⟩
      have hj' : j < 1 := hj
      match j, hj' with
      | 0, _ => exact ints_lit (xs := [1]) (hat 9) (hin 9 (by omega)) (by decide)
  refine hown.rels.wide fun k hk => ?_
  rcases hk with hk | hk
  · exact hk
  · have : W.heap.size + 11 = k := by simpa [Value.ownBlock] using hk
    rw [← this]; exact hin 11 (by omega)
theorem rels_nil (W : World) (P : Nat → Prop) : RelsAt W P (.slice none 0 0) [] := (OwnR.nil W 0 (fun _ => False)).rels.wide fun k hk => by
  rcases hk with hk | hk
  · exact hk.elim
  · cases hk
end Go.Proofs.Ytamidopeojipkaa
