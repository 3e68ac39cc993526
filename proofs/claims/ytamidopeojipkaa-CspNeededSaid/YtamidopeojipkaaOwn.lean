/- What turns and what stays: the blocks that an operation writes. -/
import Derived.Test.YtamidopeojipkaaSet
namespace Go.Proofs.Ytamidopeojipkaa
open Go.RowKit
set_option linter.unusedVariables false

theorem cell_row' (w : World) (g j : Nat) (cs : Array Value) (t : TypeId) (hg : w.heap[g]? = some (.cells cs t (0, 0))) : w.cell? ⟨g, j, none⟩ = cs[j]? := cell_of_row w g j _ _ _ hg
theorem frozen_row' (w : World) (g j : Nat) (cs : Array Value) (t : TypeId) (hg : w.heap[g]? = some (.cells cs t (0, 0))) : w.frozen? ⟨g, j, none⟩ = false := by
  simp [World.frozen?, hg]
theorem setCell_row {w : World} {g : Nat} {cur : Array Value} {t : TypeId} {fr : Nat × Nat} (i : Nat) (u : Value) (hg : w.heap[g]? = some (.cells cur t fr)) : (w.setCell ⟨g, i, none⟩ u).heap[g]? = some (.cells (cur.setIfInBounds i u) t fr) := by
  rw [setCell_eq_setRow w g i cur t fr u hg]
  exact setRow_heap w g cur _ t fr hg
theorem heap_setCell_size (w : World) (p : Addr) (u : Value) : (w.setCell p u).heap.size = w.heap.size := by
  simp

/-- None but the blocks with D have turned, none is new. -/
structure Only (D : Nat → Prop) (w w' : World) : Prop where
  os : w'.os = w.os
  tape : w'.tape = w.tape
  output : w'.output = w.output
  size : w'.heap.size = w.heap.size
  block : ∀ k, ¬ D k → w'.heap[k]? = w.heap[k]?
theorem Only.refl (D : Nat → Prop) (w : World) : Only D w w := ⟨rfl, rfl, rfl, rfl, fun _ _ => rfl⟩
theorem Only.trans {D : Nat → Prop} {w w1 w2 : World} (h : Only D w w1) (h2 : Only D w1 w2) : Only D w w2 :=
  ⟨h2.os.trans h.os, h2.tape.trans h.tape, h2.output.trans h.output, h2.size.trans h.size, fun k hk => (h2.block k hk).trans (h.block k hk)⟩
theorem Only.wide {D E : Nat → Prop} {w w1 : World} (h : Only D w w1) (he : ∀ k, D k → E k) : Only E w w1 :=
  ⟨h.os, h.tape, h.output, h.size, fun k hk => h.block k fun hd => hk (he k hd)⟩
theorem Only.setCell {D : Nat → Prop} {w w1 : World} (h : Only D w w1) {b : Nat} (hb : D b) (i : Nat) (u : Value) : Only D w (w1.setCell ⟨b, i, none⟩ u) :=
  ⟨h.os, h.tape, h.output, by rw [heap_setCell_size]; exact h.size, fun k hk => (Below.heap_setCell _ _ _ _ (fun e => hk (by rw [e]; exact hb))).trans (h.block k hk)⟩
theorem Only.drew {D : Nat → Prop} {w w1 : World} (h : Only D w w1) : Only D w w1.drew := ⟨h.os, h.tape, h.output, h.size, h.block⟩
theorem Only.drewN {D : Nat → Prop} {w w1 : World} (h : Only D w w1) (n : Nat) : Only D w (w1.drewN n) := ⟨h.os, h.tape, h.output, h.size, h.block⟩
theorem Only.of_grown {w w' : World} {b : Nat} (h : w.grownBy w' (some b)) (hs : w'.heap.size = w.heap.size) : Only (fun k => k = b) w w' :=
  ⟨h.os, h.tape, h.output, hs, fun k hk => by
    by_cases hlt : k < w.heap.size
    · exact h.block k hlt (fun e => hk (Option.some.inj e))
    · rw [Array.getElem?_eq_none (by omega), Array.getElem?_eq_none (by omega)]⟩
/-- Of the blocks that were there, none but those with D has turned. -/
structure Near (D : Nat → Prop) (w w' : World) : Prop where
  os : w'.os = w.os
  tape : w'.tape = w.tape
  output : w'.output = w.output
  size : w.heap.size ≤ w'.heap.size
  block : ∀ k, k < w.heap.size → ¬ D k → w'.heap[k]? = w.heap[k]?
theorem Only.near {D : Nat → Prop} {w w' : World} (h : Only D w w') : Near D w w' := ⟨h.os, h.tape, h.output, Nat.le_of_eq h.size.symm, fun k _ hk => h.block k hk⟩
theorem Below.near {D : Nat → Prop} {w w' : World} (h : Below w.heap.size w w') : Near D w w' := ⟨h.os, h.tape, h.output, h.size, fun k hk _ => h.block k hk⟩
theorem Near.refl (D : Nat → Prop) (w : World) : Near D w w := ⟨rfl, rfl, rfl, Nat.le_refl _, fun _ _ _ => rfl⟩
theorem Near.trans {D : Nat → Prop} {w w1 w2 : World} (h : Near D w w1) (h2 : Near D w1 w2) : Near D w w2 :=
  ⟨h2.os.trans h.os, h2.tape.trans h.tape, h2.output.trans h.output, Nat.le_trans h.size h2.size, fun k hk hd => (h2.block k (Nat.lt_of_lt_of_le hk h.size) hd).trans (h.block k hk hd)⟩
theorem Near.wide {D E : Nat → Prop} {w w1 : World} (h : Near D w w1) (he : ∀ k, k < w.heap.size → D k → E k) : Near E w w1 :=
  ⟨h.os, h.tape, h.output, h.size, fun k hk hd => h.block k hk fun d => hd (he k hk d)⟩
theorem Near.below {D : Nat → Prop} {w w1 : World} (h : Near D w w1) (hd : ∀ k, D k → w.heap.size ≤ k) : Below w.heap.size w w1 :=
  ⟨h.os, h.tape, h.output, h.size, fun k hk => h.block k hk fun d => by have := hd k d; omega⟩
theorem Near.trans' {D E : Nat → Prop} {w w1 w2 : World} (h : Near D w w1) (h2 : Near E w1 w2) (he : ∀ k, k < w.heap.size → E k → D k) : Near D w w2 :=
  ⟨h2.os.trans h.os, h2.tape.trans h.tape, h2.output.trans h.output, Nat.le_trans h.size h2.size, fun k hk hd => (h2.block k (Nat.lt_of_lt_of_le hk h.size) fun e => hd (he k hk e)).trans (h.block k hk hd)⟩
/-- a step that turns new blocks alone -/
theorem Below.step {w W W' : World} {D : Nat → Prop} (h : Below w.heap.size w W) (ho : Near D W W') (hd : ∀ k, D k → w.heap.size ≤ k) : Below w.heap.size w W' :=
  h.trans ((show Below w.heap.size W W' from ⟨ho.os, ho.tape, ho.output, ho.size, fun k hk => ho.block k (Nat.lt_of_lt_of_le hk h.size) fun e => by have := hd k e; omega⟩))
end Go.Proofs.Ytamidopeojipkaa
