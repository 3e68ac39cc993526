/- Check: what it says. -/
import Derived.Test.YtamidopeojipkaaRelP
namespace Go.Proofs.Ytamidopeojipkaa
open Go.RowKit
set_option linter.unusedVariables false

/-- the first error of relations -/
def firstE (sizes : List Int) : List Rel → Int
  | [] => 0
  | r :: rs => if relE sizes r ≠ 0 then relE sizes r else firstE sizes rs
/-- the error of a problem -/
def checkE (p : Prob) : Int :=
  if 16 < p.sizes.length then 2
  else if ∃ k, k < p.sizes.length ∧ (p.sizes.getD k 0 < 1 ∨ 64 < p.sizes.getD k 0) then 1
  else if 96 < p.rels.length then 2
  else firstE p.sizes p.rels
theorem first_at (sizes : List Int) : ∀ {rs : List Rel} {k : Nat}, k < rs.length → (∀ i, i < k → relE sizes (rs.getD i default) = 0) →
    firstE sizes rs = if relE sizes (rs.getD k default) ≠ 0 then relE sizes (rs.getD k default) else firstE sizes (rs.drop (k + 1))
  | [], k, hk, _ => by simp at hk
  | r :: rs, 0, _, _ => rfl
  | r :: rs, k + 1, hk, h => by
    have h0 : relE sizes r = 0 := h 0 (by omega)
    have := first_at sizes (rs := rs) (k := k) (by simpa using hk) (fun i hi => h (i + 1) (by omega))
    rw [show firstE sizes (r :: rs) = if relE sizes r ≠ 0 then relE sizes r else firstE sizes rs from rfl, if_neg (by rw [h0]; simp), this]
    rfl
theorem first_end (sizes : List Int) : ∀ {rs : List Rel}, (∀ i, i < rs.length → relE sizes (rs.getD i default) = 0) → firstE sizes rs = 0
  | [], _ => rfl
  | r :: rs, h => by
    have h0 : relE sizes r = 0 := h 0 (by simp)
    rw [show firstE sizes (r :: rs) = if relE sizes r ≠ 0 then relE sizes r else firstE sizes rs from rfl, if_neg (by rw [h0]; simp), first_end sizes (fun i hi => h (i + 1) (by simpa using hi))]
/-- A row of two cells stored whole: the world behind it is a letter. -/
theorem wpList_store_46 {ops : Array Oper} {rest : List Oper} {o : Oper} {a : Act} {w : World} {Q : Exit → Act → World → Prop} (hgd : o.guard = none) (x y : Operand) (ho : o.op = .store 46 x y)
    (B : Nat) (x0 x1 : Value) (hx : a.eval x = .pointer (some ⟨B, 0, none⟩)) (hy : a.eval y = .agg #[x0, x1]) {u0 u1 : Value}
    (hg : w.heap[B]? = some (.cells #[u0, u1] 46 (0, 0))) (h1 : (#[x0, x1] : Array Value).all (·.oneCell') = true)
    (h : ∀ w', w'.heap[B]? = some (.cells #[x0, x1] 46 (0, 0)) → Only (fun k => k = B) w w' → wpList Try.prog ops Q rest (a.put o.dst undef) w') : wpList Try.prog ops Q (o :: rest) a w := by
  refine wpList_store_row hgd 46 x y ho B #[x0, x1] hx hy 46 _ hg (by kernel_rfl) rfl h1 (h _ ?_ ⟨rfl, rfl, rfl, by simp, fun k hk => setRow_other w B k _ (fun e => hk e)⟩)
  exact setRow_heap w B _ _ 46 _ hg
/-- the box of a problem -/
structure PxAt (w : World) (s r : Value) (W : World) : Prop where
  bel : Below w.heap.size w W
  r0 : W.heap[w.heap.size]? = some (.cells #[s, r] 25 (0, 0))
theorem PxAt.near {w W W' : World} {v a : Value} {D : Nat → Prop} (h : PxAt w v a W) (hb : Near D W W') (hd : ∀ k, D k → w.heap.size < k) : PxAt w v a W' :=
  ⟨Below.step h.bel hb fun k hk => by have := hd k hk; omega, (hb.block _ (Array.getElem?_eq_some_iff.1 h.r0).1 fun e => by have := hd _ e; omega).trans h.r0⟩
theorem PxAt.next {w W W' : World} {v a : Value} (h : PxAt w v a W) (hb : Below W.heap.size W W') : PxAt w v a W' := h.near (D := fun _ => False) (Below.near hb) (fun k hk => hk.elim)
theorem PxAt.s {w W : World} {v a : Value} (h : PxAt w v a W) : W.cell? ⟨w.heap.size, 0, none⟩ = some v := (cell_row' _ _ 0 _ _ h.r0).trans rfl
theorem PxAt.r {w W : World} {v a : Value} (h : PxAt w v a W) : W.cell? ⟨w.heap.size, 1, none⟩ = some a := (cell_row' _ _ 1 _ _ h.r0).trans rfl
theorem PxAt.lt {w W : World} {v a : Value} (h : PxAt w v a W) : w.heap.size < W.heap.size := (Array.getElem?_eq_some_iff.1 h.r0).1
end Go.Proofs.Ytamidopeojipkaa
