/- Definitions and small laws for the walks of this seat: terms as they lie in memory. -/
import Derived.Test.YtdljffplooplcaaRows
import Derived.WalkKit
import Derived.WalkLawsBesides
import Derived.WalkSpells
import Derived.BigQuiet
import Derived.Deep.QuietTactic
import Derived.Lib.Hide
import Derived.Below
namespace Go.Proofs.Ytdljffplooplcaa
open Go.RowKit

/-- A term: a rule and its arguments. -/
inductive T where
  | node (rule : Int) (args : List T)
def T.rule : T → Int | .node r _ => r
def T.args : T → List T | .node _ ts => ts
instance : Inhabited T := ⟨.node 0 []⟩

mutual
def tsize : T → Nat
  | .node _ ts => 1 + lsize ts
def lsize : List T → Nat
  | [] => 0
  | t :: ts => tsize t + lsize ts
end
theorem tsize_eq (t : T) : tsize t = 1 + lsize t.args := by cases t; simp [tsize, T.args]
theorem lsize_append (xs ys : List T) : lsize (xs ++ ys) = lsize xs + lsize ys := by
  induction xs with
  | nil => simp [lsize]
  | cons x xs ih => simp only [List.cons_append, lsize, ih]; omega
theorem tsize_pos (t : T) : 1 ≤ tsize t := by rw [tsize_eq]; omega
theorem lsize_len (ts : List T) : ts.length ≤ lsize ts := by
  induction ts with
  | nil => simp [lsize]
  | cons x xs ih => simp only [List.length_cons, lsize]; have := tsize_pos x; omega
theorem lsize_take_succ (ts : List T) (k : Nat) (hk : k < ts.length) : lsize (ts.take (k + 1)) = lsize (ts.take k) + tsize (ts.getD k default) := by
  rw [List.take_succ_eq_append_getElem hk, lsize_append]
  simp [lsize, List.getD, hk]
theorem lsize_take_le (ts : List T) (k : Nat) : lsize (ts.take k) ≤ lsize ts := by
  have := lsize_append (ts.take k) (ts.drop k)
  rw [List.take_append_drop] at this
  omega
theorem tsize_getD (ts : List T) (k : Nat) (hk : k < ts.length) : tsize (ts.getD k default) ≤ lsize ts := by
  have h1 := lsize_take_succ ts k hk
  have h2 := lsize_take_le ts (k + 1)
  omega

/-- The slice value v reads as the terms ts, whose cells lie in blocks with P. -/
inductive ArgsAt (w : World) (P : Nat → Prop) : Value → List T → Prop
  | mk (a : Option Addr) (len cap : Nat) (ts : List T) (b off : Nat) (vs : Nat → Value) (hlen : ts.length = len) (hcap : len ≤ cap) (hmax : cap ≤ maxLen)
      (ha : 0 < len → a = some ⟨b, off, none⟩ ∧ P b)
      (hr : ∀ i, i < len → w.cell? ⟨b, off + i * 2, none⟩ = some (.int .i64 (ts.getD i default).rule))
      (hv : ∀ i, i < len → w.cell? ⟨b, off + i * 2 + 1, none⟩ = some (vs i))
      (hs : ∀ i, i < len → ArgsAt w P (vs i) (ts.getD i default).args) : ArgsAt w P (.slice a len cap) ts

/-- The blocks with P stand in w' as in w. -/
def Kept (P : Nat → Prop) (w w' : World) : Prop := ∀ k, P k → w'.heap[k]? = w.heap[k]?
theorem Kept.refl (P : Nat → Prop) (w : World) : Kept P w w := fun _ _ => rfl
theorem Kept.trans {P : Nat → Prop} {w w1 w2 : World} (h : Kept P w w1) (h2 : Kept P w1 w2) : Kept P w w2 := fun k h0 => (h2 k h0).trans (h k h0)
/-- The blocks with P lie below n. -/
def Under (P : Nat → Prop) (n : Nat) : Prop := ∀ k, P k → k < n
theorem Under.le {P : Nat → Prop} {n m : Nat} (h : Under P n) (hm : n ≤ m) : Under P m := fun k hk => Nat.lt_of_lt_of_le (h k hk) hm
theorem Below.keptB {P : Nat → Prop} {w w' : World} {B : Nat} (h : Below B w w') (hh : Under P B) : Kept P w w' := fun k h1 => h.block k (hh k h1)
theorem Kept.cell {P : Nat → Prop} {w w' : World} (h : Kept P w w') {p : Addr} (h0 : P p.block) : w'.cell? p = w.cell? p := World.cell?_of_block (w := w) (h p.block h0)

theorem ArgsAt.kept {w w' : World} {P : Nat → Prop} {v : Value} {ts : List T} (h : ArgsAt w P v ts) (hk : Kept P w w') : ArgsAt w' P v ts := by
  induction h with
  | mk a len cap ts b off vs hlen hcap hmax ha hr hv hs ih =>
    refine .mk a len cap ts b off vs hlen hcap hmax ha ?_ ?_ ih
    · intro i hi'
      exact (hk.cell (ha (by omega)).2).trans (hr i hi')
    · intro i hi'
      exact (hk.cell (ha (by omega)).2).trans (hv i hi')
theorem ArgsAt.wide {w : World} {P P' : Nat → Prop} {v : Value} {ts : List T} (h : ArgsAt w P v ts) (hp : ∀ k, P k → P' k) : ArgsAt w P' v ts := by
  induction h with
  | mk a len cap ts b off vs hlen hcap hmax ha hr hv hs ih =>
    exact .mk a len cap ts b off vs hlen hcap hmax (fun h => ⟨(ha h).1, hp _ (ha h).2⟩) hr hv ih
theorem ArgsAt.nil (w : World) (P : Nat → Prop) : ArgsAt w P (.slice none 0 0) [] :=
  .mk none 0 0 [] 0 0 (fun _ => undef) rfl (Nat.le_refl _) (by unfold maxLen; omega) (fun h => by omega) (fun i h => by omega) (fun i h => by omega) (fun i h => by omega)

/-- What a call that hands back one number comes to. -/
def OneI (n : Int) (w : World) (e : Ending) (w' : World) : Prop := e = .returned (.int .i64 n) ∧ Below w.heap.size w w'
def OneB (b : Bool) (w : World) (e : Ending) (w' : World) : Prop := e = .returned (.bool b) ∧ Below w.heap.size w w'
theorem Below.next {w w1 w2 : World} (h : Below w.heap.size w w1) (h2 : Below w1.heap.size w1 w2) : Below w.heap.size w w2 := h.trans (h2.mono h.size)
end Go.Proofs.Ytdljffplooplcaa
