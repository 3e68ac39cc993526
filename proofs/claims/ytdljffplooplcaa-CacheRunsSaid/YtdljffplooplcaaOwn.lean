/- Slices of terms that a call has made. -/
import Derived.Test.YtdljffplooplcaaSize
import Derived.Maps.AppendAt
namespace Go.Proofs.Ytdljffplooplcaa
open Go.RowKit
set_option linter.unusedVariables false

def rowT : List T → List Value → List Value
  | t :: ts, v :: vs => .int .i64 t.rule :: v :: rowT ts vs
  | _, _ => []
theorem rowT_len : ∀ (ts : List T) (vs : List Value), vs.length = ts.length → (rowT ts vs).length = ts.length * 2
  | [], [], _ => rfl
  | t :: ts, v :: vs, h => by simp only [rowT, List.length_cons] at h ⊢; rw [rowT_len ts vs (by omega)]; omega
  | [], v :: vs, h => by simp at h
  | t :: ts, [], h => by simp at h
theorem rowT_append : ∀ (ts : List T) (vs : List Value), vs.length = ts.length → ∀ (u : T) (uv : Value), rowT (ts ++ [u]) (vs ++ [uv]) = rowT ts vs ++ [.int .i64 u.rule, uv]
  | [], [], _, u, uv => rfl
  | t :: ts, v :: vs, h, u, uv => by simp only [List.cons_append, rowT]; rw [rowT_append ts vs (by simpa using h)]
  | [], v :: vs, h, _, _ => by simp at h
  | t :: ts, [], h, _, _ => by simp at h
theorem rowT_at : ∀ (ts : List T) (vs : List Value), vs.length = ts.length → ∀ i, i < ts.length → (rowT ts vs)[i * 2]? = some (.int .i64 (ts.getD i default).rule) ∧ (rowT ts vs)[i * 2 + 1]? = some (vs.getD i undef)
  | [], [], _, i, hi => by simp at hi
  | t :: ts, v :: vs, h, 0, hi => by simp [rowT]
  | t :: ts, v :: vs, h, i + 1, hi => by
    have := rowT_at ts vs (by simpa using h) i (by simpa using hi)
    simp only [rowT, List.getD_cons_succ, show (i + 1) * 2 = i * 2 + 1 + 1 from by omega, List.getElem?_cons_succ]
    exact this
  | [], v :: vs, h, _, _ => by simp at h
  | t :: ts, [], h, _, _ => by simp at h

/-- The slice value v, made in a block from base on, holds the terms ts; their cells lie in blocks of the call's own, too, other ones. -/
def OwnT (w : World) (base : Nat) (v : Value) (ts : List T) : Prop :=
  ∃ (vs : List Value) (Q : Nat → Prop), vs.length = ts.length ∧ w.ownsRow base 36 2 v ts.length (rowT ts vs) ∧ (∀ i, i < ts.length → ArgsAt w Q (vs.getD i undef) (ts.getD i default).args) ∧
    ∀ k, Q k → base ≤ k ∧ k < w.heap.size ∧ v.ownBlock ≠ some k

theorem OwnT.nil (w : World) (base : Nat) : OwnT w base (.slice none 0 0) [] :=
  ⟨[], fun _ => False, rfl, World.ownsRow_nil _ _ _ _, fun i hi => by simp at hi, fun _ h => h.elim⟩

/-- blocks from lo to below hi -/
def Span (lo hi : Nat) : Nat → Prop := fun k => lo ≤ k ∧ k < hi
theorem Span.under (lo hi : Nat) : Under (Span lo hi) hi := fun _ h => h.2

theorem OwnT.args {w : World} {base : Nat} {v : Value} {ts : List T} (h : OwnT w base v ts) : ArgsAt w (Span base w.heap.size) v ts := by
  obtain ⟨vs, Q, hvl, hrow, hsub, hQ⟩ := h
  rcases hrow.2 with ⟨rfl, h0⟩ | ⟨g, cap, cur, rfl, hb, hg, hn, hm, hs, ht⟩
  · have : ts = [] := List.eq_nil_of_length_eq_zero h0
    subst this
    exact ArgsAt.nil _ _
  · have hc : ∀ j u, (rowT ts vs)[j]? = some u → w.cell? ⟨g, 0 + j, none⟩ = some u := by
      intro j u hu
      have := World.ownsRow.cells hrow (g := g) rfl j u hu
      rw [Addr.add_lit] at this
      exact this
    refine .mk _ ts.length cap ts g 0 (fun i => vs.getD i undef) rfl hn hm (fun _ => ⟨rfl, hb, (Array.getElem?_eq_some_iff.1 hg).1⟩) ?_ ?_ ?_
    · intro i hi
      exact hc _ _ (rowT_at ts vs hvl i hi).1
    · intro i hi
      rw [Nat.add_assoc]
      exact hc _ _ (rowT_at ts vs hvl i hi).2
    · intro i hi
      exact (hsub i hi).wide fun k hk => ⟨(hQ k hk).1, (hQ k hk).2.1⟩

theorem Below.grownBy' {w w' : World} (h : Below w.heap.size w w') : w.grownBy w' none := ⟨h.os, h.tape, h.output, h.size, fun k hk _ => h.block k hk⟩
theorem OwnT.after {w w' : World} {base : Nat} {v : Value} {ts : List T} (h : OwnT w base v ts) (hb : Below w.heap.size w w') : OwnT w' base v ts := by
  obtain ⟨vs, Q, hvl, hrow, hsub, hQ⟩ := h
  refine ⟨vs, Q, hvl, hrow.kept (Below.grownBy' hb) ?_, fun i hi => (hsub i hi).kept (Below.keptB hb fun k hk => (hQ k hk).2.1), fun k hk => ⟨(hQ k hk).1, Nat.lt_of_lt_of_le (hQ k hk).2.1 hb.size, (hQ k hk).2.2⟩⟩
  rcases hv : v.ownBlock with _ | q
  · exact .inl rfl
  · exact .inr (by simp)
theorem heap_setCell_size (w : World) (p : Addr) (u : Value) : (w.setCell p u).heap.size = w.heap.size := by
  simp
theorem OwnT.setCell {w : World} {base : Nat} {v : Value} {ts : List T} (h : OwnT w base v ts) {p : Addr} (hp : p.block < base) (u : Value) : OwnT (w.setCell p u) base v ts := by
  obtain ⟨vs, Q, hvl, hrow, hsub, hQ⟩ := h
  refine ⟨vs, Q, hvl, ownsRow_setCell_below hrow hp u, fun i hi => (hsub i hi).kept fun k hk => Below.heap_setCell w p u k (by have := (hQ k hk).1; omega), fun k hk => ?_⟩
  rw [heap_setCell_size]
  exact hQ k hk

theorem info36 : (Try.prog.info? 36).map (fun i => (i.zero, i.size, i.bytes)) = some (some (.agg #[.int .i64 0, .slice none 0 0]), 2, 32) := by kernel_rfl
theorem ArgsAt.one {w : World} {P : Nat → Prop} {v : Value} {ts : List T} (h : ArgsAt w P v ts) : v.oneCell' = true := by cases h; rfl

theorem run_pushT (w : World) (ty : TypeId) (base : Nat) (v : Value) (ts : List T) (u : T) (uv : Value) (U : Nat → Prop) (hown : OwnT w base v ts) (hu : ArgsAt w U uv u.args)
    (hU : ∀ k, U k → base ≤ k ∧ k < w.heap.size ∧ v.ownBlock ≠ some k) (hlen : ts.length ≤ 1000000) (hbase : base ≤ w.heap.size) :
    ∃ v' w', (Builtin.append_ #[30, 30] ty #[v, .slice (some ⟨w.heap.size, 0, none⟩) 1 1]).run Try.prog (w.alloc (.cells #[.int .i64 u.rule, uv] 36)) = .ok v' w' ∧ OwnT w' base v' (ts ++ [u]) ∧ w.grownBy w' v.ownBlock := by
  obtain ⟨i0, hi, hz0, hz1, hz2⟩ := info_parts info36
  obtain ⟨vs, R, hvl, hrow, hsub, hR⟩ := hown
  obtain ⟨v', w', hr, hown', hg, _, hat⟩ := run_append_own_at (P := Try.prog) (w.alloc (.cells #[.int .i64 u.rule, uv] 36)) base 30 ty 36 i0 (.agg #[.int .i64 0, .slice none 0 0]) 2 32 Try.underlying30 hi hz0 hz1 hz2 rfl (by decide) v ts.length (rowT ts vs) (hrow.alloc _)
    ⟨w.heap.size, 0, none⟩ 1 1 [.int .i64 u.rule, uv] rfl (by
      intro j t hj
      match j, hj with
      | 0, hj => simp at hj; subst hj; simp [Addr.add, World.cell?_alloc_at]
      | 1, hj => simp at hj; subst hj; simp [Addr.add, World.cell?_alloc_at]) (by
      intro t ht
      simp at ht
      rcases ht with rfl | rfl
      · rfl
      · exact hu.one) (by unfold maxLen; omega) (by omega) (by simp; omega)
  have hg0 : w.grownBy w' v.ownBlock := grow_alloc hg
  refine ⟨v', w', hr, ?_, hg0⟩
  have hkeep : ∀ k, k < w.heap.size → v.ownBlock ≠ some k → w'.heap[k]? = w.heap[k]? := fun k hk hne => hg0.block k hk (fun e => hne e.symm)
  refine ⟨vs ++ [uv], fun k => R k ∨ U k, by simp [hvl], ?_, ?_, ?_⟩
  · rw [rowT_append ts vs hvl, List.length_append]
    exact hown'
  · intro i hi'
    rw [List.length_append] at hi'
    by_cases hlt : i < ts.length
    · have e1 : (vs ++ [uv]).getD i undef = vs.getD i undef := by simp [List.getD, List.getElem?_append, hvl, hlt]
      have e2 : (ts ++ [u]).getD i default = ts.getD i default := by simp [List.getD, List.getElem?_append, hlt]
      rw [e1, e2]
      exact ((hsub i hlt).kept fun k hk => hkeep k (hR k hk).2.1 (hR k hk).2.2).wide fun k hk => .inl hk
    · have e : i = ts.length := by simp at hi'; omega
      subst e
      have e1 : (vs ++ [uv]).getD ts.length undef = uv := by simp [List.getD, ← hvl]
      have e2 : (ts ++ [u]).getD ts.length default = u := by simp [List.getD]
      rw [e1, e2]
      exact (hu.kept fun k hk => hkeep k (hU k hk).2.1 (hU k hk).2.2).wide fun k hk => .inr hk
  · intro k hk
    have hk' : base ≤ k ∧ k < w.heap.size ∧ v.ownBlock ≠ some k := by
      rcases hk with hk | hk
      · exact hR k hk
      · exact hU k hk
    refine ⟨hk'.1, Nat.lt_of_lt_of_le hk'.2.1 hg0.size, ?_⟩
    rcases hat with e | e
    · rw [e]; exact hk'.2.2
    · rw [e]
      have : (w.alloc (.cells #[.int .i64 u.rule, uv] 36)).heap.size = w.heap.size + 1 := by simp
      intro hc
      have := Option.some.inj hc
      omega

/-- append(s, u), one term, s the call's own: the term has just been laid in a block of its own. -/
theorem step_pushT {w : World} {ops : Array Oper} {o : Oper} {a : Act} {K : Act → World → Prop} {Q : Exit → Act → World → Prop} {E : Prop} (hgd : o.guard = none) (s x : Operand)
    (ho : o.op = .call { callee := .builtin .append, args := #[s, x], argTypes := #[30, 30] })
    (base : Nat) (v : Value) (ts : List T) (u : T) (uv : Value) (U : Nat → Prop) (hs : a.eval s = v) (hown : OwnT w base v ts) (hu : ArgsAt w U uv u.args)
    (hU : ∀ k, U k → base ≤ k ∧ k < w.heap.size ∧ v.ownBlock ≠ some k)
    (hx : a.eval x = .slice (some ⟨w.heap.size, 0, none⟩) 1 1) (hlen : ts.length ≤ 1000000) (hbase : base ≤ w.heap.size)
    (h : ∀ v' w', OwnT w' base v' (ts ++ [u]) → w.grownBy w' v.ownBlock → K (a.put o.dst v') w') :
    if Region.wanted o (yielded ops a.tmps) = true then Oper.wp Try.prog o a (w.alloc (.cells #[.int .i64 u.rule, uv] 36)) K Q else E := by
  have hw : Region.wanted o (yielded ops a.tmps) = true := by simp [Region.wanted, hgd]
  rw [if_pos hw]
  obtain ⟨v', w', hr, h2, h3⟩ := run_pushT w o.type base v ts u uv U hown hu hU hlen hbase
  unfold Oper.wp execOp
  simp only [ho, resolve, invoke, builtin, Sem.run_bind, Sem.run_pure, Result.andThen_ok, List.map_toArray, List.map_cons, List.map_nil, hs, hx, hr]
  exact h v' w' h2 h3
end Go.Proofs.Ytdljffplooplcaa
