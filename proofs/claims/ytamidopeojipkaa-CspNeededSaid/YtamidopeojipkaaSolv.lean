/- The solver in memory. -/
import Derived.Test.YtamidopeojipkaaSols
namespace Go.Proofs.Ytamidopeojipkaa
open Go.RowKit
set_option linter.unusedVariables false

/-- The slice value v, in a block from base on, holds these integers and may be written. -/
def OwnI (w : World) (base : Nat) (v : Value) (xs : List Int) : Prop := w.ownsRow base 3 1 v xs.length (xs.map (Value.int .i64))
theorem OwnI.nil (w : World) (base : Nat) : OwnI w base (.slice none 0 0) [] := World.ownsRow_nil _ _ _ _
theorem OwnI.mono {w : World} {base base2 : Nat} {v : Value} {xs : List Int} (h : OwnI w base v xs) (hb : base2 ≤ base) : OwnI w base2 v xs := by
  refine ⟨h.1, ?_⟩
  rcases h.2 with h2 | ⟨g, cap, cur, h1, h2, h3⟩
  · exact .inl h2
  · exact .inr ⟨g, cap, cur, h1, Nat.le_trans hb h2, h3⟩
theorem OwnI.block {w w' : World} {base : Nat} {v : Value} {xs : List Int} (h : OwnI w base v xs) (hk : ∀ k, v.ownBlock = some k → w'.heap[k]? = w.heap[k]?) : OwnI w' base v xs := by
  refine ⟨h.1, ?_⟩
  rcases h.2 with h2 | ⟨g, cap, cur, h1, h2, h3, h4⟩
  · exact .inl h2
  · exact .inr ⟨g, cap, cur, h1, h2, (hk g (by rw [h1]; rfl)).trans h3, h4⟩
theorem OwnI.lt {w : World} {base : Nat} {v : Value} {xs : List Int} (h : OwnI w base v xs) {k : Nat} (hk : v.ownBlock = some k) : base ≤ k ∧ k < w.heap.size := by
  rcases h.2 with ⟨h2, _⟩ | ⟨g, cap, cur, h1, h2, h3, h4⟩
  · rw [h2] at hk; cases hk
  · rw [h1] at hk
    have e : g = k := by simpa [Value.ownBlock] using hk
    subst e
    exact ⟨h2, (Array.getElem?_eq_some_iff.1 h3).1⟩
theorem OwnI.type {w : World} {base : Nat} {v : Value} {xs : List Int} (h : OwnI w base v xs) {k : Nat} (hk : v.ownBlock = some k) : ∃ cur, w.heap[k]? = some (.cells cur 3 (0, 0)) := by
  rcases h.2 with ⟨h2, _⟩ | ⟨g, cap, cur, h1, h2, h3, h4⟩
  · rw [h2] at hk; cases hk
  · rw [h1] at hk
    have e : g = k := by simpa [Value.ownBlock] using hk
    subst e
    exact ⟨cur, h3⟩
/-- An owned slice reads. -/
theorem OwnI.ints {w : World} {base : Nat} {v : Value} {xs : List Int} (h : OwnI w base v xs) : IntsAt w (fun k => v.ownBlock = some k) v xs := by
  rcases h.2 with ⟨rfl, h0⟩ | ⟨g, cap, cur, rfl, hb, hg, hn, hm, hs, ht⟩
  · have : xs = [] := List.eq_nil_of_length_eq_zero h0
    subst this
    exact IntsAt.nil _ _
  · refine ⟨_, _, g, 0, rfl, hn, hm, fun _ => ⟨rfl, rfl⟩, fun j hj => ?_⟩
    rw [cell_of_row w g (0 + j) cur _ (0, 0) hg, Nat.zero_add]
    have e : cur[j]? = (cur.toList.take (xs.length * 1))[j]? := by
      rw [List.getElem?_take, if_pos (by omega)]; simp
    rw [e, ht]
    simp [List.getD, show j < xs.length by omega]
theorem OwnI.one {w : World} {base : Nat} {v : Value} {xs : List Int} (h : OwnI w base v xs) : v.oneCell' = true := by
  rcases h.2 with ⟨rfl, _⟩ | ⟨g, cap, cur, rfl, _⟩ <;> rfl

/-- append(s, xs...), s the call's own. -/
theorem wpList_appI {w : World} {ops : Array Oper} {rest : List Oper} {o : Oper} {a : Act} {Q : Exit → Act → World → Prop} (hgd : o.guard = none) (s x : Operand)
    (ho : o.op = .call { callee := .builtin .append, args := #[s, x], argTypes := #[22, 22] })
    (base : Nat) (v : Value) (zs : List Int) (hs : a.eval s = v) (hown : OwnI w base v zs)
    (b off c : Nat) (xs : List Int) (hx : a.eval x = .slice (some ⟨b, off, none⟩) xs.length c) (hc : ∀ j, j < xs.length → w.cell? ⟨b, off + j, none⟩ = some (.int .i64 (xs.getD j 0))) (hlen : zs.length + xs.length ≤ 1000000) (hbase : base ≤ w.heap.size)
    (h : ∀ v' w', OwnI w' base v' (zs ++ xs) → w.grownBy w' v.ownBlock → wpList Try.prog ops Q rest (a.put o.dst v') w') :
    wpList Try.prog ops Q (o :: rest) a w := by
  obtain ⟨i0, hi, hz0, hz1, hz2⟩ := info_parts info3
  refine wpList_append_own _ hgd s x 22 ho base 3 i0 (.int .i64 0) 1 8 und22 hi hz0 hz1 hz2 rfl (by decide) v zs.length (zs.map (Value.int .i64)) hs hown
    ⟨b, off, none⟩ xs.length c (xs.map (Value.int .i64)) hx (by simp) ?_ (ints_oneCell _ _) (by unfold maxLen; omega) (by omega) hbase ?_
  · intro j u hu
    have hj : j < xs.length := by have := (List.getElem?_eq_some_iff.1 hu).1; simpa using this
    rw [Addr.add_lit, hc j hj]
    simp [hj] at hu
    simp [List.getD, hj, hu]
  · intro v' w' hown' hg _
    refine h v' w' ?_ hg
    unfold OwnI
    rw [List.length_append, List.map_append]
    exact hown'

/-- A list of lists that the call has made. -/
def OwnL (w : World) (base : Nat) (v : Value) (vs : List Value) (xss : List (List Int)) : Prop :=
  vs.length = xss.length ∧ w.ownsRow base 22 1 v xss.length vs ∧ ∀ i, i < xss.length → OwnI w base (vs.getD i undef) (xss.getD i [])
theorem OwnL.nil (w : World) (base : Nat) : OwnL w base (.slice none 0 0) [] [] := ⟨rfl, World.ownsRow_nil _ _ _ _, fun i hi => by simp at hi⟩
/-- the blocks of a list of lists -/
def Lsts (v : Value) (vs : List Value) : Nat → Prop := fun k => v.ownBlock = some k ∨ ∃ u ∈ vs, u.ownBlock = some k
theorem OwnL.block {w w' : World} {base : Nat} {v : Value} {vs : List Value} {xss : List (List Int)} (h : OwnL w base v vs xss) (hk : Kept (Lsts v vs) w w') : OwnL w' base v vs xss := by
  obtain ⟨h1, h2, h3⟩ := h
  refine ⟨h1, ⟨h2.1, ?_⟩, fun i hi => (h3 i hi).block fun k e => hk k (.inr ⟨_, ?_, e⟩)⟩
  · rcases h2.2 with h4 | ⟨g, cap, cur, h5, h6, h7, h8⟩
    · exact .inl h4
    · exact .inr ⟨g, cap, cur, h5, h6, (hk g (.inl (by rw [h5]; rfl))).trans h7, h8⟩
  · have : i < vs.length := by omega
    simp [List.getD, this]
theorem OwnL.type {w : World} {base : Nat} {v : Value} {vs : List Value} {xss : List (List Int)} (h : OwnL w base v vs xss) {k : Nat} (hk : v.ownBlock = some k) : ∃ cur, w.heap[k]? = some (.cells cur 22 (0, 0)) := by
  rcases h.2.1.2 with ⟨h2, _⟩ | ⟨g, cap, cur, h1, h2, h3, h4⟩
  · rw [h2] at hk; cases hk
  · rw [h1] at hk
    have e : g = k := by simpa [Value.ownBlock] using hk
    subst e
    exact ⟨cur, h3⟩
theorem OwnL.sub {w : World} {base : Nat} {v : Value} {vs : List Value} {xss : List (List Int)} (h : OwnL w base v vs xss) {u : Value} (hu : u ∈ vs) : ∃ xs, OwnI w base u xs := by
  obtain ⟨i, hi, he⟩ := List.mem_iff_getElem.1 hu
  have := h.2.2 i (by rw [← h.1]; exact hi)
  have e : vs.getD i undef = u := by simp [List.getD, hi, he]
  rw [e] at this
  exact ⟨_, this⟩
theorem OwnL.under {w : World} {base : Nat} {v : Value} {vs : List Value} {xss : List (List Int)} (h : OwnL w base v vs xss) : Under (Lsts v vs) w.heap.size := by
  rintro k (hk | ⟨u, hu, hk⟩)
  · obtain ⟨cur, hc⟩ := h.type hk
    exact (Array.getElem?_eq_some_iff.1 hc).1
  · obtain ⟨xs, hx⟩ := h.sub hu
    exact (hx.lt hk).2
theorem OwnL.base {w : World} {base : Nat} {v : Value} {vs : List Value} {xss : List (List Int)} (h : OwnL w base v vs xss) : ∀ k, Lsts v vs k → base ≤ k := by
  rintro k (hk | ⟨u, hu, hk⟩)
  · rcases h.2.1.2 with ⟨h2, _⟩ | ⟨g, cap, cur, h1, h2, h3, h4⟩
    · rw [h2] at hk; cases hk
    · rw [h1] at hk
      have e : g = k := by simpa [Value.ownBlock] using hk
      omega
  · obtain ⟨xs, hx⟩ := h.sub hu
    exact (hx.lt hk).1
theorem OwnL.lists {w : World} {base : Nat} {v : Value} {vs : List Value} {xss : List (List Int)} (h : OwnL w base v vs xss) : ListsAt w (Lsts v vs) v xss := by
  obtain ⟨h1, h2, h3⟩ := h
  rcases h2.2 with ⟨rfl, h0⟩ | ⟨g, cap, cur, rfl, hb, hg, hn, hm, hs, ht⟩
  · have : xss = [] := List.eq_nil_of_length_eq_zero h0
    subst this
    exact ⟨none, 0, 0, 0, fun _ => undef, rfl, ⟨Nat.le_refl _, by unfold maxLen; omega, fun h => by simp at h, fun j hj => by simp at hj⟩, fun i hi => by simp at hi⟩
  · refine ⟨_, _, g, 0, fun i => vs.getD i undef, rfl, ⟨hn, hm, fun _ => ⟨rfl, .inl rfl⟩, fun j hj => ?_⟩, fun i hi => (h3 i hi).ints.wide fun k hk => .inr ⟨_, ?_, hk⟩⟩
    · rw [cell_of_row w g (0 + j) cur _ (0, 0) hg, Nat.zero_add]
      have e : cur[j]? = (cur.toList.take (xss.length * 1))[j]? := by
        rw [List.getElem?_take, if_pos (by omega)]; simp
      rw [e, ht]
      simp [List.getD, show j < vs.length by omega]
    · have : i < vs.length := by omega
      simp [List.getD, this]
theorem OwnL.one {w : World} {base : Nat} {v : Value} {vs : List Value} {xss : List (List Int)} (h : OwnL w base v vs xss) : v.oneCell' = true := by
  rcases h.2.1.2 with ⟨rfl, _⟩ | ⟨g, cap, cur, rfl, _⟩ <;> rfl

/-- The solver at block sb. -/
structure SolAt (w : World) (base sb : Nat) (P : Nat → Prop) (p : Prob) (sv rv gv : Value) (given : List Int) (most : Nat) (keep : Bool) (many : Nat) (fv : Value) (vs : List Value) (found : List (List Int)) : Prop where
  row : w.heap[sb]? = some (.cells #[sv, rv, gv, .int .i64 most, .bool keep, .int .i64 many, fv] 56 (0, 0))
  hb : base ≤ sb
  under : Under P base
  sizes : IntsAt w P sv p.sizes
  rels : RelsAt w P rv p.rels
  giv : OwnI w base gv given
  fnd : OwnL w base fv vs found
  sep : ∀ u ∈ vs, ∀ k, u.ownBlock = some k → gv.ownBlock ≠ some k
theorem SolAt.lt {w : World} {base sb : Nat} {P : Nat → Prop} {p : Prob} {sv rv gv : Value} {given : List Int} {most : Nat} {keep : Bool} {many : Nat} {fv : Value} {vs : List Value} {found : List (List Int)} (h : SolAt w base sb P p sv rv gv given most keep many fv vs found) : sb < w.heap.size := (Array.getElem?_eq_some_iff.1 h.row).1
theorem SolAt.cells {w : World} {base sb : Nat} {P : Nat → Prop} {p : Prob} {sv rv gv : Value} {given : List Int} {most : Nat} {keep : Bool} {many : Nat} {fv : Value} {vs : List Value} {found : List (List Int)} (h : SolAt w base sb P p sv rv gv given most keep many fv vs found) :
    w.cell? ⟨sb, 0, none⟩ = some sv ∧ w.cell? ⟨sb, 1, none⟩ = some rv ∧ w.cell? ⟨sb, 2, none⟩ = some gv ∧ w.cell? ⟨sb, 3, none⟩ = some (.int .i64 most) ∧ w.cell? ⟨sb, 4, none⟩ = some (.bool keep) ∧ w.cell? ⟨sb, 5, none⟩ = some (.int .i64 many) ∧ w.cell? ⟨sb, 6, none⟩ = some fv :=
  ⟨(cell_row' _ _ 0 _ _ h.row).trans rfl, (cell_row' _ _ 1 _ _ h.row).trans rfl, (cell_row' _ _ 2 _ _ h.row).trans rfl, (cell_row' _ _ 3 _ _ h.row).trans rfl, (cell_row' _ _ 4 _ _ h.row).trans rfl, (cell_row' _ _ 5 _ _ h.row).trans rfl, (cell_row' _ _ 6 _ _ h.row).trans rfl⟩
theorem SolAt.frozen {w : World} {base sb : Nat} {P : Nat → Prop} {p : Prob} {sv rv gv : Value} {given : List Int} {most : Nat} {keep : Bool} {many : Nat} {fv : Value} {vs : List Value} {found : List (List Int)} (h : SolAt w base sb P p sv rv gv given most keep many fv vs found) (i : Nat) : w.frozen? ⟨sb, i, none⟩ = false := frozen_row' _ _ i _ _ h.row
theorem SolAt.below {w w' : World} {base sb : Nat} {P : Nat → Prop} {p : Prob} {sv rv gv : Value} {given : List Int} {most : Nat} {keep : Bool} {many : Nat} {fv : Value} {vs : List Value} {found : List (List Int)} (h : SolAt w base sb P p sv rv gv given most keep many fv vs found) (hb : Below w.heap.size w w') : SolAt w' base sb P p sv rv gv given most keep many fv vs found := by
  have hP : Under P w.heap.size := h.under.le (Nat.le_trans h.hb (Nat.le_of_lt h.lt))
  exact ⟨(hb.block _ h.lt).trans h.row, h.hb, h.under, h.sizes.kept (Below.keptB hb hP), h.rels.kept (Below.keptB hb hP), h.giv.block fun k hk => hb.block k (h.giv.lt hk).2, h.fnd.block (Below.keptB hb h.fnd.under), h.sep⟩
/-- the solver's block is none of the others -/
theorem SolAt.gne {w : World} {base sb : Nat} {P : Nat → Prop} {p : Prob} {sv rv gv : Value} {given : List Int} {most : Nat} {keep : Bool} {many : Nat} {fv : Value} {vs : List Value} {found : List (List Int)} (h : SolAt w base sb P p sv rv gv given most keep many fv vs found) : gv.ownBlock ≠ some sb := fun e => by
  obtain ⟨cur, hc⟩ := h.giv.type e
  rw [h.row] at hc; simp at hc
theorem SolAt.fne {w : World} {base sb : Nat} {P : Nat → Prop} {p : Prob} {sv rv gv : Value} {given : List Int} {most : Nat} {keep : Bool} {many : Nat} {fv : Value} {vs : List Value} {found : List (List Int)} (h : SolAt w base sb P p sv rv gv given most keep many fv vs found) : ¬ Lsts fv vs sb := by
  rintro (e | ⟨u, hu, e⟩)
  · obtain ⟨cur, hc⟩ := h.fnd.type e
    rw [h.row] at hc; simp at hc
  · obtain ⟨xs, hx⟩ := h.fnd.sub hu
    obtain ⟨cur, hc⟩ := hx.type e
    rw [h.row] at hc; simp at hc
theorem SolAt.gfne {w : World} {base sb : Nat} {P : Nat → Prop} {p : Prob} {sv rv gv : Value} {given : List Int} {most : Nat} {keep : Bool} {many : Nat} {fv : Value} {vs : List Value} {found : List (List Int)} (h : SolAt w base sb P p sv rv gv given most keep many fv vs found) {k : Nat} (hk : gv.ownBlock = some k) : ¬ Lsts fv vs k := by
  rintro (e | ⟨u, hu, e⟩)
  · obtain ⟨cur, hc⟩ := h.fnd.type e
    obtain ⟨cur2, hc2⟩ := h.giv.type hk
    rw [hc2] at hc; simp at hc
  · exact h.sep u hu k e hk
end Go.Proofs.Ytamidopeojipkaa
