/- The solver's steps. -/
import Derived.Test.YtamidopeojipkaaFits
namespace Go.Proofs.Ytamidopeojipkaa
open Go.RowKit
set_option linter.unusedVariables false

/-- append(s, u) at a step of a region that draws -/
theorem step_pushV {S E : TypeId} {z : Value} {by_ : Nat} (hS : Try.prog.underlying S = some (.slice E)) (hI : (Try.prog.info? E).map (fun i => (i.zero, i.size, i.bytes)) = some (some z, 1, by_)) (hz : z.cells.size = 1) (hby : by_ ≤ 64)
    {w : World} {ops : Array Oper} {o : Oper} {a : Act} {K : Act → World → Prop} {Q : Exit → Act → World → Prop} {F : Prop} (hgd : o.guard = none) (s x : Operand)
    (ho : o.op = .call { callee := .builtin .append, args := #[s, x], argTypes := #[S, S] })
    (base : Nat) (v : Value) (n : Nat) (xs : List Value) (u : Value) (hs : a.eval s = v) (hu : u.oneCell' = true) (hown : w.ownsRow base E 1 v n xs)
    (hx : a.eval x = .slice (some ⟨w.heap.size, 0, none⟩) 1 1) (hn : n ≤ 2000000) (hbase : base ≤ w.heap.size)
    (h : ∀ v' w', w'.ownsRow base E 1 v' (n + 1) (xs ++ [u]) → w.grownBy w' v.ownBlock → (v'.ownBlock = v.ownBlock ∨ v'.ownBlock = some (w.heap.size + 1)) → K (a.put o.dst v') w') :
    if Region.wanted o (yielded ops a.tmps) = true then Oper.wp Try.prog o a (w.alloc (.cells #[u] E)) K Q else F := by
  have hw : Region.wanted o (yielded ops a.tmps) = true := by simp [Region.wanted, hgd]
  rw [if_pos hw]
  obtain ⟨v', w', hr, h2, h3, h4⟩ := run_push hS hI hz hby w o.type base v n xs u hu hown hn hbase
  unfold Oper.wp execOp
  simp only [ho, resolve, invoke, builtin, Sem.run_bind, Sem.run_pure, Result.andThen_ok, List.map_toArray, List.map_cons, List.map_nil, hs, hx, hr]
  exact h v' w' h2 h3 h4

section
variable {w : World} {base sb : Nat} {P : Nat → Prop} {p : Prob} {sv rv gv : Value} {given : List Int} {most : Nat} {keep : Bool} {many : Nat} {fv : Value} {vs : List Value} {found : List (List Int)}
theorem SolAt.pne (h : SolAt w base sb P p sv rv gv given most keep many fv vs found) {k : Nat} (hk : P k) : k ≠ sb ∧ gv.ownBlock ≠ some k ∧ fv.ownBlock ≠ some k := by
  have := h.under k hk
  have := h.hb
  exact ⟨by omega, fun e => by have := (h.giv.lt e).1; omega, fun e => by have := h.fnd.base k (.inl e); omega⟩
theorem SolAt.hP (h : SolAt w base sb P p sv rv gv given most keep many fv vs found) : Under P w.heap.size := h.under.le (Nat.le_trans h.hb (Nat.le_of_lt h.lt))
theorem SolAt.setMany (h : SolAt w base sb P p sv rv gv given most keep many fv vs found) (m : Nat) : SolAt (w.setCell ⟨sb, 5, none⟩ (.int .i64 m)) base sb P p sv rv gv given most keep m fv vs found := by
  have hne : ∀ k, k ≠ sb → (w.setCell ⟨sb, 5, none⟩ (.int .i64 m)).heap[k]? = w.heap[k]? := fun k hk => Below.heap_setCell _ _ _ _ hk
  exact ⟨(setCell_row 5 _ h.row).trans rfl, h.hb, h.under, h.sizes.kept fun k hk => hne k (h.pne hk).1, h.rels.kept fun k hk => hne k (h.pne hk).1,
    h.giv.block fun k hk => hne k fun e => h.gne (by rw [← e]; exact hk), h.fnd.block fun k hk => hne k fun e => h.fne (by rw [← e]; exact hk), h.sep⟩
theorem SolAt.setGiven (h : SolAt w base sb P p sv rv gv given most keep many fv vs found) {w0 : World} {gv' : Value} {given' : List Int} (hg : w.grownBy w0 gv.ownBlock) (ho : OwnI w0 base gv' given') (hat : ∀ k, gv'.ownBlock = some k → gv.ownBlock = some k ∨ w.heap.size ≤ k) :
    SolAt (w0.setCell ⟨sb, 2, none⟩ gv') base sb P p sv rv gv' given' most keep many fv vs found := by
  have hne : ∀ k, k ≠ sb → (w0.setCell ⟨sb, 2, none⟩ gv').heap[k]? = w0.heap[k]? := fun k hk => Below.heap_setCell _ _ _ _ hk
  have hold : ∀ k, k < w.heap.size → gv.ownBlock ≠ some k → w0.heap[k]? = w.heap[k]? := fun k hk he => hg.block k hk fun e => he e.symm
  have hrow := (hold sb h.lt h.gne).trans h.row
  have hpk : Kept P w (w0.setCell ⟨sb, 2, none⟩ gv') := fun k hk => (hne k (h.pne hk).1).trans (hold k (h.hP k hk) (h.pne hk).2.1)
  have hown : ∀ k, gv'.ownBlock = some k → k ≠ sb := fun k hk e => by
    obtain ⟨cur, hc⟩ := ho.type hk
    rw [e, hrow] at hc; simp at hc
  refine ⟨(setCell_row 2 _ hrow).trans rfl, h.hb, h.under, h.sizes.kept hpk, h.rels.kept hpk, ho.block fun k hk => hne k (hown k hk), h.fnd.block fun k hk => (hne k fun e => h.fne (by rw [← e]; exact hk)).trans (hold k (h.fnd.under k hk) fun e => h.gfne e hk), fun u hu k e1 e2 => ?_⟩
  rcases hat k e2 with e3 | e3
  · exact h.sep u hu k e1 e3
  · have := h.fnd.under k (.inr ⟨u, hu, e1⟩); omega
theorem SolAt.setFound (h : SolAt w base sb P p sv rv gv given most keep many fv vs found) {w0 w1 : World} {u fv' : Value} (hb : Below w.heap.size w w0) (hu : OwnI w0 w.heap.size u given) (hg : w0.grownBy w1 fv.ownBlock) (ho : w1.ownsRow base 22 1 fv' (found.length + 1) (vs ++ [u])) :
    SolAt (w1.setCell ⟨sb, 6, none⟩ fv') base sb P p sv rv gv given most keep many fv' (vs ++ [u]) (found ++ [given]) := by
  have h0 := h.below hb
  have hsz := hb.size
  have hbase : base ≤ w.heap.size := Nat.le_trans h.hb (Nat.le_of_lt h.lt)
  have hne : ∀ k, k ≠ sb → (w1.setCell ⟨sb, 6, none⟩ fv').heap[k]? = w1.heap[k]? := fun k hk => Below.heap_setCell _ _ _ _ hk
  have hold : ∀ k, k < w0.heap.size → fv.ownBlock ≠ some k → w1.heap[k]? = w0.heap[k]? := fun k hk he => hg.block k hk fun e => he e.symm
  have hfs : fv.ownBlock ≠ some sb := fun e => h.fne (.inl e)
  have hrow := (hold sb h0.lt hfs).trans h0.row
  have hpk : Kept P w0 (w1.setCell ⟨sb, 6, none⟩ fv') := fun k hk => (hne k (h.pne hk).1).trans (hold k (h0.hP k hk) (h.pne hk).2.2)
  have htype : ∀ {v : Value} {b2 : Nat} {xs : List Int}, OwnI w0 b2 v xs → ∀ k, v.ownBlock = some k → fv.ownBlock ≠ some k ∧ k ≠ sb := fun hv k hk => by
    obtain ⟨cur, hc⟩ := hv.type hk
    refine ⟨fun e => ?_, fun e => ?_⟩
    · obtain ⟨cur2, hc2⟩ := h0.fnd.type e
      rw [hc] at hc2; simp at hc2
    · rw [e, h0.row] at hc; simp at hc
  have hkeep : ∀ {v : Value} {b2 : Nat} {xs : List Int}, OwnI w0 b2 v xs → OwnI (w1.setCell ⟨sb, 6, none⟩ fv') b2 v xs := fun hv => hv.block fun k hk => (hne k (htype hv k hk).2).trans (hold k (hv.lt hk).2 (htype hv k hk).1)
  have hfb : fv'.ownBlock ≠ some sb := fun e => by
    rcases ho.2 with ⟨h2, _⟩ | ⟨g, cap, cur, h2, h3, h4, h5⟩
    · rw [h2] at e; cases e
    · rw [h2] at e
      have e2 : g = sb := by simpa [Value.ownBlock] using e
      rw [e2, hrow] at h4; simp at h4
  refine ⟨(setCell_row 6 _ hrow).trans rfl, h.hb, h.under, h0.sizes.kept hpk, h0.rels.kept hpk, hkeep h0.giv, ⟨?_, ?_, fun i hi => ?_⟩, fun v hv k e1 e2 => ?_⟩
  · rw [List.length_append, List.length_append, h.fnd.1]; rfl
  · rw [List.length_append]; exact ownsRow_setCell_other ho hfb _
  · rw [List.length_append] at hi
    have hvl := h.fnd.1
    by_cases hlt : i < found.length
    · have e1 : (vs ++ [u]).getD i undef = vs.getD i undef := by simp [List.getD, List.getElem?_append, hvl, hlt]
      have e2 : (found ++ [given]).getD i [] = found.getD i [] := by simp [List.getD, List.getElem?_append, hlt]
      rw [e1, e2]
      exact hkeep (h0.fnd.2.2 i hlt)
    · have e : i = found.length := by simp at hi; omega
      subst e
      have e1 : (vs ++ [u]).getD found.length undef = u := by simp [List.getD, ← hvl]
      have e2 : (found ++ [given]).getD found.length [] = given := by simp [List.getD]
      rw [e1, e2]
      exact (hkeep hu).mono hbase
  · rcases List.mem_append.1 hv with hv | hv
    · exact h.sep v hv k e1 e2
    · rw [List.mem_singleton.1 hv] at e1
      have := (hu.lt e1).1
      have := (h.giv.lt e2).2
      omega
end
end Go.Proofs.Ytamidopeojipkaa
