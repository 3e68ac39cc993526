/- Slices of relations that a call has made; cores: the plain part. -/
import Derived.Test.YtamidopeojipkaaSolC
namespace Go.Proofs.Ytamidopeojipkaa
open Go.RowKit
set_option linter.unusedVariables false

theorem info46 : (Try.prog.info? 46).map (fun i => (i.zero, i.size, i.bytes)) = some (some (.agg #[.slice none 0 0, .slice none 0 0]), 2, 48) := by kernel_rfl
theorem und23 : Try.prog.underlying 23 = some (.slice 46) := by kernel_rfl
def rowR : List (Value × Value) → List Value
  | [] => []
  | u :: us => u.1 :: u.2 :: rowR us
theorem rowR_append : ∀ (us : List (Value × Value)) (u : Value × Value), rowR (us ++ [u]) = rowR us ++ [u.1, u.2]
  | [], u => rfl
  | v :: us, u => by simp only [List.cons_append, rowR]; rw [rowR_append us u]
theorem rowR_at : ∀ (us : List (Value × Value)) (i : Nat), i < us.length → (rowR us)[i * 2]? = some (us.getD i default).1 ∧ (rowR us)[i * 2 + 1]? = some (us.getD i default).2
  | [], i, hi => by simp at hi
  | v :: us, 0, hi => by simp [rowR]
  | v :: us, i + 1, hi => by
    have := rowR_at us i (by simpa using hi)
    simp only [rowR, List.getD_cons_succ, show (i + 1) * 2 = i * 2 + 1 + 1 from by omega, List.getElem?_cons_succ]
    exact this
/-- The slice value v, in a block from base on, holds these relations, whose parts lie in blocks with P. -/
def OwnR (w : World) (base : Nat) (P : Nat → Prop) (v : Value) (rs : List Rel) : Prop :=
  ∃ us : List (Value × Value), us.length = rs.length ∧ w.ownsRow base 46 2 v rs.length (rowR us) ∧ ∀ i, i < rs.length → IntsAt w P (us.getD i default).1 (rs.getD i default).vars ∧ ListsAt w P (us.getD i default).2 (rs.getD i default).allowed
theorem OwnR.nil (w : World) (base : Nat) (P : Nat → Prop) : OwnR w base P (.slice none 0 0) [] := ⟨[], rfl, World.ownsRow_nil _ _ _ _, fun i hi => by simp at hi⟩
theorem OwnR.slice {w : World} {base : Nat} {P : Nat → Prop} {v : Value} {rs : List Rel} (h : OwnR w base P v rs) : ∃ a l c, v = .slice a l c := by
  obtain ⟨us, h1, h2, h3⟩ := h
  exact row_slice h2
theorem OwnR.lt {w : World} {base : Nat} {P : Nat → Prop} {v : Value} {rs : List Rel} (h : OwnR w base P v rs) {k : Nat} (hk : v.ownBlock = some k) : base ≤ k ∧ k < w.heap.size := by
  obtain ⟨us, h1, h2, h3⟩ := h
  rcases h2.2 with ⟨h2, _⟩ | ⟨g, cap, cur, h1, h2, h3, h4⟩
  · rw [h2] at hk; cases hk
  · rw [h1] at hk
    have e : g = k := by simpa [Value.ownBlock] using hk
    subst e
    exact ⟨h2, (Array.getElem?_eq_some_iff.1 h3).1⟩
theorem OwnR.kept {w w' : World} {base : Nat} {P : Nat → Prop} {v : Value} {rs : List Rel} (h : OwnR w base P v rs) (hp : Kept P w w') (hk : ∀ k, v.ownBlock = some k → w'.heap[k]? = w.heap[k]?) : OwnR w' base P v rs := by
  obtain ⟨us, h1, h2, h3⟩ := h
  refine ⟨us, h1, ⟨h2.1, ?_⟩, fun i hi => ⟨(h3 i hi).1.kept hp, (h3 i hi).2.kept hp⟩⟩
  rcases h2.2 with h2 | ⟨g, cap, cur, h1, h2, h3, h4⟩
  · exact .inl h2
  · exact .inr ⟨g, cap, cur, h1, h2, (hk g (by rw [h1]; rfl)).trans h3, h4⟩
theorem OwnR.below {w w' : World} {base : Nat} {P : Nat → Prop} {v : Value} {rs : List Rel} (h : OwnR w base P v rs) (hP : Under P w.heap.size) (hb : Below w.heap.size w w') : OwnR w' base P v rs :=
  h.kept (Below.keptB hb hP) fun k hk => hb.block k (h.lt hk).2
theorem OwnR.rels {w : World} {base : Nat} {P : Nat → Prop} {v : Value} {rs : List Rel} (h : OwnR w base P v rs) : RelsAt w (fun k => P k ∨ v.ownBlock = some k) v rs := by
  obtain ⟨us, h1, h2, h3⟩ := h
  rcases h2.2 with ⟨rfl, h0⟩ | ⟨g, cap, cur, rfl, hb, hg, hn, hm, hs, ht⟩
  · have : rs = [] := List.eq_nil_of_length_eq_zero h0
    subst this
    exact ⟨none, 0, 0, 0, fun _ => undef, rfl, ⟨Nat.le_refl _, by unfold maxLen; omega, fun h => by simp at h, fun j hj => by simp at hj⟩, fun i hi => by simp at hi⟩
  · refine ⟨_, _, g, 0, fun j => (rowR us).getD j undef, rfl, ⟨hn, hm, fun _ => ⟨rfl, .inr rfl⟩, fun j hj => ?_⟩, fun i hi => ?_⟩
    · rw [cell_of_row w g (0 + j) cur _ (0, 0) hg, Nat.zero_add]
      have e : cur[j]? = (cur.toList.take (rs.length * 2))[j]? := by
        rw [List.getElem?_take, if_pos (by omega)]; simp
      rw [e, ht]
      have hl : (rowR us).length = rs.length * 2 := h2.1
      simp [List.getD, show j < (rowR us).length by omega]
    · obtain ⟨e1, e2⟩ := rowR_at us i (by omega)
      have e3 : (rowR us).getD (i * 2) undef = (us.getD i default).1 := by rw [List.getD, e1]; rfl
      have e4 : (rowR us).getD (i * 2 + 1) undef = (us.getD i default).2 := by rw [List.getD, e2]; rfl
      show IntsAt w _ ((rowR us).getD (i * 2) undef) _ ∧ ListsAt w _ ((rowR us).getD (i * 2 + 1) undef) _
      rw [e3, e4]
      exact ⟨(h3 i hi).1.wide fun k hk => .inl hk, (h3 i hi).2.wide fun k hk => .inl hk⟩
theorem OwnR.under {w : World} {base : Nat} {P : Nat → Prop} {v : Value} {rs : List Rel} (h : OwnR w base P v rs) (hP : Under P w.heap.size) : Under (fun k => P k ∨ v.ownBlock = some k) w.heap.size := by
  rintro k (hk | hk)
  · exact hP k hk
  · exact (h.lt hk).2

theorem run_pushR (w : World) (ty : TypeId) (base : Nat) (P : Nat → Prop) (v : Value) (rs : List Rel) (r : Rel) (u1 u2 : Value) (hown : OwnR w base P v rs) (h1 : IntsAt w P u1 r.vars) (h2 : ListsAt w P u2 r.allowed)
    (hP : ∀ k, P k → k < w.heap.size ∧ v.ownBlock ≠ some k) (hlen : rs.length ≤ 1000000) (hbase : base ≤ w.heap.size) :
    ∃ v' w', (Builtin.append_ #[23, 23] ty #[v, .slice (some ⟨w.heap.size, 0, none⟩) 1 1]).run Try.prog (w.alloc (.cells #[u1, u2] 46)) = .ok v' w' ∧ OwnR w' base P v' (rs ++ [r]) ∧ w.grownBy w' v.ownBlock := by
  obtain ⟨i0, hi, hz0, hz1, hz2⟩ := info_parts info46
  obtain ⟨us, hul, hrow, hsub⟩ := hown
  have ho1 : u1.oneCell' = true := by obtain ⟨a, l, c, rfl⟩ := h1.slice; rfl
  have ho2 : u2.oneCell' = true := by obtain ⟨a, l, c, rfl⟩ := h2.slice; rfl
  obtain ⟨v', w', hr, hown', hg, _, hat⟩ := run_append_own_at (P := Try.prog) (w.alloc (.cells #[u1, u2] 46)) base 23 ty 46 i0 (.agg #[.slice none 0 0, .slice none 0 0]) 2 48 und23 hi hz0 hz1 hz2 rfl (by decide) v rs.length (rowR us) (hrow.alloc _)
    ⟨w.heap.size, 0, none⟩ 1 1 [u1, u2] rfl (by
      intro j t hj
      match j, hj with
      | 0, hj => simp at hj; subst hj; simp [Addr.add, World.cell?_alloc_at]
      | 1, hj => simp at hj; subst hj; simp [Addr.add, World.cell?_alloc_at]) (by
      intro t ht
      simp at ht
      rcases ht with rfl | rfl
      · exact ho1
      · exact ho2) (by unfold maxLen; omega) (by omega) (by simp; omega)
  have hg0 : w.grownBy w' v.ownBlock := grow_alloc hg
  have hpk : Kept P w w' := fun k hk => hg0.block k (hP k hk).1 fun e => (hP k hk).2 e.symm
  refine ⟨v', w', hr, ⟨us ++ [(u1, u2)], by simp [hul], ?_, fun i hi' => ?_⟩, hg0⟩
  · rw [rowR_append, List.length_append]; exact hown'
  · rw [List.length_append] at hi'
    by_cases hlt : i < rs.length
    · have e1 : (us ++ [(u1, u2)]).getD i default = us.getD i default := by simp [List.getD, List.getElem?_append, hul, hlt]
      have e2 : (rs ++ [r]).getD i default = rs.getD i default := by simp [List.getD, List.getElem?_append, hlt]
      rw [e1, e2]
      exact ⟨(hsub i hlt).1.kept hpk, (hsub i hlt).2.kept hpk⟩
    · have e : i = rs.length := by simp at hi'; omega
      subst e
      have e1 : (us ++ [(u1, u2)]).getD rs.length default = (u1, u2) := by simp [List.getD, ← hul]
      have e2 : (rs ++ [r]).getD rs.length default = r := by simp [List.getD]
      rw [e1, e2]
      exact ⟨h1.kept hpk, h2.kept hpk⟩
/-- append(s, r), one relation, at a step of a region that draws -/
theorem step_pushR {w : World} {ops : Array Oper} {o : Oper} {a : Act} {K : Act → World → Prop} {Q : Exit → Act → World → Prop} {E : Prop} (hgd : o.guard = none) (s x : Operand)
    (ho : o.op = .call { callee := .builtin .append, args := #[s, x], argTypes := #[23, 23] })
    (base : Nat) (P : Nat → Prop) (v : Value) (rs : List Rel) (r : Rel) (u1 u2 : Value) (hs : a.eval s = v) (hown : OwnR w base P v rs) (h1 : IntsAt w P u1 r.vars) (h2 : ListsAt w P u2 r.allowed)
    (hP : ∀ k, P k → k < w.heap.size ∧ v.ownBlock ≠ some k)
    (hx : a.eval x = .slice (some ⟨w.heap.size, 0, none⟩) 1 1) (hlen : rs.length ≤ 1000000) (hbase : base ≤ w.heap.size)
    (h : ∀ v' w', OwnR w' base P v' (rs ++ [r]) → w.grownBy w' v.ownBlock → K (a.put o.dst v') w') :
    if Region.wanted o (yielded ops a.tmps) = true then Oper.wp Try.prog o a (w.alloc (.cells #[u1, u2] 46)) K Q else E := by
  have hw : Region.wanted o (yielded ops a.tmps) = true := by simp [Region.wanted, hgd]
  rw [if_pos hw]
  obtain ⟨v', w', hr, h2, h3⟩ := run_pushR w o.type base P v rs r u1 u2 hown h1 h2 hP hlen hbase
  unfold Oper.wp execOp
  simp only [ho, resolve, invoke, builtin, Sem.run_bind, Sem.run_pure, Result.andThen_ok, List.map_toArray, List.map_cons, List.map_nil, hs, hx, hr]
  exact h v' w' h2 h3
theorem wpList_pushR {w : World} {ops : Array Oper} {rest : List Oper} {o : Oper} {a : Act} {Q : Exit → Act → World → Prop} (hgd : o.guard = none) (s x : Operand)
    (ho : o.op = .call { callee := .builtin .append, args := #[s, x], argTypes := #[23, 23] })
    (base : Nat) (P : Nat → Prop) (v : Value) (rs : List Rel) (r : Rel) (u1 u2 : Value) (hs : a.eval s = v) (hown : OwnR w base P v rs) (h1 : IntsAt w P u1 r.vars) (h2 : ListsAt w P u2 r.allowed)
    (hP : ∀ k, P k → k < w.heap.size ∧ v.ownBlock ≠ some k)
    (hx : a.eval x = .slice (some ⟨w.heap.size, 0, none⟩) 1 1) (hlen : rs.length ≤ 1000000) (hbase : base ≤ w.heap.size)
    (h : ∀ v' w', OwnR w' base P v' (rs ++ [r]) → w.grownBy w' v.ownBlock → wpList Try.prog ops Q rest (a.put o.dst v') w') :
    wpList Try.prog ops Q (o :: rest) a (w.alloc (.cells #[u1, u2] 46)) := by
  refine wpList_plain hgd fun K hK => ?_
  obtain ⟨v', w', hr, h2, h3⟩ := run_pushR w o.type base P v rs r u1 u2 hown h1 h2 hP hlen hbase
  unfold Oper.wp execOp
  simp only [ho, resolve, invoke, builtin, Sem.run_bind, Sem.run_pure, Result.andThen_ok, List.map_toArray, List.map_cons, List.map_nil, hs, hx, hr]
  exact hK _ _ (h v' w' h2 h3)

/-- a problem with some of the relations -/
def subP (p : Prob) (ch : List Nat) : Prob := ⟨p.sizes, ch.map fun i => p.rels.getD i default⟩
open Classical in
/-- the first set with these relations and k more, from one on, that has no solution -/
noncomputable def coreS (p : Prob) : Nat → List Nat → Nat → Option (List Nat)
  | 0, ch, _ => if sols (subP p ch) [] = [] then some ch else none
  | k + 1, ch, from_ => (List.range' from_ (p.rels.length - from_)).findSome? fun i => coreS p k (ch ++ [i]) (i + 1)
theorem fs_at {β : Type} {f : Nat → Option β} {b : β} : ∀ (n a i : Nat), a ≤ i → i < a + n → (∀ j, a ≤ j → j < i → f j = none) → f i = some b → (List.range' a n).findSome? f = some b
  | 0, a, i, h1, h2, _, _ => by omega
  | n + 1, a, i, h1, h2, h3, h4 => by
    rw [List.range'_succ, List.findSome?_cons]
    by_cases e : i = a
    · subst e; rw [h4]
    · rw [h3 a (Nat.le_refl _) (by omega)]
      exact fs_at n (a + 1) i (by omega) (by omega) (fun j hj hj2 => h3 j (by omega) hj2) h4
theorem fs_none {β : Type} {f : Nat → Option β} {a n : Nat} (h : ∀ j, a ≤ j → j < a + n → f j = none) : (List.range' a n).findSome? f = none := by
  rw [List.findSome?_eq_none_iff]
  intro x hx
  rw [List.mem_range'_1] at hx
  exact h x hx.1 hx.2
theorem coreS_short {p : Prob} : ∀ (k : Nat) (ch : List Nat) (a : Nat), 0 < k → p.rels.length < a + k → coreS p k ch a = none
  | 0, ch, a, h, _ => by omega
  | k + 1, ch, a, _, h => by
    unfold coreS
    refine fs_none fun j h1 h2 => ?_
    by_cases e : k = 0
    · omega
    · exact coreS_short k _ _ (by omega) (by omega)
theorem coreS_found {p : Prob} {k : Nat} {ch : List Nat} {a i : Nat} {L : List Nat} (h1 : a ≤ i) (h2 : i < p.rels.length) (h3 : ∀ j, a ≤ j → j < i → coreS p k (ch ++ [j]) (j + 1) = none) (h4 : coreS p k (ch ++ [i]) (i + 1) = some L) : coreS p (k + 1) ch a = some L := by
  unfold coreS
  exact fs_at _ a i h1 (by omega) h3 h4
theorem coreS_end {p : Prob} {k : Nat} {ch : List Nat} {a i : Nat} (h2 : p.rels.length < i + (k + 1)) (h3 : ∀ j, a ≤ j → j < i → coreS p k (ch ++ [j]) (j + 1) = none) : coreS p (k + 1) ch a = none := by
  unfold coreS
  refine fs_none fun j hj1 hj2 => ?_
  by_cases e : j < i
  · exact h3 j hj1 e
  · by_cases e2 : k = 0
    · omega
    · exact coreS_short k _ _ (by omega) (by omega)
theorem Good.sub {p : Prob} (h : Good p) {ch : List Nat} (hl : ch.length ≤ 96) (hc : ∀ i ∈ ch, i < p.rels.length) : Good (subP p ch) := by
  refine ⟨h.len, h.size, by simpa [subP] using hl, fun i hi => ?_⟩
  simp only [subP, List.length_map] at hi
  have e : (subP p ch).rels.getD i default = p.rels.getD (ch[i]) default := by simp [subP, List.getD, hi]
  rw [e]
  exact h.fine _ (hc _ (List.getElem_mem _))
end Go.Proofs.Ytamidopeojipkaa
