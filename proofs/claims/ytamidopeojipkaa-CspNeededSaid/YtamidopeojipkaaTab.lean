/- Rows that grow; tables of flags. -/
import Derived.Test.YtamidopeojipkaaCheckR
import Derived.Laws.CopyOwn
import Derived.Maps.AppendAt
import Derived.OneCell
namespace Go.Proofs.Ytamidopeojipkaa
open Go.RowKit
set_option linter.unusedVariables false

theorem info3 : (Try.prog.info? 3).map (fun i => (i.zero, i.size, i.bytes)) = some (some (.int .i64 0), 1, 8) := by kernel_rfl
theorem info4 : (Try.prog.info? 4).map (fun i => (i.zero, i.size, i.bytes)) = some (some (.bool false), 1, 1) := by kernel_rfl
theorem info22 : (Try.prog.info? 22).map (fun i => (i.zero, i.size, i.bytes)) = some (some (.slice none 0 0), 1, 24) := by kernel_rfl
theorem info33 : (Try.prog.info? 33).map (fun i => (i.zero, i.size, i.bytes)) = some (some (.slice none 0 0), 1, 24) := by kernel_rfl
theorem und22 : Try.prog.underlying 22 = some (.slice 3) := by kernel_rfl
theorem und30 : Try.prog.underlying 30 = some (.slice 33) := by kernel_rfl
theorem und33 : Try.prog.underlying 33 = some (.slice 4) := by kernel_rfl
theorem und39 : Try.prog.underlying 39 = some (.slice 22) := by kernel_rfl

theorem grow_alloc {w w' : World} {o : Obj} {row : Option Nat} (h : (w.alloc o).grownBy w' row) : w.grownBy w' row :=
  ⟨h.os, h.tape, h.output, Nat.le_trans (by simp) h.size, fun k hk hr => (h.block k (by simp; omega) hr).trans (Below.heap_alloc w o k hk)⟩
theorem grow_trans {w w1 w2 : World} {row : Option Nat} (h1 : w.grownBy w1 row) (h2 : w1.grownBy w2 row) : w.grownBy w2 row :=
  ⟨h2.os.trans h1.os, h2.tape.trans h1.tape, h2.output.trans h1.output, Nat.le_trans h1.size h2.size, fun k hk hr => (h2.block k (Nat.lt_of_lt_of_le hk h1.size) hr).trans (h1.block k hk hr)⟩
theorem Below.grown {w w' : World} (h : Below w.heap.size w w') (row : Option Nat) : w.grownBy w' row := ⟨h.os, h.tape, h.output, h.size, fun k hk _ => h.block k hk⟩

/-- append(s, u), u a value of one cell, s the call's own: u has just been laid in a block of its own. -/
theorem run_push {S E : TypeId} {z : Value} {by_ : Nat} (hS : Try.prog.underlying S = some (.slice E)) (hI : (Try.prog.info? E).map (fun i => (i.zero, i.size, i.bytes)) = some (some z, 1, by_)) (hz : z.cells.size = 1) (hby : by_ ≤ 64)
    (w : World) (ty : TypeId) (base : Nat) (v : Value) (n : Nat) (xs : List Value) (u : Value) (hu : u.oneCell' = true) (hown : w.ownsRow base E 1 v n xs) (hn : n ≤ 2000000) (hbase : base ≤ w.heap.size) :
    ∃ v' w', (Builtin.append_ #[S, S] ty #[v, .slice (some ⟨w.heap.size, 0, none⟩) 1 1]).run Try.prog (w.alloc (.cells #[u] E)) = .ok v' w' ∧ w'.ownsRow base E 1 v' (n + 1) (xs ++ [u]) ∧ w.grownBy w' v.ownBlock ∧
      (v'.ownBlock = v.ownBlock ∨ v'.ownBlock = some (w.heap.size + 1)) := by
  obtain ⟨i0, hi, hz0, hz1, hz2⟩ := info_parts hI
  obtain ⟨v', w', hr, hown', hg, _, hat⟩ := run_append_own_at (P := Try.prog) (w.alloc (.cells #[u] E)) base S ty E i0 z 1 by_ hS hi hz0 hz1 hz2 hz (by decide) v n xs (hown.alloc _)
    ⟨w.heap.size, 0, none⟩ 1 1 [u] rfl (by
      intro j t hj
      match j, hj with
      | 0, hj => simp at hj; subst hj; simp [Addr.add, World.cell?_alloc_at]) (by intro t ht; simp at ht; subst ht; exact hu) (by unfold maxLen; omega)
    (Nat.le_trans (Nat.mul_le_mul_left _ hby) (by omega)) (by simp; omega)
  refine ⟨v', w', hr, hown', grow_alloc hg, ?_⟩
  rwa [World.size_alloc] at hat
theorem wpList_pushV {S E : TypeId} {z : Value} {by_ : Nat} (hS : Try.prog.underlying S = some (.slice E)) (hI : (Try.prog.info? E).map (fun i => (i.zero, i.size, i.bytes)) = some (some z, 1, by_)) (hz : z.cells.size = 1) (hby : by_ ≤ 64)
    {w : World} {ops : Array Oper} {rest : List Oper} {o : Oper} {a : Act} {Q : Exit → Act → World → Prop} (hgd : o.guard = none) (s x : Operand)
    (ho : o.op = .call { callee := .builtin .append, args := #[s, x], argTypes := #[S, S] })
    (base : Nat) (v : Value) (n : Nat) (xs : List Value) (u : Value) (hs : a.eval s = v) (hu : u.oneCell' = true) (hown : w.ownsRow base E 1 v n xs)
    (hx : a.eval x = .slice (some ⟨w.heap.size, 0, none⟩) 1 1) (hn : n ≤ 2000000) (hbase : base ≤ w.heap.size)
    (h : ∀ v' w', w'.ownsRow base E 1 v' (n + 1) (xs ++ [u]) → w.grownBy w' v.ownBlock → (v'.ownBlock = v.ownBlock ∨ v'.ownBlock = some (w.heap.size + 1)) → wpList Try.prog ops Q rest (a.put o.dst v') w') :
    wpList Try.prog ops Q (o :: rest) a (w.alloc (.cells #[u] E)) := by
  refine wpList_plain hgd fun K hK => ?_
  obtain ⟨v', w', hr, h2, h3, h4⟩ := run_push hS hI hz hby w o.type base v n xs u hu hown hn hbase
  unfold Oper.wp execOp
  simp only [ho, resolve, invoke, builtin, Sem.run_bind, Sem.run_pure, Result.andThen_ok, List.map_toArray, List.map_cons, List.map_nil, hs, hx, hr]
  exact hK _ _ (h v' w' h2 h3 h4)

/-- the cells of a row of flags -/
def rowB (f : Nat → Bool) (m : Nat) : Array Value := ((List.range m).map fun j => Value.bool (f j)).toArray
theorem rowB_size (f : Nat → Bool) (m : Nat) : (rowB f m).size = m := by simp [rowB]
theorem rowB_at (f : Nat → Bool) {m j : Nat} (hj : j < m) : (rowB f m)[j]? = some (.bool (f j)) := by simp [rowB, hj]
theorem rowB_set (f : Nat → Bool) (m j : Nat) (b : Bool) : (rowB f m).setIfInBounds j (.bool b) = rowB (fun c => if c = j then b else f c) m := by
  apply Array.ext
  · simp [rowB_size]
  · intro i h1 h2
    simp [rowB_size] at h1
    rw [Array.getElem_setIfInBounds (by simpa [rowB_size] using h1)]
    simp only [rowB]
    by_cases e : j = i
    · subst e; simp
    · simp [e, show ¬ i = j from fun h => e h.symm]
theorem rowB_congr {f g : Nat → Bool} {m : Nat} (h : ∀ j, j < m → f j = g j) : rowB f m = rowB g m := by
  unfold rowB
  congr 1
  refine List.map_congr_left fun j hj => ?_
  rw [h j (List.mem_range.1 hj)]

/-- make([]bool, n) -/
theorem wpList_mkB {w : World} {ops : Array Oper} {rest : List Oper} {o : Oper} {a : Act} {Q : Exit → Act → World → Prop} (hgd : o.guard = none) (x y : Operand)
    (hop : o.op = Op.makeSlice 33 x y) (n : Nat) (hx : a.eval x = .int .i64 n) (hy : a.eval y = .int .i64 n) (hn : n ≤ 1000000)
    (h : wpList Try.prog ops Q rest (a.put o.dst (.slice (some ⟨w.heap.size, 0, none⟩) n n)) (w.alloc (.cells (rowB (fun _ => false) n) 4))) :
    wpList Try.prog ops Q (o :: rest) a w := by
  refine wpList_plain hgd fun K hK => ?_
  obtain ⟨i0, hi, hz0, hz1, hz2⟩ := info_parts info4
  have hr := run_make (P := Try.prog) w 33 4 i0 (.bool false) und33 hi hz0 .i64 .i64 n n (by omega) (Int.le_refl _) (by rw [hz2]; omega) (by omega)
  have e : madeCells (Value.bool false).cells ((n : Int).toNat * i0.size) = rowB (fun _ => false) n := by
    rw [hz1, Int.toNat_natCast, Nat.mul_one]
    show madeCells #[Value.bool false] n = _
    apply Array.ext
    · rw [size_madeCells, rowB_size]
    · intro j h1 h2
      simp [madeCells, rowB, Nat.mod_one]
  rw [e, Int.toNat_natCast] at hr
  unfold Oper.wp execOp
  simp only [hop, Sem.run_bind, Sem.run_pure, Result.andThen_ok, hx, hy, hr]
  exact hK _ _ h

/-- A table of flags: row i, of m i flags, lies in block bs i. -/
structure TabAt (w : World) (base : Nat) (v : Value) (bs : Nat → Nat) (n : Nat) (m : Nat → Nat) (f : Nat → Nat → Bool) : Prop where
  own : w.ownsRow base 33 1 v n ((List.range n).map fun i => .slice (some ⟨bs i, 0, none⟩) (m i) (m i))
  rows : ∀ i, i < n → base ≤ bs i ∧ v.ownBlock ≠ some (bs i) ∧ w.heap[bs i]? = some (.cells (rowB (f i) (m i)) 4 (0, 0))
  inj : ∀ i j, i < n → j < n → bs i = bs j → i = j
theorem TabAt.nil (w : World) (base : Nat) (bs : Nat → Nat) (m : Nat → Nat) (f : Nat → Nat → Bool) : TabAt w base (.slice none 0 0) bs 0 m f :=
  ⟨World.ownsRow_nil _ _ _ _, fun i hi => by omega, fun i j hi => by omega⟩
/-- the blocks of a table -/
def Tabs (v : Value) (bs : Nat → Nat) (n : Nat) : Nat → Prop := fun k => v.ownBlock = some k ∨ ∃ i, i < n ∧ bs i = k
theorem TabAt.row {w : World} {base : Nat} {v : Value} {bs : Nat → Nat} {n : Nat} {m : Nat → Nat} {f : Nat → Nat → Bool} (h : TabAt w base v bs n m f) {i : Nat} (hi : i < n) :
    w.heap[bs i]? = some (.cells (rowB (f i) (m i)) 4 (0, 0)) := (h.rows i hi).2.2
theorem TabAt.shape {w : World} {base : Nat} {v : Value} {bs : Nat → Nat} {n : Nat} {m : Nat → Nat} {f : Nat → Nat → Bool} (h : TabAt w base v bs n m f) :
    (v = .slice none 0 0 ∧ n = 0) ∨ ∃ g cap, v = .slice (some ⟨g, 0, none⟩) n cap ∧ n ≤ cap ∧ cap ≤ 9223372036854775807 ∧ g < w.heap.size ∧ base ≤ g ∧ ∀ i, i < n → w.cell? ⟨g, i, none⟩ = some (.slice (some ⟨bs i, 0, none⟩) (m i) (m i)) := by
  rcases h.own.2 with ⟨h1, h2⟩ | ⟨g, cap, cur, hv, hb, hg, hn, hm, hs, ht⟩
  · exact .inl ⟨h1, h2⟩
  · refine .inr ⟨g, cap, hv, hn, by unfold maxLen at hm; omega, (Array.getElem?_eq_some_iff.1 hg).1, hb, fun i hi => ?_⟩
    rw [cell_of_row w g i cur _ (0, 0) hg]
    have e : cur[i]? = (cur.toList.take (n * 1))[i]? := by
      rw [List.getElem?_take, if_pos (by omega)]; simp
    rw [e, ht]
    simp [hi]
theorem TabAt.lt {w : World} {base : Nat} {v : Value} {bs : Nat → Nat} {n : Nat} {m : Nat → Nat} {f : Nat → Nat → Bool} (h : TabAt w base v bs n m f) : Under (Tabs v bs n) w.heap.size := by
  rintro k (hk | ⟨i, hi, rfl⟩)
  · rcases h.own.2 with ⟨h1, h2⟩ | ⟨g, cap, cur, hv, hb, hg, hn, hm, hs, ht⟩
    · rw [h1] at hk; cases hk
    · rw [hv] at hk
      cases hk
      exact (Array.getElem?_eq_some_iff.1 hg).1
  · exact (Array.getElem?_eq_some_iff.1 (h.row hi)).1
theorem TabAt.base {w : World} {base : Nat} {v : Value} {bs : Nat → Nat} {n : Nat} {m : Nat → Nat} {f : Nat → Nat → Bool} (h : TabAt w base v bs n m f) : ∀ k, Tabs v bs n k → base ≤ k := by
  rintro k (hk | ⟨i, hi, rfl⟩)
  · rcases h.own.2 with ⟨h1, h2⟩ | ⟨g, cap, cur, hv, hb, hg, hn, hm, hs, ht⟩
    · rw [h1] at hk; cases hk
    · rw [hv] at hk
      cases hk
      exact hb
  · exact (h.rows i hi).1
theorem TabAt.kept {w w' : World} {base : Nat} {v : Value} {bs : Nat → Nat} {n : Nat} {m : Nat → Nat} {f : Nat → Nat → Bool} (h : TabAt w base v bs n m f) (hk : Kept (Tabs v bs n) w w') : TabAt w' base v bs n m f := by
  refine ⟨?_, fun i hi => ⟨(h.rows i hi).1, (h.rows i hi).2.1, (hk _ (.inr ⟨i, hi, rfl⟩)).trans (h.row hi)⟩, h.inj⟩
  obtain ⟨h1, h2⟩ := h.own
  refine ⟨h1, ?_⟩
  rcases h2 with h2 | ⟨g, cap, cur, hv, hb, hg, hn, hm, hs, ht⟩
  · exact .inl h2
  · exact .inr ⟨g, cap, cur, hv, hb, (hk g (.inl (by rw [hv]; rfl))).trans hg, hn, hm, hs, ht⟩
theorem TabAt.below {w w' : World} {base : Nat} {v : Value} {bs : Nat → Nat} {n : Nat} {m : Nat → Nat} {f : Nat → Nat → Bool} (h : TabAt w base v bs n m f) (hb : Below w.heap.size w w') : TabAt w' base v bs n m f :=
  h.kept fun k hk => hb.block k (h.lt k hk)
theorem TabAt.near {w w' : World} {base : Nat} {v : Value} {bs : Nat → Nat} {n : Nat} {m : Nat → Nat} {f : Nat → Nat → Bool} {D : Nat → Prop} (h : TabAt w base v bs n m f) (hb : Near D w w') (hd : ∀ k, D k → ¬ Tabs v bs n k) : TabAt w' base v bs n m f :=
  h.kept fun k hk => hb.block k (h.lt k hk) fun e => hd k e hk
theorem TabAt.congr {w : World} {base : Nat} {v : Value} {bs : Nat → Nat} {n : Nat} {m : Nat → Nat} {f g : Nat → Nat → Bool} (h : TabAt w base v bs n m f) (e : ∀ i j, i < n → j < m i → f i j = g i j) : TabAt w base v bs n m g :=
  ⟨h.own, fun i hi => ⟨(h.rows i hi).1, (h.rows i hi).2.1, by rw [← rowB_congr (e i · hi)]; exact h.row hi⟩, h.inj⟩
theorem TabAt.msz {w : World} {base : Nat} {v : Value} {bs : Nat → Nat} {n : Nat} {m m2 : Nat → Nat} {f : Nat → Nat → Bool} (h : TabAt w base v bs n m f) (e : ∀ i, i < n → m i = m2 i) : TabAt w base v bs n m2 f := by
  refine ⟨?_, fun i hi => ⟨(h.rows i hi).1, (h.rows i hi).2.1, by rw [← e i hi]; exact h.row hi⟩, h.inj⟩
  have e2 : ((List.range n).map fun i => Value.slice (some ⟨bs i, 0, none⟩) (m2 i) (m2 i)) = ((List.range n).map fun i => Value.slice (some ⟨bs i, 0, none⟩) (m i) (m i)) := List.map_congr_left fun j hj => by rw [e j (List.mem_range.1 hj)]
  rw [e2]; exact h.own
theorem grown_below {w w0 w' : World} {v : Value} {n : Nat} {e size : Nat} {xs : List Value} (h : Below w.heap.size w w0) (hg : w0.grownBy w' v.ownBlock) (ho : w0.ownsRow w.heap.size e size v n xs) : Below w.heap.size w w' := by
  refine h.trans ⟨hg.os, hg.tape, hg.output, hg.size, fun k hk => hg.block k (Nat.lt_of_lt_of_le hk h.size) fun e => ?_⟩
  rcases ho.2 with ⟨h1, h2⟩ | ⟨g, cap, cur, hv, hb, _⟩
  · rw [h1] at e; cases e
  · rw [hv] at e
    have e2 : g = k := by simpa [Value.ownBlock] using e.symm
    exact absurd hb (by rw [e2]; exact Nat.not_le.2 hk)
/-- another flag at one place -/
def upd2 (f : Nat → Nat → Bool) (i j : Nat) (b : Bool) : Nat → Nat → Bool := fun a c => if a = i ∧ c = j then b else f a c
theorem TabAt.set {w : World} {base : Nat} {v : Value} {bs : Nat → Nat} {n : Nat} {m : Nat → Nat} {f : Nat → Nat → Bool} (h : TabAt w base v bs n m f) {i : Nat} (hi : i < n) (j : Nat) (b : Bool) :
    TabAt (w.setCell ⟨bs i, j, none⟩ (.bool b)) base v bs n m (upd2 f i j b) := by
  have hne : ∀ k, k ≠ bs i → (w.setCell ⟨bs i, j, none⟩ (.bool b)).heap[k]? = w.heap[k]? := fun k hk => Below.heap_setCell _ _ _ _ hk
  refine ⟨?_, fun a ha => ⟨(h.rows a ha).1, (h.rows a ha).2.1, ?_⟩, h.inj⟩
  · exact ownsRow_setCell_other h.own (h.rows i hi).2.1 _
  · by_cases e : a = i
    · subst e
      rw [setCell_row j _ (h.row ha), rowB_set]
      congr 2
      refine rowB_congr fun c _ => ?_
      simp [upd2]
    · rw [hne _ (fun e2 => e (h.inj a i ha hi e2)), h.row ha]
      congr 2
      refine rowB_congr fun c _ => ?_
      simp [upd2, e]
theorem TabAt.push {w w' : World} {base : Nat} {v v' : Value} {bs : Nat → Nat} {n : Nat} {m : Nat → Nat} {f : Nat → Nat → Bool} (h : TabAt w base v bs n m f) {b k : Nat} {g : Nat → Bool}
    (hb : w.heap[b]? = some (.cells (rowB g k) 4 (0, 0))) (hbase : base ≤ b) (hnot : ¬ Tabs v bs n b) (hown : w'.ownsRow base 33 1 v' (n + 1) (((List.range n).map fun i => .slice (some ⟨bs i, 0, none⟩) (m i) (m i)) ++ [.slice (some ⟨b, 0, none⟩) k k]))
    (hg : w.grownBy w' v.ownBlock) (hat : v'.ownBlock = v.ownBlock ∨ v'.ownBlock = some (w.heap.size + 1)) :
    TabAt w' base v' (fun i => if i = n then b else bs i) (n + 1) (fun i => if i = n then k else m i) (fun i => if i = n then g else f i) := by
  have hlt := (Array.getElem?_eq_some_iff.1 hb).1
  refine ⟨?_, fun i hi => ?_, fun i j hi hj e => ?_⟩
  · have e : ((List.range (n + 1)).map fun i => Value.slice (some ⟨if i = n then b else bs i, 0, none⟩) (if i = n then k else m i) (if i = n then k else m i)) = (((List.range n).map fun i => Value.slice (some ⟨bs i, 0, none⟩) (m i) (m i)) ++ [.slice (some ⟨b, 0, none⟩) k k]) := by
      rw [List.range_succ, List.map_append]
      congr 1
      · refine List.map_congr_left fun j hj => ?_
        have : j ≠ n := by have := List.mem_range.1 hj; omega
        simp [this]
      · simp
    rw [e]; exact hown
  · by_cases e : i = n
    · subst e
      simp only [if_true]
      refine ⟨hbase, ?_, (hg.block b hlt (fun e => hnot (.inl e.symm))).trans hb⟩
      rcases hat with e | e
      · rw [e]; exact fun e2 => hnot (.inl e2)
      · rw [e]; exact fun e2 => by have := Option.some.inj e2; omega
    · simp only [if_neg e]
      obtain ⟨r1, r2, r3⟩ := h.rows i (by omega)
      have hl := (Array.getElem?_eq_some_iff.1 r3).1
      refine ⟨r1, ?_, (hg.block _ hl (fun e => r2 e.symm)).trans r3⟩
      rcases hat with e2 | e2
      · rw [e2]; exact r2
      · rw [e2]; exact fun e3 => by have := Option.some.inj e3; omega
  · by_cases e1 : i = n
    · by_cases e2 : j = n
      · omega
      · simp only [e1, if_true, if_neg e2] at e
        exact absurd (.inr ⟨j, by omega, e.symm⟩) hnot
    · by_cases e2 : j = n
      · simp only [e2, if_true, if_neg e1] at e
        exact absurd (.inr ⟨i, by omega, e⟩) hnot
      · simp only [if_neg e1, if_neg e2] at e
        exact h.inj i j (by omega) (by omega) e
end Go.Proofs.Ytamidopeojipkaa
