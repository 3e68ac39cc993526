/- A set of triples of integers, as a map[[3]int]bool holds it. -/
import Derived.Test.YtamidopeojipkaaRelR
import Derived.WideKeyArr
import Derived.Maps.Keyed
namespace Go.Proofs.Ytamidopeojipkaa
open Go.RowKit Go.WideMaps
set_option linter.unusedVariables false

theorem und62 : Try.prog.underlying 62 = some (.map 63 4) := by kernel_rfl
theorem und63 : Try.prog.underlying 63 = some (.array 3 3) := by kernel_rfl
theorem und3 : Try.prog.underlying 3 = some (.int .i64) := by kernel_rfl
theorem cells63 : Try.prog.cellsOf 63 = 3 := by kernel_rfl
theorem cells3 : Try.prog.cellsOf 3 = 1 := by kernel_rfl
theorem size_succ : ∃ m, Try.prog.types.size = m + 1 := ⟨Try.prog.types.size - 1, by kernel_rfl⟩
theorem arr63 : ArrKey Try.prog 63 3 3 := ⟨und63, by kernel_rfl, cells3, cells63⟩
theorem law63 : KeyLaw Try.prog 63 := arr63.law
theorem zero4 (w : World) : (zeroValue 4).run Try.prog w = .ok (.bool false) w := by kernel_rfl

/-- a triple as a key -/
def key3 (k : Int × Int × Int) : Value := .agg #[.int .i64 k.1, .int .i64 k.2.1, .int .i64 k.2.2]
def Fit3 (k : Int × Int × Int) : Prop := (Lit.int .i64 k.1).wf = true ∧ (Lit.int .i64 k.2.1).wf = true ∧ (Lit.int .i64 k.2.2).wf = true
theorem key3_inj {k l : Int × Int × Int} (h : key3 k = key3 l) : k = l := by
  obtain ⟨a, b, c⟩ := k
  obtain ⟨d, e, f⟩ := l
  simpa [key3] using h
theorem keyOf3 {k : Int × Int × Int} (h : Fit3 k) : ∃ l, keyOf Try.prog 63 (key3 k) = some l := by
  obtain ⟨a, b, c⟩ := k
  obtain ⟨h1, h2, h3⟩ := h
  obtain ⟨m, hm⟩ := size_succ
  have hf : (key3 (a, b, c)).formed Try.prog 63 = true := by simp [key3, Value.formed, cells63]
  have hk : Try.prog.keyType 63 = true := arr63.keyType size_succ
  have hl : ∀ (x : Int), (Lit.int .i64 x).wf = true → Try.prog.keyLits (m + 1) 3 [.int .i64 x] = some [.int .i64 x] := fun x hx => by
    simp [Program.keyLits, hx]
  have hl3 : Try.prog.keyLits (Try.prog.types.size + 1) 63 (key3 (a, b, c)).cells.toList = some [.int .i64 a, .int .i64 b, .int .i64 c] := by
    rw [hm]
    have e1 := hl _ h1
    have e2 := hl _ h2
    have e3 := hl _ h3
    rw [show ∀ cs, Try.prog.keyLits (m + 1 + 1) 63 cs = if cs.length = Try.prog.cellsOf 63 then ((List.range 3).mapM fun i => Try.prog.keyLits (m + 1) 3 ((cs.drop (i * Try.prog.cellsOf 3)).take (Try.prog.cellsOf 3))).map List.flatten else none from fun cs => by rw [Program.keyLits]; simp only [und63]]
    rw [cells63, cells3, if_pos (by rfl)]
    rw [show List.range 3 = [0, 1, 2] from rfl]
    simp [key3, Value.cells, e1, e2, e3]
  refine ⟨.string (keyBytes [.int .i64 a, .int .i64 b, .int .i64 c]), ?_⟩
  unfold keyOf
  simp only [und63, hk, hf, Bool.and_self, if_true]
  rw [hl3]
  rfl

/-- Block b holds the set of the triples of ks. -/
def SetAt (w : World) (b : Nat) (ks : List (Int × Int × Int)) : Prop :=
  ∃ es clock, w.heap[b]? = some (.map es clock) ∧ (∀ e ∈ es.toList, e.val = .bool true ∧ ∃ k, k ∈ ks ∧ Fit3 k ∧ e.key = key3 k) ∧ ∀ k, k ∈ ks → Fit3 k ∧ ∃ e ∈ es.toList, e.key = key3 k
theorem SetAt.block {w w' : World} {b : Nat} {ks : List (Int × Int × Int)} (h : SetAt w b ks) (hb : w'.heap[b]? = w.heap[b]?) : SetAt w' b ks := by
  obtain ⟨es, clock, h1, h2⟩ := h
  exact ⟨es, clock, hb.trans h1, h2⟩
theorem SetAt.lt {w : World} {b : Nat} {ks : List (Int × Int × Int)} (h : SetAt w b ks) : b < w.heap.size := by
  obtain ⟨es, clock, h1, h2⟩ := h
  exact (Array.getElem?_eq_some_iff.1 h1).1
theorem SetAt.made (w : World) : SetAt (w.alloc (.map #[] 0)) w.heap.size [] :=
  ⟨#[], 0, heap_alloc_new _ _, fun e he => by simp at he, fun k hk => by simp at hk⟩
theorem SetAt.look {w : World} {b : Nat} {ks : List (Int × Int × Int)} (h : SetAt w b ks) {k : Int × Int × Int} (hk : Fit3 k) :
    (Instr.lookup 62 (.map (some b)) (key3 k) false).run Try.prog w = .ok (.bool (decide (k ∈ ks))) w := by
  obtain ⟨es, clock, hb, h1, h2⟩ := h
  obtain ⟨l, hl⟩ := keyOf3 hk
  have hg : (getObj b).run Try.prog w = .ok (.map es clock) w := by simp [getObj, Sem.run, hb]
  have hkeys : ∀ e ∈ es.toList, ∃ l, keyOf Try.prog 63 e.key = some l := fun e he => by
    obtain ⟨_, k', _, hf, e'⟩ := h1 e he
    rw [e']; exact keyOf3 hf
  rcases law63.find w hl es.toList hkeys with ⟨hf, hno⟩ | ⟨j, e0, hf, hj, he⟩
  · have hn : ¬ k ∈ ks := fun hm => by
      obtain ⟨_, e, he1, he2⟩ := h2 k hm
      exact hno e he1 he2
    rw [decide_eq_false hn]
    simp [Instr.lookup, run_underlying und62, hg, law63.check w _ hl, hf, zero4 w, Result.andThen]
  · have hm0 : e0 ∈ es.toList := List.mem_of_getElem? hj
    obtain ⟨hv, k', hk', _, e'⟩ := h1 e0 hm0
    have : k' = k := key3_inj (e'.symm.trans he)
    subst this
    rw [decide_eq_true hk']
    simp [Instr.lookup, run_underlying und62, hg, law63.check w _ hl, hf, hv, Result.andThen]
theorem SetAt.add {w : World} {b : Nat} {ks : List (Int × Int × Int)} (h : SetAt w b ks) {k : Int × Int × Int} (hk : Fit3 k) (hn : k ∉ ks) :
    ∃ w', (Instr.mapUpdate 62 (.map (some b)) (key3 k) (.bool true)).run Try.prog w = .ok () w' ∧ SetAt w' b (ks ++ [k]) ∧ w'.heap.size = w.heap.size ∧ w.grownBy w' (some b) := by
  have hlt := h.lt
  obtain ⟨es, clock, hb, h1, h2⟩ := h
  obtain ⟨l, hl⟩ := keyOf3 hk
  have hg : (getObj b).run Try.prog w = .ok (.map es clock) w := by simp [getObj, Sem.run, hb]
  have hs : ∀ o, (setObj b o).run Try.prog w = .ok () { w with heap := w.heap.setIfInBounds b o } := fun o => by simp [setObj, Sem.run, hb]
  have hkeys : ∀ e ∈ es.toList, ∃ l, keyOf Try.prog 63 e.key = some l := fun e he => by
    obtain ⟨_, k', _, hf, e'⟩ := h1 e he
    rw [e']; exact keyOf3 hf
  rcases law63.find w hl es.toList hkeys with ⟨hf, hno⟩ | ⟨j, e0, hf, hj, he⟩
  · refine ⟨{ w with heap := w.heap.setIfInBounds b (.map (es.push { key := key3 k, val := .bool true, born := clock }) (clock + 1)) }, ?_, ⟨es.push { key := key3 k, val := .bool true, born := clock }, clock + 1, by simp [hlt], ?_, ?_⟩, by simp, ⟨rfl, rfl, rfl, by simp, fun q hq hne => by simp [show ¬ b = q from fun e => hne (by rw [e])]⟩⟩
    · simp [Instr.mapUpdate, run_underlying und62, hg, law63.check w _ hl, hf, hs]
    · intro e he
      simp only [Array.toList_push, List.mem_append, List.mem_singleton] at he
      rcases he with he | rfl
      · obtain ⟨hv, k', hk', hf', e'⟩ := h1 e he
        exact ⟨hv, k', List.mem_append_left _ hk', hf', e'⟩
      · exact ⟨rfl, k, by simp, hk, rfl⟩
    · intro k' hk'
      rcases List.mem_append.1 hk' with hk' | hk'
      · obtain ⟨hf', e, he, e'⟩ := h2 k' hk'
        exact ⟨hf', e, by simp [he], e'⟩
      · rw [List.mem_singleton.1 hk']
        exact ⟨hk, { key := key3 k, val := .bool true, born := clock }, by simp, rfl⟩
  · exact absurd (by
      have hm0 : e0 ∈ es.toList := List.mem_of_getElem? hj
      obtain ⟨hv, k', hk', _, e'⟩ := h1 e0 hm0
      have : k' = k := key3_inj (e'.symm.trans he)
      subst this
      exact hk') hn
/-- m[key] = true at the operation. -/
theorem wpList_add {ops : Array Oper} {rest : List Oper} {o : Oper} {a : Act} {w : World} {b : Nat} {ks : List (Int × Int × Int)} {Q : Exit → Act → World → Prop}
    (hg : o.guard = none) (mo x v : Operand) (hop : o.op = Op.mapUpdate 62 mo x v) (hm : a.eval mo = .map (some b)) (h : SetAt w b ks) (k : Int × Int × Int) (hx : a.eval x = key3 k) (hv : a.eval v = .bool true) (hk : Fit3 k) (hn : k ∉ ks)
    (hK : ∀ w', SetAt w' b (ks ++ [k]) → w'.heap.size = w.heap.size → w.grownBy w' (some b) → wpList Try.prog ops Q rest (a.put o.dst undef) w') :
    wpList Try.prog ops Q (o :: rest) a w := by
  refine wpList_plain hg fun K' hK' => ?_
  obtain ⟨w', hrun, r1, r2, r3⟩ := h.add hk hn
  unfold Oper.wp
  simp [execOp, hop, hm, hx, hv, hrun, Result.andThen]
  exact hK' _ _ (hK w' r1 r2 r3)
end Go.Proofs.Ytamidopeojipkaa
