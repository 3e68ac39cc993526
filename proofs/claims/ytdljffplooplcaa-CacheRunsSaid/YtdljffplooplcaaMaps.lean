/- Maps in the heap: a block that holds an association list, whatever the key's type; the operations' runs. -/
import Derived.WalkKit
import Derived.WalkLawsBesides
import Derived.WalkSpells
import Derived.Maps.OwnOps
namespace Go.Proofs.Ytdljffplooplcaa
open Go.RowKit Go.Instr


namespace Mp
variable {κ : Type} [DecidableEq κ]

/-- what lies under a key, and where -/
def getI (x : κ) : List (κ × Value) → Nat → Option (Nat × Value)
  | [], _ => none
  | p :: r, i => if x = p.1 then some (i, p.2) else getI x r (i + 1)

/-- what lies under a key -/
def get (x : κ) : List (κ × Value) → Option Value
  | [] => none
  | p :: r => if x = p.1 then some p.2 else get x r

/-- the list with v under x -/
def upd (x : κ) (v : Value) : List (κ × Value) → List (κ × Value)
  | [] => [(x, v)]
  | p :: r => if x = p.1 then (x, v) :: r else p :: upd x v r

/-- What the runs ask of a key's type. -/
structure KeyLaw (P : Program) (kt : TypeId) (emb : κ → Value) : Prop where
  check : ∀ e x w, (checkKey e 10000 kt (emb x)).run P w = .ok () w
  find : ∀ x (l : List MapEntry) (m : List (κ × Value)), l.map (fun e => (e.key, e.val)) = m.map (fun p => (emb p.1, p.2)) → ∀ w, (findKey kt (emb x) l).run P w = .ok (getI x m 0) w
  bits : ∀ x, sameBits 10000 (emb x) (emb x) = true

/-- Block b of w is a map that holds the list m. -/
def MapAt (w : World) (b : Nat) (emb : κ → Value) (m : List (κ × Value)) : Prop :=
  ∃ es clock, w.heap[b]? = some (.map es clock) ∧ es.toList.map (fun e => (e.key, e.val)) = m.map (fun p => (emb p.1, p.2))

omit [DecidableEq κ] in
theorem MapAt.lt {w : World} {b : Nat} {emb : κ → Value} {m : List (κ × Value)} (h : MapAt w b emb m) : b < w.heap.size := by
  obtain ⟨es, clock, hb, _⟩ := h
  exact (Array.getElem?_eq_some_iff.1 hb).1

omit [DecidableEq κ] in
theorem MapAt.block {w w' : World} {b : Nat} {emb : κ → Value} {m : List (κ × Value)} (h : MapAt w b emb m) (hb : w'.heap[b]? = w.heap[b]?) : MapAt w' b emb m := by
  obtain ⟨es, clock, h1, h2⟩ := h
  exact ⟨es, clock, hb.trans h1, h2⟩

omit [DecidableEq κ] in
theorem MapAt.made (w : World) (emb : κ → Value) : MapAt (w.alloc (.map #[] 0)) w.heap.size emb [] :=
  ⟨#[], 0, MapKept.heap_alloc w _ |>.1, rfl⟩

theorem getI_none {x : κ} : ∀ {m : List (κ × Value)} {i : Nat}, getI x m i = none → get x m = none ∧ ∀ v, upd x v m = m ++ [(x, v)]
  | [], _, _ => ⟨rfl, fun _ => rfl⟩
  | p :: r, i, h => by
    simp only [getI] at h
    by_cases hx : x = p.1
    · rw [if_pos hx] at h; cases h
    · rw [if_neg hx] at h
      have := getI_none h
      exact ⟨by unfold get; rw [if_neg hx]; exact this.1, fun v => by unfold upd; rw [if_neg hx, this.2 v]; rfl⟩

theorem getI_some {x : κ} {v : Value} : ∀ {m : List (κ × Value)} {i j : Nat}, getI x m i = some (j, v) → i ≤ j ∧ get x m = some v ∧ m[j - i]? = some (x, v) ∧ ∀ u, upd x u m = m.set (j - i) (x, u)
  | [], _, _, h => by simp [getI] at h
  | p :: r, i, j, h => by
    simp only [getI] at h
    by_cases hx : x = p.1
    · rw [if_pos hx] at h
      cases h
      refine ⟨Nat.le_refl _, by unfold get; rw [if_pos hx], ?_, fun u => by unfold upd; rw [if_pos hx, Nat.sub_self]; rfl⟩
      rw [Nat.sub_self, hx]; rfl
    · rw [if_neg hx] at h
      obtain ⟨h1, h2, h3, h4⟩ := getI_some h
      have e : j - i = (j - (i + 1)) + 1 := by omega
      refine ⟨by omega, by unfold get; rw [if_neg hx]; exact h2, by rw [e]; exact h3, fun u => ?_⟩
      unfold upd; rw [if_neg hx, h4 u, e]; rfl

theorem get_getI (x : κ) : ∀ (m : List (κ × Value)) (i : Nat), get x m = (getI x m i).map (·.2)
  | [], _ => rfl
  | p :: r, i => by
    unfold get getI
    split
    · rfl
    · exact get_getI x r (i + 1)

section runs
variable {P : Program} {kt et mt : TypeId} {emb : κ → Value} {w : World} {b : Nat} {m : List (κ × Value)}

theorem run_lookup (K : KeyLaw P kt emb) (ht : P.underlying mt = some (.map kt et)) {z : Value} (hz : (zeroValue et).run P w = .ok z w) (h : MapAt w b emb m) (x : κ) (ok : Bool) :
    (Instr.lookup mt (.map (some b)) (emb x) ok).run P w = .ok (if ok then .tuple #[(get x m).getD z, .bool (get x m).isSome] else (get x m).getD z) w := by
  obtain ⟨es, clock, hb, he⟩ := h
  have hf := K.find x es.toList m he w
  have hg : (getObj b).run P w = .ok (.map es clock) w := by simp [getObj, Sem.run, hb]
  rw [get_getI x m 0]
  cases hi : getI x m 0 with
  | none => rw [hi] at hf; simp [Instr.lookup, run_underlying ht, hg, K.check, hf, hz]
  | some p => rw [hi] at hf; simp [Instr.lookup, run_underlying ht, hg, K.check, hf]

theorem run_update (K : KeyLaw P kt emb) (ht : P.underlying mt = some (.map kt et)) (h : MapAt w b emb m) (x : κ) (v : Value) :
    ∃ w', (Instr.mapUpdate mt (.map (some b)) (emb x) v).run P w = .ok () w' ∧ MapAt w' b emb (upd x v m) ∧ w.grownBy w' (some b) := by
  have hlt := h.lt
  obtain ⟨es, clock, hb, he⟩ := h
  have hf := K.find x es.toList m he w
  have hg : (getObj b).run P w = .ok (.map es clock) w := by simp [getObj, Sem.run, hb]
  have hs : ∀ o, (setObj b o).run P w = .ok () { w with heap := w.heap.setIfInBounds b o } := fun o => by simp [setObj, Sem.run, hb]
  have hgr : ∀ o, w.grownBy { w with heap := w.heap.setIfInBounds b o } (some b) := fun o =>
    ⟨rfl, rfl, rfl, by simp, fun k hk hne => by simp [show ¬ b = k from fun e => hne (by rw [e])]⟩
  have hat : ∀ o, ({ w with heap := w.heap.setIfInBounds b o } : World).heap[b]? = some o := fun o => by simp [hlt]
  cases hi : getI x m 0 with
  | none =>
    rw [hi] at hf
    refine ⟨_, ?_, ⟨_, _, hat (.map (es.push { key := emb x, val := v, born := clock }) (clock + 1)), ?_⟩, hgr _⟩
    · simp [Instr.mapUpdate, run_underlying ht, hg, K.check, hf, hs]
    · rw [(getI_none hi).2 v]; simpa using he
  | some p =>
    obtain ⟨j, u⟩ := p
    rw [hi] at hf
    obtain ⟨_, _, h3, h4⟩ := getI_some hi
    have hlen : es.toList.length = m.length := by simpa using congrArg List.length he
    have hj : j < es.size := by
      have := (List.getElem?_eq_some_iff.1 h3).1
      simp at this hlen; omega
    have hk : (es[j]).key = emb x := by
      have h5 : (es.toList.map (fun e => (e.key, e.val)))[j]? = (m.map (fun p => (emb p.1, p.2)))[j]? := by rw [he]
      simp only [List.getElem?_map, Nat.sub_zero] at h5 h3
      rw [h3] at h5
      simp [hj] at h5
      exact h5.1
    refine ⟨_, ?_, ⟨_, _, hat (.map (es.modify j fun e => { e with key := emb x, val := v }) clock), ?_⟩, hgr _⟩
    · simp [Instr.mapUpdate, run_underlying ht, hg, K.check, hf, hs, keyThatStays, hj, hk, K.bits]
    · rw [h4 v, Nat.sub_zero, List.map_set, ← he]
      simp [Array.toList_modify, List.modify_eq_set]

/-- m[key] = v at the operation, for the walk. -/
theorem wpList_upd {ops : Array Oper} {rest : List Oper} {o : Oper} {a : Act} {Q : Exit → Act → World → Prop} (K : KeyLaw P kt emb) (ht : P.underlying mt = some (.map kt et))
    (hg : o.guard = none) (mo x v : Operand) (hop : o.op = Op.mapUpdate mt mo x v) (hm : a.eval mo = .map (some b)) (h : MapAt w b emb m) (key : κ) (hx : a.eval x = emb key)
    (hK : ∀ w', MapAt w' b emb (upd key (a.eval v) m) → w.grownBy w' (some b) → wpList P ops Q rest (a.put o.dst undef) w') :
    wpList P ops Q (o :: rest) a w := by
  refine wpList_plain hg fun K' hK' => ?_
  obtain ⟨w', hrun, r1, r2⟩ := run_update K ht h key (a.eval v)
  unfold Oper.wp
  simp [execOp, hop, hm, hx, hrun, Result.andThen]
  exact hK' _ _ (hK w' r1 r2)
end runs

theorem findNow_int {k : IntKind} (x : Int) : ∀ (l : List MapEntry) (m : List (Int × Value)) (i : Nat), l.map (fun e => (e.key, e.val)) = m.map (fun p => (Value.int k p.1, p.2)) →
    findNow (.int k) (.int k x) l i = some (getI x m i)
  | [], [], _, _ => rfl
  | [], _ :: _, _, h => by simp at h
  | _ :: _, [], _, h => by simp at h
  | e :: l, p :: m, i, h => by
    simp only [List.map_cons, List.cons.injEq, Prod.mk.injEq] at h
    obtain ⟨⟨h1, h2⟩, h3⟩ := h
    unfold findNow getI
    rw [h1]
    by_cases hx : x = p.1
    · simp [sameNow, hx, h2]
    · have hb : (x == p.1) = false := by simpa using hx
      simp [sameNow, hx, hb, findNow_int x l m (i + 1) h3]

theorem KeyLaw.int {P : Program} {kt : TypeId} {k : IntKind} (h : P.underlying kt = some (.int k)) : KeyLaw P kt (Value.int k) where
  check e x w := by
    show (checkKey e (9999 + 1) kt (Value.int k x)).run P w = _
    unfold checkKey
    simp [run_underlying h]
  find x l m hm w := by simp [findKey, run_underlying h, findNow_int x l m 0 hm]
  bits x := by simp [sameBits]

/-- the list without x -/
def del (x : κ) : List (κ × Value) → List (κ × Value)
  | [] => []
  | p :: r => if x = p.1 then r else p :: del x r

omit [DecidableEq κ] in
theorem map_erase {α β : Type} (f : α → β) : ∀ (l : List α) (j : Nat), (l.eraseIdx j).map f = (l.map f).eraseIdx j
  | [], _ => rfl
  | a :: l, 0 => rfl
  | a :: l, j + 1 => by simp [map_erase f l j]
theorem getI_none_del {x : κ} : ∀ {m : List (κ × Value)} {i : Nat}, getI x m i = none → del x m = m
  | [], _, _ => rfl
  | p :: r, i, h => by
    simp only [getI] at h
    by_cases hx : x = p.1
    · rw [if_pos hx] at h; cases h
    · rw [if_neg hx] at h
      unfold del; rw [if_neg hx, getI_none_del h]
theorem getI_some_del {x : κ} {v : Value} : ∀ {m : List (κ × Value)} {i j : Nat}, getI x m i = some (j, v) → i ≤ j ∧ del x m = m.eraseIdx (j - i)
  | [], _, _, h => by simp [getI] at h
  | p :: r, i, j, h => by
    simp only [getI] at h
    by_cases hx : x = p.1
    · rw [if_pos hx] at h
      cases h
      refine ⟨Nat.le_refl _, ?_⟩
      unfold del; rw [if_pos hx, Nat.sub_self]; rfl
    · rw [if_neg hx] at h
      obtain ⟨h1, h2⟩ := getI_some_del h
      have e : j - i = (j - (i + 1)) + 1 := by omega
      refine ⟨by omega, ?_⟩
      unfold del; rw [if_neg hx, h2, e]; rfl

section dels
variable {P : Program} {kt et mt : TypeId} {emb : κ → Value} {w : World} {b : Nat} {m : List (κ × Value)}

theorem run_delete (K : KeyLaw P kt emb) (ht : P.underlying mt = some (.map kt et)) (h : MapAt w b emb m) (x : κ) (ts : Array TypeId) (hts : ts[0]? = some mt) (ty : TypeId) :
    ∃ v w', (Builtin.delete_ ts ty #[.map (some b), emb x]).run P w = .ok v w' ∧ MapAt w' b emb (del x m) ∧ w.grownBy w' (some b) := by
  have hlt := h.lt
  obtain ⟨es, clock, hb, he⟩ := h
  have hf := K.find x es.toList m he w
  have hg : (getObj b).run P w = .ok (.map es clock) w := by simp [getObj, Sem.run, hb]
  have hs : ∀ o, (setObj b o).run P w = .ok () { w with heap := w.heap.setIfInBounds b o } := fun o => by simp [setObj, Sem.run, hb]
  have hgr : ∀ o, w.grownBy { w with heap := w.heap.setIfInBounds b o } (some b) := fun o =>
    ⟨rfl, rfl, rfl, by simp, fun k hk hne => by simp [show ¬ b = k from fun e => hne (by rw [e])]⟩
  have hat : ∀ o, ({ w with heap := w.heap.setIfInBounds b o } : World).heap[b]? = some o := fun o => by simp [hlt]
  cases hi : getI x m 0 with
  | none =>
    rw [hi] at hf
    refine ⟨.tuple #[], _, ?_, ⟨_, _, hat (.map es clock), ?_⟩, hgr _⟩
    · simp [Builtin.delete_, hts, run_underlying ht, hg, K.check, hf, hs]
    · rw [getI_none_del hi]; exact he
  | some p =>
    obtain ⟨j, u⟩ := p
    rw [hi] at hf
    obtain ⟨_, h2⟩ := getI_some_del hi
    refine ⟨.tuple #[], _, ?_, ⟨_, _, hat (.map (es.eraseIdxIfInBounds j) clock), ?_⟩, hgr _⟩
    · simp [Builtin.delete_, hts, run_underlying ht, hg, K.check, hf, hs]
    · have hl : (es.eraseIdxIfInBounds j).toList = es.toList.eraseIdx j := by
        unfold Array.eraseIdxIfInBounds
        split
        · simp
        · rename_i hn; rw [List.eraseIdx_of_length_le (by simpa using hn)]
      rw [h2, hl, Nat.sub_zero, map_erase, map_erase, he]
theorem run_delete' (K : KeyLaw P kt emb) (ht : P.underlying mt = some (.map kt et)) (h : MapAt w b emb m) (x : κ) (ts : Array TypeId) (hts : ts[0]? = some mt) (ty : TypeId) :
    ∃ v w', (Builtin.delete_ ts ty #[.map (some b), emb x]).run P w = .ok v w' ∧ MapAt w' b emb (del x m) ∧ w.grownBy w' (some b) ∧ w'.heap.size = w.heap.size := by
  have hlt := h.lt
  obtain ⟨es, clock, hb, he⟩ := h
  have hf := K.find x es.toList m he w
  have hg : (getObj b).run P w = .ok (.map es clock) w := by simp [getObj, Sem.run, hb]
  have hs : ∀ o, (setObj b o).run P w = .ok () { w with heap := w.heap.setIfInBounds b o } := fun o => by simp [setObj, Sem.run, hb]
  have hgr : ∀ o, w.grownBy { w with heap := w.heap.setIfInBounds b o } (some b) := fun o =>
    ⟨rfl, rfl, rfl, by simp, fun k hk hne => by simp [show ¬ b = k from fun e => hne (by rw [e])]⟩
  have hat : ∀ o, ({ w with heap := w.heap.setIfInBounds b o } : World).heap[b]? = some o := fun o => by simp [hlt]
  cases hi : getI x m 0 with
  | none =>
    rw [hi] at hf
    refine ⟨.tuple #[], _, ?_, ⟨_, _, hat (.map es clock), ?_⟩, hgr _, by simp⟩
    · simp [Builtin.delete_, hts, run_underlying ht, hg, K.check, hf, hs]
    · rw [getI_none_del hi]; exact he
  | some p =>
    obtain ⟨j, u⟩ := p
    rw [hi] at hf
    obtain ⟨_, h2⟩ := getI_some_del hi
    refine ⟨.tuple #[], _, ?_, ⟨_, _, hat (.map (es.eraseIdxIfInBounds j) clock), ?_⟩, hgr _, by simp⟩
    · simp [Builtin.delete_, hts, run_underlying ht, hg, K.check, hf, hs]
    · have hl : (es.eraseIdxIfInBounds j).toList = es.toList.eraseIdx j := by
        unfold Array.eraseIdxIfInBounds
        split
        · simp
        · rename_i hn; rw [List.eraseIdx_of_length_le (by simpa using hn)]
      rw [h2, hl, Nat.sub_zero, map_erase, map_erase, he]
end dels

theorem ba_beq (x y : ByteArray) : (x == y) = decide (x = y) := by
  cases x with | mk a => cases y with | mk b =>
  show (a == b) = _
  by_cases h : a = b
  · subst h; simp
  · simp [h]
theorem findNow_string (x : ByteArray) : ∀ (l : List MapEntry) (m : List (ByteArray × Value)) (i : Nat), l.map (fun e => (e.key, e.val)) = m.map (fun p => (Value.string p.1, p.2)) →
    findNow .string (.string x) l i = some (getI x m i)
  | [], [], _, _ => rfl
  | [], _ :: _, _, h => by simp at h
  | _ :: _, [], _, h => by simp at h
  | e :: l, p :: m, i, h => by
    simp only [List.map_cons, List.cons.injEq, Prod.mk.injEq] at h
    obtain ⟨⟨h1, h2⟩, h3⟩ := h
    unfold findNow getI
    rw [h1]
    by_cases hx : x = p.1
    · simp [sameNow, ba_beq, hx, h2]
    · simp [sameNow, ba_beq, hx, findNow_string x l m (i + 1) h3]

theorem KeyLaw.string {P : Program} {kt : TypeId} (h : P.underlying kt = some .string) : KeyLaw P kt Value.string where
  check e x w := by
    show (checkKey e (9999 + 1) kt (Value.string x)).run P w = _
    unfold checkKey
    simp [run_underlying h]
  find x l m hm w := by simp [findKey, run_underlying h, findNow_string x l m 0 hm]
  bits x := by simp [sameBits, ba_beq]
end Mp
end Go.Proofs.Ytdljffplooplcaa
