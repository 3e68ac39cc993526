/- All assignments in order: the plain part; the state of the reference's solver. -/
import Derived.Test.YtamidopeojipkaaSearch
import Derived.Test.YtamidopeojipkaaSatR
namespace Go.Proofs.Ytamidopeojipkaa
open Go.RowKit
set_option linter.unusedVariables false

/-- the assignments from one on -/
def fromA : List Int → List Int → List (List Int)
  | n :: s, x :: a => ((fromA s a).map fun b => x :: b) ++ (List.range' (x.toNat + 1) (n.toNat - (x.toNat + 1))).flatMap fun y : Nat => (ext s).map fun b => (y : Int) :: b
  | _, _ => [[]]
/-- the next assignment -/
def nxt : List Int → List Int → Option (List Int)
  | n :: s, x :: a => match nxt s a with
    | some b => some (x :: b)
    | none => if x + 1 < n then some ((x + 1) :: List.replicate s.length 0) else none
  | _, _ => none
theorem nxt_cons (n x : Int) (s a : List Int) : nxt (n :: s) (x :: a) = match nxt s a with
    | some b => some (x :: b)
    | none => if x + 1 < n then some ((x + 1) :: List.replicate s.length 0) else none := rfl
/-- an assignment within the sizes -/
def In : List Int → List Int → Prop
  | n :: s, x :: a => 0 ≤ x ∧ x < n ∧ In s a
  | [], [] => True
  | _, _ => False
def Pos (s : List Int) : Prop := ∀ n ∈ s, 1 ≤ n
theorem ext_zero : ∀ (s : List Int), Pos s → ext s = fromA s (List.replicate s.length 0)
  | [], _ => rfl
  | n :: s, h => by
    have hn : 1 ≤ n := h n (by simp)
    have ih := ext_zero s fun m hm => h m (by simp [hm])
    show _ = fromA (n :: s) ((0 : Int) :: List.replicate s.length 0)
    unfold fromA
    rw [← ih]
    show (List.range n.toNat).flatMap _ = _
    obtain ⟨k, hk⟩ : ∃ k, n.toNat = k + 1 := ⟨n.toNat - 1, by omega⟩
    rw [hk, List.range_eq_range', List.range'_succ, List.flatMap_cons]
    simp
theorem in_zero : ∀ (s : List Int), Pos s → In s (List.replicate s.length 0)
  | [], _ => trivial
  | n :: s, h => ⟨Int.le_refl _, by have := h n (by simp); omega, in_zero s fun m hm => h m (by simp [hm])⟩
theorem from_step : ∀ (s a : List Int), Pos s → In s a → fromA s a = a :: (match nxt s a with | none => [] | some b => fromA s b)
  | [], [], _, _ => rfl
  | n :: s, x :: a, h, hin => by
    have hp : Pos s := fun m hm => h m (by simp [hm])
    have ih := from_step s a hp hin.2.2
    obtain ⟨h0, h1, _⟩ := hin
    rw [show fromA (n :: s) (x :: a) = ((fromA s a).map fun b => x :: b) ++ (List.range' (x.toNat + 1) (n.toNat - (x.toNat + 1))).flatMap fun y : Nat => (ext s).map fun b => (y : Int) :: b from rfl, ih, List.map_cons, List.cons_append]
    congr 1
    rw [nxt_cons]
    cases hx : nxt s a with
    | some b => rfl
    | none =>
      simp only [List.map_nil, List.nil_append]
      by_cases e : x + 1 < n
      · rw [if_pos e]
        show _ = ((fromA s (List.replicate s.length 0)).map fun b => (x + 1) :: b) ++ (List.range' ((x + 1).toNat + 1) (n.toNat - ((x + 1).toNat + 1))).flatMap fun y : Nat => (ext s).map fun b => (y : Int) :: b
        rw [← ext_zero s hp]
        obtain ⟨k, hk⟩ : ∃ k, n.toNat - (x.toNat + 1) = k + 1 := ⟨n.toNat - (x.toNat + 1) - 1, by omega⟩
        rw [hk, List.range'_succ, List.flatMap_cons]
        have e1 : (x + 1).toNat = x.toNat + 1 := by omega
        have e2 : ((x.toNat + 1 : Nat) : Int) = x + 1 := by omega
        rw [e1, e2, show n.toNat - (x.toNat + 1 + 1) = k by omega]
      · rw [if_neg e, show n.toNat - (x.toNat + 1) = 0 by omega]; rfl
theorem nxt_none : ∀ (s a : List Int), a.length = s.length → (∀ j, j < s.length → a.getD j 0 = s.getD j 0 - 1) → nxt s a = none
  | [], [], _, _ => rfl
  | [], _ :: _, h, _ => by simp at h
  | _ :: _, [], h, _ => by simp at h
  | n :: s, x :: a, h, hm => by
    have ih := nxt_none s a (by simpa using h) fun j hj => by simpa using hm (j + 1) (by simpa using hj)
    have h0 : x = n - 1 := by simpa using hm 0 (by simp)
    unfold nxt
    rw [ih]
    simp only
    rw [if_neg (by omega)]
theorem zeros_of : ∀ (b : List Int) (n : Nat), b.length = n → (∀ j, j < n → b.getD j 0 = 0) → b = List.replicate n 0
  | [], 0, _, _ => rfl
  | [], n + 1, h, _ => by simp at h
  | _ :: _, 0, h, _ => by simp at h
  | x :: b, n + 1, h, hz => by
    have h0 : x = 0 := by simpa using hz 0 (by omega)
    rw [h0, List.replicate_succ, zeros_of b n (by simpa using h) fun j hj => by simpa using hz (j + 1) (by omega)]
theorem nxt_some : ∀ (k : Nat) (s a b : List Int), a.length = s.length → b.length = s.length → k < s.length → (∀ j, j < k → b.getD j 0 = a.getD j 0) → b.getD k 0 = a.getD k 0 + 1 → (∀ j, k < j → j < s.length → b.getD j 0 = 0) →
    a.getD k 0 + 1 < s.getD k 0 → (∀ j, k < j → j < s.length → a.getD j 0 = s.getD j 0 - 1) → nxt s a = some b
  | _, [], _, _, _, _, h, _, _, _, _, _ => by simp at h
  | _, _ :: _, [], _, h, _, _, _, _, _, _, _ => by simp at h
  | _, _ :: _, _ :: _, [], _, h, _, _, _, _, _, _ => by simp at h
  | 0, n :: s, x :: a, y :: b, h1, h2, hk, hj, hy, hz, hlt, hm => by
    have hn := nxt_none s a (by simpa using h1) fun j hj => by simpa using hm (j + 1) (by omega) (by simpa using hj)
    have hb := zeros_of b s.length (by simpa using h2) fun j hj => by simpa using hz (j + 1) (by omega) (by simpa using hj)
    have hy' : y = x + 1 := by simpa using hy
    have hlt' : x + 1 < n := by simpa using hlt
    unfold nxt
    rw [hn]
    simp only
    rw [if_pos hlt', hy', hb]
  | k + 1, n :: s, x :: a, y :: b, h1, h2, hk, hj, hy, hz, hlt, hm => by
    have ih := nxt_some k s a b (by simpa using h1) (by simpa using h2) (by simpa using hk) (fun j hj2 => by simpa using hj (j + 1) (by omega)) (by simpa using hy) (fun j hj2 hj3 => by simpa using hz (j + 1) (by omega) (by simpa using hj3)) (by simpa using hlt) (fun j hj2 hj3 => by simpa using hm (j + 1) (by omega) (by simpa using hj3))
    have h0 : y = x := by simpa using hj 0 (by omega)
    unfold nxt
    rw [ih, h0]
theorem in_iff : ∀ (s a : List Int), a.length = s.length → ((∀ j, j < s.length → 0 ≤ a.getD j 0 ∧ a.getD j 0 < s.getD j 0) ↔ In s a)
  | [], [], _ => ⟨fun _ => trivial, fun _ j hj => by simp at hj⟩
  | [], _ :: _, h => by simp at h
  | _ :: _, [], h => by simp at h
  | n :: s, x :: a, h => by
    have ih := in_iff s a (by simpa using h)
    constructor
    · intro hm
      have h0 := hm 0 (by simp)
      exact ⟨by simpa using h0.1, by simpa using h0.2, ih.1 fun j hj => by simpa using hm (j + 1) (by simpa using hj)⟩
    · rintro ⟨h0, h1, h2⟩ j hj
      cases j with
      | zero => exact ⟨by simpa using h0, by simpa using h1⟩
      | succ j => simpa using ih.2 h2 j (by simpa using hj)

/-- The list with another number at one place. -/
theorem OwnI.setAt {w : World} {base g n cap : Nat} {xs : List Int} (h : OwnI w base (.slice (some ⟨g, 0, none⟩) n cap) xs) {j : Nat} (hj : j < xs.length) (u : Int) : OwnI (w.setCell ⟨g, j, none⟩ (.int .i64 u)) base (.slice (some ⟨g, 0, none⟩) n cap) (xs.set j u) := by
  rcases h.2 with ⟨h0, _⟩ | ⟨g', cap', cur, hv, hb, hg, hn, hm, hs, ht⟩
  · cases h0
  · cases hv
    refine ⟨by simp, .inr ⟨g, cap, cur.setIfInBounds j (.int .i64 u), by rw [List.length_set], hb, setCell_row j _ hg, by simpa using hn, hm, by simpa using hs, ?_⟩⟩
    rw [List.length_set, List.map_set, ← ht, Array.toList_setIfInBounds, List.take_set]
theorem OwnI.at {w : World} {base g n cap : Nat} {xs : List Int} (h : OwnI w base (.slice (some ⟨g, 0, none⟩) n cap) xs) {j : Nat} (hj : j < xs.length) : w.cell? ⟨g, j, none⟩ = some (.int .i64 (xs.getD j 0)) ∧ w.frozen? ⟨g, j, none⟩ = false := by
  rcases h.2 with ⟨h0, _⟩ | ⟨g', cap', cur, hv, hb, hg, hn, hm, hs, ht⟩
  · cases h0
  · cases hv
    refine ⟨?_, frozen_row' _ _ j _ _ hg⟩
    rw [cell_of_row w g j cur _ (0, 0) hg]
    have e : cur[j]? = (cur.toList.take (xs.length * 1))[j]? := by
      rw [List.getElem?_take, if_pos (by omega)]; simp
    rw [e, ht]
    simp [List.getD, hj]
/-- make([]int, n) -/
theorem wpList_mkI {w : World} {ops : Array Oper} {rest : List Oper} {o : Oper} {a : Act} {Q : Exit → Act → World → Prop} (hgd : o.guard = none) (x y : Operand)
    (hop : o.op = Op.makeSlice 22 x y) (n : Nat) (hx : a.eval x = .int .i64 n) (hy : a.eval y = .int .i64 n) (hn : n ≤ 1000000)
    (h : ∀ w', OwnI w' w.heap.size (.slice (some ⟨w.heap.size, 0, none⟩) n n) (List.replicate n 0) → Below w.heap.size w w' → wpList Try.prog ops Q rest (a.put o.dst (.slice (some ⟨w.heap.size, 0, none⟩) n n)) w') :
    wpList Try.prog ops Q (o :: rest) a w := by
  obtain ⟨i0, hi, hz0, hz1, hz2⟩ := info_parts info3
  refine wpList_make_full w hgd x y 22 hop w.heap.size 3 i0 (.int .i64 0) 1 und22 hi hz0 hz1 .i64 .i64 n n n hx hy rfl rfl (by rw [hz2]; omega) (by unfold maxLen; omega) (Nat.le_refl _) ?_
  intro w' hown hg
  refine h w' ?_ ⟨hg.os, hg.tape, hg.output, hg.size, fun k hk => hg.block k hk (by simp)⟩
  have e : (madeCells (Value.int .i64 0).cells (n * 1)).toList = (List.replicate n (0 : Int)).map (Value.int .i64) := by
    rw [Nat.mul_one]
    show (madeCells #[Value.int .i64 0] n).toList = _
    apply List.ext_getElem
    · simp [size_madeCells]
    · intro j h1 h2
      simp [madeCells, Nat.mod_one]
  rw [e] at hown
  unfold OwnI
  rw [List.length_replicate]
  exact hown

/-- the reference's solver at work -/
structure RsAt (w W : World) (ab n : Nat) (c : List Int) (ov : Value) (vs : List Value) (out : List (List Int)) : Prop where
  bel : Below w.heap.size w W
  a : OwnI W w.heap.size (.slice (some ⟨ab, 0, none⟩) n n) c
  o : OwnL W w.heap.size ov vs out
  sep : ∀ u ∈ vs, u.ownBlock ≠ some ab
  hb : w.heap.size ≤ ab
theorem RsAt.next {w W W' : World} {ab n : Nat} {c : List Int} {ov : Value} {vs : List Value} {out : List (List Int)} (h : RsAt w W ab n c ov vs out) (hb : Below W.heap.size W W') : RsAt w W' ab n c ov vs out :=
  ⟨Below.next h.bel hb, h.a.block fun k hk => hb.block k (h.a.lt hk).2, h.o.block (Below.keptB hb h.o.under), h.sep, h.hb⟩
theorem RsAt.ane {w W : World} {ab n : Nat} {c : List Int} {ov : Value} {vs : List Value} {out : List (List Int)} (h : RsAt w W ab n c ov vs out) : ¬ Lsts ov vs ab := by
  rintro (e | ⟨u, hu, e⟩)
  · obtain ⟨cur, hc⟩ := h.o.type e
    obtain ⟨cur2, hc2⟩ := h.a.type (k := ab) rfl
    rw [hc2] at hc; simp at hc
  · exact h.sep u hu e
theorem RsAt.set {w W : World} {ab n : Nat} {c : List Int} {ov : Value} {vs : List Value} {out : List (List Int)} (h : RsAt w W ab n c ov vs out) {j : Nat} (hj : j < c.length) (u : Int) : RsAt w (W.setCell ⟨ab, j, none⟩ (.int .i64 u)) ab n (c.set j u) ov vs out :=
  ⟨h.bel.setCell (show w.heap.size ≤ (⟨ab, j, none⟩ : Addr).block from h.hb) _, h.a.setAt hj u, h.o.block fun k hk => Below.heap_setCell _ _ _ _ fun e => h.ane (by rw [show ab = k from e.symm]; exact hk), h.sep, h.hb⟩
theorem RsAt.push {w W W0 W' : World} {ab n : Nat} {c : List Int} {ov ov' u : Value} {vs : List Value} {out : List (List Int)} (h : RsAt w W ab n c ov vs out) (hb : Below W.heap.size W W0) (hu : OwnI W0 W.heap.size u c) (hg : W0.grownBy W' ov.ownBlock) (ho : W'.ownsRow w.heap.size 22 1 ov' (out.length + 1) (vs ++ [u])) :
    RsAt w W' ab n c ov' (vs ++ [u]) (out ++ [c]) := by
  have h0 := h.next hb
  have hold : ∀ k, k < W0.heap.size → ov.ownBlock ≠ some k → W'.heap[k]? = W0.heap[k]? := fun k hk he => hg.block k hk fun e => he e.symm
  have htype : ∀ {v : Value} {b2 : Nat} {xs : List Int}, OwnI W0 b2 v xs → ∀ k, v.ownBlock = some k → ov.ownBlock ≠ some k := fun hv k hk e => by
    obtain ⟨cur, hc⟩ := hv.type hk
    obtain ⟨cur2, hc2⟩ := h0.o.type e
    rw [hc] at hc2; simp at hc2
  have hkeep : ∀ {v : Value} {b2 : Nat} {xs : List Int}, OwnI W0 b2 v xs → OwnI W' b2 v xs := fun hv => hv.block fun k hk => hold k (hv.lt hk).2 (htype hv k hk)
  refine ⟨below_row h0.bel hg (fun k hk => h0.o.base k (.inl hk)) h0.bel.size, hkeep h0.a, ⟨?_, ?_, fun i hi => ?_⟩, fun v hv => ?_, h.hb⟩
  · rw [List.length_append, List.length_append, h.o.1]; rfl
  · rw [List.length_append]; exact ho
  · rw [List.length_append] at hi
    have hvl := h.o.1
    by_cases hlt : i < out.length
    · have e1 : (vs ++ [u]).getD i undef = vs.getD i undef := by simp [List.getD, List.getElem?_append, hvl, hlt]
      have e2 : (out ++ [c]).getD i [] = out.getD i [] := by simp [List.getD, List.getElem?_append, hlt]
      rw [e1, e2]
      exact hkeep (h0.o.2.2 i hlt)
    · have e : i = out.length := by simp at hi; omega
      subst e
      have e1 : (vs ++ [u]).getD out.length undef = u := by simp [List.getD, ← hvl]
      have e2 : (out ++ [c]).getD out.length [] = c := by simp [List.getD]
      rw [e1, e2]
      exact (hkeep hu).mono h.bel.size
  · rcases List.mem_append.1 hv with hv | hv
    · exact h.sep v hv
    · rw [List.mem_singleton.1 hv]
      intro e
      have := (hu.lt e).1
      have := (h.a.lt (k := ab) rfl).2
      omega
end Go.Proofs.Ytamidopeojipkaa
