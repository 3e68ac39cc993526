/- CspNeeded: the walk. -/
import Derived.Test.YtamidopeojipkaaNeedP
import Derived.Test.YtamidopeojipkaaCLw
import Derived.Test.YtamidopeojipkaaAlive
namespace Go.Proofs.Ytamidopeojipkaa
open Go.RowKit
set_option linter.unusedVariables false

/-- a problem that is put together in block tb -/
structure NdAt (w W : World) (P : Nat → Prop) (s r : Value) (tb : Nat) (t : Value) (rs : List Rel) : Prop where
  px : PxAt w s r W
  row : W.heap[tb]? = some (.cells #[s, t] 25 (0, 0))
  own : OwnR W (tb + 1) P t rs
  hP : Under P w.heap.size
  htb : w.heap.size < tb
theorem NdAt.lt {w W : World} {P : Nat → Prop} {s r t : Value} {tb : Nat} {rs : List Rel} (h : NdAt w W P s r tb t rs) : tb + 1 ≤ W.heap.size := (Array.getElem?_eq_some_iff.1 h.row).1
theorem NdAt.next {w W W' : World} {P : Nat → Prop} {s r t : Value} {tb : Nat} {rs : List Rel} (h : NdAt w W P s r tb t rs) (hb : Below W.heap.size W W') : NdAt w W' P s r tb t rs := by
  have := h.lt
  exact ⟨h.px.next hb, (hb.block _ (by omega)).trans h.row, h.own.below (h.hP.le h.px.bel.size) hb, h.hP, h.htb⟩
theorem NdAt.start {w W : World} {P : Nat → Prop} {s r : Value} (h : PxAt w s r W) (hP : Under P w.heap.size) : NdAt w (W.alloc (.cells #[s, .slice none 0 0] 25)) P s r W.heap.size (.slice none 0 0) [] :=
  ⟨h.next ((Below.refl _ W).alloc (Nat.le_refl _) _), heap_alloc_new _ _, OwnR.nil _ _ _, hP, h.lt⟩
theorem NdAt.c {w W : World} {P : Nat → Prop} {s r t : Value} {tb : Nat} {rs : List Rel} (h : NdAt w W P s r tb t rs) : W.cell? ⟨w.heap.size, 0, none⟩ = some s ∧ W.cell? ⟨w.heap.size, 1, none⟩ = some r ∧ W.cell? ⟨tb, 0, none⟩ = some s ∧ W.cell? ⟨tb, 1, none⟩ = some t ∧ W.frozen? ⟨tb, 1, none⟩ = false :=
  ⟨h.px.s, h.px.r, (cell_row' _ _ 0 _ _ h.row).trans rfl, (cell_row' _ _ 1 _ _ h.row).trans rfl, frozen_row' _ _ 1 _ _ h.row⟩
theorem NdAt.push {w W W' : World} {P : Nat → Prop} {s r t t' : Value} {tb : Nat} {rs rs' : List Rel} (h : NdAt w W P s r tb t rs) (hg : W.grownBy W' t.ownBlock) (ho : OwnR W' (tb + 1) P t' rs') : NdAt w (W'.setCell ⟨tb, 1, none⟩ t') P s r tb t' rs' := by
  have hl := h.lt
  have htb := h.htb
  have hold : ∀ k, k < tb + 1 → W'.heap[k]? = W.heap[k]? := fun k hk => hg.block k (by omega) fun e => by have := (h.own.lt e.symm).1; omega
  have hne : ∀ k, k ≠ tb → (W'.setCell ⟨tb, 1, none⟩ t').heap[k]? = W'.heap[k]? := fun k hk => Below.heap_setCell _ _ _ _ hk
  refine ⟨⟨?_, ?_⟩, ?_, ?_, h.hP, htb⟩
  · exact (below_row h.px.bel hg (fun k hk => by have := (h.own.lt hk).1; omega) h.px.bel.size).setCell (show w.heap.size ≤ (⟨tb, 1, none⟩ : Addr).block from by show w.heap.size ≤ tb; omega) _
  · rw [hne _ (by omega), hold _ (by omega)]; exact h.px.r0
  · exact (setCell_row 1 _ ((hold _ (by omega)).trans h.row)).trans rfl
  · exact ho.kept (fun k hk => hne k (by have := h.hP k hk; omega)) fun k hk => hne k (by have := (ho.lt hk).1; omega)
theorem NdAt.old {w W W' : World} {P : Nat → Prop} {s r t : Value} {tb : Nat} {rs : List Rel} (h : NdAt w W P s r tb t rs) (hg : W.grownBy W' t.ownBlock) : W'.heap[tb]? = some (.cells #[s, t] 25 (0, 0)) := by
  have hl := h.lt
  exact (hg.block tb (by omega) fun e => by have := (h.own.lt e.symm).1; omega).trans h.row
theorem NdAt.calls {w W : World} {P : Nat → Prop} {s r t : Value} {tb : Nat} {p : Prob} {L : List Nat} (h : NdAt w W P s r tb t (L.map fun i => p.rels.getD i default)) (hs : IntsAt w P s p.sizes) :
    (Calls Try.prog 18 #[.agg #[s, t]] W fun e w' => e = .returned (.tuple #[.int .i64 (countN (subP p L)), .int .i64 (countE (subP p L))]) ∧ Below W.heap.size W w') ∧ Calls Try.prog 16 #[.agg #[s, t]] W (SolvePost (subP p L) W) := by
  have h1 : IntsAt W (fun k => P k ∨ t.ownBlock = some k) s (subP p L).sizes := (hs.kept (Below.keptB h.px.bel h.hP)).wide fun k hk => .inl hk
  exact ⟨count_any h1 h.own.rels (h.own.under (h.hP.le h.px.bel.size)), solve_any h1 h.own.rels (h.own.under (h.hP.le h.px.bel.size))⟩
/-- the errors and numbers of the problems put together -/
theorem turned_count {p : Prob} (h : countE p = 0) : countE (subP p (List.range p.rels.length).reverse) = 0 ∧ countN (subP p (List.range p.rels.length).reverse) = countN p := by
  have hck : checkE p = 0 := by
    unfold countE at h
    by_cases e : checkE p = 0
    · exact e
    · rw [if_pos e] at h; exact absurd h e
  have hgood := Good.of hck
  have hmem : ∀ i ∈ (List.range p.rels.length).reverse, i < p.rels.length := fun i hi => by simpa using hi
  have hc := check_sub hck (L := (List.range p.rels.length).reverse) (by simpa using hgood.rels) hmem
  have hE : countE (subP p (List.range p.rels.length).reverse) = 0 := by
    unfold countE at h ⊢
    rw [if_neg (by simp [hc])]
    rw [if_neg (by simp [hck])] at h
    exact h
  refine ⟨hE, ?_⟩
  unfold countN
  rw [if_pos hE, if_pos h, sols_all hmem (fun i hi => by simpa using hi)]
theorem scan_ne7 (sizes vars : List Int) : ∀ (seen xs : List (List Int)), scanE sizes vars seen xs ≠ 7
  | seen, [] => by simp [scanE]
  | seen, t :: r => by
    have ht : tupE sizes vars t ≠ 7 := by
      unfold tupE
      split
      · decide
      · split <;> decide
    show (if tupE sizes vars t ≠ 0 then tupE sizes vars t else if t ∈ seen then (6 : Int) else scanE sizes vars (seen ++ [t]) r) ≠ 7
    split
    · exact ht
    · split
      · decide
      · exact scan_ne7 sizes vars _ r
theorem rel_ne7 (sizes : List Int) (r : Rel) : relE sizes r ≠ 7 := by
  unfold relE
  split
  · decide
  · split
    · decide
    · split
      · decide
      · split
        · decide
        · exact scan_ne7 _ _ _ _
theorem first_ne7 (sizes : List Int) : ∀ rs : List Rel, firstE sizes rs ≠ 7
  | [] => by simp [firstE]
  | r :: rs => by
    show (if relE sizes r ≠ 0 then relE sizes r else firstE sizes rs) ≠ 7
    split
    · exact rel_ne7 _ _
    · exact first_ne7 sizes rs
theorem check_ne7 (p : Prob) : checkE p ≠ 7 := by
  unfold checkE
  split
  · decide
  · split
    · decide
    · split
      · decide
      · exact first_ne7 _ _
/-- no core: there is a solution -/
theorem core_seven {p : Prob} (h : coreE p = 7) : countE p = 0 ∧ 0 < countN p := by
  unfold coreE at h
  by_cases hck : checkE p = 0
  · rw [if_neg (by simp [hck])] at h
    by_cases hl : limW 1 p.sizes = true ∧ p.rels.length ≤ 12
    · rw [if_pos hl] at h
      cases hr : coreR p with
      | some L => rw [hr] at h; simp at h
      | none =>
        have hE : countE p = 0 := by unfold countE; rw [if_neg (by simp [hck]), if_pos hl.1]
        refine ⟨hE, ?_⟩
        unfold coreR at hr
        rw [List.findSome?_eq_none_iff] at hr
        have h1 := coreS_no p.rels.length [] 0 (hr p.rels.length (by rw [List.mem_range'_1]; omega)) (List.range' 0 p.rels.length) (by simp) (inc_range _ _ 0 (by omega))
        rw [List.nil_append, sols_all (fun i hi => by rw [List.mem_range'_1] at hi; omega) (fun i hi => by rw [List.mem_range'_1]; omega)] at h1
        have h2 := List.length_pos_iff.2 h1
        unfold countN
        rw [if_pos hE]; omega
    · rw [if_neg hl] at h; cases h
  · rw [if_pos hck] at h; exact absurd h (check_ne7 p)
theorem solve_sub {p : Prob} (hck : checkE p = 0) (hlim : limW 1 p.sizes = true) {L : List Nat} (hl : L.length ≤ 96) (hL : ∀ i ∈ L, i < p.rels.length) : solveE (subP p L) = if sols (subP p L) [] = [] then 7 else 0 := by
  have hc := check_sub hck hl hL
  have ha : allE (subP p L) 1 = 0 := by
    unfold allE
    rw [if_neg (by simp [hc]), if_neg (by decide)]
    exact if_pos hlim
  have hal : allL (subP p L) 1 = (sols (subP p L) []).take 1 := by unfold allL; rw [if_pos ha]; rfl
  unfold solveE
  rw [if_neg (by simp [ha]), hal]
  by_cases e : sols (subP p L) [] = []
  · rw [e]; simp
  · have := List.length_pos_iff.2 e
    rw [if_neg e, if_neg (by rw [List.length_take]; omega)]
/-- a core: without a solution; with one, as soon as a relation is left out -/
structure CoreOf (p : Prob) (L : List Nat) : Prop where
  list : coreL p = L.map Int.ofNat
  inc : inc p.rels.length 0 L
  len : L.length ≤ 96
  err : solveE (subP p L) = 7
  out : ∀ j, j < L.length → solveE (subP p (L.eraseIdx j)) = 0
  num : countN p = 0
  ok : countE p = 0
theorem core_of {p : Prob} (h : coreE p = 0) : ∃ L, CoreOf p L := by
  have h' := h
  unfold coreE at h
  by_cases hck : checkE p = 0
  · rw [if_neg (by simp [hck])] at h
    by_cases hl : limW 1 p.sizes = true ∧ p.rels.length ≤ 12
    · rw [if_pos hl] at h
      cases hr : coreR p with
      | none => rw [hr] at h; simp at h
      | some L =>
        have hlist : coreL p = L.map Int.ofNat := by unfold coreL; rw [if_pos h', hr]; rfl
        unfold coreR at hr
        rw [List.findSome?_eq_some_iff] at hr
        obtain ⟨l1, k, l2, hsplit, hk, hbefore⟩ := hr
        have hkl : k < p.rels.length + 1 := by
          have : k ∈ List.range' 0 (p.rels.length + 1) := by rw [hsplit]; simp
          rw [List.mem_range'_1] at this; omega
        obtain ⟨M, h1, h2, h3, h4⟩ := coreS_some k [] 0 L hk
        rw [List.nil_append] at h1
        subst h1
        have hlt := inc_lt h3
        have hpre : ∀ k', k' < k → coreS p k' [] 0 = none := fun k' hk' => by
          refine hbefore k' ?_
          have hmem : k' ∈ List.range' 0 (p.rels.length + 1) := by rw [List.mem_range'_1]; omega
          rw [hsplit] at hmem
          rcases List.mem_append.1 hmem with e | e
          · exact e
          · have hs : (List.range' 0 (p.rels.length + 1)).Pairwise (· < ·) := List.pairwise_lt_range'
            rw [hsplit] at hs
            have hs2 := (List.pairwise_append.1 hs).2.1
            rcases List.mem_cons.1 e with e2 | e2
            · omega
            · have := (List.pairwise_cons.1 hs2).1 k' e2; omega
        refine ⟨L, hlist, h3, by omega, ?_, fun j hj => ?_, ?_, ?_⟩
        · rw [solve_sub hck hl.1 (by omega) hlt, if_pos h4]
        · have he := inc_erase j h3
          have hle : (L.eraseIdx j).length = k - 1 := by rw [List.length_eraseIdx_of_lt hj, h2]
          have hne := coreS_no (k - 1) [] 0 (hpre (k - 1) (by omega)) (L.eraseIdx j) hle he
          rw [List.nil_append] at hne
          rw [solve_sub hck hl.1 (by omega) (inc_lt he), if_neg hne]
        · unfold countN
          rw [sols_mono hlt h4]; simp
        · unfold countE; rw [if_neg (by simp [hck]), if_pos hl.1]
    · rw [if_neg hl] at h; cases h
  · rw [if_pos hck] at h; exact absurd h hck
end Go.Proofs.Ytamidopeojipkaa
