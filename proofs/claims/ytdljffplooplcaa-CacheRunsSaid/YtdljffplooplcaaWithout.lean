/- without: the state without the key at a position. -/
import Derived.Test.YtdljffplooplcaaState
import Derived.Deep.AppendLies
namespace Go.Proofs.Ytdljffplooplcaa
open Go.RowKit
set_option linter.unusedVariables false

/-- What a call comes to that hands back a state. -/
def StPost (P : Nat → Prop) (cap h m r : Int) (es : Es) (w : World) (e : Ending) (w' : World) : Prop :=
  ∃ ka kl kc ta tl tc, e = .returned (.agg #[.int .i64 cap, .slice ka kl kc, .slice ta tl tc, .int .i64 h, .int .i64 m, .int .i64 r]) ∧ StAt w' (fun x => P x ∨ Span w.heap.size w'.heap.size x) ka kl kc ta tl tc es ∧ Below w.heap.size w w'

theorem grown_far {w w' : World} {v : Value} {e : TypeId} {base size n : Nat} {xs : List Value} (ho : w.ownsRow base e size v n xs) (hg : w.grownBy w' v.ownBlock) {k : Nat} (hk : k < base) (hlt : k < w.heap.size) : w'.heap[k]? = w.heap[k]? :=
  hg.block k hlt fun e => by
    rcases ho.2 with ⟨rfl, _⟩ | ⟨g, cap, cur, rfl, hb, _⟩
    · cases e
    · simp [Value.ownBlock] at e; omega
theorem grown_below {w w' : World} {v : Value} {e : TypeId} {base size n B : Nat} {xs : List Value} (ho : w.ownsRow base e size v n xs) (hg : w.grownBy w' v.ownBlock) (hB : B ≤ base) (hB2 : B ≤ w.heap.size) : Below B w w' :=
  ⟨hg.os, hg.tape, hg.output, hg.size, fun k hk => grown_far ho hg (by omega) (by omega)⟩
theorem ownsRow_form {w : World} {v : Value} {e : TypeId} {base size n : Nat} {xs : List Value} (ho : w.ownsRow base e size v n xs) : ∃ a l c, v = .slice a l c := by
  rcases ho.2 with ⟨rfl, _⟩ | ⟨g, cap, cur, rfl, hb, _⟩
  · exact ⟨_, _, _, rfl⟩
  · exact ⟨_, _, _, rfl⟩
theorem ownsRow_lit0 {w : World} {base : Nat} (e : TypeId) (size : Nat) (hb : base ≤ w.heap.size) : (w.alloc (.cells #[] e)).ownsRow base e size (.slice (some ⟨w.heap.size, 0, none⟩) 0 0) 0 [] :=
  World.ownsRow_lit (base := base) (e := e) (size := size) w #[] 0 hb (by unfold maxLen; omega) (by simp)

/-- in the midst of without: the box and the result's block -/
structure WoAt (w : World) (cap h m r : Int) (kv tv : Value) (W : World) : Prop where
  bel : Below w.heap.size w W
  sz : w.heap.size + 2 ≤ W.heap.size
  r2 : W.heap[w.heap.size]? = some (.cells #[.int .i64 cap, kv, tv, .int .i64 h, .int .i64 m, .int .i64 r] 32 (0, 0))
  r4 : W.heap[w.heap.size + 1]? = some (.cells #[.int .i64 0, .slice none 0 0, .slice none 0 0, .int .i64 0, .int .i64 0, .int .i64 0] 32 (0, 0))
theorem WoAt.c1 {w W : World} {cap h m r : Int} {kv tv : Value} (s : WoAt w cap h m r kv tv W) : W.cell? ⟨w.heap.size, 1, none⟩ = some kv := (cell_of_row _ _ 1 _ _ _ s.r2).trans rfl
theorem WoAt.c2 {w W : World} {cap h m r : Int} {kv tv : Value} (s : WoAt w cap h m r kv tv W) : W.cell? ⟨w.heap.size, 2, none⟩ = some tv := (cell_of_row _ _ 2 _ _ _ s.r2).trans rfl
theorem WoAt.fr {w W : World} {cap h m r : Int} {kv tv : Value} (s : WoAt w cap h m r kv tv W) (i : Nat) : W.frozen? ⟨w.heap.size, i, none⟩ = false := frozen_of_row _ _ i _ _ s.r2
theorem WoAt.alloc {w W : World} {cap h m r : Int} {kv tv : Value} (s : WoAt w cap h m r kv tv W) (o : Obj) : WoAt w cap h m r kv tv (W.alloc o) :=
  ⟨Below.next s.bel ((Below.refl _ _).alloc (Nat.le_refl _) o), by have := s.sz; simp; omega, (Below.heap_alloc _ _ _ (by have := s.sz; omega)).trans s.r2, (Below.heap_alloc _ _ _ (by have := s.sz; omega)).trans s.r4⟩
theorem WoAt.drew {w W : World} {cap h m r : Int} {kv tv : Value} (s : WoAt w cap h m r kv tv W) : WoAt w cap h m r kv tv W.drew := ⟨Below.next s.bel (Below.refl _ _).drew, s.sz, s.r2, s.r4⟩
theorem WoAt.grown {w W W' : World} {cap h m r : Int} {kv tv v : Value} {e : TypeId} {size n : Nat} {xs : List Value} (s : WoAt w cap h m r kv tv W) (ho : W.ownsRow (w.heap.size + 2) e size v n xs) (hg : W.grownBy W' v.ownBlock) : WoAt w cap h m r kv tv W' := by
  have hs := s.sz
  exact ⟨s.bel.trans (grown_below ho hg (by omega) (by omega)), Nat.le_trans hs hg.size, (grown_far ho hg (by omega) (by omega)).trans s.r2, (grown_far ho hg (by omega) (by omega)).trans s.r4⟩
theorem WoAt.keys {w W : World} {cap h m r : Int} {kv tv : Value} (s : WoAt w cap h m r kv tv W) (u : Value) : WoAt w cap h m r u tv (W.setCell ⟨w.heap.size, 1, none⟩ u) :=
  ⟨s.bel.setCell (by show w.heap.size ≤ w.heap.size; omega) _, by rw [heap_setCell_size]; exact s.sz, (setCell_row 1 u s.r2).trans rfl, (Below.heap_setCell _ _ _ _ (by show w.heap.size + 1 ≠ w.heap.size; omega)).trans s.r4⟩
theorem WoAt.terms {w W : World} {cap h m r : Int} {kv tv : Value} (s : WoAt w cap h m r kv tv W) (u : Value) : WoAt w cap h m r kv u (W.setCell ⟨w.heap.size, 2, none⟩ u) :=
  ⟨s.bel.setCell (by show w.heap.size ≤ w.heap.size; omega) _, by rw [heap_setCell_size]; exact s.sz, (setCell_row 2 u s.r2).trans rfl, (Below.heap_setCell _ _ _ _ (by show w.heap.size + 1 ≠ w.heap.size; omega)).trans s.r4⟩
theorem ownsRow_setCell {w : World} {base : Nat} {e : TypeId} {size : Nat} {v : Value} {n : Nat} {xs : List Value} (h : w.ownsRow base e size v n xs) {b i : Nat} (hb : b < base) (u : Value) : (w.setCell ⟨b, i, none⟩ u).ownsRow base e size v n xs :=
  ownsRow_setCell_below h (a := ⟨b, i, none⟩) hb u

theorem ownsRow_lower {w : World} {v : Value} {e : TypeId} {base b2 size n : Nat} {xs : List Value} (ho : w.ownsRow base e size v n xs) (hb : b2 ≤ base) : w.ownsRow b2 e size v n xs := by
  refine ⟨ho.1, ?_⟩
  rcases ho.2 with h | ⟨g, cap, cur, h1, h2, h3⟩
  · exact .inl h
  · exact .inr ⟨g, cap, cur, h1, Nat.le_trans hb h2, h3⟩
theorem ownsRow_under {w : World} {v : Value} {e : TypeId} {base size n : Nat} {xs : List Value} (ho : w.ownsRow base e size v n xs) : ∀ k, v.ownBlock = some k → base ≤ k ∧ k < w.heap.size := by
  intro k hk
  rcases ho.2 with ⟨rfl, _⟩ | ⟨g, cap, cur, rfl, hb, hg, _⟩
  · cases hk
  · simp [Value.ownBlock] at hk; subst hk; exact ⟨hb, (Array.getElem?_eq_some_iff.1 hg).1⟩
theorem hop_start {w : World} {v : Value} {e : TypeId} {base size n : Nat} {xs : List Value} {t : TypeId} (ho : w.ownsRow base e size v n xs) : (w.alloc (.cells #[] t)).drew.ownsRow base e size v n xs ∧ ∀ k, v.ownBlock = some k → k < w.heap.size :=
  ⟨ho.alloc _, fun k hk => (ownsRow_under ho k hk).2⟩
/-- A row that lay ahead of a second one's block stays. -/
theorem ownsRow_hop2 {w w1 : World} {v u : Value} {e e2 : TypeId} {base base2 size size2 n n2 : Nat} {xs ys : List Value} (ho : w.ownsRow base e size v n xs ∧ ∀ k, v.ownBlock = some k → k < base2) (hu : w.ownsRow base2 e2 size2 u n2 ys) (hg : w.grownBy w1 u.ownBlock) :
    w1.ownsRow base e size v n xs ∧ ∀ k, v.ownBlock = some k → k < base2 := by
  refine ⟨ho.1.kept hg ?_, ho.2⟩
  rcases ho.1.2 with ⟨rfl, _⟩ | ⟨g, cap, cur, rfl, hb, hgg, _⟩
  · exact .inl rfl
  · refine .inr fun e => ?_
    have h1 := ho.2 g rfl
    have h2 := ownsRow_under hu g (by rw [← e]; rfl)
    omega

theorem st_store {W : World} {B : Nat} {u0 u1 u2 u3 u4 u5 : Value} (h : W.heap[B]? = some (.cells #[u0, u1, u2, u3, u4, u5] 32 (0, 0))) (x0 x1 x2 x3 x4 x5 : Value) :
    ((((((W.setCell ⟨B, 0, none⟩ x0).setCell ⟨B, 1, none⟩ x1).setCell ⟨B, 2, none⟩ x2).setCell ⟨B, 3, none⟩ x3).setCell ⟨B, 4, none⟩ x4).setCell ⟨B, 5, none⟩ x5).heap[B]? = some (.cells #[x0, x1, x2, x3, x4, x5] 32 (0, 0)) :=
  (setCell_row 5 x5 (setCell_row 4 x4 (setCell_row 3 x3 (setCell_row 2 x2 (setCell_row 1 x1 (setCell_row 0 x0 h)))))).trans rfl
theorem st_only (W : World) (B : Nat) (x0 x1 x2 x3 x4 x5 : Value) :
    Only (fun x => x = B) W ((((((W.setCell ⟨B, 0, none⟩ x0).setCell ⟨B, 1, none⟩ x1).setCell ⟨B, 2, none⟩ x2).setCell ⟨B, 3, none⟩ x3).setCell ⟨B, 4, none⟩ x4).setCell ⟨B, 5, none⟩ x5) :=
  ((((((Only.refl (fun x => x = B) W).setCell (b := B) rfl 0 x0).setCell (b := B) rfl 1 x1).setCell (b := B) rfl 2 x2).setCell (b := B) rfl 3 x3).setCell (b := B) rfl 4 x4).setCell (b := B) rfl 5 x5
theorem getD_erase {α : Type} (l : List α) (i j : Nat) (d : α) : (l.eraseIdx i).getD j d = l.getD (if j < i then j else j + 1) d := by
  simp only [List.getD, List.getElem?_eraseIdx]
  split <;> rfl

set_option maxHeartbeats 4000000 in
theorem without_any {w : World} {P : Nat → Prop} {ka ta : Option Addr} {kl kc tl tc : Nat} {es : Es} (s : StAt w P ka kl kc ta tl tc es) (hU : Under P w.heap.size) (cap h m r : Int) (i : Nat) (hi : i < es.length) (hlen : es.length ≤ 1000) :
    Calls Try.prog 33 #[.agg #[.int .i64 cap, .slice ka kl kc, .slice ta tl tc, .int .i64 h, .int .i64 m, .int .i64 r], .int .i64 i] w (StPost P cap h m r (es.eraseIdx i) w) := by
  obtain ⟨hl1, hl2⟩ := s.lens
  obtain ⟨⟨kb, ko, hk⟩, ht, htn, hsm⟩ := s
  obtain ⟨tb, to, vs, htt⟩ := ht.terms
  obtain ⟨rfl, hkb⟩ := hk.ha (by omega)
  obtain ⟨rfl, htb⟩ := htt.ha (by omega)
  have hkc := hk.hcap
  have hkm : kc ≤ 9223372036854775807 := by have := hk.hmax; unfold maxLen at this; omega
  have htc := htt.hcap
  have htm : tc ≤ 9223372036854775807 := by have := htt.hmax; unfold maxLen at this; omega
  have HK := Lib.hid hk
  have HT := Lib.hid htt
  have HSM := Lib.hid hsm
  have HU := Lib.hid hU
  have hik : i < kl := by omega
  have hik2 : i + 1 ≤ kl := by omega
  have hikc : i ≤ kc := by omega
  have hit : i < tl := by omega
  have hit2 : i + 1 ≤ tl := by omega
  have hitc : i ≤ tc := by omega
  have hw1 : IntKind.i64.wrap ((i : Int) + 1) = (i : Int) + 1 := by rw [IntKind.wrap_i64]; omega
  have hx0 : (0 : Int) ≤ (i : Int) + 1 := by omega
  have hx1 : (i : Int) + 1 ≤ kl := by omega
  have hx2 : (i : Int) + 1 ≤ tl := by omega
  have hlk : kl ≤ 1000 := by omega
  have hlt : tl ≤ 1000 := by omega
  obtain ⟨o2, ho2⟩ : ∃ o2, (if kc = i + 1 then ko else ko + (i + 1)) = o2 := ⟨_, rfl⟩
  have hsl : (if kc = i + 1 then some (⟨kb, ko, none⟩ : Addr) else some ⟨kb, ko + (i + 1), none⟩) = some ⟨kb, o2, none⟩ := by rw [← ho2]; split <;> rfl
  have HN1 := Lib.hid (fun (X : World) (hb : Below w.heap.size w X) => (hk.kept (Below.keptB hb hU)).src 0 i (by omega) ko (fun _ => rfl))
  have HN2 := Lib.hid (fun (X : World) (hb : Below w.heap.size w X) => (hk.kept (Below.keptB hb hU)).src (i + 1) (kl - (i + 1)) (by omega) o2 (fun h0 => by rw [← ho2, if_neg (by omega)]))
  have hks : strs (((keysE es).drop 0).take i) ++ strs (((keysE es).drop (i + 1)).take (kl - (i + 1))) = strs (keysE (es.eraseIdx i)) := by
    have e1 := hk.hlen
    rw [← strs_append, List.drop_zero, List.take_of_length_le (l := (keysE es).drop (i + 1)) (by rw [List.length_drop, e1]; omega), ← List.eraseIdx_eq_take_drop_succ]
    congr 1
    unfold keysE
    exact (Mp.map_erase _ _ _).symm
  have HKS := Lib.hid hks
  obtain ⟨o3, ho3⟩ : ∃ o3, (if tc = i + 1 then to else to + (i + 1) * 2) = o3 := ⟨_, rfl⟩
  have hsl3 : (if tc = i + 1 then some (⟨tb, to, none⟩ : Addr) else some ⟨tb, to + (i + 1) * 2, none⟩) = some ⟨tb, o3, none⟩ := by rw [← ho3]; split <;> rfl
  have HM1 := Lib.hid (fun (X : World) (hb : Below w.heap.size w X) => (htt.kept (Below.keptB hb hU)).src 0 i (by omega) to (fun _ => by omega))
  have HM2 := Lib.hid (fun (X : World) (hb : Below w.heap.size w X) => (htt.kept (Below.keptB hb hU)).src (i + 1) (tl - (i + 1)) (by omega) o3 (fun h0 => by rw [← ho3, if_neg (by omega)]))
  have hts : rowT (((es.map (·.2)).drop 0).take i) ((vs.drop 0).take i) ++ rowT (((es.map (·.2)).drop (i + 1)).take (tl - (i + 1))) ((vs.drop (i + 1)).take (tl - (i + 1))) = rowT ((es.eraseIdx i).map (·.2)) (vs.eraseIdx i) := by
    have e1 := htt.hlen
    have e2 := htt.hvl
    rw [← rowT_app _ _ _ _ (by simp only [List.length_take, List.length_drop]; omega), List.drop_zero, List.drop_zero, List.take_of_length_le (l := (es.map (·.2)).drop (i + 1)) (by rw [List.length_drop, e1]; omega), List.take_of_length_le (l := vs.drop (i + 1)) (by rw [List.length_drop, e2]; omega),
      ← List.eraseIdx_eq_take_drop_succ, ← List.eraseIdx_eq_take_drop_succ, Mp.map_erase]
  have HTS := Lib.hid hts
  have htl1 : (rowT (((es.map (·.2)).drop 0).take i) ((vs.drop 0).take i)).length = i * 2 := by
    have e1 := htt.hlen
    have e2 := htt.hvl
    rw [rowT_len _ _ (by simp only [List.length_take, List.length_drop]; omega)]
    simp only [List.length_take, List.length_drop]; omega
  have htl2 : (rowT (((es.map (·.2)).drop (i + 1)).take (tl - (i + 1))) ((vs.drop (i + 1)).take (tl - (i + 1)))).length = (tl - (i + 1)) * 2 := by
    have e1 := htt.hlen
    have e2 := htt.hvl
    rw [rowT_len _ _ (by simp only [List.length_take, List.length_drop]; omega)]
    simp only [List.length_take, List.length_drop]; omega
  have HTL1 := Lib.hid htl1
  have HTL2 := Lib.hid htl2
  have hto1 : ∀ u ∈ rowT (((es.map (·.2)).drop 0).take i) ((vs.drop 0).take i), u.oneCell' = true := by
    have e1 := htt.hlen
    have e2 := htt.hvl
    exact rowT_one _ _ (by simp only [List.length_take, List.length_drop]; omega) fun v hv => htt.one v (List.mem_of_mem_drop (List.mem_of_mem_take hv))
  have hto2 : ∀ u ∈ rowT (((es.map (·.2)).drop (i + 1)).take (tl - (i + 1))) ((vs.drop (i + 1)).take (tl - (i + 1))), u.oneCell' = true := by
    have e1 := htt.hlen
    have e2 := htt.hvl
    exact rowT_one _ _ (by simp only [List.length_take, List.length_drop]; omega) fun v hv => htt.one v (List.mem_of_mem_drop (List.mem_of_mem_take hv))
  have HTO1 := Lib.hid hto1
  have HTO2 := Lib.hid hto2
  obtain ⟨j36, hj36, hz360, hz361, hz362⟩ := info_parts info36
  have H36 := Lib.hid (And.intro hj36 (And.intro hz360 (And.intro hz361 hz362)))
  have hll1 : (strs (((keysE es).drop 0).take i)).length = i * 1 := by have e1 := hk.hlen; rw [strs_len, List.length_take, List.length_drop, e1]; omega
  have hll2 : (strs (((keysE es).drop (i + 1)).take (kl - (i + 1)))).length = (kl - (i + 1)) * 1 := by have e1 := hk.hlen; rw [strs_len, List.length_take, List.length_drop, e1]; omega
  have HL1 := Lib.hid hll1
  have HL2 := Lib.hid hll2
  obtain ⟨j9, hj9, hz90, hz91, hz92⟩ := info_parts info9
  have H9 := Lib.hid (And.intro hj9 (And.intro hz90 (And.intro hz91 hz92)))
  have hnew : WoAt w cap h m r (.slice (some ⟨kb, ko, none⟩) kl kc) (.slice (some ⟨tb, to, none⟩) tl tc) ((w.alloc (.cells #[.int .i64 cap, .slice (some ⟨kb, ko, none⟩) kl kc, .slice (some ⟨tb, to, none⟩) tl tc, .int .i64 h, .int .i64 m, .int .i64 r] 32)).alloc (.cells #[.int .i64 0, .slice none 0 0, .slice none 0 0, .int .i64 0, .int .i64 0, .int .i64 0] 32)) := by
    refine ⟨((Below.refl _ w).alloc (Nat.le_refl _) _).alloc (by simp) _, by simp, (Below.heap_alloc _ _ _ (by simp)).trans (heap_alloc_new _ _), ?_⟩
    have := heap_alloc_new (w.alloc (.cells #[.int .i64 cap, .slice (some ⟨kb, ko, none⟩) kl kc, .slice (some ⟨tb, to, none⟩) tl tc, .int .i64 h, .int .i64 m, .int .i64 r] 32)) (.cells #[.int .i64 0, .slice none 0 0, .slice none 0 0, .int .i64 0, .int .i64 0, .int .i64 0] 32)
    rw [World.size_alloc] at this
    exact this
  have hWs : ((w.alloc (.cells #[.int .i64 cap, .slice (some ⟨kb, ko, none⟩) kl kc, .slice (some ⟨tb, to, none⟩) tl tc, .int .i64 h, .int .i64 m, .int .i64 r] 32)).alloc (.cells #[.int .i64 0, .slice none 0 0, .slice none 0 0, .int .i64 0, .int .i64 0, .int .i64 0] 32)).heap.size = w.heap.size + 2 := by simp
  have HNEW := Lib.hid hnew
  clear hk htt hsm hU hks hll1 hll2 hts htl1 htl2 hto1 hto2 hj36 hz360 hz361 hz362 hj9 hz90 hz91 hz92 hnew ht
  go_enter Try.func33, Try.ntmps33
  go_wp2
  generalize ((w.alloc (.cells #[.int .i64 cap, .slice (some ⟨kb, ko, none⟩) kl kc, .slice (some ⟨tb, to, none⟩) tl tc, .int .i64 h, .int .i64 m, .int .i64 r] 32)).alloc (.cells #[.int .i64 0, .slice none 0 0, .slice none 0 0, .int .i64 0, .int .i64 0, .int .i64 0] 32)) = W at *
  have hown0 := ownsRow_lit0 (w := W) (base := w.heap.size + 2) 9 1 (by omega)
  rw [hWs] at hown0
  have HOWN0 := Lib.hid hown0
  have b1 := HNEW.out.c1
  have f1 := HNEW.out.fr 1
  rename_i K aK
  have hcont : ∀ (v1 : Value) (va : Option Addr) (vl vc : Nat) (W2 : World), W2.ownsRow (w.heap.size + 2) 9 1 (.slice va vl vc) (0 + i + (kl - (i + 1))) ([] ++ strs (((keysE es).drop 0).take i) ++ strs (((keysE es).drop (i + 1)).take (kl - (i + 1)))) →
      WoAt w cap h m r (.slice va vl vc) (.slice (some ⟨tb, to, none⟩) tl tc) W2 →
      K { tmps := #[.agg #[.int .i64 cap, .slice (some ⟨kb, ko, none⟩) kl kc, .slice (some ⟨tb, to, none⟩) tl tc, .int .i64 h, .int .i64 m, .int .i64 r],
          .int .i64 i, .pointer (some ⟨w.heap.size, 0, none⟩), undef, .pointer (some ⟨w.heap.size + 1, 0, none⟩), .slice (some ⟨w.heap.size + 2, 0, none⟩) 0 0, .pointer (some ⟨w.heap.size, 1, none⟩), .slice (some ⟨kb, ko, none⟩) kl kc, .int .i64 i, .slice (some ⟨kb, ko, none⟩) i kc, v1, .pointer (some ⟨w.heap.size, 1, none⟩), .slice (some ⟨kb, ko, none⟩) kl kc, .int .i64 i, .int .i64 (i + 1), .slice (some ⟨kb, o2, none⟩) (kl - (i + 1)) (kc - (i + 1)), .slice va vl vc, .pointer (some ⟨w.heap.size, 1, none⟩), undef, undef, undef, undef, undef, undef, undef, undef, undef, undef, undef, undef, undef, undef], defers := [] } W2 := by
    intro v1 va vl vc W2 hK2 hwo
    have HK2 := Lib.hid hK2
    have HWO := Lib.hid hwo
    have hs2 := hwo.sz
    have hownA := ownsRow_lit0 (w := W2) (base := W2.heap.size) 36 2 (Nat.le_refl _)
    have HOWNA := Lib.hid hownA
    have b2 := hwo.c2
    have b2a := (hwo.alloc (.cells #[] 36)).c2
    have hlt2 : w.heap.size < W2.heap.size := by omega
    have f2 := hwo.fr 2
    have b1 := hwo.c1
    clear hK2 hwo hownA f1
    refine aK _ _ ?_
    go_wp2
    rename_i K2 aK2
    have hcont2 : ∀ (x1 : Value) (ya : Option Addr) (yl yc : Nat) (W4 : World), W4.ownsRow W2.heap.size 36 2 (.slice ya yl yc) (0 + i + (tl - (i + 1))) ([] ++ rowT (((es.map (·.2)).drop 0).take i) ((vs.drop 0).take i) ++ rowT (((es.map (·.2)).drop (i + 1)).take (tl - (i + 1))) ((vs.drop (i + 1)).take (tl - (i + 1)))) →
        W4.ownsRow (w.heap.size + 2) 9 1 (.slice va vl vc) (0 + i + (kl - (i + 1))) ([] ++ strs (((keysE es).drop 0).take i) ++ strs (((keysE es).drop (i + 1)).take (kl - (i + 1)))) →
        WoAt w cap h m r (.slice va vl vc) (.slice ya yl yc) W4 → K2 { tmps := #[.agg #[.int .i64 cap, .slice (some ⟨kb, ko, none⟩) kl kc, .slice (some ⟨tb, to, none⟩) tl tc, .int .i64 h, .int .i64 m, .int .i64 r],
          .int .i64 i, .pointer (some ⟨w.heap.size, 0, none⟩), undef, .pointer (some ⟨w.heap.size + 1, 0, none⟩), .slice (some ⟨w.heap.size + 2, 0, none⟩) 0 0, .pointer (some ⟨w.heap.size, 1, none⟩), .slice (some ⟨kb, ko, none⟩) kl kc, .int .i64 i, .slice (some ⟨kb, ko, none⟩) i kc, v1, .pointer (some ⟨w.heap.size, 1, none⟩), .slice (some ⟨kb, ko, none⟩) kl kc, .int .i64 i, .int .i64 (i + 1), .slice (some ⟨kb, o2, none⟩) (kl - (i + 1)) (kc - (i + 1)), .slice va vl vc, .pointer (some ⟨w.heap.size, 1, none⟩), .slice (some ⟨W2.heap.size, 0, none⟩) 0 0, .pointer (some ⟨w.heap.size, 2, none⟩), .slice (some ⟨tb, to, none⟩) tl tc, .int .i64 i, .slice (some ⟨tb, to, none⟩) i tc, x1, .pointer (some ⟨w.heap.size, 2, none⟩), .slice (some ⟨tb, to, none⟩) tl tc, .int .i64 i, .int .i64 (i + 1), .slice (some ⟨tb, o3, none⟩) (tl - (i + 1)) (tc - (i + 1)), .slice ya yl yc, .pointer (some ⟨w.heap.size, 2, none⟩), undef], defers := [] } W4 := by
      intro x1 ya yl yc W4 hT4 hK4 hwo4
      have a0 : W4.cell? ⟨w.heap.size, 0, none⟩ = some (.int .i64 cap) := (cell_of_row _ _ 0 _ _ _ hwo4.r2).trans rfl
      have a1 := hwo4.c1
      have a2 := hwo4.c2
      have a3 : W4.cell? ⟨w.heap.size, 3, none⟩ = some (.int .i64 h) := (cell_of_row _ _ 3 _ _ _ hwo4.r2).trans rfl
      have a4 : W4.cell? ⟨w.heap.size, 4, none⟩ = some (.int .i64 m) := (cell_of_row _ _ 4 _ _ _ hwo4.r2).trans rfl
      have a5 : W4.cell? ⟨w.heap.size, 5, none⟩ = some (.int .i64 r) := (cell_of_row _ _ 5 _ _ _ hwo4.r2).trans rfl
      have d0 : W4.cell? ⟨w.heap.size + 1, 0, none⟩ = some (.int .i64 0) := (cell_of_row _ _ 0 _ _ _ hwo4.r4).trans rfl
      have d1 : W4.cell? ⟨w.heap.size + 1, 1, none⟩ = some (.slice none 0 0) := (cell_of_row _ _ 1 _ _ _ hwo4.r4).trans rfl
      have d2 : W4.cell? ⟨w.heap.size + 1, 2, none⟩ = some (.slice none 0 0) := (cell_of_row _ _ 2 _ _ _ hwo4.r4).trans rfl
      have d3 : W4.cell? ⟨w.heap.size + 1, 3, none⟩ = some (.int .i64 0) := (cell_of_row _ _ 3 _ _ _ hwo4.r4).trans rfl
      have d4 : W4.cell? ⟨w.heap.size + 1, 4, none⟩ = some (.int .i64 0) := (cell_of_row _ _ 4 _ _ _ hwo4.r4).trans rfl
      have d5 : W4.cell? ⟨w.heap.size + 1, 5, none⟩ = some (.int .i64 0) := (cell_of_row _ _ 5 _ _ _ hwo4.r4).trans rfl
      have g0 := frozen_of_row W4 (w.heap.size + 1) 0 _ _ hwo4.r4
      have g1 := frozen_of_row W4 (w.heap.size + 1) 1 _ _ hwo4.r4
      have g2 := frozen_of_row W4 (w.heap.size + 1) 2 _ _ hwo4.r4
      have g3 := frozen_of_row W4 (w.heap.size + 1) 3 _ _ hwo4.r4
      have g4 := frozen_of_row W4 (w.heap.size + 1) 4 _ _ hwo4.r4
      have g5 := frozen_of_row W4 (w.heap.size + 1) 5 _ _ hwo4.r4
      have HT4 := Lib.hid hT4
      have HK4 := Lib.hid hK4
      have HWO4 := Lib.hid hwo4
      clear hT4 hK4 hwo4
      refine aK2 _ _ ?_
      go_wp2
      have hrow := st_store HWO4.out.r4 (.int .i64 cap) (.slice va vl vc) (.slice ya yl yc) (.int .i64 h) (.int .i64 m) (.int .i64 r)
      have hon := st_only W4 (w.heap.size + 1) (.int .i64 cap) (.slice va vl vc) (.slice ya yl yc) (.int .i64 h) (.int .i64 m) (.int .i64 r)
      generalize (((((W4.setCell ⟨w.heap.size + 1, 0, none⟩ (.int .i64 cap)).setCell ⟨w.heap.size + 1, 1, none⟩ (.slice va vl vc)).setCell ⟨w.heap.size + 1, 2, none⟩ (.slice ya yl yc)).setCell ⟨w.heap.size + 1, 3, none⟩ (.int .i64 h)).setCell ⟨w.heap.size + 1, 4, none⟩ (.int .i64 m)).setCell ⟨w.heap.size + 1, 5, none⟩ (.int .i64 r) = W5 at *
      refine bodyPost_ret (v := .agg #[.int .i64 cap, .slice va vl vc, .slice ya yl yc, .int .i64 h, .int .i64 m, .int .i64 r]) (results_cell_row rfl _ _ (w.heap.size + 1) 32 #[.int .i64 cap, .slice va vl vc, .slice ya yl yc, .int .i64 h, .int .i64 m, .int .i64 r] (0, 0) _ rfl hrow Try.underlying32 rfl (by kernel_rfl)) rfl ?_
      have hk4 := HK4.out
      have ht4 := HT4.out
      rw [List.nil_append, HKS.out] at hk4
      rw [List.nil_append, HTS.out] at ht4
      have hsz := HWO4.out.sz
      have e1 := HK.out.hlen
      have e2 := HT.out.hlen
      have e3 := HT.out.hvl
      simp [keysE] at e1
      rw [List.length_map] at e2
      obtain ⟨ka', kc', kb', ko', hkv, hkk⟩ := keys_own hk4 (by unfold keysE; rw [List.length_map, List.length_eraseIdx, if_pos hi]; omega) (by omega)
      cases hkv
      have hPW4 : Kept P w W4 := Below.keptB HWO4.out.bel HU.out
      obtain ⟨ta', tc', htv, htn', htk⟩ := terms_own (P := P) ht4 (by rw [List.length_map, List.length_eraseIdx, if_pos hi]; omega) (by rw [List.length_map, List.length_eraseIdx, List.length_eraseIdx, if_pos hi, if_pos (by omega)]; omega) (fun j hj => by
        rw [List.length_map, List.length_eraseIdx, if_pos hi] at hj
        have hsub := HT.out.hs (if j < i then j else j + 1) (by split <;> omega)
        rw [getD_erase, Mp.map_erase, getD_erase]
        exact hsub.kept hPW4)
      cases htv
      have hfar : ∀ x, x ≠ w.heap.size + 1 → W5.heap[x]? = W4.heap[x]? := fun x hx => hon.block x hx
      have hsz5 : W4.heap.size = W5.heap.size := hon.size.symm
      have hb5 : Below w.heap.size w W5 := Below.stepN HWO4.out.bel hon.near (fun x hx => by omega)
      have hw2 := HWO.out.sz
      refine ⟨_, _, _, _, _, _, rfl, ⟨⟨kb', ko', (hkk.kept fun x hx => hfar x (by have := hx.1; omega)).wide fun x hx => .inr ⟨by have := hx.1; omega, by have := hx.2; omega⟩⟩, ?_, htn', fun p hp => HSM.out p (List.mem_of_mem_eraseIdx hp)⟩, hb5⟩
      refine (htk.kept fun x hx => hfar x ?_).wide fun x hx => ?_
      · rcases hx with hx | hx
        · have := HU.out x hx; omega
        · have := hx.1; omega
      · rcases hx with hx | hx
        · exact .inl hx
        · exact .inr ⟨by have := hx.1; omega, by have := hx.2; omega⟩
    have HCONT2 := Lib.hid hcont2
    clear hcont2 aK2
    go_region_law (first
      | (refine step_appR rfl (.tmp 18) (.tmp 22) 30 rfl W2.heap.size 36 j36 (.agg #[.int .i64 0, .slice none 0 0]) 2 32 Try.underlying30 H36.out.1 H36.out.2.1 H36.out.2.2.1 H36.out.2.2.2 rfl (by decide) _ 0 [] rfl HOWNA.out ⟨tb, to, none⟩ i tc (rowT (((es.map (·.2)).drop 0).take i) ((vs.drop 0).take i)) rfl HTL1.out (HM1.out _ (HWO.out.alloc _).drew.bel) HTO1.out (by unfold maxLen; omega) (by omega) (by simp) ?_; intro x1 w1 hown1 hg1; have hwo1 := (HWO.out.alloc _).drew.grown (by have := HWO.out.sz; exact ownsRow_lower HOWNA.out this) hg1; have b21 := hwo1.c2; have f21 := hwo1.fr 2; have hbK1 := ownsRow_hop2 (hop_start (t := 36) HK2.out) HOWNA.out hg1; have hss1 : W2.heap.size ≤ w1.heap.size := by { have := hg1.size; simp at this; omega })
      | (refine step_appR rfl (.tmp 23) (.tmp 28) 30 rfl W2.heap.size 36 j36 (.agg #[.int .i64 0, .slice none 0 0]) 2 32 Try.underlying30 H36.out.1 H36.out.2.1 H36.out.2.2.1 H36.out.2.2.2 rfl (by decide) x1 (0 + i) ([] ++ rowT (((es.map (·.2)).drop 0).take i) ((vs.drop 0).take i)) rfl hown1 ⟨tb, o3, none⟩ (tl - (i + 1)) (tc - (i + 1)) (rowT (((es.map (·.2)).drop (i + 1)).take (tl - (i + 1))) ((vs.drop (i + 1)).take (tl - (i + 1)))) rfl HTL2.out (HM2.out _ hwo1.bel) HTO2.out (by unfold maxLen; omega) (by omega) hss1 ?_; intro x2 w2 hown2 hg2; have hwo2 := hwo1.grown (ownsRow_lower hown1 hs2) hg2; have b22 := hwo2.c2; have f22 := hwo2.fr 2; have hbK2 := ownsRow_hop2 hbK1 hown1 hg2; obtain ⟨ya, yl, yc, rfl⟩ := ownsRow_form hown2))
    all_goals
      refine HCONT2.out x1 ya yl yc _ (ownsRow_setCell hown2 (by omega) _) (ownsRow_setCell hbK2.1 (by omega) _) (hwo2.terms _)
  have HCONT := Lib.hid hcont
  clear hcont aK hown0
  go_region_law (first
    | (refine step_appR rfl (.tmp 5) (.tmp 9) 29 rfl (w.heap.size + 2) 9 j9 (.string ⟨#[]⟩) 1 16 Try.underlying29 H9.out.1 H9.out.2.1 H9.out.2.2.1 H9.out.2.2.2 rfl (by decide) _ 0 [] rfl HOWN0.out ⟨kb, ko, none⟩ i kc (strs (((keysE es).drop 0).take i)) rfl HL1.out (HN1.out _ (HNEW.out.alloc _).drew.bel) (strs_one _) (by unfold maxLen; omega) (by omega) (by have := HNEW.out.sz; simp; omega) ?_; intro v1 w1 hown1 hg1; have hwo1 := (HNEW.out.alloc _).drew.grown HOWN0.out hg1; have b11 := hwo1.c1; have f11 := hwo1.fr 1)
    | (refine step_appR rfl (.tmp 10) (.tmp 15) 29 rfl (w.heap.size + 2) 9 j9 (.string ⟨#[]⟩) 1 16 Try.underlying29 H9.out.1 H9.out.2.1 H9.out.2.2.1 H9.out.2.2.2 rfl (by decide) v1 (0 + i) ([] ++ strs (((keysE es).drop 0).take i)) rfl hown1 ⟨kb, o2, none⟩ (kl - (i + 1)) (kc - (i + 1)) (strs (((keysE es).drop (i + 1)).take (kl - (i + 1)))) rfl HL2.out (HN2.out _ hwo1.bel) (strs_one _) (by unfold maxLen; omega) (by omega) hwo1.sz ?_; intro v2 w2 hown2 hg2; have hwo2 := hwo1.grown hown1 hg2; have b12 := hwo2.c1; have f12 := hwo2.fr 1; obtain ⟨va, vl, vc, rfl⟩ := ownsRow_form hown2))
  all_goals
    exact HCONT.out v1 va vl vc _ (ownsRow_setCell hown2 (by omega) _) (hwo2.keys _)
end Go.Proofs.Ytdljffplooplcaa
