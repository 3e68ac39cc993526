/- first: the state with a key as the first one. -/
import Derived.Test.YtdljffplooplcaaWithout
import Derived.Laws.AppendOwnNone
namespace Go.Proofs.Ytdljffplooplcaa
open Go.RowKit
set_option linter.unusedVariables false

/-- append(s, x...), s the call's own, x nil or not: at the operation -/
theorem wpList_appR {w : World} {ops : Array Oper} {rest : List Oper} {o : Oper} {a : Act} {Q : Exit → Act → World → Prop} (hgd : o.guard = none) (s x : Operand) (t : TypeId)
    (ho : o.op = .call { callee := .builtin .append, args := #[s, x], argTypes := #[t, t] })
    (base : Nat) (e : TypeId) (i : TypeInfo) (z : Value) (size bytes : Nat) (ht : Try.prog.underlying t = some (.slice e)) (hi : Try.prog.info? e = some i) (hz : i.zero = some z)
    (hsize : i.size = size) (hby : i.bytes = bytes) (hzs : z.cells.size = size) (hsz : 0 < size)
    (v : Value) (n : Nat) (xs : List Value) (hs : a.eval s = v) (hown : w.ownsRow base e size v n xs)
    (sp : Option Addr) (m c : Nat) (news : List Value) (hx : a.eval x = .slice sp m c) (hnil : sp = none → m = 0 ∧ c = 0) (hl : news.length = m * size) (hnews : ∀ ad, sp = some ad → ∀ j u, news[j]? = some u → w.cell? (ad.add j) = some u) (h1 : ∀ u ∈ news, u.oneCell' = true)
    (h63 : n + m ≤ maxLen) (hbytes : (n + m) * bytes ≤ 140737488355328) (hbase : base ≤ w.heap.size)
    (h : ∀ v' w', w'.ownsRow base e size v' (n + m) (xs ++ news) → w.grownBy w' v.ownBlock → wpList Try.prog ops Q rest (a.put o.dst v') w') :
    wpList Try.prog ops Q (o :: rest) a w := by
  cases sp with
  | some ad => exact wpList_append_own _ hgd s x t ho base e i z size bytes ht hi hz hsize hby hzs hsz v n xs hs hown ad m c news hx hl (hnews ad rfl) h1 h63 hbytes hbase fun v' w' g1 g2 _ => h v' w' g1 g2
  | none =>
    obtain ⟨rfl, rfl⟩ := hnil rfl
    have hn0 : news = [] := List.eq_nil_of_length_eq_zero (by simpa using hl)
    subst hn0
    refine wpList_plain hgd fun K hK => ?_
    have hrun := run_append_owned_none (P := Try.prog) w base t o.type e i size ht hi v _ _ hown
    unfold Oper.wp
    simp [execOp, ho, resolve, invoke, builtin, hs, hx, hrun, Result.andThen]
    exact hK _ _ (h v w (by simpa using hown) (World.grownBy.refl _ _))

/-- in the midst of first: the two boxes and the result's block -/
structure FiAt (w : World) (cap h m r : Int) (kv tv : Value) (x : Int) (y : Value) (W : World) : Prop where
  bel : Below w.heap.size w W
  sz : w.heap.size + 3 ≤ W.heap.size
  r0 : W.heap[w.heap.size]? = some (.cells #[.int .i64 cap, kv, tv, .int .i64 h, .int .i64 m, .int .i64 r] 32 (0, 0))
  r1 : W.heap[w.heap.size + 1]? = some (.cells #[.int .i64 x, y] 36 (0, 0))
  r2 : W.heap[w.heap.size + 2]? = some (.cells #[.int .i64 0, .slice none 0 0, .slice none 0 0, .int .i64 0, .int .i64 0, .int .i64 0] 32 (0, 0))
theorem FiAt.alloc {w W : World} {cap h m r : Int} {kv tv : Value} {x : Int} {y : Value} (s : FiAt w cap h m r kv tv x y W) (o : Obj) : FiAt w cap h m r kv tv x y (W.alloc o) := by
  have hs := s.sz
  exact ⟨Below.next s.bel ((Below.refl _ _).alloc (Nat.le_refl _) o), by simp; omega, (Below.heap_alloc _ _ _ (by omega)).trans s.r0, (Below.heap_alloc _ _ _ (by omega)).trans s.r1, (Below.heap_alloc _ _ _ (by omega)).trans s.r2⟩
theorem FiAt.grown {w W W' : World} {cap h m r : Int} {kv tv : Value} {x : Int} {y : Value} {v : Value} {e : TypeId} {size n : Nat} {xs : List Value} (s : FiAt w cap h m r kv tv x y W) (ho : W.ownsRow (w.heap.size + 3) e size v n xs) (hg : W.grownBy W' v.ownBlock) : FiAt w cap h m r kv tv x y W' := by
  have hs := s.sz
  exact ⟨s.bel.trans (grown_below ho hg (by omega) (by omega)), Nat.le_trans hs hg.size, (grown_far ho hg (by omega) (by omega)).trans s.r0, (grown_far ho hg (by omega) (by omega)).trans s.r1, (grown_far ho hg (by omega) (by omega)).trans s.r2⟩
theorem FiAt.keys {w W : World} {cap h m r : Int} {kv tv : Value} {x : Int} {y : Value} (s : FiAt w cap h m r kv tv x y W) (u : Value) : FiAt w cap h m r u tv x y (W.setCell ⟨w.heap.size, 1, none⟩ u) :=
  ⟨s.bel.setCell (by show w.heap.size ≤ w.heap.size; omega) _, by rw [heap_setCell_size]; exact s.sz, (setCell_row 1 u s.r0).trans rfl, (Below.heap_setCell _ _ _ _ (by show w.heap.size + 1 ≠ w.heap.size; omega)).trans s.r1, (Below.heap_setCell _ _ _ _ (by show w.heap.size + 2 ≠ w.heap.size; omega)).trans s.r2⟩
theorem FiAt.terms {w W : World} {cap h m r : Int} {kv tv : Value} {x : Int} {y : Value} (s : FiAt w cap h m r kv tv x y W) (u : Value) : FiAt w cap h m r kv u x y (W.setCell ⟨w.heap.size, 2, none⟩ u) :=
  ⟨s.bel.setCell (by show w.heap.size ≤ w.heap.size; omega) _, by rw [heap_setCell_size]; exact s.sz, (setCell_row 2 u s.r0).trans rfl, (Below.heap_setCell _ _ _ _ (by show w.heap.size + 1 ≠ w.heap.size; omega)).trans s.r1, (Below.heap_setCell _ _ _ _ (by show w.heap.size + 2 ≠ w.heap.size; omega)).trans s.r2⟩

theorem own_termlit (w : World) (x : Int) (y : Value) : (w.alloc (.cells #[.int .i64 x, y] 36)).ownsRow w.heap.size 36 2 (.slice (some ⟨w.heap.size, 0, none⟩) 1 1) 1 [.int .i64 x, y] :=
  World.ownsRow_lit (base := w.heap.size) (e := 36) (size := 2) w #[.int .i64 x, y] 1 (Nat.le_refl _) (by unfold maxLen; omega) rfl
theorem hop_start2 {w : World} {v : Value} {e : TypeId} {base size n : Nat} {xs : List Value} {t : TypeId} {cs : Array Value} {b i : Nat} {u : Value} (ho : w.ownsRow base e size v n xs) (hb : b < base) :
    ((w.setCell ⟨b, i, none⟩ u).alloc (.cells cs t)).ownsRow base e size v n xs ∧ ∀ k, v.ownBlock = some k → k < w.heap.size :=
  ⟨(ownsRow_setCell ho hb u).alloc _, fun k hk => (ownsRow_under ho k hk).2⟩

set_option maxRecDepth 20000 in
set_option maxHeartbeats 4000000 in
theorem first_any {w : World} {P : Nat → Prop} {ka ta : Option Addr} {kl kc tl tc : Nat} {es : Es} (s : StAt w P ka kl kc ta tl tc es) (hU : Under P w.heap.size) (cap h m r : Int) (k : ByteArray) (t : T) (v : Value) (hv : ArgsAt w P v t.args) (hts : tsize t ≤ 1000) (hlen : es.length ≤ 1000) :
    Calls Try.prog 32 #[.agg #[.int .i64 cap, .slice ka kl kc, .slice ta tl tc, .int .i64 h, .int .i64 m, .int .i64 r], .string k, .agg #[.int .i64 t.rule, v]] w (StPost P cap h m r ((k, t) :: es) w) := by
  obtain ⟨va, vl, vc, rfl⟩ := hv.slice
  obtain ⟨hl1, hl2⟩ := s.lens
  obtain ⟨⟨kb, ko, hk⟩, ht, htn, hsm⟩ := s
  obtain ⟨tb, to, vs, htt⟩ := ht.terms
  have hkc := hk.hcap
  have hkm : kc ≤ 9223372036854775807 := by have := hk.hmax; unfold maxLen at this; omega
  have htc := htt.hcap
  have htm : tc ≤ 9223372036854775807 := by have := htt.hmax; unfold maxLen at this; omega
  have hlk : kl ≤ 1000 := by omega
  have hlt : tl ≤ 1000 := by omega
  have HK := Lib.hid hk
  have HT := Lib.hid htt
  have HSM := Lib.hid hsm
  have HU := Lib.hid hU
  have HV := Lib.hid hv
  have HNK := Lib.hid (show ka = none → kl = 0 ∧ kc = 0 from fun e => by have := hk.hnil e; omega)
  have HNT := Lib.hid (show ta = none → tl = 0 ∧ tc = 0 from fun e => by have := htn e; omega)
  have HN1 := Lib.hid (show ∀ (X : World), Below w.heap.size w X → ∀ ad, ka = some ad → ∀ j u, (strs (keysE es))[j]? = some u → X.cell? (ad.add j) = some u from fun X hb ad had j u hu => by
    have e1 := hk.hlen
    have hj : j < kl := by have := (List.getElem?_eq_some_iff.1 hu).1; rw [strs_len] at this; omega
    have hx := (hk.ha (by omega)).1
    rw [had] at hx
    cases hx
    exact (hk.kept (Below.keptB hb hU)).src 0 kl (by omega) ko (fun _ => rfl) j u (by rw [List.drop_zero, List.take_of_length_le (by omega)]; exact hu))
  have HN2 := Lib.hid (show ∀ (X : World), Below w.heap.size w X → ∀ ad, ta = some ad → ∀ j u, (rowT (es.map (·.2)) vs)[j]? = some u → X.cell? (ad.add j) = some u from fun X hb ad had j u hu => by
    have e1 := htt.hlen
    have e2 := htt.hvl
    have hj : j < tl * 2 := by have := (List.getElem?_eq_some_iff.1 hu).1; rw [rowT_len _ _ (by omega)] at this; omega
    have hx := (htt.ha (by omega)).1
    rw [had] at hx
    cases hx
    exact (htt.kept (Below.keptB hb hU)).src 0 tl (by omega) to (fun _ => by omega) j u (by rw [List.drop_zero, List.drop_zero, List.take_of_length_le (by omega), List.take_of_length_le (by omega)]; exact hu))
  have HL1 := Lib.hid (show (strs (keysE es)).length = kl * 1 by have e1 := hk.hlen; rw [strs_len]; omega)
  have HL2 := Lib.hid (show (rowT (es.map (·.2)) vs).length = tl * 2 by have e1 := htt.hlen; have e2 := htt.hvl; rw [rowT_len _ _ (by omega)]; omega)
  have HO2 := Lib.hid (rowT_one (es.map (·.2)) vs (by have e1 := htt.hlen; have e2 := htt.hvl; omega) htt.one)
  obtain ⟨j9, hj9, hz90, hz91, hz92⟩ := info_parts info9
  have H9 := Lib.hid (And.intro hj9 (And.intro hz90 (And.intro hz91 hz92)))
  obtain ⟨j36, hj36, hz360, hz361, hz362⟩ := info_parts info36
  have H36 := Lib.hid (And.intro hj36 (And.intro hz360 (And.intro hz361 hz362)))
  have hnew : FiAt w cap h m r (.slice ka kl kc) (.slice ta tl tc) t.rule (.slice va vl vc) (((w.alloc (.cells #[.int .i64 cap, .slice ka kl kc, .slice ta tl tc, .int .i64 h, .int .i64 m, .int .i64 r] 32)).alloc (.cells #[.int .i64 t.rule, .slice va vl vc] 36)).alloc (.cells #[.int .i64 0, .slice none 0 0, .slice none 0 0, .int .i64 0, .int .i64 0, .int .i64 0] 32)) := by
    refine ⟨(((Below.refl _ w).alloc (Nat.le_refl _) _).alloc (by simp) _).alloc (by simp; omega) _, by simp, (Below.heap_alloc _ _ _ (by simp; omega)).trans ((Below.heap_alloc _ _ _ (by simp)).trans (heap_alloc_new _ _)), ?_, ?_⟩
    · refine (Below.heap_alloc _ _ _ (by simp)).trans ?_
      have := heap_alloc_new (w.alloc (.cells #[.int .i64 cap, .slice ka kl kc, .slice ta tl tc, .int .i64 h, .int .i64 m, .int .i64 r] 32)) (.cells #[.int .i64 t.rule, .slice va vl vc] 36)
      rw [World.size_alloc] at this
      exact this
    · have := heap_alloc_new ((w.alloc (.cells #[.int .i64 cap, .slice ka kl kc, .slice ta tl tc, .int .i64 h, .int .i64 m, .int .i64 r] 32)).alloc (.cells #[.int .i64 t.rule, .slice va vl vc] 36)) (.cells #[.int .i64 0, .slice none 0 0, .slice none 0 0, .int .i64 0, .int .i64 0, .int .i64 0] 32)
      rw [World.size_alloc, World.size_alloc] at this
      exact this
  have hWs : (((w.alloc (.cells #[.int .i64 cap, .slice ka kl kc, .slice ta tl tc, .int .i64 h, .int .i64 m, .int .i64 r] 32)).alloc (.cells #[.int .i64 t.rule, .slice va vl vc] 36)).alloc (.cells #[.int .i64 0, .slice none 0 0, .slice none 0 0, .int .i64 0, .int .i64 0, .int .i64 0] 32)).heap.size = w.heap.size + 3 := by simp
  have HNEW := Lib.hid hnew
  clear hk htt hsm hU hj9 hz90 hz91 hz92 hj36 hz360 hz361 hz362 hnew ht hv htn
  go_enter Try.func32, Try.ntmps32
  have hownA : ((((w.alloc (.cells #[.int .i64 cap, .slice ka kl kc, .slice ta tl tc, .int .i64 h, .int .i64 m, .int .i64 r] 32)).alloc (.cells #[.int .i64 t.rule, .slice va vl vc] 36)).alloc (.cells #[.int .i64 0, .slice none 0 0, .slice none 0 0, .int .i64 0, .int .i64 0, .int .i64 0] 32)).alloc (.cells #[.string k] 9)).ownsRow (w.heap.size + 3) 9 1 (.slice (some ⟨w.heap.size + 3, 0, none⟩) 1 1) 1 [.string k] := by
    have := World.ownsRow_lit (base := w.heap.size + 3) (e := 9) (size := 1) (((w.alloc (.cells #[.int .i64 cap, .slice ka kl kc, .slice ta tl tc, .int .i64 h, .int .i64 m, .int .i64 r] 32)).alloc (.cells #[.int .i64 t.rule, .slice va vl vc] 36)).alloc (.cells #[.int .i64 0, .slice none 0 0, .slice none 0 0, .int .i64 0, .int .i64 0, .int .i64 0] 32)) #[.string k] 1 (by omega) (by unfold maxLen; omega) rfl
    rw [hWs] at this
    exact this
  have HOWNA := Lib.hid hownA
  have HBELA := Lib.hid (HNEW.out.alloc (.cells #[.string k] 9))
  clear hownA
  go_wp2_with (first
    | (at_builtin; refine wpList_appR rfl (.tmp 8) (.tmp 10) 29 rfl (w.heap.size + 3) 9 j9 (.string ⟨#[]⟩) 1 16 Try.underlying29 H9.out.1 H9.out.2.1 H9.out.2.2.1 H9.out.2.2.2 rfl (by decide) _ 1 [.string k] rfl HOWNA.out ka kl kc (strs (keysE es)) rfl HNK.out HL1.out (HN1.out _ HBELA.out.bel) (strs_one _) (by unfold maxLen; omega) (by omega) HBELA.out.sz ?_; intro v1 w1 hown1 hg1; have hfi1 := FiAt.grown HBELA.out HOWNA.out hg1; obtain ⟨xa, xl, xc, rfl⟩ := ownsRow_form hown1; have HFI1 := Lib.hid hfi1; have HK1 := Lib.hid hown1; have c1 : w1.cell? ⟨w.heap.size, 1, none⟩ = some (.slice ka kl kc) := (cell_of_row _ _ 1 _ _ _ hfi1.r0).trans rfl; have c2 : w1.cell? ⟨w.heap.size, 2, none⟩ = some (.slice ta tl tc) := (cell_of_row _ _ 2 _ _ _ hfi1.r0).trans rfl; have d0 : w1.cell? ⟨w.heap.size + 1, 0, none⟩ = some (.int .i64 t.rule) := (cell_of_row _ _ 0 _ _ _ hfi1.r1).trans rfl; have d1 : w1.cell? ⟨w.heap.size + 1, 1, none⟩ = some (.slice va vl vc) := (cell_of_row _ _ 1 _ _ _ hfi1.r1).trans rfl; have f1 := frozen_of_row w1 w.heap.size 1 _ _ hfi1.r0; have f2 := frozen_of_row w1 w.heap.size 2 _ _ hfi1.r0; have hlt1 : w.heap.size + 3 ≤ w1.heap.size := hfi1.sz; have hltw : w.heap.size < w1.heap.size := by { omega }; have hownB := own_termlit (w1.setCell ⟨w.heap.size, 1, none⟩ (.slice xa xl xc)) t.rule (.slice va vl vc); rw [heap_setCell_size] at hownB; have HOWNB := Lib.hid hownB; have HBELB := Lib.hid ((hfi1.keys (.slice xa xl xc)).alloc (.cells #[.int .i64 t.rule, .slice va vl vc] 36)); clear hfi1 hown1 hg1 hownB)
    | (at_builtin; refine wpList_appR rfl (.tmp 14) (.tmp 16) 30 rfl w1.heap.size 36 j36 (.agg #[.int .i64 0, .slice none 0 0]) 2 32 Try.underlying30 H36.out.1 H36.out.2.1 H36.out.2.2.1 H36.out.2.2.2 rfl (by decide) _ 1 [.int .i64 t.rule, .slice va vl vc] rfl HOWNB.out ta tl tc (rowT (es.map (·.2)) vs) rfl HNT.out HL2.out (HN2.out _ HBELB.out.bel) HO2.out (by unfold maxLen; omega) (by omega) (by simp) ?_; intro v2 w2 hown2 hg2; have hfi2 := FiAt.grown HBELB.out (ownsRow_lower HOWNB.out hlt1) hg2; have hK2 := ownsRow_hop2 (hop_start2 (t := 36) (cs := #[.int .i64 t.rule, .slice va vl vc]) HK1.out (by omega : w.heap.size < w.heap.size + 3)) HOWNB.out hg2; obtain ⟨ya, yl, yc, rfl⟩ := ownsRow_form hown2; have HFI2 := Lib.hid (hfi2.terms (.slice ya yl yc)); have HK2 := Lib.hid (ownsRow_setCell (b := w.heap.size) (i := 2) hK2.1 (by omega) (.slice ya yl yc)); have HT2 := Lib.hid (ownsRow_setCell (b := w.heap.size) (i := 2) hown2 (by omega) (.slice ya yl yc)); have e1 : w2.cell? ⟨w.heap.size, 1, none⟩ = some (.slice xa xl xc) := (cell_of_row _ _ 1 _ _ _ hfi2.r0).trans rfl; have e2 : w2.cell? ⟨w.heap.size, 2, none⟩ = some (.slice ta tl tc) := (cell_of_row _ _ 2 _ _ _ hfi2.r0).trans rfl; have e0 : w2.cell? ⟨w.heap.size, 0, none⟩ = some (.int .i64 cap) := (cell_of_row _ _ 0 _ _ _ hfi2.r0).trans rfl; have e3 : w2.cell? ⟨w.heap.size, 3, none⟩ = some (.int .i64 h) := (cell_of_row _ _ 3 _ _ _ hfi2.r0).trans rfl; have e4 : w2.cell? ⟨w.heap.size, 4, none⟩ = some (.int .i64 m) := (cell_of_row _ _ 4 _ _ _ hfi2.r0).trans rfl; have e5 : w2.cell? ⟨w.heap.size, 5, none⟩ = some (.int .i64 r) := (cell_of_row _ _ 5 _ _ _ hfi2.r0).trans rfl; have q0 : w2.cell? ⟨w.heap.size + 1 + 1, 0, none⟩ = some (.int .i64 0) := (cell_of_row _ _ 0 _ _ _ hfi2.r2).trans rfl; have q1 : w2.cell? ⟨w.heap.size + 1 + 1, 1, none⟩ = some (.slice none 0 0) := (cell_of_row _ _ 1 _ _ _ hfi2.r2).trans rfl; have q2 : w2.cell? ⟨w.heap.size + 1 + 1, 2, none⟩ = some (.slice none 0 0) := (cell_of_row _ _ 2 _ _ _ hfi2.r2).trans rfl; have q3 : w2.cell? ⟨w.heap.size + 1 + 1, 3, none⟩ = some (.int .i64 0) := (cell_of_row _ _ 3 _ _ _ hfi2.r2).trans rfl; have q4 : w2.cell? ⟨w.heap.size + 1 + 1, 4, none⟩ = some (.int .i64 0) := (cell_of_row _ _ 4 _ _ _ hfi2.r2).trans rfl; have q5 : w2.cell? ⟨w.heap.size + 1 + 1, 5, none⟩ = some (.int .i64 0) := (cell_of_row _ _ 5 _ _ _ hfi2.r2).trans rfl; have g2 := frozen_of_row w2 w.heap.size 2 _ _ hfi2.r0; have p0 := frozen_of_row w2 (w.heap.size + 1 + 1) 0 _ _ hfi2.r2; have p1 := frozen_of_row w2 (w.heap.size + 1 + 1) 1 _ _ hfi2.r2; have p2 := frozen_of_row w2 (w.heap.size + 1 + 1) 2 _ _ hfi2.r2; have p3 := frozen_of_row w2 (w.heap.size + 1 + 1) 3 _ _ hfi2.r2; have p4 := frozen_of_row w2 (w.heap.size + 1 + 1) 4 _ _ hfi2.r2; have p5 := frozen_of_row w2 (w.heap.size + 1 + 1) 5 _ _ hfi2.r2; clear hfi2 hown2 hg2 hK2))
  have hrow := st_store (B := w.heap.size + 1 + 1) HFI2.out.r2 (.int .i64 cap) (.slice xa xl xc) (.slice ya yl yc) (.int .i64 h) (.int .i64 m) (.int .i64 r)
  have hon := st_only (w2.setCell ⟨w.heap.size, 2, none⟩ (.slice ya yl yc)) (w.heap.size + 1 + 1) (.int .i64 cap) (.slice xa xl xc) (.slice ya yl yc) (.int .i64 h) (.int .i64 m) (.int .i64 r)
  generalize w2.setCell ⟨w.heap.size, 2, none⟩ (.slice ya yl yc) = W4 at *
  generalize (((((W4.setCell ⟨w.heap.size + 1 + 1, 0, none⟩ (.int .i64 cap)).setCell ⟨w.heap.size + 1 + 1, 1, none⟩ (.slice xa xl xc)).setCell ⟨w.heap.size + 1 + 1, 2, none⟩ (.slice ya yl yc)).setCell ⟨w.heap.size + 1 + 1, 3, none⟩ (.int .i64 h)).setCell ⟨w.heap.size + 1 + 1, 4, none⟩ (.int .i64 m)).setCell ⟨w.heap.size + 1 + 1, 5, none⟩ (.int .i64 r) = W5 at *
  refine bodyPost_ret (v := .agg #[.int .i64 cap, .slice xa xl xc, .slice ya yl yc, .int .i64 h, .int .i64 m, .int .i64 r]) (results_cell_row rfl _ _ (w.heap.size + 1 + 1) 32 #[.int .i64 cap, .slice xa xl xc, .slice ya yl yc, .int .i64 h, .int .i64 m, .int .i64 r] (0, 0) _ rfl hrow Try.underlying32 rfl (by kernel_rfl)) rfl ?_
  have hk4 : W4.ownsRow (w.heap.size + 3) 9 1 (.slice xa xl xc) (1 + kl) (strs (keysE ((k, t) :: es))) := HK2.out
  have ht4 : W4.ownsRow w1.heap.size 36 2 (.slice ya yl yc) (1 + tl) (rowT (((k, t) :: es).map (·.2)) (.slice va vl vc :: vs)) := HT2.out
  have hsz := HFI2.out.sz
  have z1 := HK.out.hlen
  have z2 := HT.out.hlen
  have z3 := HT.out.hvl
  have hsz1 := HFI1.out.sz
  obtain ⟨ka', kc', kb', ko', hkv, hkk⟩ := keys_own hk4 (by simp [keysE]; omega) (by omega)
  cases hkv
  have hPW4 : Kept P w W4 := Below.keptB HFI2.out.bel HU.out
  obtain ⟨ta', tc', htv, htn', htk⟩ := terms_own (P := P) ht4 (by simp; omega) (by simp; simp at z2; omega) (fun j hj => by
    cases j with
    | zero => exact HV.out.kept hPW4
    | succ j =>
      rw [List.map_cons, List.length_cons, List.length_map] at hj
      exact (HT.out.hs j (by omega)).kept hPW4)
  cases htv
  have hfar : ∀ x, x ≠ w.heap.size + 1 + 1 → W5.heap[x]? = W4.heap[x]? := fun x hx => hon.block x hx
  have hsz5 : W4.heap.size = W5.heap.size := hon.size.symm
  have hb5 : Below w.heap.size w W5 := Below.stepN HFI2.out.bel hon.near (fun x hx => by omega)
  refine ⟨_, _, _, _, _, _, rfl, ⟨⟨kb', ko', (hkk.kept fun x hx => hfar x (by have := hx.1; omega)).wide fun x hx => .inr ⟨by have := hx.1; omega, by have := hx.2; omega⟩⟩, ?_, htn', fun p hp => ?_⟩, hb5⟩
  · refine (htk.kept fun x hx => hfar x ?_).wide fun x hx => ?_
    · rcases hx with hx | hx
      · have := HU.out x hx; omega
      · have := hx.1; omega
    · rcases hx with hx | hx
      · exact .inl hx
      · exact .inr ⟨by have := hx.1; omega, by have := hx.2; omega⟩
  · rcases List.mem_cons.1 hp with rfl | hp
    · exact hts
    · exact HSM.out p hp
end Go.Proofs.Ytdljffplooplcaa
