/- copied: a term that shares no memory. -/
import Derived.Test.YtdljffplooplcaaOwn
import Derived.Deep.RegionWith
import Derived.Deep.AppendLies
import Derived.Laws.CopyOwn
namespace Go.Proofs.Ytdljffplooplcaa
open Go.RowKit
set_option linter.unusedVariables false

theorem frozen_of_row (w : World) (g j : Nat) (cs : Array Value) (t : TypeId) (hg : w.heap[g]? = some (.cells cs t (0, 0))) : w.frozen? ⟨g, j, none⟩ = false := by
  simp [World.frozen?, hg]
theorem setCell_row {w : World} {g : Nat} {cur : Array Value} {t : TypeId} {fr : Nat × Nat} (i : Nat) (u : Value) (hg : w.heap[g]? = some (.cells cur t fr)) : (w.setCell ⟨g, i, none⟩ u).heap[g]? = some (.cells (cur.setIfInBounds i u) t fr) := by
  rw [setCell_eq_setRow w g i cur t fr u hg]
  exact setRow_heap w g cur _ t fr hg

/-- The state of copied's loop at round k: c is the slice in hand. -/
structure Cop (w : World) (r : Int) (ts : List T) (k : Nat) (c : Value) (wr : World) : Prop where
  bel : Below w.heap.size w wr
  sz : w.heap.size + 3 ≤ wr.heap.size
  h1 : wr.heap[w.heap.size + 1]? = some (.cells #[.int .i64 0, .slice none 0 0] 36 (0, 0))
  h2 : wr.heap[w.heap.size + 2]? = some (.cells #[.int .i64 r, c] 36 (0, 0))
  own : OwnT wr (w.heap.size + 3) c (ts.take k)
theorem Cop.next {w wr w2 : World} {r : Int} {ts : List T} {k : Nat} {c : Value} (h : Cop w r ts k c wr) (hb : Below wr.heap.size wr w2) : Cop w r ts k c w2 := by
  have h0 := h.sz
  exact ⟨Below.next h.bel hb, Nat.le_trans h.sz hb.size, (hb.block _ (by omega)).trans h.h1, (hb.block _ (by omega)).trans h.h2, h.own.after hb⟩
theorem Cop.drew {w wr : World} {r : Int} {ts : List T} {k : Nat} {c : Value} (h : Cop w r ts k c wr) : Cop w r ts k c wr.drew := h.next (Below.refl _ wr).drew
theorem Cop.c0 {w wr : World} {r : Int} {ts : List T} {k : Nat} {c : Value} (h : Cop w r ts k c wr) : wr.cell? ⟨w.heap.size + 2, 0, none⟩ = some (.int .i64 r) := (cell_of_row wr _ 0 _ _ _ h.h2).trans rfl
theorem Cop.c1 {w wr : World} {r : Int} {ts : List T} {k : Nat} {c : Value} (h : Cop w r ts k c wr) : wr.cell? ⟨w.heap.size + 2, 1, none⟩ = some c := (cell_of_row wr _ 1 _ _ _ h.h2).trans rfl

theorem Cop.start (w : World) (r : Int) (v : Value) (ts : List T) : Cop w r ts 0 (.slice none 0 0) (((w.alloc (.cells #[.int .i64 r, v] 36)).alloc (.cells #[.int .i64 0, .slice none 0 0] 36)).alloc (.cells #[.int .i64 r, .slice none 0 0] 36)) := by
  have s1 : (w.alloc (.cells #[.int .i64 r, v] 36)).heap.size = w.heap.size + 1 := by simp
  have s2 : ((w.alloc (.cells #[.int .i64 r, v] 36)).alloc (.cells #[.int .i64 0, .slice none 0 0] 36)).heap.size = w.heap.size + 2 := by simp
  refine ⟨(((Below.refl _ _).alloc (Nat.le_refl _) _).alloc (by omega) _).alloc (by omega) _, by simp, ?_, ?_, OwnT.nil _ _⟩
  · rw [Below.heap_alloc _ _ _ (by omega), ← s1]; exact heap_alloc_new _ _
  · rw [← s2]; exact heap_alloc_new _ _
theorem Cop.r0 {w wr : World} {r : Int} {ts : List T} {k : Nat} {c : Value} (h : Cop w r ts k c wr) : wr.cell? ⟨w.heap.size + 1, 0, none⟩ = some (.int .i64 0) := (cell_of_row wr _ 0 _ _ _ h.h1).trans rfl
theorem Cop.r1 {w wr : World} {r : Int} {ts : List T} {k : Nat} {c : Value} (h : Cop w r ts k c wr) : wr.cell? ⟨w.heap.size + 1, 1, none⟩ = some (.slice none 0 0) := (cell_of_row wr _ 1 _ _ _ h.h1).trans rfl
theorem Cop.fr {w wr : World} {r : Int} {ts : List T} {k : Nat} {c : Value} (h : Cop w r ts k c wr) (i : Nat) : wr.frozen? ⟨w.heap.size + 1, i, none⟩ = false := frozen_of_row wr _ i _ _ h.h1
theorem take_T (ts : List T) (k : Nat) (hk : k < ts.length) : ts.take (k + 1) = ts.take k ++ [ts.getD k default] := by
  rw [List.take_succ_eq_append_getElem hk]
  simp [List.getD, hk]

/-- behind the append, before the store -/
structure Cop2 (w : World) (r : Int) (ts : List T) (k : Nat) (c v3 : Value) (wr : World) : Prop where
  bel : Below w.heap.size w wr
  sz : w.heap.size + 3 ≤ wr.heap.size
  h1 : wr.heap[w.heap.size + 1]? = some (.cells #[.int .i64 0, .slice none 0 0] 36 (0, 0))
  h2 : wr.heap[w.heap.size + 2]? = some (.cells #[.int .i64 r, c] 36 (0, 0))
  own : OwnT wr (w.heap.size + 3) v3 (ts.take (k + 1))
theorem OwnT.lt {w : World} {base : Nat} {v : Value} {ts : List T} (h : OwnT w base v ts) : ∀ k, v.ownBlock = some k → base ≤ k ∧ k < w.heap.size := by
  obtain ⟨vs, Q, _, hrow, _⟩ := h
  exact hrow.lt
theorem Cop2.of {w w2 w3 : World} {r : Int} {ts : List T} {k : Nat} {c v3 : Value} {u : T} (h : Cop w r ts k c w2) (ht : ts.take (k + 1) = ts.take k ++ [u]) (ho : OwnT w3 (w.heap.size + 3) v3 (ts.take k ++ [u])) (hg : w2.grownBy w3 c.ownBlock) : Cop2 w r ts k c v3 w3 := by
  have h0 := h.sz
  have hne : ∀ q, q < w.heap.size + 3 → some q ≠ c.ownBlock := fun q hq e => by have := (h.own.lt q e.symm).1; omega
  exact ⟨h.bel.grown hg h.bel.size (fun q hq => by have := (h.own.lt q hq).1; omega), Nat.le_trans h0 hg.size, (hg.block _ (by omega) (hne _ (by omega))).trans h.h1, (hg.block _ (by omega) (hne _ (by omega))).trans h.h2, ht ▸ ho⟩
theorem Cop2.c1 {w wr : World} {r : Int} {ts : List T} {k : Nat} {c v3 : Value} (h : Cop2 w r ts k c v3 wr) : wr.cell? ⟨w.heap.size + 2, 1, none⟩ = some c := (cell_of_row wr _ 1 _ _ _ h.h2).trans rfl
theorem Cop2.f1 {w wr : World} {r : Int} {ts : List T} {k : Nat} {c v3 : Value} (h : Cop2 w r ts k c v3 wr) : wr.frozen? ⟨w.heap.size + 2, 1, none⟩ = false := frozen_of_row wr _ 1 _ _ h.h2
theorem Cop2.done {w wr : World} {r : Int} {ts : List T} {k : Nat} {c v3 : Value} (h : Cop2 w r ts k c v3 wr) : Cop w r ts (k + 1) v3 (wr.setCell ⟨w.heap.size + 2, 1, none⟩ v3) := by
  have h0 := h.sz
  refine ⟨h.bel.setCell (by show w.heap.size ≤ w.heap.size + 2; omega) _, by rw [heap_setCell_size]; exact h0, ?_, ?_, h.own.setCell (by show w.heap.size + 2 < _; omega) _⟩
  · rw [Below.heap_setCell _ _ _ _ (by show w.heap.size + 1 ≠ w.heap.size + 2; omega)]; exact h.h1
  · exact (setCell_row 1 v3 h.h2).trans rfl

theorem ArgsAt.slice {w : World} {P : Nat → Prop} {v : Value} {ts : List T} (h : ArgsAt w P v ts) : ∃ a l c, v = .slice a l c := by cases h; exact ⟨_, _, _, rfl⟩
theorem OwnT.slice {w : World} {base : Nat} {v : Value} {ts : List T} (h : OwnT w base v ts) : ∃ a l c, v = .slice a l c := h.args.slice

/-- What copied hands back. -/
def CopyPost (t : T) (w : World) (e : Ending) (w' : World) : Prop :=
  ∃ v', e = .returned (.agg #[.int .i64 t.rule, v']) ∧ ArgsAt w' (Span w.heap.size w'.heap.size) v' t.args ∧ Below w.heap.size w w'

/-- The value's block, if it has one, lies at or beyond lo and may be stored to. -/
def Thaw (lo : Nat) (v : Value) (w : World) : Prop := ∀ b off s l c, v = .slice (some ⟨b, off, s⟩) l c → lo ≤ b ∧ ∃ cs t, w.heap[b]? = some (.cells cs t (0, 0))
theorem Thaw.nil (lo : Nat) (w : World) : Thaw lo (.slice none 0 0) w := fun b off s l c h => by cases h
theorem OwnT.thaw {w : World} {base : Nat} {v : Value} {ts : List T} (h : OwnT w base v ts) : ∀ b off s l c, v = .slice (some ⟨b, off, s⟩) l c → base ≤ b ∧ ∃ cs t, w.heap[b]? = some (.cells cs t (0, 0)) := by
  obtain ⟨vs, Q, hvl, hrow, hsub, hQ⟩ := h
  rintro b off s l c rfl
  rcases hrow.2 with ⟨h0, _⟩ | ⟨g, cap, cur, h0, hb, hg, hn, hm, hs, ht⟩
  · cases h0
  · cases h0; exact ⟨hb, _, _, hg⟩
theorem Thaw.block {lo lo' : Nat} {v : Value} {w w' : World} (h : Thaw lo v w) (hlo : lo' ≤ lo) (hb : ∀ b, lo ≤ b → b < w.heap.size → w'.heap[b]? = w.heap[b]?) : Thaw lo' v w' := fun b off s l c e => by
  obtain ⟨h1, cs, t, hh⟩ := h b off s l c e
  exact ⟨Nat.le_trans hlo h1, cs, t, (hb b h1 (Array.getElem?_eq_some_iff.1 hh).1).trans hh⟩
/-- What copied hands back, and that it may be stored to. -/
def CopyPostF (t : T) (w : World) (e : Ending) (w' : World) : Prop :=
  ∃ v', e = .returned (.agg #[.int .i64 t.rule, v']) ∧ ArgsAt w' (Span w.heap.size w'.heap.size) v' t.args ∧ Below w.heap.size w w' ∧ Thaw w.heap.size v' w'
theorem CopyPostF.post {t : T} {w : World} {e : Ending} {w' : World} (h : CopyPostF t w e w') : CopyPost t w e w' := by
  obtain ⟨v', h1, h2, h3, _⟩ := h
  exact ⟨v', h1, h2, h3⟩
theorem copy_call (u : T) (uv : Value) (P : Nat → Prop) {w w' : World} {r : Int} {ts : List T} {k : Nat} {c : Value} (h : Cop w r ts k c w') (hc : Calls Try.prog 27 #[.agg #[.int .i64 u.rule, uv]] w' (CopyPost u w')) :
    Calls Try.prog 27 #[.agg #[.int .i64 u.rule, uv]] w' fun e w2 => ∃ v' U, e = .returned (.agg #[.int .i64 u.rule, v']) ∧ Cop w r ts k c w2 ∧ ArgsAt w2 U v' u.args ∧ ∀ q, U q → w.heap.size + 3 ≤ q ∧ q < w2.heap.size ∧ c.ownBlock ≠ some q := by
  refine hc.mono ?_
  rintro e w2 ⟨v', rfl, ha, hb⟩
  refine ⟨v', _, rfl, h.next hb, ha, fun q hq => ⟨Nat.le_trans h.sz hq.1, hq.2, fun e => ?_⟩⟩
  have h1 := (h.own.lt q e).2
  have h2 := hq.1
  omega
set_option maxHeartbeats 3200000 in
theorem copied_anyF : ∀ (n : Nat) (t : T) (v : Value) (P : Nat → Prop) (w : World), tsize t ≤ n → tsize t ≤ 1000 → Under P w.heap.size → ArgsAt w P v t.args →
    Calls Try.prog 27 #[.agg #[.int .i64 t.rule, v]] w (CopyPostF t w) := by
  intro n
  induction n with
  | zero => intro t v P w h; have := tsize_pos t; omega
  | succ n ih =>
    intro t v P w hn h1 hh hA
    have IH := Lib.hid ih
    clear ih
    obtain ⟨a, len, cap, ts, b, off, vs, hlen, hcap, hmax, ha, hr, hv, hs⟩ := hA
    have hts := tsize_eq t
    unfold CopyPostF
    generalize t.rule = r at *
    obtain ⟨N, hN⟩ : ∃ N, tsize t = N := ⟨_, rfl⟩
    rw [hN] at hts hn h1
    have HN := Lib.hid hts
    have HL := Lib.hid hlen
    have hmx : len ≤ 9223372036854775807 := by unfold maxLen at hmax; omega
    have HR := Lib.hid hr
    have HV := Lib.hid hv
    have HS := Lib.hid hs
    generalize t.args = ts at *
    clear hN hts hlen hr hv hs
    go_enter Try.func27, Try.ntmps27
    go_wp2
    go_loopw [12] (fun i wr => ∃ k c, k ≤ len ∧ i = .int .i64 (k : Nat) ∧ Cop w r ts k c wr) (fun i _ => len - (intOf i).toNat)
    case atStart => exact ⟨0, .slice none 0 0, by omega, rfl, Cop.start w r (.slice a len cap) ts⟩
    case round =>
      obtain ⟨k, c, hk, rfl, hc⟩ := hrel
      have hkl : (k : Int) < 9223372036854775807 ∨ ¬ k < len := by omega
      by_cases hlt : k < len
      · obtain ⟨rfl, hb⟩ := ha (by omega)
        have hkept : Kept P w wr := Below.keptB hc.bel hh
        have c1 := (hkept.cell (p := ⟨b, off + k * 2, none⟩) hb).trans (HR.out k hlt)
        have c2 := (hkept.cell (p := ⟨b, off + k * 2 + 1, none⟩) hb).trans (HV.out k hlt)
        have hsub : ∀ w', Below w.heap.size w w' → ArgsAt w' P (vs k) (ts.getD k default).args := fun w' hb' => (HS.out k hlt).kept (Below.keptB hb' hh)
        have hle : tsize (ts.getD k default) ≤ n ∧ tsize (ts.getD k default) ≤ 1000 := by
          have := tsize_getD ts k (by rw [HL.out]; exact hlt)
          have := HN.out
          omega
        have htk := Lib.hid (take_T ts k (by rw [HL.out]; exact hlt))
        have hlk : (ts.take k).length ≤ 1000000 := by
          have := List.length_take_le k ts
          have := lsize_len ts
          have := HN.out
          have := HL.out
          omega
        obtain ⟨ca, cl, cc, rfl⟩ := hc.own.slice
        have HCALL := Lib.hid (fun (w' : World) (h : Cop w r ts k (.slice ca cl cc) w') => copy_call (c := .slice ca cl cc) (ts.getD k default) (vs k) P h ((IH.out _ (vs k) P w' hle.1 hle.2 (hh.le h.bel.size) (hsub w' h.bel)).mono fun _ _ hp => CopyPostF.post hp))
        have hlen2 := Lib.hid hlk
        obtain ⟨ak, lk, ck, hvk⟩ := (HS.out k hlt).slice
        rw [hvk] at c2 HCALL
        generalize ts.getD k default = u at *
        clear hsub hle hkept hlk hkl hvk
        have hkw : (k : Int) + 1 ≤ 9223372036854775807 := by omega
        go_wp2
        have hx0 : Cop w r ts k (.slice ca cl cc) (wr.alloc (.cells #[.int .i64 u.rule, .slice ak lk ck] 36)) := hc.next ((Below.refl _ _).alloc (Nat.le_refl _) _)
        have e0 : (wr.alloc (.cells #[.int .i64 u.rule, .slice ak lk ck] 36)).cell? ⟨wr.heap.size, 0, none⟩ = some (.int .i64 u.rule) := World.cell?_alloc_at _ _ _ _ rfl
        have e1 : (wr.alloc (.cells #[.int .i64 u.rule, .slice ak lk ck] 36)).cell? ⟨wr.heap.size, 1, none⟩ = some (.slice ak lk ck) := World.cell?_alloc_at _ _ _ _ rfl
        generalize wr.alloc (.cells #[.int .i64 u.rule, .slice ak lk ck] 36) = Wa at hx0 e0 e1 ⊢
        have d0 := hx0.c0
        have d1 := hx0.c1
        have HX0 := Lib.hid hx0
        clear hx0 hc c1 c2
        go_region_law (first
          | (refine step_pushT rfl (.tmp 17) (.tmp 20) rfl (w.heap.size + 3) _ (ts.take k) u uv U rfl hx1.own hau hU rfl hlen2.out (by have := hx1.sz; omega) ?_; intro v3 w3 hown3 hg3; obtain ⟨a3, l3, q3, rfl⟩ := hown3.slice; have hy := Cop2.of hx1 htk.out hown3 hg3; have f1 := hy.c1; have f2 := hy.f1)
          | (go_simp; go_at_call 27; refine (HCALL.out _ (by first | exact HX0.out | exact HX0.out.drew)).mono ?_; rintro e w2 ⟨uv, U, rfl, hx1, hau, hU⟩; have g1 := hx1.c1; have g2 := hx1.c0; have gs : w.heap.size + 2 < w2.heap.size := by { have := hx1.sz; omega }))
        all_goals
          have HY := Lib.hid hy.done
          clear hy f1 f2 hown3 hg3 hau hU hx1
          go_wp2
          exact ⟨⟨k + 1, _, by omega, by go_num, HY.out⟩, by simp [intOf]; omega⟩
      · have hk' : k = len := by omega
        obtain ⟨ca, cl, cc, rfl⟩ := hc.own.slice
        have hx := Lib.hid hc
        have d0 := hc.c0
        have d1 := hc.c1
        have r0 := hc.r0
        have r1 := hc.r1
        have f0 := hc.fr 0
        have f1 := hc.fr 1
        have htk := Lib.hid (show ts.take k = ts by rw [hk', List.take_of_length_le (by rw [HL.out]; exact Nat.le_refl _)])
        clear hc hk'
        have hkl' : ¬ (k : Int) < len := by omega
        go_wp2
        have hrow := setCell_row 1 (.slice ca cl cc) (setCell_row 0 (.int .i64 r) hx.out.h1)
        refine bodyPost_ret (v := .agg #[.int .i64 r, .slice ca cl cc]) (results_cell_row rfl _ _ (w.heap.size + 1) 36 #[.int .i64 r, .slice ca cl cc] (0, 0) _ rfl hrow Try.underlying36 rfl (by kernel_rfl)) rfl ?_
        have hfin := hx.out.own.args
        rw [htk.out] at hfin
        have h3 := hx.out.sz
        refine ⟨_, rfl, ?_, (hx.out.bel.setCell (by show w.heap.size ≤ w.heap.size + 1; omega) _).setCell (by show w.heap.size ≤ w.heap.size + 1; omega) _, fun b off s l c e => ?_⟩
        have hk2 : Kept (Span (w.heap.size + 3) wr.heap.size) wr ((wr.setCell ⟨w.heap.size + 1, 0, none⟩ (.int .i64 r)).setCell ⟨w.heap.size + 1, 1, none⟩ (.slice ca cl cc)) := fun q hq => by
          have := hq.1
          rw [Below.heap_setCell _ _ _ _ (by show q ≠ w.heap.size + 1; omega), Below.heap_setCell _ _ _ _ (by show q ≠ w.heap.size + 1; omega)]
        · refine (hfin.kept hk2).wide fun q hq => ⟨by have := hq.1; omega, ?_⟩
          rw [heap_setCell_size, heap_setCell_size]
          exact hq.2
        · obtain ⟨hb1, cs, tt, hh⟩ := hx.out.own.thaw b off s l c e
          refine ⟨by omega, cs, tt, ?_⟩
          rw [Below.heap_setCell _ _ _ _ (by show b ≠ w.heap.size + 1; omega), Below.heap_setCell _ _ _ _ (by show b ≠ w.heap.size + 1; omega)]
          exact hh
theorem copied_any (n : Nat) (t : T) (v : Value) (P : Nat → Prop) (w : World) (h1 : tsize t ≤ n) (h2 : tsize t ≤ 1000) (h3 : Under P w.heap.size) (h4 : ArgsAt w P v t.args) :
    Calls Try.prog 27 #[.agg #[.int .i64 t.rule, v]] w (CopyPost t w) := (copied_anyF n t v P w h1 h2 h3 h4).mono fun _ _ h => CopyPostF.post h
end Go.Proofs.Ytdljffplooplcaa
