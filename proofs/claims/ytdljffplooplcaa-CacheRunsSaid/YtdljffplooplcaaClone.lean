/- Clone of the reference: a term that shares no memory. -/
import Derived.Test.YtdljffplooplcaaCopied
namespace Go.Proofs.Ytdljffplooplcaa
open Go.RowKit
set_option linter.unusedVariables false

/-- the parameter's box, whole -/
def BoxAt (w : World) (r : Int) (v : Value) (wr : World) : Prop := wr.heap[w.heap.size]? = some (.cells #[.int .i64 r, v] 36 (0, 0))
theorem BoxAt.c1 {w wr : World} {r : Int} {v : Value} (h : BoxAt w r v wr) : wr.cell? ⟨w.heap.size, 1, none⟩ = some v := (cell_of_row wr _ 1 _ _ _ h).trans rfl
theorem BoxAt.start (w : World) (r : Int) (v : Value) : BoxAt w r v (((w.alloc (.cells #[.int .i64 r, v] 36)).alloc (.cells #[.int .i64 0, .slice none 0 0] 36)).alloc (.cells #[.int .i64 r, .slice none 0 0] 36)) := by
  unfold BoxAt
  rw [Below.heap_alloc _ _ _ (by simp; omega), Below.heap_alloc _ _ _ (by simp)]
  exact heap_alloc_new _ _
theorem BoxAt.after {w wr w2 : World} {r : Int} {v : Value} (h : BoxAt w r v wr) (hb : Below wr.heap.size wr w2) : BoxAt w r v w2 :=
  (hb.block _ (Array.getElem?_eq_some_iff.1 h).1).trans h
theorem BoxAt.grown {w wr w2 : World} {r r' : Int} {v c : Value} {ts : List T} {k : Nat} (h : BoxAt w r v wr) (hg : wr.grownBy w2 c.ownBlock) (hc : Cop w r' ts k c wr) : BoxAt w r v w2 :=
  (hg.block _ (Array.getElem?_eq_some_iff.1 h).1 (fun e => by have := (hc.own.lt _ e.symm).1; omega)).trans h
theorem BoxAt.store {w wr : World} {r : Int} {v : Value} (h : BoxAt w r v wr) (u : Value) : BoxAt w r v (wr.setCell ⟨w.heap.size + 2, 1, none⟩ u) :=
  (Below.heap_setCell _ _ _ _ (by show w.heap.size ≠ w.heap.size + 2; omega)).trans h
theorem clone_call (u : T) (uv : Value) (P : Nat → Prop) {w w' : World} {r : Int} {ts : List T} {k : Nat} {c : Value} (h : Cop w r ts k c w') (hc : Calls Try.prog 25 #[.agg #[.int .i64 u.rule, uv]] w' (CopyPost u w')) :
    Calls Try.prog 25 #[.agg #[.int .i64 u.rule, uv]] w' fun e w2 => ∃ v' U, e = .returned (.agg #[.int .i64 u.rule, v']) ∧ Cop w r ts k c w2 ∧ ArgsAt w2 U v' u.args ∧ (∀ q, U q → w.heap.size + 3 ≤ q ∧ q < w2.heap.size ∧ c.ownBlock ≠ some q) ∧ Below w'.heap.size w' w2 := by
  refine hc.mono ?_
  rintro e w2 ⟨v', rfl, ha, hb⟩
  refine ⟨v', _, rfl, h.next hb, ha, fun q hq => ⟨Nat.le_trans h.sz hq.1, hq.2, fun e => ?_⟩, hb⟩
  have h1 := (h.own.lt q e).2
  have h2 := hq.1
  omega
set_option maxHeartbeats 3200000 in
theorem clone_anyF : ∀ (n : Nat) (t : T) (v : Value) (P : Nat → Prop) (w : World), tsize t ≤ n → tsize t ≤ 1000 → Under P w.heap.size → ArgsAt w P v t.args →
    Calls Try.prog 25 #[.agg #[.int .i64 t.rule, v]] w (CopyPostF t w) := by
  intro n
  induction n with
  | zero => intro t v P w h; have := tsize_pos t; omega
  | succ n ih =>
    intro t v P w hn h1 hh hA
    have IH := Lib.hid ih
    clear ih
    obtain ⟨a, len, cap, ts, b, off, vs, hlen, hcap, hmax, ha, hr, hv, hs⟩ := hA
    have hts := tsize_eq t
    unfold CopyPostF
    generalize t.rule = r at *
    obtain ⟨N, hN⟩ : ∃ N, tsize t = N := ⟨_, rfl⟩
    rw [hN] at hts hn h1
    have HN := Lib.hid hts
    have HL := Lib.hid hlen
    have hmx : len ≤ 9223372036854775807 := by unfold maxLen at hmax; omega
    have HR := Lib.hid hr
    have HV := Lib.hid hv
    have HS := Lib.hid hs
    generalize t.args = ts at *
    clear hN hts hlen hr hv hs
    go_enter Try.func25, Try.ntmps25
    go_wp2
    go_loopw [4] (fun i wr => ∃ k c, k ≤ len ∧ i = .int .i64 (k : Nat) ∧ Cop w r ts k c wr ∧ BoxAt w r (.slice a len cap) wr) (fun i _ => len - (intOf i).toNat)
    case atStart => exact ⟨0, .slice none 0 0, by omega, rfl, Cop.start w r (.slice a len cap) ts, BoxAt.start w r (.slice a len cap)⟩
    case round =>
      obtain ⟨k, c, hk, rfl, hc, hbx⟩ := hrel
      have hb1 := hbx.c1
      have hkl : (k : Int) < 9223372036854775807 ∨ ¬ k < len := by omega
      by_cases hlt : k < len
      · obtain ⟨rfl, hb⟩ := ha (by omega)
        have hkept : Kept P w wr := Below.keptB hc.bel hh
        have c1 := (hkept.cell (p := ⟨b, off + k * 2, none⟩) hb).trans (HR.out k hlt)
        have c2 := (hkept.cell (p := ⟨b, off + k * 2 + 1, none⟩) hb).trans (HV.out k hlt)
        have hsub : ∀ w', Below w.heap.size w w' → ArgsAt w' P (vs k) (ts.getD k default).args := fun w' hb' => (HS.out k hlt).kept (Below.keptB hb' hh)
        have hle : tsize (ts.getD k default) ≤ n ∧ tsize (ts.getD k default) ≤ 1000 := by
          have := tsize_getD ts k (by rw [HL.out]; exact hlt)
          have := HN.out
          omega
        have htk := Lib.hid (take_T ts k (by rw [HL.out]; exact hlt))
        have hlk : (ts.take k).length ≤ 1000000 := by
          have := List.length_take_le k ts
          have := lsize_len ts
          have := HN.out
          have := HL.out
          omega
        obtain ⟨ca, cl, cc, rfl⟩ := hc.own.slice
        have HCALL := Lib.hid (fun (w' : World) (h : Cop w r ts k (.slice ca cl cc) w') => clone_call (c := .slice ca cl cc) (ts.getD k default) (vs k) P h ((IH.out _ (vs k) P w' hle.1 hle.2 (hh.le h.bel.size) (hsub w' h.bel)).mono fun _ _ hp => CopyPostF.post hp))
        have hlen2 := Lib.hid hlk
        obtain ⟨ak, lk, ck, hvk⟩ := (HS.out k hlt).slice
        rw [hvk] at c2 HCALL
        generalize ts.getD k default = u at *
        clear hsub hle hkept hlk hkl hvk
        have hkw : (k : Int) + 1 ≤ 9223372036854775807 := by omega
        have hx0 := hc
        have d0 := hx0.c0
        have d1 := hx0.c1
        have HX0 := Lib.hid hx0
        have HBX := Lib.hid hbx
        clear hx0 hc hbx
        go_wp2
        go_region_law (first
          | (refine step_pushT rfl (.tmp 16) (.tmp 23) rfl (w.heap.size + 3) _ (ts.take k) u uv U rfl hx1.own hau hU rfl hlen2.out (by have := hx1.sz; omega) ?_; intro v3 w3 hown3 hg3; obtain ⟨a3, l3, q3, rfl⟩ := hown3.slice; have hy := Cop2.of hx1 htk.out hown3 hg3; have hbx3 := hbx2.grown hg3 hx1; have f1 := hy.c1; have f2 := hy.f1)
          | (go_simp; go_at_call 25; refine (HCALL.out _ (by first | exact HX0.out | exact HX0.out.drew)).mono ?_; rintro e w2 ⟨uv, U, rfl, hx1, hau, hU, hb2⟩; have hbx2 := BoxAt.after (w := w) (r := r) (v := .slice (some ⟨b, off, none⟩) len cap) (by exact HBX.out) hb2; have g1 := hx1.c1; have g2 := hx1.c0; have gs : w.heap.size + 2 < w2.heap.size := by { have := hx1.sz; omega }))
        all_goals
          have HY := Lib.hid hy.done
          have HB3 := Lib.hid (hbx3.store (.slice a3 l3 q3))
          clear hy f1 f2 hown3 hg3 hau hU hx1 hbx2 hbx3 hb2
          go_wp2
          exact ⟨⟨k + 1, _, by omega, by go_num, HY.out, HB3.out⟩, by simp [intOf]; omega⟩
      · have hk' : k = len := by omega
        obtain ⟨ca, cl, cc, rfl⟩ := hc.own.slice
        have hx := Lib.hid hc
        have d0 := hc.c0
        have d1 := hc.c1
        have r0 := hc.r0
        have r1 := hc.r1
        have f0 := hc.fr 0
        have f1 := hc.fr 1
        have htk := Lib.hid (show ts.take k = ts by rw [hk', List.take_of_length_le (by rw [HL.out]; exact Nat.le_refl _)])
        clear hc hk'
        have hkl' : ¬ (k : Int) < len := by omega
        go_wp2
        have hrow := setCell_row 1 (.slice ca cl cc) (setCell_row 0 (.int .i64 r) hx.out.h1)
        refine bodyPost_ret (v := .agg #[.int .i64 r, .slice ca cl cc]) (results_cell_row rfl _ _ (w.heap.size + 1) 36 #[.int .i64 r, .slice ca cl cc] (0, 0) _ rfl hrow Try.underlying36 rfl (by kernel_rfl)) rfl ?_
        have hfin := hx.out.own.args
        rw [htk.out] at hfin
        have h3 := hx.out.sz
        refine ⟨_, rfl, ?_, (hx.out.bel.setCell (by show w.heap.size ≤ w.heap.size + 1; omega) _).setCell (by show w.heap.size ≤ w.heap.size + 1; omega) _, fun b off s l c e => ?_⟩
        have hk2 : Kept (Span (w.heap.size + 3) wr.heap.size) wr ((wr.setCell ⟨w.heap.size + 1, 0, none⟩ (.int .i64 r)).setCell ⟨w.heap.size + 1, 1, none⟩ (.slice ca cl cc)) := fun q hq => by
          have := hq.1
          rw [Below.heap_setCell _ _ _ _ (by show q ≠ w.heap.size + 1; omega), Below.heap_setCell _ _ _ _ (by show q ≠ w.heap.size + 1; omega)]
        · refine (hfin.kept hk2).wide fun q hq => ⟨by have := hq.1; omega, ?_⟩
          rw [heap_setCell_size, heap_setCell_size]
          exact hq.2
        · obtain ⟨hb1, cs, tt, hh⟩ := hx.out.own.thaw b off s l c e
          refine ⟨by omega, cs, tt, ?_⟩
          rw [Below.heap_setCell _ _ _ _ (by show b ≠ w.heap.size + 1; omega), Below.heap_setCell _ _ _ _ (by show b ≠ w.heap.size + 1; omega)]
          exact hh
theorem clone_any (n : Nat) (t : T) (v : Value) (P : Nat → Prop) (w : World) (h1 : tsize t ≤ n) (h2 : tsize t ≤ 1000) (h3 : Under P w.heap.size) (h4 : ArgsAt w P v t.args) :
    Calls Try.prog 25 #[.agg #[.int .i64 t.rule, v]] w (CopyPost t w) := (clone_anyF n t v P w h1 h2 h3 h4).mono fun _ _ h => CopyPostF.post h
end Go.Proofs.Ytdljffplooplcaa
