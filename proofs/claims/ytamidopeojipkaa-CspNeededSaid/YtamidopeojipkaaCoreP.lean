/- core of the program: the walk. -/
import Derived.Test.YtamidopeojipkaaOwnR
namespace Go.Proofs.Ytamidopeojipkaa
open Go.RowKit
set_option linter.unusedVariables false

/-- what core comes to -/
def CorePost (base : Nat) (o : Option (List Nat)) (w : World) (e : Ending) (w' : World) : Prop :=
  (match o with
    | some L => ∃ v, e = .returned (.tuple #[v, .bool true]) ∧ OwnI w' base v (L.map Int.ofNat)
    | none => ∃ a l c, e = .returned (.tuple #[.slice a l c, .bool false])) ∧ Below w.heap.size w w'
/-- the boxes of core: the problem, and the one that is made -/
structure CrAt (w : World) (P : Nat → Prop) (s r t : Value) (rs : List Rel) (W : World) : Prop where
  bel : Below w.heap.size w W
  r0 : W.heap[w.heap.size]? = some (.cells #[s, r] 25 (0, 0))
  r1 : W.heap[w.heap.size + 1]? = some (.cells #[s, t] 25 (0, 0))
  own : OwnR W (w.heap.size + 2) P t rs
  hP : Under P w.heap.size
theorem CrAt.lt {w W : World} {P : Nat → Prop} {s r t : Value} {rs : List Rel} (h : CrAt w P s r t rs W) : w.heap.size + 2 ≤ W.heap.size := (Array.getElem?_eq_some_iff.1 h.r1).1
theorem CrAt.next {w W W' : World} {P : Nat → Prop} {s r t : Value} {rs : List Rel} (h : CrAt w P s r t rs W) (hb : Below W.heap.size W W') : CrAt w P s r t rs W' := by
  have := h.lt
  exact ⟨Below.next h.bel hb, (hb.block _ (by omega)).trans h.r0, (hb.block _ (by omega)).trans h.r1, h.own.below (h.hP.le h.bel.size) hb, h.hP⟩
theorem CrAt.c {w W : World} {P : Nat → Prop} {s r t : Value} {rs : List Rel} (h : CrAt w P s r t rs W) : W.cell? ⟨w.heap.size, 0, none⟩ = some s ∧ W.cell? ⟨w.heap.size, 1, none⟩ = some r ∧ W.cell? ⟨w.heap.size + 1, 0, none⟩ = some s ∧ W.cell? ⟨w.heap.size + 1, 1, none⟩ = some t ∧ W.frozen? ⟨w.heap.size + 1, 1, none⟩ = false :=
  ⟨(cell_row' _ _ 0 _ _ h.r0).trans rfl, (cell_row' _ _ 1 _ _ h.r0).trans rfl, (cell_row' _ _ 0 _ _ h.r1).trans rfl, (cell_row' _ _ 1 _ _ h.r1).trans rfl, frozen_row' _ _ 1 _ _ h.r1⟩
theorem CrAt.push {w W W' : World} {P : Nat → Prop} {s r t t' : Value} {rs rs' : List Rel} (h : CrAt w P s r t rs W) (hg : W.grownBy W' t.ownBlock) (ho : OwnR W' (w.heap.size + 2) P t' rs') : CrAt w P s r t' rs' (W'.setCell ⟨w.heap.size + 1, 1, none⟩ t') := by
  have hl := h.lt
  have hold : ∀ k, k < w.heap.size + 2 → W'.heap[k]? = W.heap[k]? := fun k hk => hg.block k (by omega) fun e => by have := (h.own.lt e.symm).1; omega
  have hne : ∀ k, k ≠ w.heap.size + 1 → (W'.setCell ⟨w.heap.size + 1, 1, none⟩ t').heap[k]? = W'.heap[k]? := fun k hk => Below.heap_setCell _ _ _ _ hk
  refine ⟨?_, ?_, ?_, ?_, h.hP⟩
  · exact (below_row h.bel hg (fun k hk => by have := (h.own.lt hk).1; omega) h.bel.size).setCell (show w.heap.size ≤ (⟨w.heap.size + 1, 1, none⟩ : Addr).block from by show w.heap.size ≤ w.heap.size + 1; omega) _
  · rw [hne _ (by omega), hold _ (by omega)]; exact h.r0
  · exact (setCell_row 1 _ ((hold _ (by omega)).trans h.r1)).trans rfl
  · exact ho.kept (fun k hk => hne k (by have := h.hP k hk; omega)) fun k hk => hne k (by have := (ho.lt hk).1; omega)

theorem subP_step {p : Prob} {ch : List Nat} {q : Nat} (hq : q < ch.length) : (ch.take q).map (fun i => p.rels.getD i default) ++ [p.rels.getD (ch.getD q 0) default] = (ch.take (q + 1)).map fun i => p.rels.getD i default := by
  rw [List.take_succ_eq_append_getElem hq, List.map_append]
  simp [List.getD, hq]

set_option maxRecDepth 20000 in
set_option maxHeartbeats 1600000 in
theorem core_zero {w : World} {P : Nat → Prop} {base : Nat} {sv rv cv : Value} {p : Prob} {ch : List Nat} (hs : IntsAt w P sv p.sizes) (hr : RelsAt w P rv p.rels) (hP : Under P w.heap.size) (hgood : Good p) (hc : OwnI w base cv (ch.map Int.ofNat)) (hl : ch.length ≤ 96) (hch : ∀ i ∈ ch, i < p.rels.length) (from_ : Nat) :
    Calls Try.prog 39 #[.agg #[sv, rv], cv, .int .i64 from_, .int .i64 0] w (CorePost base (coreS p 0 ch from_) w) := by
  have HSI := Lib.hid hs
  have hsub := hgood.sub hl hch
  have HSUB := Lib.hid hsub
  have HCO := Lib.hid hc
  have HP := Lib.hid hP
  have hW : Below w.heap.size w (w.alloc (.cells #[sv, rv] 25)) := (Below.refl _ w).alloc (Nat.le_refl _) _
  have hbx : CrAt w P sv rv (.slice none 0 0) [] ((w.alloc (.cells #[sv, rv] 25)).alloc (.cells #[sv, .slice none 0 0] 25)) := by
    have h1 := heap_alloc_new (w.alloc (.cells #[sv, rv] 25)) (.cells #[sv, .slice none 0 0] 25)
    rw [World.size_alloc] at h1
    exact ⟨hW.alloc (by simp) _, (Below.heap_alloc _ _ _ (by simp)).trans (heap_alloc_new _ _), h1, OwnR.nil _ _ _, hP⟩
  have HBX := Lib.hid hbx
  have hsln : ∀ (w1 : World) (t : Value), CrAt w P sv rv t (ch.map fun i => p.rels.getD i default) w1 → Calls Try.prog 38 #[.agg #[sv, t], .int .i64 1] w1 fun e w' => ∃ fv vs, e = .returned fv ∧ OwnL w' w1.heap.size fv vs ((sols (subP p ch) []).take 1) ∧ Below w1.heap.size w1 w' := fun w1 t h =>
    solutions_any (p := subP p ch) (P := fun k => P k ∨ t.ownBlock = some k) (most := 1) ((hs.kept (Below.keptB h.bel hP)).wide fun k hk => .inl hk) h.own.rels (h.own.under (hP.le h.bel.size)) hsub (Nat.le_refl _) (by omega)
  have HSLN := Lib.hid hsln
  obtain ⟨sa, sl, sc, rfl⟩ := hs.slice
  obtain ⟨ra, rcap, rb, ro, rvs, rfl, hrr, hrs⟩ := hr
  obtain ⟨ca, ccap, cb, co, hcv, hcr⟩ := hc.ints
  have HRR := Lib.hid hrr
  have HRS := Lib.hid hrs
  have HCR := Lib.hid hcr
  have HCL : Hid (Under (fun k => cv.ownBlock = some k) w.heap.size) := Lib.hid fun k hk => (hc.lt hk).2
  have hrc := hrr.hcap
  have hrm1 : rcap ≤ 9223372036854775807 := by have := hrr.hmax; unfold maxLen at this; omega
  have hcc := hcr.hcap
  have hcm1 : ccap ≤ 9223372036854775807 := by have := hcr.hmax; unfold maxLen at this; omega
  have hlen : (ch.map Int.ofNat).length = ch.length := List.length_map ..
  obtain ⟨lr, hlr⟩ : ∃ lr, p.rels.length = lr := ⟨_, rfl⟩
  obtain ⟨lc, hlc⟩ : ∃ lc, ch.length = lc := ⟨_, rfl⟩
  have hl96 : lr ≤ 96 := by rw [← hlr]; exact hgood.rels
  rw [hlen, hlc] at hcv HCR hcc
  rw [hlr] at HRR HRS HBX HSLN hrc hch ⊢
  rw [hlc] at hl
  have HCH := Lib.hid hch
  have HLC := Lib.hid hlc
  have HLR := Lib.hid hlr
  unfold CorePost coreS
  subst hcv
  have HQ : Hid (sols (subP p ch) [] = [] ∨ sols (subP p ch) [] ≠ []) := Lib.hid (Classical.em _)
  clear hs hP hgood hc hch hsub hW hbx hsln hrr hrs hcr hlr hlc hlen
  go_enter Try.func39, Try.ntmps39
  go_wp2
  generalize (w.alloc (.cells #[.slice sa sl sc, .slice ra lr rcap] 25)).alloc (.cells #[.slice sa sl sc, .slice none 0 0] 25) = W at *
  go_loopg [23] lc (fun g23 i wr => ∃ (q : Nat) (t : Value), q + g23 = lc ∧ i = .int .i64 q ∧ CrAt w P (.slice sa sl sc) (.slice ra lr rcap) t ((ch.take q).map fun i => p.rels.getD i default) wr)
  case atStart => exact ⟨0, _, by omega, rfl, HBX.out⟩
  case round =>
    obtain ⟨q, t, hq, rfl, hbx⟩ := hrel
    have HB := Lib.hid hbx
    obtain ⟨c0, c1, c2, c3, c4⟩ := hbx.c
    obtain ⟨ta, tl, tc, rfl⟩ := hbx.own.slice
    cases gk with
    | zero =>
      have hkl : ¬ (q : Int) < lc := by omega
      have hq' : q = lc := by omega
      have hfull : CrAt w P (.slice sa sl sc) (.slice ra lr rcap) (.slice ta tl tc) (ch.map fun i => p.rels.getD i default) wr := by
        have h := HB.out
        rw [hq', List.take_of_length_le (by rw [HLC.out]; exact Nat.le_refl _)] at h
        exact h
      have HC := Lib.hid (HSLN.out _ _ hfull)
      have HF := Lib.hid hfull
      clear hbx hfull
      go_wp2_with (first | (go_at_call 38; refine HC.out.mono ?_; rintro e w5 ⟨fv, vs, rfl, hol, hb5⟩; obtain ⟨fa, fc, fb, fo, fvs, rfl, _⟩ := hol.lists; clear hol; obtain ⟨z, hz⟩ : ∃ z, ((sols (subP p ch) []).take 1).length = z := ⟨_, rfl⟩; rw [hz]; have HZ := Lib.hid hz; clear hz))
      · have hnil : sols (subP p ch) [] = [] := by assumption
        have hz : z = 0 := by rw [← HZ.out, hnil]; rfl
        subst hz
        go_ret2
        exact ⟨⟨_, rfl, HCO.out.block fun k hk => (HF.out.bel.trans (hb5.mono HF.out.bel.size)).block k (HCL.out k hk)⟩, HF.out.bel.trans (hb5.mono HF.out.bel.size)⟩
      · have hnil : ¬ sols (subP p ch) [] = [] := by assumption
        have hz : z = 1 := by
          rw [← HZ.out, List.length_take]
          have := List.length_pos_iff.2 hnil
          omega
        subst hz
        go_ret2
        exact ⟨⟨_, _, _, rfl⟩, HF.out.bel.trans (hb5.mono HF.out.bel.size)⟩
    | succ gk2 =>
      have hql : q < lc := by omega
      have hkc := Below.keptB hbx.bel HCL.out
      obtain ⟨rfl, hpc⟩ := HCR.out.ha (by omega)
      have d0 := (HCR.out.kept hkc).hc q (by omega)
      have hge : (ch.map Int.ofNat).getD q 0 = ((ch.getD q 0 : Nat) : Int) := by
        have : q < ch.length := by rw [HLC.out]; exact hql
        simp [List.getD, this]
      rw [hge] at d0
      have hin := HCH.out (ch.getD q 0) (by
        have : q < ch.length := by rw [HLC.out]; exact hql
        have e : ch.getD q 0 = ch[q] := by simp [List.getD, this]
        rw [e]; exact List.getElem_mem _)
      have hstep := subP_step (p := p) (ch := ch) (q := q) (by rw [HLC.out]; exact hql)
      have HSTEP := Lib.hid hstep
      have hlq : ((ch.take q).map fun i => p.rels.getD i default).length ≤ 1000000 := by
        rw [List.length_map, List.length_take]; omega
      have HLQ := Lib.hid hlq
      clear hge hkc hstep hlq
      generalize ch.getD q 0 = x at *
      obtain ⟨rfl, hpr⟩ := HRR.out.ha (by omega)
      have hd := hbx.next (Below.refl _ wr).drew
      have hk' := Below.keptB hd.bel HP.out
      have d1 := (HRR.out.kept hk').hc (x * 2) (by omega)
      have d2 : wr.drew.cell? ⟨rb, ro + x * 2 + 1, none⟩ = some (rvs (x * 2 + 1)) := (HRR.out.kept hk').hc (x * 2 + 1) (by omega)
      obtain ⟨f1, f2⟩ := HRS.out x hin
      obtain ⟨va, vl, vc, hv⟩ := f1.slice
      obtain ⟨aa, al, ac, ha⟩ := f2.slice
      rw [hv] at d1 f1
      rw [ha] at d2 f2
      have HF1 := Lib.hid (f1.kept hk')
      have HF2 := Lib.hid (f2.kept hk')
      have hd2 := hd.next ((Below.refl _ wr.drew).alloc (Nat.le_refl _) (.cells #[.slice va vl vc, .slice aa al ac] 46))
      obtain ⟨g0, g1, g2, g3, g4⟩ := hd.c
      obtain ⟨k0, k1, k2, k3, k4⟩ := hd2.c
      obtain ⟨j0, j1, j2, j3, j4⟩ := (hbx.next ((Below.refl _ wr).alloc (Nat.le_refl _) (.cells #[.slice va vl vc, .slice aa al ac] 46))).c
      have HD := Lib.hid hd
      have hbs : w.heap.size + 2 ≤ wr.drew.heap.size := hd.lt
      have HBS := Lib.hid hbs
      clear hbx hk' f1 f2 hv ha hd hd2 hbs c0 c1 c2 c3 c4
      go_wp2
      go_region_law (refine step_pushR rfl (.tmp 28) (.tmp 34) rfl (w.heap.size + 2) P (.slice ta tl tc) _ (p.rels.getD x default) (.slice va vl vc) (.slice aa al ac) rfl HD.out.own HF1.out HF2.out (fun k hk => ⟨HP.out.le HD.out.bel.size k hk, fun e => by have := HP.out k hk; have := (HD.out.own.lt e).1; omega⟩) rfl HLQ.out HBS.out ?_; intro v6 w6 ho6 hg6; rw [HSTEP.out] at ho6; obtain ⟨ya, yl, yc, rfl⟩ := ho6.slice; have HN := Lib.hid (HD.out.push hg6 ho6); have q1 := (cell_row' _ _ 1 _ _ ((hg6.block _ (by have := HBS.out; omega) (fun e => by have := (HD.out.own.lt e.symm).1; omega)).trans HD.out.r1)).trans rfl; have q2 := frozen_row' _ _ 1 _ _ ((hg6.block _ (by have := HBS.out; omega) (fun e => by have := (HD.out.own.lt e.symm).1; omega)).trans HD.out.r1); clear ho6 hg6)
      all_goals
        go_wp2
        go_roundg gk2
        case measure => omega
        case rel => exact ⟨q + 1, _, by omega, by go_num, HN.out⟩

theorem CorePost.mono {b1 b2 : Nat} {o : Option (List Nat)} {w w0 : World} {e : Ending} {w' : World} (h : CorePost b1 o w0 e w') (hb : b2 ≤ b1) (hw : Below w.heap.size w w0) : CorePost b2 o w e w' := by
  obtain ⟨h1, h2⟩ := h
  refine ⟨?_, Below.next hw h2⟩
  cases o with
  | none => exact h1
  | some L =>
    obtain ⟨v, h3, h4⟩ := h1
    exact ⟨v, h3, h4.mono hb⟩
/-- append(s, u) at a step of a region that draws: u lies in some block -/
theorem step_pushG {S E : TypeId} {z : Value} {by_ : Nat} (hS : Try.prog.underlying S = some (.slice E)) (hI : (Try.prog.info? E).map (fun i => (i.zero, i.size, i.bytes)) = some (some z, 1, by_)) (hz : z.cells.size = 1) (hby : by_ ≤ 64)
    {w : World} {ops : Array Oper} {o : Oper} {a : Act} {K : Act → World → Prop} {Q : Exit → Act → World → Prop} {F : Prop} (hgd : o.guard = none) (s x : Operand)
    (ho : o.op = .call { callee := .builtin .append, args := #[s, x], argTypes := #[S, S] })
    (base b : Nat) (v : Value) (n : Nat) (xs : List Value) (u : Value) (hs : a.eval s = v) (hu : u.oneCell' = true) (hown : w.ownsRow base E 1 v n xs)
    (hx : a.eval x = .slice (some ⟨b, 0, none⟩) 1 1) (hcell : w.cell? ⟨b, 0, none⟩ = some u) (hn : n ≤ 2000000) (hbase : base ≤ w.heap.size)
    (h : ∀ v' w', w'.ownsRow base E 1 v' (n + 1) (xs ++ [u]) → w.grownBy w' v.ownBlock → K (a.put o.dst v') w') :
    if Region.wanted o (yielded ops a.tmps) = true then Oper.wp Try.prog o a w K Q else F := by
  have hw : Region.wanted o (yielded ops a.tmps) = true := by simp [Region.wanted, hgd]
  rw [if_pos hw]
  obtain ⟨i0, hi, hz0, hz1, hz2⟩ := info_parts hI
  obtain ⟨v', w', hr, hown', hg, _, hat⟩ := run_append_own_at (P := Try.prog) w base S o.type E i0 z 1 by_ hS hi hz0 hz1 hz2 hz (by decide) v n xs hown
    ⟨b, 0, none⟩ 1 1 [u] rfl (by
      intro j t hj
      match j, hj with
      | 0, hj => simp at hj; subst hj; rw [Addr.add_lit]; exact hcell) (by intro t ht; simp at ht; subst ht; exact hu) (by unfold maxLen; omega)
    (Nat.le_trans (Nat.mul_le_mul_left _ hby) (by omega)) hbase
  unfold Oper.wp execOp
  simp only [ho, resolve, invoke, builtin, Sem.run_bind, Sem.run_pure, Result.andThen_ok, List.map_toArray, List.map_cons, List.map_nil, hs, hx, hr]
  exact h v' w' hown' hg
theorem pushed_own {w : World} {base : Nat} {v : Value} {ch : List Nat} {i : Nat} (h : w.ownsRow base 3 1 v ((ch.map Int.ofNat).length + 1) ((ch.map Int.ofNat).map (Value.int .i64) ++ [.int .i64 (i : Int)])) : OwnI w base v ((ch ++ [i]).map Int.ofNat) := by
  unfold OwnI
  rw [List.map_append, List.map_append, List.length_append]
  exact h
theorem PxAt.grown {w W W' : World} {s r v : Value} (h : PxAt w s r W) (hg : W.grownBy W' v.ownBlock) (hv : ∀ k, v.ownBlock = some k → w.heap.size < k) : PxAt w s r W' :=
  ⟨below_row h.bel hg (fun k hk => Nat.le_of_lt (hv k hk)) h.bel.size, (hg.block _ h.lt fun e => by have := hv _ e.symm; omega).trans h.r0⟩
set_option maxRecDepth 20000 in
set_option maxHeartbeats 3000000 in
theorem core_succ {w : World} {P : Nat → Prop} {base : Nat} {sv rv cv : Value} {p : Prob} {ch : List Nat} {k : Nat} (hs : ∃ a l c, sv = .slice a l c) (hr : ∃ a c, rv = .slice a p.rels.length c ∧ p.rels.length ≤ c ∧ c ≤ 9223372036854775807) (hlr96 : p.rels.length ≤ 96) (hc : OwnI w base cv (ch.map Int.ofNat)) (hl : ch.length ≤ 96) (hk96 : k ≤ 96) (from_ : Nat) (hfrom : from_ ≤ p.rels.length) (hbase : base ≤ w.heap.size)
    (ih : ∀ (w1 : World) (cv1 : Value) (i : Nat), Below w.heap.size w w1 → OwnI w1 w.heap.size cv1 ((ch ++ [i]).map Int.ofNat) → i < p.rels.length → Calls Try.prog 39 #[.agg #[sv, rv], cv1, .int .i64 ((i : Int) + 1), .int .i64 k] w1 (CorePost w.heap.size (coreS p k (ch ++ [i]) (i + 1)) w1)) :
    Calls Try.prog 39 #[.agg #[sv, rv], cv, .int .i64 from_, .int .i64 ((k : Int) + 1)] w (CorePost base (coreS p (k + 1) ch from_) w) := by
  have hW : Below w.heap.size w (w.alloc (.cells #[sv, rv] 25)) := (Below.refl _ w).alloc (Nat.le_refl _) _
  have hbx : PxAt w sv rv (w.alloc (.cells #[sv, rv] 25)) := ⟨hW, heap_alloc_new _ _⟩
  have HBX := Lib.hid hbx
  have HIH := Lib.hid ih
  have HCO := Lib.hid hc
  obtain ⟨R, hR⟩ : ∃ R, coreS p (k + 1) ch from_ = R := ⟨_, rfl⟩
  rw [hR]
  have HR := Lib.hid hR
  obtain ⟨sa, sl, sc, rfl⟩ := hs
  obtain ⟨ra, rc, rfl, hrc, hrm⟩ := hr
  obtain ⟨ca, ccap, cb, co, rfl, _⟩ := hc.ints
  have HCL : Hid (∀ w1, Below w.heap.size w w1 → OwnI w1 base (.slice ca (ch.map Int.ofNat).length ccap) (ch.map Int.ofNat)) := Lib.hid fun w1 h => HCO.out.block fun k hk => h.block k (HCO.out.lt hk).2
  have hlen : (ch.map Int.ofNat).length = ch.length := List.length_map ..
  have HLEN := Lib.hid hlen
  obtain ⟨lr, hlr⟩ : ∃ lr, p.rels.length = lr := ⟨_, rfl⟩
  obtain ⟨lc, hlc⟩ : ∃ lc, ch.length = lc := ⟨_, rfl⟩
  rw [hlen, hlc] at HCL HCO
  rw [hlr] at HBX HIH hlr96 hfrom hrc
  rw [hlc] at hl
  have HLC := Lib.hid hlc
  have HLR := Lib.hid hlr
  rw [hlen, hlc, hlr]
  clear hc hW hbx ih hR hlr hlc hlen
  have hk0 : ¬ (k : Int) + 1 = 0 := by omega
  go_enter Try.func39, Try.ntmps39
  go_wp2
  generalize w.alloc (.cells #[.slice sa sl sc, .slice ra lr rc] 25) = W at *
  go_loopg [13] (lr + 1 - from_) (fun g13 i wr => ∃ q : Nat, from_ ≤ q ∧ q + g13 = lr + 1 ∧ i = .int .i64 q ∧ PxAt w (.slice sa sl sc) (.slice ra lr rc) wr ∧ ∀ j, from_ ≤ j → j < q → coreS p k (ch ++ [j]) (j + 1) = none)
  case atStart => exact ⟨from_, Nat.le_refl _, by omega, rfl, HBX.out, fun j h1 h2 => by omega⟩
  case round =>
    obtain ⟨q, hfq, hq, rfl, hbx, hall⟩ := hrel
    have HB := Lib.hid hbx
    have HALL := Lib.hid hall
    have c0 := hbx.s
    have c1 := hbx.r
    clear hbx hall
    by_cases hfit : q + (k + 1) ≤ lr
    · have hfit2 : (q : Int) + ((k : Int) + 1) ≤ lr := by omega
      have hd := HB.out.next (Below.refl _ wr).drew
      have HD := Lib.hid hd
      have d0 := hd.s
      have d1 := hd.r
      have hcd := HCL.out _ hd.bel
      have HCD := Lib.hid hcd
      have HCLONE := Lib.hid (clone_any hcd (by rw [HLEN.out, HLC.out]; omega))
      have hdb := HB.out.next (((Below.refl _ wr).alloc (Nat.le_refl _) (.cells #[.int .i64 (q : Int)] 3)).drew)
      have HDB := Lib.hid hdb
      have f0 := hdb.s
      have f1 := hdb.r
      have hcdb := HCL.out _ hdb.bel
      have HCLONEB := Lib.hid (clone_any hcdb (by rw [HLEN.out, HLC.out]; omega))
      have HNB : Hid (wr.heap.size < (wr.alloc (.cells #[.int .i64 (q : Int)] 3)).drew.heap.size) := Lib.hid (by show wr.heap.size < (wr.alloc _).heap.size; rw [World.size_alloc]; omega)
      have HCB : Hid ((wr.alloc (.cells #[.int .i64 (q : Int)] 3)).drew.cell? ⟨wr.heap.size, 0, none⟩ = some (.int .i64 (q : Int))) := Lib.hid ((cell_row' (wr.alloc (.cells #[.int .i64 (q : Int)] 3)) wr.heap.size 0 _ _ (heap_alloc_new _ _)).trans rfl)
      have hl20 : (ch.map Int.ofNat).length ≤ 2000000 := by rw [HLEN.out, HLC.out]; omega
      have HL20 := Lib.hid hl20
      obtain ⟨G, hG⟩ : ∃ G, coreS p k (ch ++ [q]) (q + 1) = G := ⟨_, rfl⟩
      have HG := Lib.hid hG
      have hqw : IntKind.i64.wrap ((q : Int) + 1) = (q : Int) + 1 := by rw [IntKind.wrap_i64]; omega
      have hkw : IntKind.i64.wrap (k : Int) = (k : Int) := by rw [IntKind.wrap_i64]; omega
      clear hd hcd hl20 hG hdb hcdb
      rcases G with _ | L
      · go_wp2
        go_region_law (first
          | (refine step_pushG und22 info3 rfl (by omega) rfl (.tmp 56) (.tmp 58) rfl w.heap.size _ _ (ch.map Int.ofNat).length ((ch.map Int.ofNat).map (Value.int .i64)) _ rfl rfl HOW.out rfl HCW.out HL20.out HPW.out.bel.size ?_; intro v6 w6 ho6 hg6; obtain ⟨xa, xl, xc, rfl⟩ := row_slice ho6; have HO6 := Lib.hid (pushed_own (i := q) ho6); have HB6 := Lib.hid (HPW.out.grown hg6 (fun k hk => HO50.out k hk)); have y0 := HB6.out.s; have y1 := HB6.out.r; clear ho6 hg6)
          | (go_simp; go_at_call 44; refine HCLONE.out.mono ?_; rintro e w5 ⟨v5, rfl, ho5, hb5⟩; obtain ⟨ua, ul, uc, rfl⟩ := ho5.ints.slice; have HB5 := Lib.hid (HD.out.next hb5); have hn5 := HB5.out.next ((Below.refl _ w5).alloc (Nat.le_refl _) (.cells #[.int .i64 (q : Int)] 3)); have HPW := Lib.hid hn5; have HOW : Hid ((w5.alloc (.cells #[.int .i64 (q : Int)] 3)).ownsRow w.heap.size 3 1 (.slice ua ul uc) (ch.map Int.ofNat).length ((ch.map Int.ofNat).map (Value.int .i64))) := Lib.hid ((ho5.mono HD.out.bel.size).block fun k hk => Below.heap_alloc _ _ _ (ho5.lt hk).2); have HO50 : Hid (∀ k, (Value.slice ua ul uc).ownBlock = some k → w.heap.size < k) := Lib.hid (fun k hk => Nat.lt_of_lt_of_le HD.out.lt (ho5.lt hk).1); have HCW : Hid ((w5.alloc (.cells #[.int .i64 (q : Int)] 3)).cell? ⟨w5.heap.size, 0, none⟩ = some (.int .i64 (q : Int))) := Lib.hid ((cell_row' _ _ 0 _ _ (heap_alloc_new _ _)).trans rfl); have e0 := HB5.out.s; have e1 := HB5.out.r; have b0 := hn5.s; have b1 := hn5.r; clear ho5 hb5 hn5)
          | (go_simp; go_at_call 44; refine HCLONEB.out.mono ?_; rintro e w5 ⟨v5, rfl, ho5, hb5⟩; obtain ⟨ua, ul, uc, rfl⟩ := ho5.ints.slice; have HB5 := Lib.hid (HDB.out.next hb5); have HPW := Lib.hid (HDB.out.next hb5); have HOW : Hid (w5.ownsRow w.heap.size 3 1 (.slice ua ul uc) (ch.map Int.ofNat).length ((ch.map Int.ofNat).map (Value.int .i64))) := Lib.hid (ho5.mono HDB.out.bel.size); have HO50 : Hid (∀ k, (Value.slice ua ul uc).ownBlock = some k → w.heap.size < k) := Lib.hid (fun k hk => Nat.lt_of_lt_of_le HDB.out.lt (ho5.lt hk).1); have HCW : Hid (w5.cell? ⟨wr.heap.size, 0, none⟩ = some (.int .i64 (q : Int))) := Lib.hid ((hb5.cell (p := ⟨wr.heap.size, 0, none⟩) HNB.out).trans HCB.out); have e0 := HB5.out.s; have e1 := HB5.out.r; clear ho5 hb5)
          | (go_simp; go_at_call 39; refine (HIH.out _ _ q HB6.out.bel HO6.out (by omega)).mono ?_; rw [HG.out]; rintro e w7 ⟨⟨a7, l7, c7, rfl⟩, hb7⟩))
        all_goals
          have hst : ∀ j, from_ ≤ j → j < q + 1 → coreS p k (ch ++ [j]) (j + 1) = none := fun j h1 h2 => by
            by_cases e : j = q
            · rw [e]; exact HG.out
            · exact HALL.out j h1 (by omega)
          have HST := Lib.hid hst
          clear hst
          go_wp2
          go_roundg (gk - 1)
          case measure => omega
          case rel => exact ⟨q + 1, by omega, by omega, by go_num, HB6.out.next hb7, HST.out⟩
      · have hr : R = some L := by rw [← HR.out]; exact coreS_found hfq (by rw [HLR.out]; omega) HALL.out HG.out
        subst hr
        go_wp2
        go_region_law (first
          | (refine step_pushG und22 info3 rfl (by omega) rfl (.tmp 56) (.tmp 58) rfl w.heap.size _ _ (ch.map Int.ofNat).length ((ch.map Int.ofNat).map (Value.int .i64)) _ rfl rfl HOW.out rfl HCW.out HL20.out HPW.out.bel.size ?_; intro v6 w6 ho6 hg6; obtain ⟨xa, xl, xc, rfl⟩ := row_slice ho6; have HO6 := Lib.hid (pushed_own (i := q) ho6); have HB6 := Lib.hid (HPW.out.grown hg6 (fun k hk => HO50.out k hk)); have y0 := HB6.out.s; have y1 := HB6.out.r; clear ho6 hg6)
          | (go_simp; go_at_call 44; refine HCLONE.out.mono ?_; rintro e w5 ⟨v5, rfl, ho5, hb5⟩; obtain ⟨ua, ul, uc, rfl⟩ := ho5.ints.slice; have HB5 := Lib.hid (HD.out.next hb5); have hn5 := HB5.out.next ((Below.refl _ w5).alloc (Nat.le_refl _) (.cells #[.int .i64 (q : Int)] 3)); have HPW := Lib.hid hn5; have HOW : Hid ((w5.alloc (.cells #[.int .i64 (q : Int)] 3)).ownsRow w.heap.size 3 1 (.slice ua ul uc) (ch.map Int.ofNat).length ((ch.map Int.ofNat).map (Value.int .i64))) := Lib.hid ((ho5.mono HD.out.bel.size).block fun k hk => Below.heap_alloc _ _ _ (ho5.lt hk).2); have HO50 : Hid (∀ k, (Value.slice ua ul uc).ownBlock = some k → w.heap.size < k) := Lib.hid (fun k hk => Nat.lt_of_lt_of_le HD.out.lt (ho5.lt hk).1); have HCW : Hid ((w5.alloc (.cells #[.int .i64 (q : Int)] 3)).cell? ⟨w5.heap.size, 0, none⟩ = some (.int .i64 (q : Int))) := Lib.hid ((cell_row' _ _ 0 _ _ (heap_alloc_new _ _)).trans rfl); have e0 := HB5.out.s; have e1 := HB5.out.r; have b0 := hn5.s; have b1 := hn5.r; clear ho5 hb5 hn5)
          | (go_simp; go_at_call 44; refine HCLONEB.out.mono ?_; rintro e w5 ⟨v5, rfl, ho5, hb5⟩; obtain ⟨ua, ul, uc, rfl⟩ := ho5.ints.slice; have HB5 := Lib.hid (HDB.out.next hb5); have HPW := Lib.hid (HDB.out.next hb5); have HOW : Hid (w5.ownsRow w.heap.size 3 1 (.slice ua ul uc) (ch.map Int.ofNat).length ((ch.map Int.ofNat).map (Value.int .i64))) := Lib.hid (ho5.mono HDB.out.bel.size); have HO50 : Hid (∀ k, (Value.slice ua ul uc).ownBlock = some k → w.heap.size < k) := Lib.hid (fun k hk => Nat.lt_of_lt_of_le HDB.out.lt (ho5.lt hk).1); have HCW : Hid (w5.cell? ⟨wr.heap.size, 0, none⟩ = some (.int .i64 (q : Int))) := Lib.hid ((hb5.cell (p := ⟨wr.heap.size, 0, none⟩) HNB.out).trans HCB.out); have e0 := HB5.out.s; have e1 := HB5.out.r; clear ho5 hb5)
          | (go_simp; go_at_call 39; refine (HIH.out _ _ q HB6.out.bel HO6.out (by omega)).mono ?_; rw [HG.out]; rintro e w7 ⟨⟨v7, rfl, ho7⟩, hb7⟩; obtain ⟨a7, l7, c7, rfl⟩ := row_slice ho7; have HO7 := Lib.hid ho7; clear ho7))
        all_goals
          go_wp2
          go_ret2
          exact ⟨⟨_, rfl, HO7.out.mono hbase⟩, (HB6.out.next hb7).bel⟩
    · have hfit2 : ¬ (q : Int) + ((k : Int) + 1) ≤ lr := by omega
      have hr : R = none := by rw [← HR.out]; exact coreS_end (by rw [HLR.out]; omega) HALL.out
      subst hr
      go_wp2
      go_ret2
      exact ⟨⟨_, _, _, rfl⟩, HB.out.bel⟩
end Go.Proofs.Ytamidopeojipkaa
