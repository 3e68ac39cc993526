/- core of the reference: the walk. -/
import Derived.Test.YtamidopeojipkaaCoreQ
import Derived.Test.YtamidopeojipkaaAllR
namespace Go.Proofs.Ytamidopeojipkaa
open Go.RowKit
set_option linter.unusedVariables false

theorem neq_nil (w : World) : (binOp BinOp.neq 22 (.slice none 0 0) (.slice none 0 0)).run Try.prog w = .ok (.bool false) w := by kernel_rfl
theorem neq_some (w : World) (g n cap : Nat) : (binOp BinOp.neq 22 (.slice (some ⟨g, 0, none⟩) n cap) (.slice none 0 0)).run Try.prog w = .ok (.bool true) w := by kernel_rfl
/-- append(s, xs...), s the call's own, xs another one, nil or not. -/
theorem wpList_appO {w : World} {ops : Array Oper} {rest : List Oper} {o : Oper} {a : Act} {Q : Exit → Act → World → Prop} (hgd : o.guard = none) (s x : Operand)
    (ho : o.op = .call { callee := .builtin .append, args := #[s, x], argTypes := #[22, 22] })
    (base : Nat) (v : Value) (zs : List Int) (hs : a.eval s = v) (hown : OwnI w base v zs)
    (b2 : Nat) (u : Value) (xs : List Int) (hx : a.eval x = u) (hu : OwnI w b2 u xs) (hlen : zs.length + xs.length ≤ 1000000) (hbase : base ≤ w.heap.size)
    (h : ∀ v' w', OwnI w' base v' (zs ++ xs) → w.grownBy w' v.ownBlock → wpList Try.prog ops Q rest (a.put o.dst v') w') :
    wpList Try.prog ops Q (o :: rest) a w := by
  rcases hu.2 with ⟨hu0, h0⟩ | ⟨g, cap, cur, hv, hb, hg, hn, hm, hss, ht⟩
  · have hx0 : xs = [] := List.eq_nil_of_length_eq_zero h0
    subst hx0
    rw [hu0] at hx
    obtain ⟨i0, hi, hz0, hz1, hz2⟩ := info_parts info3
    refine wpList_plain hgd fun K hK => ?_
    have hrun := run_append_owned_none (P := Try.prog) w base 22 o.type 3 i0 1 und22 hi v _ _ hown
    unfold Oper.wp
    simp [execOp, ho, resolve, invoke, builtin, hs, hx, hrun, Result.andThen]
    exact hK _ _ (h v w (by simpa using hown) (World.grownBy.refl _ _))
  · rw [hv] at hx hu
    exact wpList_appI hgd s x ho base v zs hs hown g 0 cap xs hx (fun j hj => by rw [Nat.zero_add]; exact (hu.at hj).1) hlen hbase h

/-- what core of the reference comes to -/
def RefCore (base : Nat) (o : Option (List Nat)) (w : World) (e : Ending) (w' : World) : Prop :=
  (match o with
    | some L => ∃ g n c, e = .returned (.slice (some ⟨g, 0, none⟩) n c) ∧ OwnI w' base (.slice (some ⟨g, 0, none⟩) n c) (L.map Int.ofNat)
    | none => e = .returned (.slice none 0 0)) ∧ Below w.heap.size w w'

set_option maxRecDepth 20000 in
set_option maxHeartbeats 1600000 in
theorem coreT_zero {w : World} {P : Nat → Prop} {base : Nat} {sv rv cv : Value} {p : Prob} {ch : List Nat} (hs : IntsAt w P sv p.sizes) (hr : RelsAt w P rv p.rels) (hP : Under P w.heap.size) (hgood : Good p) (hc : OwnI w base cv (ch.map Int.ofNat)) (hl : ch.length ≤ 96) (hl0 : 0 < ch.length) (hch : ∀ i ∈ ch, i < p.rels.length) (from_ : Nat) :
    Calls Try.prog 40 #[.agg #[sv, rv], cv, .int .i64 from_, .int .i64 ch.length] w (RefCore base (coreS p 0 ch from_) w) := by
  have HSI := Lib.hid hs
  have hsub := hgood.sub hl hch
  have HCO := Lib.hid hc
  have HP := Lib.hid hP
  have hW : Below w.heap.size w (w.alloc (.cells #[sv, rv] 25)) := (Below.refl _ w).alloc (Nat.le_refl _) _
  have hsln : ∀ (w1 : World) (t : Value), Below w.heap.size w w1 → OwnR w1 (w.heap.size + 1) P t (ch.map fun i => p.rels.getD i default) → Calls Try.prog 35 #[sv, t, .int .i64 1] w1 (RefSols (subP p ch) 1 w1) := fun w1 t hb ho =>
    solR_any (p := subP p ch) (P := fun k => P k ∨ t.ownBlock = some k) (most := 1) ((hs.kept (Below.keptB hb hP)).wide fun k hk => .inl hk) ho.rels (ho.under (hP.le hb.size)) hsub (Nat.le_refl _) (by omega)
  have HSLN := Lib.hid hsln
  have hbx : PxAt w sv rv (w.alloc (.cells #[sv, rv] 25)) := ⟨hW, heap_alloc_new _ _⟩
  have HBX := Lib.hid hbx
  obtain ⟨sa, sl, sc, rfl⟩ := hs.slice
  obtain ⟨ra, rcap, rb, ro, rvs, rfl, hrr, hrs⟩ := hr
  have hlen : (ch.map Int.ofNat).length = ch.length := List.length_map ..
  obtain ⟨cg, ccap, hcv, hcc⟩ : ∃ g cap, cv = .slice (some ⟨g, 0, none⟩) ch.length cap ∧ ch.length ≤ cap ∧ cap ≤ 9223372036854775807 := by
    rcases hc.2 with ⟨_, h0⟩ | ⟨g, cap, cur, h1, h2, h3, h4, h5, _⟩
    · rw [hlen] at h0; omega
    · rw [hlen] at h1 h4; exact ⟨g, cap, h1, h4, by unfold maxLen at h5; omega⟩
  subst hcv
  have HRR := Lib.hid hrr
  have HRS := Lib.hid hrs
  have HCL : Hid (∀ w1, Below w.heap.size w w1 → OwnI w1 base (.slice (some ⟨cg, 0, none⟩) ch.length ccap) (ch.map Int.ofNat)) := Lib.hid fun w1 h => HCO.out.block fun k hk => h.block k (HCO.out.lt hk).2
  have hrc := hrr.hcap
  have hrm1 : rcap ≤ 9223372036854775807 := by have := hrr.hmax; unfold maxLen at this; omega
  obtain ⟨lr, hlr⟩ : ∃ lr, p.rels.length = lr := ⟨_, rfl⟩
  obtain ⟨lc, hlc⟩ : ∃ lc, ch.length = lc := ⟨_, rfl⟩
  have hl96 : lr ≤ 96 := by rw [← hlr]; exact hgood.rels
  rw [hlr] at HRR HRS HBX hrc hch ⊢
  rw [hlc] at hl hl0 hcc HCL ⊢
  have HCH := Lib.hid hch
  have HLC := Lib.hid hlc
  have HLR := Lib.hid hlr
  unfold RefCore coreS
  clear hs hP hgood hc hch hsub hW hbx hsln hrr hrs hlr hlc hlen
  go_enter Try.func40, Try.ntmps40
  go_wp2
  generalize w.alloc (.cells #[.slice sa sl sc, .slice ra lr rcap] 25) = W at *
  go_loopg [9, 21] lc (fun g21 t i wr => ∃ (q : Nat), q + g21 = lc ∧ i = .int .i64 q ∧ PxAt w (.slice sa sl sc) (.slice ra lr rcap) wr ∧ OwnR wr (w.heap.size + 1) P t ((ch.take q).map fun i => p.rels.getD i default))
  case atStart => exact ⟨0, by omega, rfl, HBX.out, OwnR.nil _ _ _⟩
  case round =>
    obtain ⟨q, hq, rfl, hbx, hor⟩ := hrel
    have HB := Lib.hid hbx
    have HOR := Lib.hid hor
    have c0 := hbx.s
    have c1 := hbx.r
    obtain ⟨ta, tl, tc, rfl⟩ := hor.slice
    cases gk with
    | zero =>
      have hkl : ¬ (q : Int) < lc := by omega
      have hq' : q = lc := by omega
      have hfull : OwnR wr (w.heap.size + 1) P (.slice ta tl tc) (ch.map fun i => p.rels.getD i default) := by
        have h := HOR.out
        rw [hq', List.take_of_length_le (by rw [HLC.out]; exact Nat.le_refl _)] at h
        exact h
      have HC := Lib.hid (HSLN.out _ _ hbx.bel hfull)
      clear hbx hor hfull
      by_cases hnil : sols (subP p ch) [] = []
      · have HZ : Hid (((sols (subP p ch) []).take 1).length = 0) := Lib.hid (by rw [hnil]; rfl)
        go_wp2_with (first | (go_at_call 35; refine HC.out.mono ?_; rintro e w5 ⟨fv, vs, rfl, hol, hb5⟩; obtain ⟨fa, fc, fb, fo, fvs, rfl, _⟩ := hol.lists; clear hol; rw [HZ.out]; have HB5 := Lib.hid (HB.out.next hb5)))
        go_ret
        exact ⟨⟨_, _, _, rfl, HCL.out _ HB5.out.bel⟩, HB5.out.bel⟩
      · have HZ : Hid (((sols (subP p ch) []).take 1).length = 1) := Lib.hid (by
          rw [List.length_take]
          have := List.length_pos_iff.2 hnil
          omega)
        go_wp2_with (first | (go_at_call 35; refine HC.out.mono ?_; rintro e w5 ⟨fv, vs, rfl, hol, hb5⟩; obtain ⟨fa, fc, fb, fo, fvs, rfl, _⟩ := hol.lists; clear hol; rw [HZ.out]; have HB5 := Lib.hid (HB.out.next hb5)))
        go_ret
        exact ⟨rfl, HB5.out.bel⟩
    | succ gk2 =>
      have hql : q < lc := by omega
      obtain ⟨d0, _⟩ := (HCL.out wr hbx.bel).at (j := q) (by rw [List.length_map, HLC.out]; exact hql)
      have hge : (ch.map Int.ofNat).getD q 0 = ((ch.getD q 0 : Nat) : Int) := by
        have : q < ch.length := by rw [HLC.out]; exact hql
        simp [List.getD, this]
      rw [hge] at d0
      have hin := HCH.out (ch.getD q 0) (by
        have : q < ch.length := by rw [HLC.out]; exact hql
        have e : ch.getD q 0 = ch[q] := by simp [List.getD, this]
        rw [e]; exact List.getElem_mem _)
      have hstep := subP_step (p := p) (ch := ch) (q := q) (by rw [HLC.out]; exact hql)
      have HSTEP := Lib.hid hstep
      have HLQ : Hid (((ch.take q).map fun i => p.rels.getD i default).length ≤ 1000000) := Lib.hid (by
        rw [List.length_map, List.length_take]; omega)
      clear hge hstep
      generalize ch.getD q 0 = x at *
      obtain ⟨rfl, hpr⟩ := HRR.out.ha (by omega)
      have hk' := Below.keptB hbx.bel HP.out
      have d1 := (HRR.out.kept hk').hc (x * 2) (by omega)
      have d2 : wr.cell? ⟨rb, ro + x * 2 + 1, none⟩ = some (rvs (x * 2 + 1)) := (HRR.out.kept hk').hc (x * 2 + 1) (by omega)
      obtain ⟨f1, f2⟩ := HRS.out x hin
      obtain ⟨va, vl, vc, hv⟩ := f1.slice
      obtain ⟨aa, al, ac, ha⟩ := f2.slice
      rw [hv] at d1 f1
      rw [ha] at d2 f2
      have HF1 := Lib.hid (f1.kept hk')
      have HF2 := Lib.hid (f2.kept hk')
      have HBS : Hid (w.heap.size + 1 ≤ wr.heap.size) := Lib.hid hbx.lt
      clear hbx hk' f1 f2 hv ha hor
      go_wp2_with (refine wpList_pushR rfl (.tmp 25) (.tmp 31) rfl (w.heap.size + 1) P (.slice ta tl tc) _ (p.rels.getD x default) (.slice va vl vc) (.slice aa al ac) rfl HOR.out HF1.out HF2.out (fun k hk => ⟨HP.out.le HB.out.bel.size k hk, fun e => by have := HP.out k hk; have := (HOR.out.lt e).1; omega⟩) rfl HLQ.out HBS.out ?_; intro v6 w6 ho6 hg6; rw [HSTEP.out] at ho6; have HO6 := Lib.hid ho6; have HB6 := Lib.hid (HB.out.grown hg6 (fun k hk => by have := (HOR.out.lt hk).1; omega)); clear ho6 hg6)
      go_roundg gk2
      case measure => omega
      case rel => exact ⟨q + 1, by omega, by go_num, HB6.out, HO6.out⟩

set_option maxRecDepth 20000 in
set_option maxHeartbeats 1600000 in
theorem coreT_succ {w : World} {P : Nat → Prop} {base : Nat} {sv rv cv : Value} {p : Prob} {ch : List Nat} {k : Nat} (hs : ∃ a l c, sv = .slice a l c) (hr : ∃ a c, rv = .slice a p.rels.length c ∧ p.rels.length ≤ c ∧ c ≤ 9223372036854775807) (hlr96 : p.rels.length ≤ 96) (hc : OwnI w base cv (ch.map Int.ofNat)) (hl : ch.length + (k + 1) ≤ 96) (from_ : Nat) (hfrom : from_ ≤ p.rels.length) (hbase : base ≤ w.heap.size)
    (ih : ∀ (w1 : World) (cv1 : Value) (i : Nat), Below w.heap.size w w1 → OwnI w1 w.heap.size cv1 ((ch ++ [i]).map Int.ofNat) → i < p.rels.length → Calls Try.prog 40 #[.agg #[sv, rv], cv1, .int .i64 ((i : Int) + 1), .int .i64 ((ch.length + (k + 1) : Nat) : Int)] w1 (RefCore w.heap.size (coreS p k (ch ++ [i]) (i + 1)) w1)) :
    Calls Try.prog 40 #[.agg #[sv, rv], cv, .int .i64 from_, .int .i64 ((ch.length + (k + 1) : Nat) : Int)] w (RefCore base (coreS p (k + 1) ch from_) w) := by
  have hW : Below w.heap.size w (w.alloc (.cells #[sv, rv] 25)) := (Below.refl _ w).alloc (Nat.le_refl _) _
  have hbx : PxAt w sv rv (w.alloc (.cells #[sv, rv] 25)) := ⟨hW, heap_alloc_new _ _⟩
  have HBX := Lib.hid hbx
  have HCO := Lib.hid hc
  obtain ⟨R, hR⟩ : ∃ R, coreS p (k + 1) ch from_ = R := ⟨_, rfl⟩
  rw [hR]
  have HR := Lib.hid hR
  obtain ⟨sz, hsz⟩ : ∃ sz, ch.length + (k + 1) = sz := ⟨_, rfl⟩
  rw [hsz] at ih hl ⊢
  have HIH := Lib.hid ih
  obtain ⟨sa, sl, sc, rfl⟩ := hs
  obtain ⟨ra, rc, rfl, hrc, hrm⟩ := hr
  obtain ⟨ca, ccap, cb, co, rfl, hcr⟩ := hc.ints
  have hcc := hcr.hcap
  have hcm : ccap ≤ 9223372036854775807 := by have := hcr.hmax; unfold maxLen at this; omega
  have hlen : (ch.map Int.ofNat).length = ch.length := List.length_map ..
  have HCL : Hid (∀ w1, Below w.heap.size w w1 → OwnI w1 base (.slice ca (ch.map Int.ofNat).length ccap) (ch.map Int.ofNat)) := Lib.hid fun w1 h => HCO.out.block fun k hk => h.block k (HCO.out.lt hk).2
  obtain ⟨lr, hlr⟩ : ∃ lr, p.rels.length = lr := ⟨_, rfl⟩
  obtain ⟨lc, hlc⟩ : ∃ lc, ch.length = lc := ⟨_, rfl⟩
  rw [hlen] at HCL HCO hcc ⊢
  have HLEN := Lib.hid hlen
  rw [hlr] at HBX HIH hlr96 hfrom hrc ⊢
  rw [hlc] at hsz HCL HCO hcc ⊢
  have HLC := Lib.hid hlc
  have HLR := Lib.hid hlr
  clear hc hW hbx ih hR hlr hlc hlen hcr
  have hk0 : ¬ (lc : Int) = sz := by omega
  have hlc96 : lc ≤ 96 := by omega
  clear hsz
  go_enter Try.func40, Try.ntmps40
  go_wp2
  have hb0 : ((lc : Int) == (sz : Int)) = false := by
    rw [beq_eq_false_iff_ne]; omega
  rw [hb0]
  clear hb0
  generalize w.alloc (.cells #[.slice sa sl sc, .slice ra lr rc] 25) = W at *
  go_loopg [12] (lr - from_) (fun g13 i wr => ∃ q : Nat, from_ ≤ q ∧ q + g13 = lr ∧ i = .int .i64 q ∧ PxAt w (.slice sa sl sc) (.slice ra lr rc) wr ∧ ∀ j, from_ ≤ j → j < q → coreS p k (ch ++ [j]) (j + 1) = none)
  case atStart => exact ⟨from_, Nat.le_refl _, by omega, rfl, HBX.out, fun j h1 h2 => by omega⟩
  case round =>
    obtain ⟨q, hfq, hq, rfl, hbx, hall⟩ := hrel
    have HB := Lib.hid hbx
    have HALL := Lib.hid hall
    have c0 := hbx.s
    have c1 := hbx.r
    clear hall
    cases gk with
    | zero =>
      have hkl : ¬ (q : Int) < lr := by omega
      have hr : R = none := by
        rw [← HR.out]
        unfold coreS
        exact fs_none fun j h1 h2 => HALL.out j h1 (by rw [HLR.out] at h2; omega)
      subst hr
      clear hbx
      go_wp2
      go_ret
      exact ⟨rfl, HB.out.bel⟩
    | succ gk2 =>
      have hql : q < lr := by omega
      obtain ⟨G, hG⟩ : ∃ G, coreS p k (ch ++ [q]) (q + 1) = G := ⟨_, rfl⟩
      have HG := Lib.hid hG
      have hbe := (Below.refl wr.heap.size wr).alloc (Nat.le_refl _) (.cells #[] 3)
      have HBE := Lib.hid hbe
      have HCLE := Lib.hid (HCL.out _ (hbx.next hbe).bel)
      have HEMP : Hid (OwnI (wr.alloc (.cells #[] 3)) wr.heap.size (.slice (some ⟨wr.heap.size, 0, none⟩) 0 0) []) := Lib.hid ⟨rfl, .inr ⟨wr.heap.size, 0, #[], rfl, Nat.le_refl _, heap_alloc_new _ _, Nat.le_refl _, by unfold maxLen; omega, rfl, rfl⟩⟩
      have HSZE : Hid (wr.heap.size ≤ (wr.alloc (.cells #[] 3)).heap.size) := Lib.hid (by simp)
      have HL20 : Hid ((ch.map Int.ofNat).length ≤ 2000000) := Lib.hid (by rw [HLEN.out, HLC.out]; omega)
      have HLTB : Hid (w.heap.size < wr.heap.size) := Lib.hid hbx.lt
      generalize wr = W3 at *
      clear hG hbe hbx
      rcases G with _ | L
      · go_wp2_with (first
          | (refine wpList_appO rfl (.tmp 49) (.tmp 50) rfl W3.heap.size (.slice (some ⟨W3.heap.size, 0, none⟩) 0 0) [] rfl HEMP.out base _ (ch.map Int.ofNat) rfl HCLE.out (by rw [HLEN.out, HLC.out]; simp; omega) HSZE.out ?_; intro v5 w5 ho5 hg5; obtain ⟨ua, ul, uc, rfl⟩ := row_slice ho5; have HO5 : Hid (w5.ownsRow w.heap.size 3 1 (.slice ua ul uc) (ch.map Int.ofNat).length ((ch.map Int.ofNat).map (Value.int .i64))) := Lib.hid (OwnI.mono (show OwnI w5 W3.heap.size (.slice ua ul uc) (ch.map Int.ofNat) from ho5) (Nat.le_of_lt HLTB.out)); have HO50 : Hid (∀ k, (Value.slice ua ul uc).ownBlock = some k → w.heap.size < k) := Lib.hid (fun k hk => Nat.lt_of_lt_of_le HLTB.out (OwnI.lt (show OwnI w5 W3.heap.size (.slice ua ul uc) (ch.map Int.ofNat) from ho5) hk).1); have HB5 := Lib.hid (HB.out.next (grown_below HBE.out hg5 HEMP.out)); clear ho5 hg5)
          | (refine wpList_pushV und22 info3 rfl (by omega) rfl (.tmp 51) (.tmp 53) rfl w.heap.size _ (ch.map Int.ofNat).length ((ch.map Int.ofNat).map (Value.int .i64)) _ rfl rfl HO5.out rfl HL20.out HB5.out.bel.size ?_; intro v6 w6 ho6 hg6 _; obtain ⟨xa, xl, xc, rfl⟩ := row_slice ho6; have HO6 := Lib.hid (pushed_own (i := q) ho6); have HB6 := Lib.hid (HB5.out.grown hg6 (fun k hk => HO50.out k hk)); have y0 := HB6.out.s; have y1 := HB6.out.r; clear ho6 hg6)
          | (go_at_call 40; refine (HIH.out _ _ q HB6.out.bel HO6.out (by omega)).mono ?_; rw [HG.out]; rintro e w7 ⟨rfl, hb7⟩; have hneq := neq_nil w7))
        have hst : ∀ j, from_ ≤ j → j < q + 1 → coreS p k (ch ++ [j]) (j + 1) = none := fun j h1 h2 => by
          by_cases e : j = q
          · rw [e]; exact HG.out
          · exact HALL.out j h1 (by omega)
        have HST := Lib.hid hst
        clear hst
        go_wp2
        go_roundg gk2
        case measure => omega
        case rel => exact ⟨q + 1, by omega, by omega, by go_num, HB6.out.next hb7, HST.out⟩
      · have hr : R = some L := by rw [← HR.out]; exact coreS_found hfq (by rw [HLR.out]; omega) HALL.out HG.out
        subst hr
        go_wp2_with (first
          | (refine wpList_appO rfl (.tmp 49) (.tmp 50) rfl W3.heap.size (.slice (some ⟨W3.heap.size, 0, none⟩) 0 0) [] rfl HEMP.out base _ (ch.map Int.ofNat) rfl HCLE.out (by rw [HLEN.out, HLC.out]; simp; omega) HSZE.out ?_; intro v5 w5 ho5 hg5; obtain ⟨ua, ul, uc, rfl⟩ := row_slice ho5; have HO5 : Hid (w5.ownsRow w.heap.size 3 1 (.slice ua ul uc) (ch.map Int.ofNat).length ((ch.map Int.ofNat).map (Value.int .i64))) := Lib.hid (OwnI.mono (show OwnI w5 W3.heap.size (.slice ua ul uc) (ch.map Int.ofNat) from ho5) (Nat.le_of_lt HLTB.out)); have HO50 : Hid (∀ k, (Value.slice ua ul uc).ownBlock = some k → w.heap.size < k) := Lib.hid (fun k hk => Nat.lt_of_lt_of_le HLTB.out (OwnI.lt (show OwnI w5 W3.heap.size (.slice ua ul uc) (ch.map Int.ofNat) from ho5) hk).1); have HB5 := Lib.hid (HB.out.next (grown_below HBE.out hg5 HEMP.out)); clear ho5 hg5)
          | (refine wpList_pushV und22 info3 rfl (by omega) rfl (.tmp 51) (.tmp 53) rfl w.heap.size _ (ch.map Int.ofNat).length ((ch.map Int.ofNat).map (Value.int .i64)) _ rfl rfl HO5.out rfl HL20.out HB5.out.bel.size ?_; intro v6 w6 ho6 hg6 _; obtain ⟨xa, xl, xc, rfl⟩ := row_slice ho6; have HO6 := Lib.hid (pushed_own (i := q) ho6); have HB6 := Lib.hid (HB5.out.grown hg6 (fun k hk => HO50.out k hk)); have y0 := HB6.out.s; have y1 := HB6.out.r; clear ho6 hg6)
          | (go_at_call 40; refine (HIH.out _ _ q HB6.out.bel HO6.out (by omega)).mono ?_; rw [HG.out]; rintro e w7 ⟨⟨g7, n7, c7, rfl, ho7⟩, hb7⟩; have hneq := neq_some w7 g7 n7 c7; have HO7 := Lib.hid ho7; clear ho7))
        go_ret
        exact ⟨⟨_, _, _, rfl, HO7.out.mono hbase⟩, (HB6.out.next hb7).bel⟩

theorem coreT_any {p : Prob} (hgood : Good p) : ∀ (k : Nat) (w : World) (P : Nat → Prop) (base : Nat) (sv rv cv : Value) (ch : List Nat) (from_ : Nat), IntsAt w P sv p.sizes → RelsAt w P rv p.rels → Under P w.heap.size → OwnI w base cv (ch.map Int.ofNat) → base ≤ w.heap.size → ch.length + k ≤ 96 → 0 < ch.length + k → (∀ i ∈ ch, i < p.rels.length) → from_ ≤ p.rels.length →
    Calls Try.prog 40 #[.agg #[sv, rv], cv, .int .i64 from_, .int .i64 ((ch.length + k : Nat) : Int)] w (RefCore base (coreS p k ch from_) w)
  | 0, w, P, base, sv, rv, cv, ch, from_, hs, hr, hP, hc, hb, hl, h0, hch, hf => coreT_zero hs hr hP hgood hc (by omega) (by omega) hch from_
  | k + 1, w, P, base, sv, rv, cv, ch, from_, hs, hr, hP, hc, hb, hl, h0, hch, hf => by
    refine coreT_succ (P := P) hs.slice ?_ hgood.rels hc hl from_ hf hb fun w1 cv1 i hb1 hc1 hi => ?_
    · obtain ⟨a, c, b, o, vs, h1, h2, _⟩ := hr
      exact ⟨a, c, h1, h2.hcap, by have := h2.hmax; unfold maxLen at this; omega⟩
    · have hlen : (ch ++ [i]).length + k = ch.length + (k + 1) := by rw [List.length_append]; simp; omega
      have := coreT_any hgood k w1 P w.heap.size sv rv cv1 (ch ++ [i]) (i + 1) (hs.kept (Below.keptB hb1 hP)) (hr.kept (Below.keptB hb1 hP)) (hP.le hb1.size) hc1 hb1.size (by omega) (by omega) (fun j hj => by
        rcases List.mem_append.1 hj with h | h
        · exact hch j h
        · rw [List.mem_singleton.1 h]; exact hi) (by omega)
      rw [hlen] at this
      exact this
end Go.Proofs.Ytamidopeojipkaa
