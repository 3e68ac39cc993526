/- Propagate of the reference: the walk. -/
import Derived.Test.YtamidopeojipkaaSupR
import Derived.Test.YtamidopeojipkaaGac
import Derived.Test.YtamidopeojipkaaCheckS
namespace Go.Proofs.Ytamidopeojipkaa
open Go.RowKit
set_option linter.unusedVariables false

/-- a pass of the reference on its way: behind value x of variable k of relation q -/
structure PassR (p : Prob) (f0 f : Nat → Nat → Bool) (c : Bool) (q k x : Nat) : Prop where
  le : ∀ v y, f v y = true → f0 v y = true
  above : Above p f
  same : c = false → f = f0 ∧ ∀ i, i < p.rels.length → ∀ kk, kk < (p.rels.getD i default).vars.length → ∀ y, y < szs p.sizes (vN (p.rels.getD i default) kk) → (i < q ∨ (i = q ∧ (kk < k ∨ (kk = k ∧ y < x)))) → f (vN (p.rels.getD i default) kk) y = true → supp f (p.rels.getD i default) kk y
  diff : c = true → cntT (szs p.sizes) f p.sizes.length < cntT (szs p.sizes) f0 p.sizes.length
theorem PassR.start {p : Prob} {f : Nat → Nat → Bool} (h : Above p f) : PassR p f f false 0 0 0 := ⟨fun _ _ e => e, h, fun _ => ⟨rfl, fun i hi kk hk y hy hh => by omega⟩, fun e => absurd e (by simp)⟩
theorem PassR.keep {p : Prob} {f0 f : Nat → Nat → Bool} {c : Bool} {q k x : Nat} (h : PassR p f0 f c q k x) (hs : f (vN (p.rels.getD q default) k) x = true → supp f (p.rels.getD q default) k x) : PassR p f0 f c q k (x + 1) :=
  ⟨h.le, h.above, fun e => ⟨(h.same e).1, fun i hi kk hk y hy hh e2 => by
    by_cases e3 : i = q ∧ kk = k ∧ y = x
    · obtain ⟨rfl, rfl, rfl⟩ := e3; exact hs e2
    · exact (h.same e).2 i hi kk hk y hy (by omega) e2⟩, h.diff⟩
theorem PassR.drop {p : Prob} {f0 f : Nat → Nat → Bool} {c : Bool} {q k x : Nat} (h : PassR p f0 f c q k x) (hq : q < p.rels.length) (hf : Fine p.sizes (p.rels.getD q default)) (hk : k < (p.rels.getD q default).vars.length) (hx : x < szs p.sizes (vN (p.rels.getD q default) k)) (ht : f (vN (p.rels.getD q default) k) x = true) (hs : ¬ supp f (p.rels.getD q default) k x) :
    PassR p f0 (upd2 f (vN (p.rels.getD q default) k) x false) true q k (x + 1) := by
  have hle : ∀ v y, upd2 f (vN (p.rels.getD q default) k) x false v y = true → f v y = true := fun v y e => by
    unfold upd2 at e
    by_cases e2 : v = vN (p.rels.getD q default) k ∧ y = x
    · rw [if_pos e2] at e; cases e
    · rw [if_neg e2] at e; exact e
  refine ⟨fun v y e => h.le v y (hle v y e), fun S hS v y hv hy e => ?_, fun e => absurd e (by simp), fun _ => ?_⟩
  · have h1 := h.above S hS v y hv hy e
    unfold upd2
    by_cases e2 : v = vN (p.rels.getD q default) k ∧ y = x
    · obtain ⟨rfl, rfl⟩ := e2
      exact absurd (supp_mono hf (h.above S hS) (hS q hq k hk y hy e)) hs
    · rw [if_neg e2]; exact h1
  · have h1 := cntT_lt (m := szs p.sizes) hle hx ht (by simp [upd2]) p.sizes.length (hf.var k hk).2
    have h2 := cntT_le (m := szs p.sizes) h.le p.sizes.length
    omega
theorem PassR.nextK {p : Prob} {f0 f : Nat → Nat → Bool} {c : Bool} {q k x : Nat} (h : PassR p f0 f c q k x) (hx : szs p.sizes (vN (p.rels.getD q default) k) ≤ x) : PassR p f0 f c q (k + 1) 0 :=
  ⟨h.le, h.above, fun e => ⟨(h.same e).1, fun i hi kk hk y hy hh e2 => (h.same e).2 i hi kk hk y hy (by
    by_cases e3 : i = q ∧ kk = k
    · obtain ⟨rfl, rfl⟩ := e3; exact .inr ⟨rfl, .inr ⟨rfl, by omega⟩⟩
    · omega) e2⟩, h.diff⟩
theorem PassR.nextQ {p : Prob} {f0 f : Nat → Nat → Bool} {c : Bool} {q k x : Nat} (h : PassR p f0 f c q k x) (hx : (p.rels.getD q default).vars.length ≤ k) : PassR p f0 f c (q + 1) 0 0 :=
  ⟨h.le, h.above, fun e => ⟨(h.same e).1, fun i hi kk hk y hy hh e2 => (h.same e).2 i hi kk hk y hy (by
    by_cases e3 : i = q
    · subst e3; exact .inr ⟨rfl, .inl (by omega)⟩
    · omega) e2⟩, h.diff⟩
theorem PassR.closed {p : Prob} {f0 f : Nat → Nat → Bool} {q : Nat} (h : PassR p f0 f false q 0 0) (hq : p.rels.length ≤ q) : Closed p f := fun i hi kk hk y hy e => (h.same rfl).2 i hi kk hk y hy (.inl (by omega)) e

/-- the world of the reference's passes -/
structure PrAt (w wr : World) (s r v : Value) (bs : Nat → Nat) (n : Nat) (m : Nat → Nat) (f : Nat → Nat → Bool) : Prop where
  px : PxAt w s r wr
  tab : TabAt wr (w.heap.size + 1) v bs n m f
theorem PrAt.next {w wr w' : World} {s r v : Value} {bs : Nat → Nat} {n : Nat} {m : Nat → Nat} {f : Nat → Nat → Bool} (h : PrAt w wr s r v bs n m f) (hb : Below wr.heap.size wr w') : PrAt w w' s r v bs n m f := ⟨h.px.next hb, h.tab.below hb⟩
theorem PrAt.set {w wr : World} {s r v : Value} {bs : Nat → Nat} {n : Nat} {m : Nat → Nat} {f : Nat → Nat → Bool} (h : PrAt w wr s r v bs n m f) {i : Nat} (hi : i < n) (j : Nat) (b : Bool) : PrAt w (wr.setCell ⟨bs i, j, none⟩ (.bool b)) s r v bs n m (upd2 f i j b) := by
  have hon := (Only.refl (fun b => b = bs i) wr).setCell (b := bs i) rfl j (.bool b)
  exact ⟨h.px.near hon.near (fun k hk => by rw [hk]; exact (h.tab.rows i hi).1), h.tab.set hi j b⟩
theorem PrAt.box {w wr : World} {s r v : Value} {bs : Nat → Nat} {n : Nat} {m : Nat → Nat} {f : Nat → Nat → Bool} (h : PrAt w wr s r v bs n m f) {i : Nat} (hi : i < n) (j : Nat) (b : Bool) {k : Nat} {cs : Array Value} (hk : wr.heap[k]? = some (.cells cs 46 (0, 0))) : (wr.setCell ⟨bs i, j, none⟩ (.bool b)).heap[k]? = some (.cells cs 46 (0, 0)) := by
  have hne : k ≠ bs i := fun e => by
    rw [e, h.tab.row hi] at hk; simp at hk
  exact (Below.heap_setCell _ _ _ _ hne).trans hk

set_option maxRecDepth 20000 in
set_option maxHeartbeats 1600000 in
theorem propR_no {w : World} {P : Nat → Prop} {sv rv : Value} {p : Prob} (hs : IntsAt w P sv p.sizes) (hr : RelsAt w P rv p.rels) (hP : Under P w.heap.size) (hne : checkE p ≠ 0) :
    Calls Try.prog 15 #[.agg #[sv, rv]] w fun e w' => e = .returned (.tuple #[.slice none 0 0, .int .i64 (checkE p)]) ∧ Below w.heap.size w w' := by
  have hbel := (Below.refl _ w).alloc (Nat.le_refl _) (.cells #[sv, rv] 25)
  have hC := checkR_any (hs.kept (Below.keptB hbel hP)) (hr.kept (Below.keptB hbel hP)) (hP.le hbel.size)
  have HC := Lib.hid hC
  have HBEL := Lib.hid hbel
  obtain ⟨sa, sl, sc, rfl⟩ := hs.slice
  obtain ⟨ra, rl, rc, rfl⟩ := hr.slice
  generalize checkE p = E at *
  clear hs hr hP hbel hC
  go_enter Try.func15, Try.ntmps15
  go_wp2_with (first | (go_at_call 13; refine HC.out.mono ?_; rintro e w3 ⟨rfl, hb3⟩))
  go_ret2
  exact ⟨rfl, Below.next HBEL.out hb3⟩

set_option maxRecDepth 20000 in
set_option maxHeartbeats 1600000 in
theorem propR_yes {w : World} {P : Nat → Prop} {sv rv : Value} {p : Prob} (hs : IntsAt w P sv p.sizes) (hr : RelsAt w P rv p.rels) (hP : Under P w.heap.size) (hok : checkE p = 0) :
    Calls Try.prog 15 #[.agg #[sv, rv]] w fun e w' => ∃ v bs f, e = .returned (.tuple #[v, .int .i64 0]) ∧ TabAt w' w.heap.size v bs p.sizes.length (szs p.sizes) f ∧ (∀ a x, a < p.sizes.length → x < szs p.sizes a → f a x = gac p a x) ∧ Below w.heap.size w w' := by
  have hgood := Good.of hok
  have hbel := (Below.refl _ w).alloc (Nat.le_refl _) (.cells #[sv, rv] 25)
  have hC := checkR_any (hs.kept (Below.keptB hbel hP)) (hr.kept (Below.keptB hbel hP)) (hP.le hbel.size)
  rw [hok] at hC
  have HC := Lib.hid hC
  have HGOOD := Lib.hid hgood
  obtain ⟨sa, scap, sb, so, rfl, hsr⟩ := hs
  obtain ⟨ra, rcap, rb, ro, rvs, rfl, hrr, hrs⟩ := hr
  have HSR := Lib.hid hsr
  have HRR := Lib.hid hrr
  have HRS := Lib.hid hrs
  have HPW := Lib.hid hP
  have hrc := hrr.hcap
  have hrm1 : rcap ≤ 9223372036854775807 := by have := hrr.hmax; unfold maxLen at this; omega
  have hsc := hsr.hcap
  have hsm1 : scap ≤ 9223372036854775807 := by have := hsr.hmax; unfold maxLen at this; omega
  have hbx : PxAt w (.slice sa p.sizes.length scap) (.slice ra p.rels.length rcap) (w.alloc (.cells #[.slice sa p.sizes.length scap, .slice ra p.rels.length rcap] 25)) := ⟨hbel, heap_alloc_new _ _⟩
  have HBX := Lib.hid hbx
  have HSM : Hid (∀ n, n < p.sizes.length → 1 ≤ p.sizes.getD n 0 ∧ p.sizes.getD n 0 ≤ 1000) := Lib.hid fun n hn => by have := hgood.size n hn; omega
  have hl16 := hgood.len
  obtain ⟨lr, hlr⟩ : ∃ lr, p.rels.length = lr := ⟨_, rfl⟩
  obtain ⟨ls, hls⟩ : ∃ ls, p.sizes.length = ls := ⟨_, rfl⟩
  rw [hlr] at HRR HRS HBX hrc HC ⊢
  rw [hls] at HSR HBX HSM HC hsc hl16 ⊢
  have HLR := Lib.hid hlr
  have HLS := Lib.hid hls
  have hl96 : lr ≤ 96 := by rw [← hlr]; exact hgood.rels
  have hn1000 : ls ≤ 1000 := by omega
  clear hP hbel hC hsr hrr hrs hbx hlr hls hgood hok
  go_enter Try.func15, Try.ntmps15
  go_wp2_with (first | (go_at_call 13; refine HC.out.mono ?_; rintro e WB ⟨rfl, hb3⟩; have HB3 := Lib.hid (HBX.out.next hb3); have c0 := HB3.out.s))
  have HS := Lib.hid (HSR.out.kept (Below.keptB HB3.out.bel HPW.out))
  have HP := Lib.hid (HPW.out.le HB3.out.bel.size)
  clear c0 hb3
  go_loopw [5, 24] (fun v i wr => ∃ (k : Nat) (bs : Nat → Nat) (m : Nat → Nat) (f : Nat → Nat → Bool), k ≤ ls ∧ i = .int .i64 k ∧ TabAt wr WB.heap.size v bs k m f ∧ Below WB.heap.size WB wr ∧ (∀ i, i < k → m i = szs p.sizes i) ∧ ∀ i j, i < k → j < m i → f i j = true) (fun _ i _ => ls - (intOf i).toNat)
  case atStart => exact ⟨0, fun _ => 0, fun _ => 0, fun _ _ => true, by omega, rfl, TabAt.nil _ _ _ _ _, Below.refl _ _, fun i hi => by omega, fun i j hi => by omega⟩
  case round =>
    obtain ⟨k, bs, m, f, hk, rfl, htab, hbel, hm, hf⟩ := hrel
    have HT := Lib.hid htab
    have HB := Lib.hid hbel
    have HM := Lib.hid hm
    have HF := Lib.hid hf
    clear hm hf
    by_cases hlt : k < ls
    · obtain ⟨rfl, hp1⟩ := HS.out.ha (by omega)
      have d1 := (HS.out.kept (Below.keptB hbel HP.out)).hc k (by omega)
      have hx := HSM.out k hlt
      have hsz : szs p.sizes k = (p.sizes.getD k 0).toNat := rfl
      obtain ⟨x, hxe⟩ : ∃ x : Nat, p.sizes.getD k 0 = x := ⟨(p.sizes.getD k 0).toNat, by omega⟩
      rw [hxe] at hsz d1 hx
      rw [Int.toNat_natCast] at hsz
      have HSZ := Lib.hid hsz
      clear htab hbel hxe hsz
      generalize wr = WO at *
      have HNEW := Lib.hid (heap_alloc_new WO (.cells (rowB (fun _ => false) x) 4))
      have HBW : Hid (Below WO.heap.size WO (WO.alloc (.cells (rowB (fun _ => false) x) 4))) := Lib.hid ((Below.refl _ WO).alloc (Nat.le_refl _) _)
      go_wp2_with (refine wpList_mkB rfl _ _ rfl x rfl rfl (by omega) ?_)
      generalize WO.alloc (.cells (rowB (fun _ => false) x) 4) = W at *
      go_loopw [32] (fun i wr => ∃ q : Nat, q ≤ x ∧ i = .int .i64 q ∧ wr.heap[WO.heap.size]? = some (.cells (rowB (fun j => decide (j < q)) x) 4 (0, 0)) ∧ Below WO.heap.size WO wr) (fun i _ => x - (intOf i).toNat)
      case atStart => exact ⟨0, by omega, rfl, by rw [HNEW.out]; simp, HBW.out⟩
      case round =>
        obtain ⟨q, hq, rfl, hrow, hb2⟩ := hrel
        have HROW := Lib.hid hrow
        have HB2 := Lib.hid hb2
        by_cases hql : q < x
        · have g1 : wr.cell? ⟨WO.heap.size, q, none⟩ = some (.bool (decide (q < q))) := (cell_row' _ _ q _ _ hrow).trans (rowB_at _ hql)
          have g2 := frozen_row' wr WO.heap.size q _ _ hrow
          have hrow2 := setCell_row q (.bool true) hrow
          rw [rowB_set] at hrow2
          have hon := (Only.refl (fun b => b = WO.heap.size) wr).setCell (b := WO.heap.size) rfl q (.bool true)
          have HON := Lib.hid hon
          have HROW2 := Lib.hid hrow2
          clear hrow hb2 hon hrow2
          go_wp2
          go_roundw
          case rel => exact ⟨q + 1, by omega, by go_num, HROW2.out.trans (by
            congr 2
            refine rowB_congr fun j hj => ?_
            by_cases e : j = q
            · simp [e]
            · simp [e]; omega), HB2.out.trans ((show Below WO.heap.size wr _ from ⟨HON.out.os, HON.out.tape, HON.out.output, Nat.le_of_eq HON.out.size.symm, fun k hk => HON.out.block k (by omega)⟩))⟩
          case measure => simp [intOf]; omega
        · have hql2 : ¬ (q : Int) < x := by omega
          have hq' : q = x := by omega
          subst hq'
          have htw := HT.out.below hb2
          have HTW := Lib.hid htw
          have hsz := (Array.getElem?_eq_some_iff.1 hrow).1
          have hfin := Below.next HB.out hb2
          have HFIN := Lib.hid hfin
          have hbase := hfin.size
          have hbas2 := HB.out.size
          clear hrow hb2 htw hfin
          go_wp2_with (refine wpList_pushV und30 info33 rfl (by omega) rfl (.tmp 39) (.tmp 41) rfl WB.heap.size _ k _ _ rfl rfl HTW.out.own rfl (by omega) hbase ?_; intro v5 w5 ho5 hg5 ha5)
          go_roundw
          case rel => exact ⟨k + 1, _, _, _, by omega, by go_num, HTW.out.push HROW.out hbas2 (fun e => by have := HT.out.lt _ e; omega) ho5 hg5 ha5, grown_below HFIN.out hg5 HTW.out.own, fun i hi => by
            by_cases e : i = k
            · simp only [if_pos e]; rw [e, HSZ.out]
            · simp only [if_neg e]; exact HM.out i (by omega), fun i j hi hj => by
            by_cases e : i = k
            · simp only [if_pos e]; simp only [if_pos e] at hj; simpa using hj
            · simp only [if_neg e] at hj ⊢; exact HF.out i j (by omega) hj⟩
          case measure => simp [intOf]; omega
    · have hkl : ¬ (k : Int) < ls := by omega
      have hk' : k = ls := by omega
      subst hk'
      generalize u5 = v at *
      have HPR : Hid (PrAt w wr (.slice sa k scap) (.slice ra lr rcap) v bs k (szs p.sizes) (fun _ _ => true)) := Lib.hid ⟨HB3.out.next hbel, ((HT.out.congr (g := fun _ _ => true) (fun i j hi hj => HF.out i j hi hj)).msz (fun i hi => HM.out i hi)).mono HB3.out.lt⟩
      clear htab hbel
      go_wp2
      go_loopg [10] (cntT (szs p.sizes) (fun _ _ => true) p.sizes.length + 1) (fun g10 ch wr => ∃ (f : Nat → Nat → Bool) (c : Bool), ch = .bool c ∧ PrAt w wr (.slice sa k scap) (.slice ra lr rcap) v bs k (szs p.sizes) f ∧ Above p f ∧ (c = true → cntT (szs p.sizes) f p.sizes.length + 1 ≤ g10) ∧ (c = false → Closed p f))
      case atStart => exact ⟨_, true, rfl, HPR.out, above_full p, fun _ => Nat.le_refl _, fun e => absurd e (by simp)⟩
      case round =>
        obtain ⟨f, c, rfl, hpr, hab, hcnt, hcl⟩ := hrel
        have HPR2 := Lib.hid hpr
        have HAB := Lib.hid hab
        have HCNT := Lib.hid hcnt
        have HCL := Lib.hid hcl
        have c1 := hpr.px.r
        clear hpr hab hcnt hcl
        cases c with
        | false =>
          go_wp2
          go_ret2
          exact ⟨_, rfl, bs, f, HPR2.out.tab.mono (Nat.le_succ _), fun a x ha hx => gac_eq HAB.out (HCL.out (by simp)) (by rw [HLS.out]; exact ha) hx, HPR2.out.px.bel⟩
        | true =>
          have hcnt := HCNT.out rfl
          generalize gk = g0 at *
          generalize wr = W5 at *
          go_wp2
          clear c1
          go_loopg [10, 48] lr (fun g48 ch i wr => ∃ (q : Nat) (f' : Nat → Nat → Bool) (c : Bool), q + g48 = lr ∧ i = .int .i64 q ∧ ch = .bool c ∧ PrAt w wr (.slice sa k scap) (.slice ra lr rcap) v bs k (szs p.sizes) f' ∧ PassR p f f' c q 0 0)
          case atStart => exact ⟨0, f, false, by omega, rfl, rfl, HPR2.out, PassR.start HAB.out⟩
          case round =>
            obtain ⟨q, f', c, hq, rfl, rfl, hpr, hpass⟩ := hrel
            have HPR3 := Lib.hid hpr
            have HPASS := Lib.hid hpass
            clear hpass
            cases gk with
            | zero =>
              have hkl2 : ¬ (q : Int) < lr := by omega
              clear hpr
              go_wp2
              go_roundg (g0 - 1)
              case measure => omega
              case rel => exact ⟨f', c, rfl, HPR3.out, HPASS.out.above, fun e => by have := HPASS.out.diff e; omega, fun e => by subst e; exact HPASS.out.closed (by rw [HLR.out]; omega)⟩
            | succ gk2 =>
              have hql : q < lr := by omega
              obtain ⟨rfl, hpr2⟩ := HRR.out.ha (by omega)
              have hk' := Below.keptB hpr.px.bel HPW.out
              have d0 := (HRR.out.kept hk').hc (q * 2) (by omega)
              have d1 : wr.cell? ⟨rb, ro + q * 2 + 1, none⟩ = some (rvs (q * 2 + 1)) := (HRR.out.kept hk').hc (q * 2 + 1) (by omega)
              obtain ⟨f1, f2⟩ := HRS.out q hql
              have hfine := HGOOD.out.fine q (by rw [HLR.out]; exact hql)
              obtain ⟨r, hre⟩ : ∃ r, p.rels.getD q default = r := ⟨_, rfl⟩
              have HRE := Lib.hid hre
              rw [hre] at f1 f2 hfine
              have HFINE := Lib.hid hfine
              obtain ⟨va, vcap, vb, vo, hvv, hvr⟩ := f1
              obtain ⟨aa, al, ac, hav⟩ := f2.slice
              have HV := Lib.hid hvr
              have hvc := hvr.hcap
              have hvm : vcap ≤ 9223372036854775807 := by have := hvr.hmax; unfold maxLen at this; omega
              have hl1 := hfine.len1
              have hl3 := hfine.len3
              rw [hvv] at d0
              rw [hav] at d1 f2
              have hsup : ∀ (W : World) (f : Nat → Nat → Bool) (kk x : Nat), Below w.heap.size w W → TabAt W (w.heap.size + 1) v bs p.sizes.length (szs p.sizes) f → kk < r.vars.length → x ≤ 1000 → Calls Try.prog 34 #[.agg #[.slice va r.vars.length vcap, .slice aa al ac], v, .int .i64 kk, .int .i64 x] W (BoolP (suppR f r kk x) W) := fun W f kk x hb ht hkk hx =>
                supported_any (P := P) (IntsAt.kept ⟨_, _, _, _, rfl, hvr⟩ (Below.keptB hb HPW.out)) (f2.kept (Below.keptB hb HPW.out)) (HPW.out.le hb.size) hfine ht HGOOD.out.szs hkk hx
              have HSUP := Lib.hid hsup
              obtain ⟨kv, hkv⟩ : ∃ kv, r.vars.length = kv := ⟨_, rfl⟩
              rw [hkv] at d0 HV hvc hl1 hl3 HSUP
              have HKV := Lib.hid hkv
              obtain ⟨rfl, hpv⟩ := HV.out.ha (by omega)
              have hbl := (Below.refl wr.heap.size wr).alloc (Nat.le_refl _) (.cells #[.slice (some ⟨vb, vo, none⟩) kv vcap, .slice aa al ac] 46)
              have HBX2 : Hid ((wr.alloc (.cells #[.slice (some ⟨vb, vo, none⟩) kv vcap, .slice aa al ac] 46)).heap[wr.heap.size]? = some (.cells #[.slice (some ⟨vb, vo, none⟩) kv vcap, .slice aa al ac] 46 (0, 0))) := Lib.hid (heap_alloc_new _ _)
              have HPR4 := Lib.hid (hpr.next hbl)
              clear hpr hk' f2 hfine hvr hre hvv hav hsup hkv hbl
              generalize wr = W6 at *
              go_wp2
              clear d0 d1
              generalize W6.alloc (.cells #[.slice (some ⟨vb, vo, none⟩) kv vcap, .slice aa al ac] 46) = W7 at *
              go_loopg [10, 55] kv (fun g55 ch i wr => ∃ (kk : Nat) (f' : Nat → Nat → Bool) (c : Bool), kk + g55 = kv ∧ i = .int .i64 kk ∧ ch = .bool c ∧ PrAt w wr (.slice sa k scap) (.slice (some ⟨rb, ro, none⟩) lr rcap) v bs k (szs p.sizes) f' ∧ wr.heap[W6.heap.size]? = some (.cells #[.slice (some ⟨vb, vo, none⟩) kv vcap, .slice aa al ac] 46 (0, 0)) ∧ PassR p f f' c q kk 0)
              case atStart => exact ⟨0, f', c, by omega, rfl, rfl, HPR4.out, HBX2.out, HPASS.out⟩
              case round =>
                obtain ⟨kk, f', c, hkk, rfl, rfl, hpr, hbox, hpass⟩ := hrel
                have HPR5 := Lib.hid hpr
                have HBOX := Lib.hid hbox
                have HPASS2 := Lib.hid hpass
                clear hpass
                cases gk with
                | zero =>
                  have hkl2 : ¬ (kk : Int) < kv := by omega
                  clear hpr hbox
                  go_wp2
                  go_roundg gk2
                  case measure => omega
                  case rel => exact ⟨q + 1, f', c, by omega, by go_num, rfl, HPR5.out, HPASS2.out.nextQ (by rw [HRE.out, HKV.out]; omega)⟩
                | succ gk3 =>
                  have hkl2 : kk < kv := by omega
                  have d2 := (HV.out.kept (Below.keptB hpr.px.bel HPW.out)).hc kk (by omega)
                  obtain ⟨hvk, hvk2⟩ := HFINE.out.var kk (by rw [HKV.out]; exact hkl2)
                  rw [HLS.out] at hvk2
                  rw [hvk] at d2
                  have hmk := HGOOD.out.szs (vN r kk)
                  obtain ⟨vg, vgc, hve, hvg1, hvg2⟩ : ∃ g cap, v = .slice (some ⟨g, 0, none⟩) k cap ∧ k ≤ cap ∧ cap ≤ 9223372036854775807 := by
                    rcases hpr.tab.shape with ⟨_, h0⟩ | ⟨g, cap, h1, h2, h3, _⟩
                    · omega
                    · exact ⟨g, cap, h1, h2, h3⟩
                  subst hve
                  have d3 := hpr.tab.at hvk2
                  obtain ⟨mm, hmm⟩ : ∃ mm, szs p.sizes (vN r kk) = mm := ⟨_, rfl⟩
                  rw [hmm] at d3 hmk
                  have HMM := Lib.hid hmm
                  clear hpr hbox hmm
                  go_wp2
                  clear d2 d3
                  go_loopg [10, 65] mm (fun g65 ch i wr => ∃ (x : Nat) (f' : Nat → Nat → Bool) (c : Bool), x + g65 = mm ∧ i = .int .i64 x ∧ ch = .bool c ∧ PrAt w wr (.slice sa k scap) (.slice (some ⟨rb, ro, none⟩) lr rcap) (.slice (some ⟨vg, 0, none⟩) k vgc) bs k (szs p.sizes) f' ∧ wr.heap[W6.heap.size]? = some (.cells #[.slice (some ⟨vb, vo, none⟩) kv vcap, .slice aa al ac] 46 (0, 0)) ∧ PassR p f f' c q kk x)
                  case atStart => exact ⟨0, f', c, by omega, rfl, rfl, HPR5.out, HBOX.out, HPASS2.out⟩
                  case round =>
                    obtain ⟨x, f', c, hx, rfl, rfl, hpr, hbox, hpass⟩ := hrel
                    have HPR6 := Lib.hid hpr
                    have HBOX2 := Lib.hid hbox
                    have HPASS3 := Lib.hid hpass
                    clear hpass
                    cases gk with
                    | zero =>
                      have hkl3 : ¬ (x : Int) < mm := by omega
                      clear hpr hbox
                      go_wp2
                      go_roundg gk3
                      case measure => omega
                      case rel => exact ⟨kk + 1, f', c, by omega, by go_num, rfl, HPR6.out, HBOX2.out, HPASS3.out.nextK (by rw [HRE.out, HMM.out]; omega)⟩
                    | succ gk4 =>
                      have hxl : x < mm := by omega
                      have d1 := hpr.tab.at hvk2
                      obtain ⟨d2, d3⟩ := hpr.tab.flag hvk2 (j := x) (by rw [HMM.out]; exact hxl)
                      rw [HMM.out] at d1
                      have d4 := (cell_row' _ _ 0 _ _ hbox).trans rfl
                      have d5 := (cell_row' _ _ 1 _ _ hbox).trans rfl
                      have HCS := Lib.hid (HSUP.out wr f' kk x hpr.px.bel (by rw [HLS.out]; exact hpr.tab) hkl2 (by omega))
                      clear hpr hbox
                      by_cases hf1 : f' (vN r kk) x = true
                      · rw [hf1] at d2
                        have HF1 := Lib.hid hf1
                        clear hf1
                        by_cases hsp : suppR f' r kk x
                        · have hcs : Calls Try.prog 34 #[.agg #[.slice (some ⟨vb, vo, none⟩) kv vcap, .slice aa al ac], .slice (some ⟨vg, 0, none⟩) k vgc, .int .i64 kk, .int .i64 x] wr (OneB true wr) := HCS.out.mono fun e w' ⟨b, h1, h2, h3⟩ => ⟨by rw [h1, h2.2 hsp], h3⟩
                          have HCS2 := Lib.hid hcs
                          have HSP := Lib.hid ((suppR_iff HF1.out).1 hsp)
                          clear hcs hsp
                          go_wp2_with (first | (go_at_call 34; refine HCS2.out.mono ?_; rintro e w8 ⟨rfl, hb8⟩; have HB8 := Lib.hid hb8; clear hb8))
                          go_roundg gk4
                          case measure => omega
                          case rel => exact ⟨x + 1, f', c, by omega, by go_num, rfl, HPR6.out.next HB8.out, (HB8.out.block _ (Array.getElem?_eq_some_iff.1 HBOX2.out).1).trans HBOX2.out, HPASS3.out.keep fun _ => by rw [HRE.out]; exact HSP.out⟩
                        · have hcs : Calls Try.prog 34 #[.agg #[.slice (some ⟨vb, vo, none⟩) kv vcap, .slice aa al ac], .slice (some ⟨vg, 0, none⟩) k vgc, .int .i64 kk, .int .i64 x] wr (OneB false wr) := HCS.out.mono fun e w' ⟨b, h1, h2, h3⟩ => ⟨by
                            cases b
                            · exact h1
                            · exact absurd (h2.1 rfl) hsp, h3⟩
                          have HCS2 := Lib.hid hcs
                          have HSP := Lib.hid (fun e => hsp ((suppR_iff HF1.out).2 e))
                          clear hcs hsp
                          go_wp2_with (first | (go_at_call 34; refine HCS2.out.mono ?_; rintro e w8 ⟨rfl, hb8⟩; have HPR8 := Lib.hid (HPR6.out.next hb8); have HBOX8 := Lib.hid ((hb8.block _ (Array.getElem?_eq_some_iff.1 HBOX2.out).1).trans HBOX2.out); have e1 := HPR8.out.tab.at hvk2; obtain ⟨e2, e3⟩ := HPR8.out.tab.flag hvk2 (j := x) (by rw [HMM.out]; exact hxl); rw [HMM.out] at e1; clear hb8))
                          go_roundg gk4
                          case measure => omega
                          case rel => exact ⟨x + 1, _, true, by omega, by go_num, rfl, HPR8.out.set hvk2 x false, HPR8.out.box hvk2 x false HBOX8.out, by
                            have hd := HPASS3.out.drop (by rw [HLR.out]; exact hql) (by rw [HRE.out]; exact HFINE.out) (by rw [HRE.out, HKV.out]; exact hkl2) (by rw [HRE.out, HMM.out]; exact hxl) (by rw [HRE.out]; exact HF1.out) (by rw [HRE.out]; exact HSP.out)
                            rw [HRE.out] at hd
                            exact hd⟩
                      · have hf2 : f' (vN r kk) x = false := by simpa using hf1
                        rw [hf2] at d2
                        have HF1 := Lib.hid hf1
                        clear hf1 hf2
                        go_wp2
                        go_roundg gk4
                        case measure => omega
                        case rel => exact ⟨x + 1, f', c, by omega, by go_num, rfl, HPR6.out, HBOX2.out, HPASS3.out.keep fun e => by rw [HRE.out] at e; exact absurd e HF1.out⟩
end Go.Proofs.Ytamidopeojipkaa
