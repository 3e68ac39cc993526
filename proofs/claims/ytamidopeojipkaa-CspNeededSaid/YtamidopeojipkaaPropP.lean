/- Propagate of the program: the walk. -/
import Derived.Test.YtamidopeojipkaaGac
import Derived.Test.YtamidopeojipkaaCheckP
namespace Go.Proofs.Ytamidopeojipkaa
open Go.RowKit
set_option linter.unusedVariables false

set_option maxRecDepth 20000 in
set_option maxHeartbeats 1600000 in
theorem propP_no {w : World} {P : Nat → Prop} {sv rv : Value} {p : Prob} (hs : IntsAt w P sv p.sizes) (hr : RelsAt w P rv p.rels) (hP : Under P w.heap.size) (hne : checkE p ≠ 0) :
    Calls Try.prog 14 #[.agg #[sv, rv]] w fun e w' => e = .returned (.tuple #[.slice none 0 0, .int .i64 (checkE p)]) ∧ Below w.heap.size w w' := by
  have hbel := (Below.refl _ w).alloc (Nat.le_refl _) (.cells #[sv, rv] 25)
  have hC := checkP_any (hs.kept (Below.keptB hbel hP)) (hr.kept (Below.keptB hbel hP)) (hP.le hbel.size)
  have HC := Lib.hid hC
  have HBEL := Lib.hid hbel
  obtain ⟨sa, sl, sc, rfl⟩ := hs.slice
  obtain ⟨ra, rl, rc, rfl⟩ := hr.slice
  generalize checkE p = E at *
  clear hs hr hP hbel hC
  go_enter Try.func14, Try.ntmps14
  go_wp2_with (first | (go_at_call 12; refine HC.out.mono ?_; rintro e w3 ⟨rfl, hb3⟩))
  go_ret2
  exact ⟨rfl, Below.next HBEL.out hb3⟩

set_option maxRecDepth 20000 in
set_option maxHeartbeats 1600000 in
theorem propP_yes {w : World} {P : Nat → Prop} {sv rv : Value} {p : Prob} (hs : IntsAt w P sv p.sizes) (hr : RelsAt w P rv p.rels) (hP : Under P w.heap.size) (hok : checkE p = 0) :
    Calls Try.prog 14 #[.agg #[sv, rv]] w fun e w' => ∃ v bs f, e = .returned (.tuple #[v, .int .i64 0]) ∧ TabAt w' w.heap.size v bs p.sizes.length (szs p.sizes) f ∧ (∀ a x, a < p.sizes.length → x < szs p.sizes a → f a x = gac p a x) ∧ Below w.heap.size w w' := by
  have hgood := Good.of hok
  have hbel := (Below.refl _ w).alloc (Nat.le_refl _) (.cells #[sv, rv] 25)
  have hC := checkP_any (hs.kept (Below.keptB hbel hP)) (hr.kept (Below.keptB hbel hP)) (hP.le hbel.size)
  rw [hok] at hC
  have HC := Lib.hid hC
  have hfull : ∀ w3, Below w.heap.size w w3 → Calls Try.prog 32 #[sv] w3 fun e w' => ∃ v bs, e = .returned v ∧ TabAt w' w3.heap.size v bs p.sizes.length (szs p.sizes) (fun _ _ => true) ∧ Below w3.heap.size w3 w' := fun w3 hb3 =>
    full_any (hs.kept (Below.keptB hb3 hP)) (hP.le hb3.size) (by have := hgood.len; omega) (fun n hn => by have := hgood.size n hn; omega)
  have HFULL := Lib.hid hfull
  have HGOOD := Lib.hid hgood
  obtain ⟨sa, sl, sc, rfl⟩ := hs.slice
  obtain ⟨ra, rcap, rb, ro, rvs, rfl, hrr, hrs⟩ := hr
  have HRR := Lib.hid hrr
  have HRS := Lib.hid hrs
  have HP := Lib.hid hP
  have hrc := hrr.hcap
  have hrm1 : rcap ≤ 9223372036854775807 := by have := hrr.hmax; unfold maxLen at this; omega
  have hbx : PxAt w (.slice sa sl sc) (.slice ra p.rels.length rcap) (w.alloc (.cells #[.slice sa sl sc, .slice ra p.rels.length rcap] 25)) := ⟨hbel, heap_alloc_new _ _⟩
  have HBX := Lib.hid hbx
  obtain ⟨lr, hlr⟩ : ∃ lr, p.rels.length = lr := ⟨_, rfl⟩
  rw [hlr] at HRR HRS HBX hrc HC ⊢
  have HLR := Lib.hid hlr
  have hl96 : lr ≤ 96 := by rw [← hlr]; exact hgood.rels
  clear hs hP hbel hC hfull hrr hrs hbx hlr hgood hok
  go_enter Try.func14, Try.ntmps14
  go_wp2_with (first | (go_at_call 12; refine HC.out.mono ?_; rintro e w3 ⟨rfl, hb3⟩; have HB3 := Lib.hid (HBX.out.next hb3); have c0 := HB3.out.s) | (go_at_call 32; refine (HFULL.out _ HB3.out.bel).mono ?_; rintro e w4 ⟨v, bs, rfl, ht4, hb4⟩))
  have HT4 := Lib.hid ht4
  have HB4 := Lib.hid (HB3.out.next hb4)
  have hbase := ht4.base
  have HW3 := Lib.hid HB3.out.lt
  clear c0 ht4 hb4
  go_loopg [6] (cntT (szs p.sizes) (fun _ _ => true) p.sizes.length + 1) (fun g6 ch wr => ∃ (f : Nat → Nat → Bool) (c : Bool), ch = .bool c ∧ TabAt wr (w.heap.size + 1) v bs p.sizes.length (szs p.sizes) f ∧ Above p f ∧ (c = true → cntT (szs p.sizes) f p.sizes.length + 1 ≤ g6) ∧ (c = false → Closed p f) ∧ PxAt w (.slice sa sl sc) (.slice ra lr rcap) wr)
  case atStart => exact ⟨_, true, rfl, HT4.out.mono HW3.out, above_full p, fun _ => Nat.le_refl _, fun e => absurd e (by simp), HB4.out⟩
  case round =>
    obtain ⟨f, c, rfl, htab, hab, hcnt, hcl, hbx⟩ := hrel
    have HTAB := Lib.hid htab
    have HAB := Lib.hid hab
    have HB5 := Lib.hid hbx
    have c1 := hbx.r
    have HCNT := Lib.hid hcnt
    have HCL := Lib.hid hcl
    clear htab hab hbx hcnt hcl
    cases c with
    | false =>
      go_wp2
      go_ret2
      exact ⟨_, rfl, bs, f, HTAB.out.mono (Nat.le_succ _), fun a x ha hx => gac_eq HAB.out (HCL.out (by simp)) ha hx, HB5.out.bel⟩
    | true =>
      generalize gk = gk0 at *
      have hcnt := HCNT.out rfl
      generalize wr = W5 at *
      go_wp2
      go_loopg [6, 21] lr (fun g21 ch i wr => ∃ (q : Nat) (f' : Nat → Nat → Bool) (c : Bool), q + g21 = lr ∧ i = .int .i64 q ∧ ch = .bool c ∧ TabAt wr (w.heap.size + 1) v bs p.sizes.length (szs p.sizes) f' ∧ Pass p f f' c q ∧ PxAt w (.slice sa sl sc) (.slice ra lr rcap) wr)
      case atStart => exact ⟨0, f, false, by omega, rfl, rfl, HTAB.out, Pass.start HAB.out, HB5.out⟩
      case round =>
        obtain ⟨q, f', c, hq, rfl, rfl, htab, hpass, hbx⟩ := hrel
        have HTAB2 := Lib.hid htab
        have HPASS := Lib.hid hpass
        have HB6 := Lib.hid hbx
        clear hpass
        cases gk with
        | zero =>
          have hkl : ¬ (q : Int) < lr := by omega
          clear hbx htab
          go_wp2
          go_roundg (gk0 - 1)
          case measure => omega
          case rel => exact ⟨f', c, rfl, HTAB2.out, HPASS.out.above, fun e => by have := HPASS.out.diff e; omega, fun e => by subst e; exact HPASS.out.closed (by rw [HLR.out]; omega), HB6.out⟩
        | succ gk2 =>
          have hql : q < lr := by omega
          obtain ⟨rfl, hpr⟩ := HRR.out.ha (by omega)
          have hk' := Below.keptB hbx.bel HP.out
          have d0 := (HRR.out.kept hk').hc (q * 2) (by omega)
          have d1 : wr.cell? ⟨rb, ro + q * 2 + 1, none⟩ = some (rvs (q * 2 + 1)) := (HRR.out.kept hk').hc (q * 2 + 1) (by omega)
          obtain ⟨f1, f2⟩ := HRS.out q hql
          obtain ⟨va, vl, vc, hv⟩ := f1.slice
          obtain ⟨aa, al, ac, ha⟩ := f2.slice
          rw [hv] at d0 f1
          rw [ha] at d1 f2
          have hbl := (Below.refl wr.heap.size wr).alloc (Nat.le_refl _) (.cells #[.slice va vl vc, .slice aa al ac] 46)
          have hbl4 := Below.next hbx.bel hbl
          have hfine := HGOOD.out.fine q (by rw [HLR.out]; exact hql)
          have hcall := revise_any (f1.kept (Below.keptB hbl4 HP.out)) (f2.kept (Below.keptB hbl4 HP.out)) (HP.out.le hbl4.size) hfine (htab.below hbl) (fun k h1 h2 => by have := HP.out k h1; have := htab.base k h2; omega) HGOOD.out.szs
          have HC2 := Lib.hid hcall
          have HBL := Lib.hid hbl
          have HFINE := Lib.hid hfine
          have hlt := htab.base
          have HLT := Lib.hid hlt
          have c0 := hbx.s
          have c1 := hbx.r
          have hql2 : (q : Int) < lr := by omega
          clear hbx htab hk' f1 f2 hv ha hbl hbl4 hfine hcall hlt
          go_wp2_with (first | (go_at_call 33; refine HC2.out.mono ?_; rintro e w6 ⟨c6, f6, rfl, ht6, hn6, hr6⟩; have HT6 := Lib.hid ht6; have HN6 := Lib.hid hn6; have HR6 := Lib.hid hr6; clear ht6 hn6 hr6; cases c6))
          · go_roundg gk2
            case measure => omega
            case rel => exact ⟨q + 1, f6, c, by omega, by go_num, rfl, HT6.out, HPASS.out.step (by rw [HLR.out]; exact hql) HFINE.out HR6.out, (HB6.out.next HBL.out).near HN6.out (fun k hk => HLT.out k hk)⟩
          · go_roundg gk2
            case measure => omega
            case rel => exact ⟨q + 1, f6, true, by omega, by go_num, rfl, HT6.out, HPASS.out.step (by rw [HLR.out]; exact hql) HFINE.out HR6.out, (HB6.out.next HBL.out).near HN6.out (fun k hk => HLT.out k hk)⟩
end Go.Proofs.Ytamidopeojipkaa
