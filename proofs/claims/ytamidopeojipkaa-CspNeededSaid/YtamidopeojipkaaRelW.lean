/- relation of the reference: the walk. -/
import Derived.Test.YtamidopeojipkaaOwn
namespace Go.Proofs.Ytamidopeojipkaa
open Go.RowKit
set_option linter.unusedVariables false

/-- the two boxes -/
structure BxAt (w : World) (s u v a : Value) (W : World) : Prop where
  bel : Below w.heap.size w W
  r0 : W.heap[w.heap.size]? = some (.cells #[s, u] 25 (0, 0))
  r1 : W.heap[w.heap.size + 1]? = some (.cells #[v, a] 46 (0, 0))
theorem BxAt.next {w W W' : World} {s u v a : Value} (h : BxAt w s u v a W) (hb : Below W.heap.size W W') : BxAt w s u v a W' :=
  ⟨Below.next h.bel hb, (hb.block _ (Array.getElem?_eq_some_iff.1 h.r0).1).trans h.r0, (hb.block _ (Array.getElem?_eq_some_iff.1 h.r1).1).trans h.r1⟩
theorem BxAt.s {w W : World} {s u v a : Value} (h : BxAt w s u v a W) : W.cell? ⟨w.heap.size, 0, none⟩ = some s := (cell_row' _ _ 0 _ _ h.r0).trans rfl
theorem BxAt.v {w W : World} {s u v a : Value} (h : BxAt w s u v a W) : W.cell? ⟨w.heap.size + 1, 0, none⟩ = some v := (cell_row' _ _ 0 _ _ h.r1).trans rfl
theorem BxAt.a {w W : World} {s u v a : Value} (h : BxAt w s u v a W) : W.cell? ⟨w.heap.size + 1, 1, none⟩ = some a := (cell_row' _ _ 1 _ _ h.r1).trans rfl

theorem nodup_of {xs : List Int} (h : ∀ i k, k < i → i < xs.length → xs.getD k 0 ≠ xs.getD i 0) : xs.Nodup := by
  rw [List.nodup_iff_pairwise_ne, List.pairwise_iff_getElem]
  intro i j hi hj hij e
  exact h j i hij hj (by simp [List.getD, hi, hj, e])
theorem not_nodup {xs : List Int} {i k : Nat} (h1 : k < i) (h2 : i < xs.length) (h : xs.getD k 0 = xs.getD i 0) : ¬ xs.Nodup := by
  rw [List.nodup_iff_pairwise_ne, List.pairwise_iff_getElem]
  intro hn
  refine hn k i (by omega) h2 h1 ?_
  simpa [List.getD, h2, show k < xs.length by omega] using h

set_option maxRecDepth 20000 in
set_option maxHeartbeats 1600000 in
theorem relationR_any {w : World} {P : Nat → Prop} {sv uv vv av : Value} {sizes : List Int} {r : Rel} (hs : IntsAt w P sv sizes) (hu : ∃ a l c, uv = .slice a l c) (hv : IntsAt w P vv r.vars) (ha : ListsAt w P av r.allowed) (hP : Under P w.heap.size)
    (hsz : sizes.length ≤ 1000) :
    Calls Try.prog 31 #[.agg #[sv, uv], .agg #[vv, av]] w (OneI (relE sizes r) w) := by
  obtain ⟨ua, ul, uc, rfl⟩ := hu
  obtain ⟨sa, scap, sb, so, rfl, hsr⟩ := hs
  obtain ⟨va, vcap, vb, vo, rfl, hvr⟩ := hv
  obtain ⟨aa, acap, ab, ao, avs, rfl, har, has⟩ := ha
  obtain ⟨R, hR⟩ : ∃ R, relE sizes r = R := ⟨_, rfl⟩
  rw [hR]
  unfold relE at hR
  have HR := Lib.hid hR
  have HS := Lib.hid hsr
  have HV := Lib.hid hvr
  have HA := Lib.hid har
  have HAS := Lib.hid has
  have HP := Lib.hid hP
  have hsc := hsr.hcap
  have hvc := hvr.hcap
  have hac := har.hcap
  have hsm : scap ≤ 9223372036854775807 := by have := hsr.hmax; unfold maxLen at this; omega
  have hvm : vcap ≤ 9223372036854775807 := by have := hvr.hmax; unfold maxLen at this; omega
  have ham : acap ≤ 9223372036854775807 := by have := har.hmax; unfold maxLen at this; omega
  have hbx : BxAt w (.slice sa sizes.length scap) (.slice ua ul uc) (.slice va r.vars.length vcap) (.slice aa r.allowed.length acap) ((w.alloc (.cells #[.slice sa sizes.length scap, .slice ua ul uc] 25)).alloc (.cells #[.slice va r.vars.length vcap, .slice aa r.allowed.length acap] 46)) := by
    refine ⟨((Below.refl _ _).alloc (Nat.le_refl _) _).alloc (by simp) _, (Below.heap_alloc _ _ _ (by simp)).trans (heap_alloc_new _ _), ?_⟩
    have := heap_alloc_new (w.alloc (.cells #[.slice sa sizes.length scap, .slice ua ul uc] 25)) (.cells #[.slice va r.vars.length vcap, .slice aa r.allowed.length acap] 46)
    rwa [World.size_alloc] at this
  have HBX := Lib.hid hbx
  obtain ⟨ls, hls⟩ : ∃ ls, sizes.length = ls := ⟨_, rfl⟩
  obtain ⟨lv, hlv⟩ : ∃ lv, r.vars.length = lv := ⟨_, rfl⟩
  obtain ⟨la, hla⟩ : ∃ la, r.allowed.length = la := ⟨_, rfl⟩
  rw [hls] at HS HR HBX hsc hsz ⊢
  rw [hlv] at HV HR HBX hvc ⊢
  rw [hla] at HA HAS HR HBX hac ⊢
  have HLS := Lib.hid hls
  have HLV := Lib.hid hlv
  have HLA := Lib.hid hla
  clear hR hsr hvr har has hP hbx hls hlv hla
  by_cases hlen : lv < 1
  · have hr := HR.out
    rw [if_pos (.inl hlen)] at hr
    subst hr
    have hl2 : (lv : Int) < 1 := by omega
    go_enter Try.func31, Try.ntmps31
    go_wp2
    go_ret
    exact ⟨rfl, HBX.out.bel⟩
  · by_cases hlen3 : 3 < lv
    · have hr := HR.out
      rw [if_pos (.inr hlen3)] at hr
      subst hr
      have hl2 : ¬ (lv : Int) < 1 := by omega
      have hl3 : (3 : Int) < lv := by omega
      go_enter Try.func31, Try.ntmps31
      go_wp2
      go_ret
      exact ⟨rfl, HBX.out.bel⟩
    · have hr := HR.out
      rw [if_neg (by omega)] at hr
      have HR1 := Lib.hid hr
      clear hr
      have hl2 : ¬ (lv : Int) < 1 := by omega
      have hl3 : ¬ (3 : Int) < lv := by omega
      obtain ⟨rfl, hpv⟩ := HV.out.ha (by omega)
      go_enter Try.func31, Try.ntmps31
      go_wp2
      generalize (w.alloc (.cells #[.slice sa ls scap, .slice ua ul uc] 25)).alloc (.cells #[.slice (some ⟨vb, vo, none⟩) lv vcap, .slice aa la acap] 46) = W at *
      go_loopw [27] (fun i wr => ∃ k : Nat, k ≤ lv ∧ i = .int .i64 k ∧ BxAt w (.slice sa ls scap) (.slice ua ul uc) (.slice (some ⟨vb, vo, none⟩) lv vcap) (.slice aa la acap) wr ∧ ∀ j, j < k → 0 ≤ r.vars.getD j 0 ∧ r.vars.getD j 0 < ls) (fun i _ => lv - (intOf i).toNat)
      case atStart => exact ⟨0, by omega, rfl, HBX.out, fun j hj => by omega⟩
      case round =>
        obtain ⟨k, hk, rfl, hbx, hall⟩ := hrel
        have HB := Lib.hid hbx
        have HALL := Lib.hid hall
        clear hall
        have c0 := hbx.s
        have c1 := hbx.v
        have c2 := hbx.a
        by_cases hlt : k < lv
        · have d1 := (HV.out.kept (Below.keptB hbx.bel HP.out)).hc k (by omega)
          clear hbx
          have hbad : (r.vars.getD k 0 < 0 ∨ (ls : Int) ≤ r.vars.getD k 0) → R = 1 := fun hb => by
            rw [← HR1.out, if_pos ⟨k, hlt, hb⟩]
          have HBAD := Lib.hid hbad
          have hst : 0 ≤ r.vars.getD k 0 → r.vars.getD k 0 < ls → ∀ j, j < k + 1 → 0 ≤ r.vars.getD j 0 ∧ r.vars.getD j 0 < ls := fun g1 g2 j hj => by
            by_cases e : j = k
            · subst e; exact ⟨g1, g2⟩
            · exact HALL.out j (by omega)
          have HST := Lib.hid hst
          clear hbad hst
          generalize r.vars.getD k 0 = x at *
          by_cases hx0 : x < 0
          · have hr := HBAD.out (.inl hx0)
            subst hr
            go_wp2
            go_ret
            exact ⟨rfl, HB.out.bel⟩
          · by_cases hx1 : (ls : Int) ≤ x
            · have hr := HBAD.out (.inr hx1)
              subst hr
              go_wp2
              go_ret
              exact ⟨rfl, HB.out.bel⟩
            · go_wp2
              go_roundw
              case rel => exact ⟨k + 1, by omega, by go_num, HB.out, HST.out (by omega) (by omega)⟩
              case measure => simp [intOf]; omega
        · have hkl : ¬ (k : Int) < lv := by omega
          clear hbx
          have hvr : ∀ j, j < lv → 0 ≤ r.vars.getD j 0 ∧ r.vars.getD j 0 < ls := fun j hj => HALL.out j (by omega)
          have hr2 := HR1.out
          rw [if_neg (fun ⟨j, hj, hb⟩ => by have := hvr j hj; omega)] at hr2
          have HR2 := Lib.hid hr2
          have HVR := Lib.hid hvr
          clear hr2 hvr
          go_wp2
          go_loopw [44] (fun i wr => ∃ k : Nat, k ≤ lv ∧ i = .int .i64 k ∧ BxAt w (.slice sa ls scap) (.slice ua ul uc) (.slice (some ⟨vb, vo, none⟩) lv vcap) (.slice aa la acap) wr ∧ ∀ i j, j < i → i < k → r.vars.getD j 0 ≠ r.vars.getD i 0) (fun i _ => lv - (intOf i).toNat)
          case atStart => exact ⟨0, by omega, rfl, HB.out, fun i j _ hi => by omega⟩
          case round =>
            obtain ⟨k2, hk2, rfl, hbx, hall⟩ := hrel
            have HB2 := Lib.hid hbx
            have HALL2 := Lib.hid hall
            clear hall c0 c1 c2
            by_cases hlt : k2 < lv
            · clear hbx
              go_wp2
              go_loopw [8] (fun i wr => ∃ q : Nat, q ≤ k2 ∧ i = .int .i64 q ∧ BxAt w (.slice sa ls scap) (.slice ua ul uc) (.slice (some ⟨vb, vo, none⟩) lv vcap) (.slice aa la acap) wr ∧ ∀ j, j < q → r.vars.getD j 0 ≠ r.vars.getD k2 0) (fun i _ => k2 - (intOf i).toNat)
              case atStart => exact ⟨0, by omega, rfl, HB2.out, fun j hj => by omega⟩
              case round =>
                obtain ⟨q, hq, rfl, hbx, hall⟩ := hrel
                have HB3 := Lib.hid hbx
                have HALL3 := Lib.hid hall
                clear hall
                have c1 := hbx.v
                by_cases hql : q < k2
                · have d1 := (HV.out.kept (Below.keptB hbx.bel HP.out)).hc k2 (by omega)
                  have d2 := (HV.out.kept (Below.keptB hbx.bel HP.out)).hc q (by omega)
                  by_cases he : r.vars.getD q 0 = r.vars.getD k2 0
                  · have hr := HR2.out
                    rw [if_pos (not_nodup hql (by rw [HLV.out]; exact hlt) he)] at hr
                    subst hr
                    rw [he] at d2
                    clear he hbx
                    generalize r.vars.getD k2 0 = x at *
                    go_wp2
                    go_quiet (fail)
                    go_wp2
                    go_ret
                    exact ⟨rfl, (HB3.out.next (below_drewN (Below.refl _ _) _)).bel⟩
                  · have hst : ∀ j, j < q + 1 → r.vars.getD j 0 ≠ r.vars.getD k2 0 := fun j hj => by
                      by_cases e : j = q
                      · subst e; exact he
                      · exact HALL3.out j (by omega)
                    have HST := Lib.hid hst
                    have hx : ¬ (r.vars.getD k2 0 = r.vars.getD q 0) := fun e => he e.symm
                    clear hst he hbx
                    generalize r.vars.getD k2 0 = x at *
                    generalize r.vars.getD q 0 = y at *
                    go_wp2
                    go_quiet (fail)
                    go_wp2
                    exact ⟨⟨q + 1, by omega, by go_num, HB3.out.next (below_drewN (Below.refl _ _) _), HST.out⟩, by simp [intOf]; omega⟩
                · have hql2 : ¬ (q : Int) < k2 := by omega
                  have hst : ∀ i j, j < i → i < k2 + 1 → r.vars.getD j 0 ≠ r.vars.getD i 0 := fun i j hj hi => by
                    by_cases e : i = k2
                    · subst e; exact HALL3.out j (by omega)
                    · exact HALL2.out i j hj (by omega)
                  have HST := Lib.hid hst
                  clear hst hbx c1
                  go_wp2
                  go_roundw
                  case rel => exact ⟨k2 + 1, by omega, by go_num, HB3.out, HST.out⟩
                  case measure => simp [intOf]; omega
            · have hkl2 : ¬ (k2 : Int) < lv := by omega
              have c0 := hbx.s
              have c1 := hbx.v
              have c2 := hbx.a
              have hr3 := HR2.out
              rw [if_neg (fun hn => hn (nodup_of (fun i j hj hi => HALL2.out i j hj (by rw [HLV.out] at hi; omega))))] at hr3
              have HR3 := Lib.hid hr3
              clear hr3 hbx
              by_cases hal : 4096 < la
              · have hr := HR3.out
                rw [if_pos hal] at hr
                subst hr
                have hal2 : (4096 : Int) < la := by omega
                go_wp2
                go_ret
                exact ⟨rfl, HB2.out.bel⟩
              · have hr := HR3.out
                rw [if_neg hal] at hr
                have HR4 := Lib.hid hr
                have hal2 : ¬ (4096 : Int) < la := by omega
                clear hr
                go_wp2
                go_loopw [71] (fun i wr => ∃ k : Nat, k ≤ la ∧ i = .int .i64 k ∧ BxAt w (.slice sa ls scap) (.slice ua ul uc) (.slice (some ⟨vb, vo, none⟩) lv vcap) (.slice aa la acap) wr ∧ (∀ i, i < k → tupE sizes r.vars (r.allowed.getD i []) = 0) ∧ ∀ i j, j < i → i < k → r.allowed.getD j [] ≠ r.allowed.getD i []) (fun i _ => la - (intOf i).toNat)
                case atStart => exact ⟨0, by omega, rfl, HB2.out, fun i hi => by omega, fun i j _ hi => by omega⟩
                case round =>
                  obtain ⟨k3, hk3, rfl, hbx, htup, hdis⟩ := hrel
                  have HB4 := Lib.hid hbx
                  have HTUP := Lib.hid htup
                  have HDIS := Lib.hid hdis
                  clear htup hdis c0 c1 c2
                  by_cases hlt3 : k3 < la
                  · obtain ⟨rfl, hpa⟩ := HA.out.ha (by omega)
                    have c1 := hbx.v
                    have c2 := hbx.a
                    have d1 := (HA.out.kept (Below.keptB hbx.bel HP.out)).hc k3 (by omega)
                    have hscan := scan_at (sizes := sizes) (vars := r.vars) (xs := r.allowed) (k := k3) (by rw [HLA.out]; exact hlt3) HTUP.out HDIS.out
                    rw [HR4.out] at hscan
                    have HSC := Lib.hid hscan
                    obtain ⟨ta, tc, tb, to, htv, htr⟩ := HAS.out k3 hlt3
                    have HT := Lib.hid htr
                    rw [htv] at d1
                    have htc := htr.hcap
                    have htm : tc ≤ 9223372036854775807 := by have := htr.hmax; unfold maxLen at this; omega
                    have HTV := Lib.hid htv
                    obtain ⟨tl, htl⟩ : ∃ tl, (r.allowed.getD k3 []).length = tl := ⟨_, rfl⟩
                    rw [htl] at d1 HT HTV htc
                    have HTL := Lib.hid htl
                    clear hbx hscan htr htv htl
                    by_cases hne : tl = lv
                    · have htlv : ¬ ((tl : Int) ≠ lv) := by omega
                      have hne2 : (tl : Int) = lv := by omega
                      subst hne
                      go_wp2
                      go_loopw [84] (fun i wr => ∃ q : Nat, q ≤ tl ∧ i = .int .i64 q ∧ BxAt w (.slice sa ls scap) (.slice ua ul uc) (.slice (some ⟨vb, vo, none⟩) tl vcap) (.slice (some ⟨ab, ao, none⟩) la acap) wr ∧ ∀ j, j < q → ¬ ((r.allowed.getD k3 []).getD j 0 < 0 ∨ sizes.getD (r.vars.getD j 0).toNat 0 ≤ (r.allowed.getD k3 []).getD j 0)) (fun i _ => tl - (intOf i).toNat)
                      case atStart => exact ⟨0, by omega, rfl, HB4.out, fun j hj => by omega⟩
                      case round =>
                        obtain ⟨q, hq, rfl, hbx, hall⟩ := hrel
                        have HB5 := Lib.hid hbx
                        have HALL5 := Lib.hid hall
                        clear hall
                        by_cases hql : q < tl
                        · obtain ⟨rfl, hpt⟩ := HT.out.ha (by omega)
                          have e0 := hbx.s
                          have e1 := hbx.v
                          have f1 := (HT.out.kept (Below.keptB hbx.bel HP.out)).hc q (by omega)
                          have f2 := (HV.out.kept (Below.keptB hbx.bel HP.out)).hc q (by omega)
                          have hvq := HVR.out q (by omega)
                          obtain ⟨rfl, hps⟩ := HS.out.ha (by omega)
                          obtain ⟨n, hn⟩ : ∃ n : Nat, r.vars.getD q 0 = n := ⟨(r.vars.getD q 0).toNat, by omega⟩
                          have hn2 : n < ls := by omega
                          have f3 := (HS.out.kept (Below.keptB hbx.bel HP.out)).hc n (by omega)
                          rw [hn] at f2
                          have hbad : ((r.allowed.getD k3 []).getD q 0 < 0 ∨ sizes.getD n 0 ≤ (r.allowed.getD k3 []).getD q 0) → R = 1 := fun hb => by
                            have e : tupE sizes r.vars (r.allowed.getD k3 []) = 1 := by
                              unfold tupE
                              rw [if_neg (by rw [HTL.out, HLV.out]; simp), if_pos ⟨q, by rw [HTL.out]; exact hql, by rw [hn]; exact hb⟩]
                            rw [HSC.out, e]; rfl
                          have hst : ¬ ((r.allowed.getD k3 []).getD q 0 < 0 ∨ sizes.getD n 0 ≤ (r.allowed.getD k3 []).getD q 0) → ∀ j, j < q + 1 → ¬ ((r.allowed.getD k3 []).getD j 0 < 0 ∨ sizes.getD (r.vars.getD j 0).toNat 0 ≤ (r.allowed.getD k3 []).getD j 0) := fun hb j hj => by
                            by_cases e : j = q
                            · subst e; rw [hn]; exact hb
                            · exact HALL5.out j (by omega)
                          have HBAD := Lib.hid hbad
                          have HST := Lib.hid hst
                          clear hbad hst hbx hvq hn
                          generalize (r.allowed.getD k3 []).getD q 0 = x at *
                          generalize sizes.getD n 0 = y at *
                          by_cases hx0 : x < 0
                          · have hr := HBAD.out (.inl hx0)
                            subst hr
                            have g0 : decide (x < 0) = true := by simp [hx0]
                            go_wp2
                            go_quiet (fail)
                            go_wp2
                            go_ret
                            exact ⟨rfl, (HB5.out.next (below_drewN (Below.refl _ _) _)).bel⟩
                          · have g0 : decide (x < 0) = false := by simp [hx0]
                            by_cases hx1 : y ≤ x
                            · have hr := HBAD.out (.inr hx1)
                              subst hr
                              go_wp2
                              go_quiet (fail)
                              go_wp2
                              go_ret
                              exact ⟨rfl, (HB5.out.next (below_drewN (Below.refl _ _) _)).bel⟩
                            · go_wp2
                              go_quiet (fail)
                              go_wp2
                              exact ⟨⟨q + 1, by omega, by go_num, HB5.out.next (below_drewN (Below.refl _ _) _), HST.out (by omega)⟩, by simp [intOf]; omega⟩
                        · have hql2 : ¬ (q : Int) < tl := by omega
                          have htup0 : tupE sizes r.vars (r.allowed.getD k3 []) = 0 := by
                            unfold tupE
                            rw [if_neg (by rw [HTL.out, HLV.out]; simp), if_neg (by
                              rintro ⟨j, hj, hb⟩
                              exact HALL5.out j (by rw [HTL.out] at hj; omega) hb)]
                          have hs6 := HSC.out
                          rw [if_neg (by rw [htup0]; simp)] at hs6
                          have H6 := Lib.hid hs6
                          have H0 := Lib.hid htup0
                          clear hbx hs6 htup0 c1
                          go_wp2
                          go_loopw [13] (fun i wr => ∃ q : Nat, q ≤ k3 ∧ i = .int .i64 q ∧ BxAt w (.slice sa ls scap) (.slice ua ul uc) (.slice (some ⟨vb, vo, none⟩) tl vcap) (.slice (some ⟨ab, ao, none⟩) la acap) wr ∧ ∀ j, j < q → r.allowed.getD j [] ≠ r.allowed.getD k3 []) (fun i _ => k3 - (intOf i).toNat)
                          case atStart => exact ⟨0, by omega, rfl, HB5.out, fun j hj => by omega⟩
                          case round =>
                            obtain ⟨q2, hq2, rfl, hbx, hall⟩ := hrel
                            have HB6 := Lib.hid hbx
                            have HALL6 := Lib.hid hall
                            clear hall
                            by_cases hql6 : q2 < k3
                            · have e1 := (HAS.out k3 hlt3).kept (Below.keptB hbx.bel HP.out)
                              have e2 := (HAS.out q2 (by omega)).kept (Below.keptB hbx.bel HP.out)
                              have hcall := ints_any (w := wr) (P := P) (Q := P) e1 e2 (HP.out.le hbx.bel.size) (HP.out.le hbx.bel.size)
                              have HC := Lib.hid hcall
                              have d2 := (HA.out.kept (Below.keptB hbx.bel HP.out)).hc q2 (by omega)
                              have c6 := hbx.a
                              obtain ⟨x2, y2, z2, hv2⟩ := e2.slice
                              rw [HTV.out] at HC
                              rw [hv2] at d2 HC
                              have hb1 : w.heap.size + 1 < wr.heap.size := (Array.getElem?_eq_some_iff.1 hbx.r1).1
                              have hb2 : ab < wr.heap.size := HP.out.le hbx.bel.size ab hpa
                              clear hcall e1 e2 hv2 hbx
                              by_cases heq : r.allowed.getD k3 [] = r.allowed.getD q2 []
                              · have hr := H6.out
                                have hmem : r.allowed.getD k3 [] ∈ r.allowed.take k3 := by
                                  rw [heq]
                                  have hq3 : q2 < r.allowed.length := by have := HLA.out; omega
                                  have : r.allowed.getD q2 [] = (r.allowed.take k3)[q2]'(by rw [List.length_take]; omega) := by simp [List.getD, hq3]
                                  rw [this]
                                  exact List.getElem_mem _
                                rw [if_pos hmem] at hr
                                subst hr
                                rw [decide_eq_true heq] at HC
                                clear heq hmem
                                go_wp2_with (first | (go_at_call 20; refine HC.out.mono ?_; rintro e w3 ⟨rfl, hb3⟩))
                                have HF := Lib.hid (HB6.out.next hb3)
                                clear hb3 d2 c6
                                go_ret
                                exact ⟨rfl, HF.out.bel⟩
                              · have hst : ∀ j, j < q2 + 1 → r.allowed.getD j [] ≠ r.allowed.getD k3 [] := fun j hj => by
                                  by_cases e : j = q2
                                  · subst e; exact fun e => heq e.symm
                                  · exact HALL6.out j (by omega)
                                have HST := Lib.hid hst
                                rw [decide_eq_false heq] at HC
                                clear heq hst
                                go_wp2_with (first | (go_at_call 20; refine HC.out.mono ?_; rintro e w3 ⟨rfl, hb3⟩))
                                have HF := Lib.hid (HB6.out.next hb3)
                                clear hb3 d2 c6
                                go_roundw
                                case rel => exact ⟨q2 + 1, by omega, by go_num, HF.out, HST.out⟩
                                case measure => simp [intOf]; omega
                            · have hql7 : ¬ (q2 : Int) < k3 := by omega
                              have ht2 : ∀ i, i < k3 + 1 → tupE sizes r.vars (r.allowed.getD i []) = 0 := fun i hi => by
                                by_cases e : i = k3
                                · subst e; exact H0.out
                                · exact HTUP.out i (by omega)
                              have hd2 : ∀ i j, j < i → i < k3 + 1 → r.allowed.getD j [] ≠ r.allowed.getD i [] := fun i j hj hi => by
                                by_cases e : i = k3
                                · subst e; exact HALL6.out j (by omega)
                                · exact HDIS.out i j hj (by omega)
                              have HT2 := Lib.hid ht2
                              have HD2 := Lib.hid hd2
                              clear ht2 hd2 hbx
                              go_wp2
                              go_roundw
                              case rel => exact ⟨k3 + 1, by omega, by go_num, HB6.out, HT2.out, HD2.out⟩
                              case measure => simp [intOf]; omega
                    · have htlv : ¬ ((tl : Int) = lv) := by omega
                      have hr : R = 2 := by
                        have e : tupE sizes r.vars (r.allowed.getD k3 []) = 2 := by
                          unfold tupE
                          rw [if_pos (by rw [HTL.out, HLV.out]; exact hne)]
                        rw [HSC.out, e]; rfl
                      subst hr
                      go_wp2
                      go_ret
                      exact ⟨rfl, HB4.out.bel⟩
                  · have hkl3 : ¬ (k3 : Int) < la := by omega
                    have hr : R = 0 := by
                      rw [← HR4.out]
                      exact scan_end (fun i hi => HTUP.out i (by rw [HLA.out] at hi; omega)) (fun i j hj hi => HDIS.out i j hj (by rw [HLA.out] at hi; omega))
                    subst hr
                    clear hbx
                    go_wp2
                    go_ret
                    exact ⟨rfl, HB4.out.bel⟩
end Go.Proofs.Ytamidopeojipkaa
