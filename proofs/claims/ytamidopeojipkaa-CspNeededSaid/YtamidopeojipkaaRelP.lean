/- relation of the program: the walk. -/
import Derived.Test.YtamidopeojipkaaRelW
namespace Go.Proofs.Ytamidopeojipkaa
open Go.RowKit
set_option linter.unusedVariables false

/-- the box -/
structure CyAt (w : World) (v a : Value) (W : World) : Prop where
  bel : Below w.heap.size w W
  r0 : W.heap[w.heap.size]? = some (.cells #[v, a] 46 (0, 0))
theorem CyAt.near {w W W' : World} {v a : Value} {D : Nat → Prop} (h : CyAt w v a W) (hb : Near D W W') (hd : ∀ k, D k → w.heap.size < k) : CyAt w v a W' :=
  ⟨Below.step h.bel hb fun k hk => by have := hd k hk; omega, (hb.block _ (Array.getElem?_eq_some_iff.1 h.r0).1 fun e => by have := hd _ e; omega).trans h.r0⟩
theorem CyAt.next {w W W' : World} {v a : Value} (h : CyAt w v a W) (hb : Below W.heap.size W W') : CyAt w v a W' := h.near (D := fun _ => False) (Below.near hb) (fun k hk => hk.elim)
theorem CyAt.v {w W : World} {v a : Value} (h : CyAt w v a W) : W.cell? ⟨w.heap.size, 0, none⟩ = some v := (cell_row' _ _ 0 _ _ h.r0).trans rfl
theorem CyAt.a {w W : World} {v a : Value} (h : CyAt w v a W) : W.cell? ⟨w.heap.size, 1, none⟩ = some a := (cell_row' _ _ 1 _ _ h.r0).trans rfl

theorem take_at {w : World} {P : Nat → Prop} {vb vo lv vcap : Nat} {xs : List Int} {k : Nat} (h : RowAt w P (some ⟨vb, vo, none⟩) lv vcap 1 vb vo fun j => .int .i64 (xs.getD j 0)) (hk : k ≤ lv) (hl : xs.length = lv) (hp : P vb) :
    IntsAt w P (.slice (some ⟨vb, vo, none⟩) k vcap) (xs.take k) := by
  have hle : (xs.take k).length = k := by rw [List.length_take]; omega
  refine ⟨some ⟨vb, vo, none⟩, vcap, vb, vo, by rw [hle], by rw [hle]; exact Nat.le_trans hk h.hcap, h.hmax, fun _ => ⟨rfl, hp⟩, fun j hj => ?_⟩
  rw [hle] at hj
  rw [h.hc j (by omega)]
  simp [List.getD, show j < k by omega]
/-- a tuple as a triple -/
def pad (t : List Int) : Int × Int × Int := (t.getD 0 0, t.getD 1 0, t.getD 2 0)
theorem pad_inj {t u : List Int} (h : t.length = u.length) (h3 : t.length ≤ 3) (hp : pad t = pad u) : t = u := by
  simp only [pad, Prod.mk.injEq] at hp
  obtain ⟨h0, h1, h2⟩ := hp
  refine List.ext_getElem h fun j hj hj' => ?_
  have : t.getD j 0 = u.getD j 0 := by
    rcases j with _ | _ | _ | j
    · exact h0
    · exact h1
    · exact h2
    · omega
  simpa [List.getD, hj, hj'] using this

theorem wf_small {n : Int} (h0 : 0 ≤ n) (h1 : n ≤ 1000) : (Lit.int .i64 n).wf = true := by
  have h2 : IntKind.i64.min = -9223372036854775808 := by decide
  have h3 : IntKind.i64.max = 9223372036854775807 := by decide
  simp [Lit.wf]
  omega
theorem getD_ge {t : List Int} {i : Nat} (h : t.length ≤ i) : t.getD i 0 = 0 := by
  simp [List.getD, h]
/-- the array of a key, where the first q parts of the tuple are in it -/
def arrT (t : List Int) (q : Nat) : Array Value := #[.int .i64 (if 0 < q then t.getD 0 0 else 0), .int .i64 (if 1 < q then t.getD 1 0 else 0), .int .i64 (if 2 < q then t.getD 2 0 else 0)]
theorem arrT_at {t : List Int} {q : Nat} (hq : q < 3) : (arrT t q)[q]? = some (.int .i64 0) := by
  rcases q with _ | _ | _ | q
  · rfl
  · rfl
  · rfl
  · omega
theorem arrT_step {t : List Int} {q : Nat} (hq : q < 3) : (arrT t q).setIfInBounds q (.int .i64 (t.getD q 0)) = arrT t (q + 1) := by
  rcases q with _ | _ | _ | q
  · rfl
  · rfl
  · rfl
  · omega
theorem arrT_full {t : List Int} {q : Nat} (hq : t.length ≤ q) : Value.agg (arrT t q) = key3 (pad t) := by
  have h : ∀ i, (if i < q then t.getD i 0 else 0) = t.getD i 0 := fun i => by
    split
    · rfl
    · simp [List.getD, show t.length ≤ i by omega]
  unfold arrT key3 pad
  rw [h, h, h]

set_option maxRecDepth 20000 in
set_option maxHeartbeats 1600000 in
theorem relationP_any {w : World} {P : Nat → Prop} {sv vv av : Value} {sizes : List Int} {r : Rel} (hs : IntsAt w P sv sizes) (hv : IntsAt w P vv r.vars) (ha : ListsAt w P av r.allowed) (hP : Under P w.heap.size)
    (hsz : sizes.length ≤ 1000) (hsm : ∀ n, n < sizes.length → sizes.getD n 0 ≤ 1000) :
    Calls Try.prog 30 #[sv, .agg #[vv, av]] w (OneI (relE sizes r) w) := by
  obtain ⟨sa, scap, sb, so, rfl, hsr⟩ := hs
  obtain ⟨va, vcap, vb, vo, rfl, hvr⟩ := hv
  obtain ⟨aa, acap, ab, ao, avs, rfl, har, has⟩ := ha
  obtain ⟨R, hR⟩ : ∃ R, relE sizes r = R := ⟨_, rfl⟩
  rw [hR]
  unfold relE at hR
  have HR := Lib.hid hR
  have HS := Lib.hid hsr
  have HV := Lib.hid hvr
  have HA := Lib.hid har
  have HAS := Lib.hid has
  have HP := Lib.hid hP
  have hsc := hsr.hcap
  have hvc := hvr.hcap
  have hac := har.hcap
  have hsm1 : scap ≤ 9223372036854775807 := by have := hsr.hmax; unfold maxLen at this; omega
  have hvm : vcap ≤ 9223372036854775807 := by have := hvr.hmax; unfold maxLen at this; omega
  have ham : acap ≤ 9223372036854775807 := by have := har.hmax; unfold maxLen at this; omega
  have hbx : CyAt w (.slice va r.vars.length vcap) (.slice aa r.allowed.length acap) (w.alloc (.cells #[.slice va r.vars.length vcap, .slice aa r.allowed.length acap] 46)) := ⟨(Below.refl _ _).alloc (Nat.le_refl _) _, heap_alloc_new _ _⟩
  have HBX := Lib.hid hbx
  have HSM := Lib.hid hsm
  obtain ⟨ls, hls⟩ : ∃ ls, sizes.length = ls := ⟨_, rfl⟩
  obtain ⟨lv, hlv⟩ : ∃ lv, r.vars.length = lv := ⟨_, rfl⟩
  obtain ⟨la, hla⟩ : ∃ la, r.allowed.length = la := ⟨_, rfl⟩
  rw [hls] at HS HR HSM hsc hsz ⊢
  rw [hlv] at HV HR HBX hvc ⊢
  rw [hla] at HA HAS HR HBX hac ⊢
  have HLS := Lib.hid hls
  have HLV := Lib.hid hlv
  have HLA := Lib.hid hla
  clear hR hsr hvr har has hP hbx hls hlv hla hsm
  by_cases hlen : lv < 1
  · have hr := HR.out
    rw [if_pos (.inl hlen)] at hr
    subst hr
    have hl2 : (lv : Int) < 1 := by omega
    go_enter Try.func30, Try.ntmps30
    go_wp2
    go_ret
    exact ⟨rfl, HBX.out.bel⟩
  · by_cases hlen3 : 3 < lv
    · have hr := HR.out
      rw [if_pos (.inr hlen3)] at hr
      subst hr
      have hl2 : ¬ (lv : Int) < 1 := by omega
      have hl3 : (3 : Int) < lv := by omega
      go_enter Try.func30, Try.ntmps30
      go_wp2
      go_ret
      exact ⟨rfl, HBX.out.bel⟩
    · have hr := HR.out
      rw [if_neg (by omega)] at hr
      have HR1 := Lib.hid hr
      clear hr
      have hl2 : ¬ (lv : Int) < 1 := by omega
      have hl3 : ¬ (3 : Int) < lv := by omega
      obtain ⟨rfl, hpv⟩ := HV.out.ha (by omega)
      go_enter Try.func30, Try.ntmps30
      go_wp2
      generalize w.alloc (.cells #[.slice (some ⟨vb, vo, none⟩) lv vcap, .slice aa la acap] 46) = W at *
      go_loopw [28] (fun i wr => ∃ k : Nat, k ≤ lv ∧ i = .int .i64 k ∧ CyAt w (.slice (some ⟨vb, vo, none⟩) lv vcap) (.slice aa la acap) wr ∧ ∀ j, j < k → 0 ≤ r.vars.getD j 0 ∧ r.vars.getD j 0 < ls) (fun i _ => lv - (intOf i).toNat)
      case atStart => exact ⟨0, by omega, rfl, HBX.out, fun j hj => by omega⟩
      case round =>
        obtain ⟨k, hk, rfl, hbx, hall⟩ := hrel
        have HB := Lib.hid hbx
        have HALL := Lib.hid hall
        clear hall
        have c1 := hbx.v
        have c2 := hbx.a
        by_cases hlt : k < lv
        · have d1 := (HV.out.kept (Below.keptB hbx.bel HP.out)).hc k (by omega)
          clear hbx
          have hbad : (r.vars.getD k 0 < 0 ∨ (ls : Int) ≤ r.vars.getD k 0) → R = 1 := fun hb => by
            rw [← HR1.out, if_pos ⟨k, hlt, hb⟩]
          have HBAD := Lib.hid hbad
          have hst : 0 ≤ r.vars.getD k 0 → r.vars.getD k 0 < ls → ∀ j, j < k + 1 → 0 ≤ r.vars.getD j 0 ∧ r.vars.getD j 0 < ls := fun g1 g2 j hj => by
            by_cases e : j = k
            · subst e; exact ⟨g1, g2⟩
            · exact HALL.out j (by omega)
          have HST := Lib.hid hst
          clear hbad hst
          generalize r.vars.getD k 0 = x at *
          by_cases hx0 : x < 0
          · have hr := HBAD.out (.inl hx0)
            subst hr
            go_wp2
            go_ret
            exact ⟨rfl, HB.out.bel⟩
          · by_cases hx1 : (ls : Int) ≤ x
            · have hr := HBAD.out (.inr hx1)
              subst hr
              go_wp2
              go_ret
              exact ⟨rfl, HB.out.bel⟩
            · go_wp2
              go_roundw
              case rel => exact ⟨k + 1, by omega, by go_num, HB.out, HST.out (by omega) (by omega)⟩
              case measure => simp [intOf]; omega
        · have hkl : ¬ (k : Int) < lv := by omega
          clear hbx
          have hvr : ∀ j, j < lv → 0 ≤ r.vars.getD j 0 ∧ r.vars.getD j 0 < ls := fun j hj => HALL.out j (by omega)
          have hr2 := HR1.out
          rw [if_neg (fun ⟨j, hj, hb⟩ => by have := hvr j hj; omega)] at hr2
          have HR2 := Lib.hid hr2
          have HVR := Lib.hid hvr
          clear hr2 hvr
          go_wp2
          go_loopw [44] (fun i wr => ∃ k : Nat, k ≤ lv ∧ i = .int .i64 k ∧ CyAt w (.slice (some ⟨vb, vo, none⟩) lv vcap) (.slice aa la acap) wr ∧ ∀ i j, j < i → i < k → r.vars.getD j 0 ≠ r.vars.getD i 0) (fun i _ => lv - (intOf i).toNat)
          case atStart => exact ⟨0, by omega, rfl, HB.out, fun i j _ hi => by omega⟩
          case round =>
            obtain ⟨k2, hk2, rfl, hbx, hall⟩ := hrel
            have HB2 := Lib.hid hbx
            have HALL2 := Lib.hid hall
            have c0 := hbx.v
            clear hall c1 c2
            by_cases hlt : k2 < lv
            · have d1 := (HV.out.kept (Below.keptB hbx.bel HP.out)).hc k2 (by omega)
              have hcall := contains_any (w := wr) (P := P) (take_at (HV.out.kept (Below.keptB hbx.bel HP.out)) hk2 HLV.out hpv) (HP.out.le hbx.bel.size) (r.vars.getD k2 0)
              have HC := Lib.hid hcall
              have hmem : (r.vars.getD k2 0 ∈ r.vars.take k2) ↔ ∃ j, j < k2 ∧ r.vars.getD j 0 = r.vars.getD k2 0 := by
                rw [List.mem_iff_getElem]
                constructor
                · rintro ⟨j, hj, he⟩
                  rw [List.length_take] at hj
                  refine ⟨j, by omega, ?_⟩
                  rw [← he]
                  have : j < r.vars.length := by omega
                  simp [List.getD, this]
                · rintro ⟨j, hj, he⟩
                  have hjl : j < r.vars.length := by have := HLV.out; omega
                  refine ⟨j, by rw [List.length_take]; omega, ?_⟩
                  rw [← he]
                  simp [List.getD, hjl]
              have HMEM := Lib.hid hmem
              have hb1 : w.heap.size < wr.heap.size := (Array.getElem?_eq_some_iff.1 hbx.r0).1
              clear hcall hbx hmem
              by_cases hin : r.vars.getD k2 0 ∈ r.vars.take k2
              · have hr := HR2.out
                rw [if_pos (by
                  obtain ⟨j, hj, he⟩ := HMEM.out.1 hin
                  exact not_nodup hj (by rw [HLV.out]; exact hlt) he)] at hr
                subst hr
                rw [decide_eq_true hin] at HC
                clear hin
                generalize r.vars.getD k2 0 = x at *
                go_wp2_with (first | (go_at_call 41; refine HC.out.mono ?_; rintro e w3 ⟨rfl, hb3⟩))
                go_ret
                exact ⟨rfl, (HB2.out.next hb3).bel⟩
              · have hst : ∀ i j, j < i → i < k2 + 1 → r.vars.getD j 0 ≠ r.vars.getD i 0 := fun i j hj hi => by
                  by_cases e : i = k2
                  · subst e; exact fun e => hin (HMEM.out.2 ⟨j, hj, e⟩)
                  · exact HALL2.out i j hj (by omega)
                have HST := Lib.hid hst
                rw [decide_eq_false hin] at HC
                clear hin hst
                generalize r.vars.getD k2 0 = x at *
                go_wp2_with (first | (go_at_call 41; refine HC.out.mono ?_; rintro e w3 ⟨rfl, hb3⟩))
                go_roundw
                case rel => exact ⟨k2 + 1, by omega, by go_num, HB2.out.next hb3, HST.out⟩
                case measure => simp [intOf]; omega
            · have hkl2 : ¬ (k2 : Int) < lv := by omega
              have c2 := hbx.a
              have hr3 := HR2.out
              rw [if_neg (fun hn => hn (nodup_of (fun i j hj hi => HALL2.out i j hj (by rw [HLV.out] at hi; omega))))] at hr3
              have HR3 := Lib.hid hr3
              have hb1 : w.heap.size < wr.heap.size := (Array.getElem?_eq_some_iff.1 hbx.r0).1
              clear hr3 hbx
              by_cases hal : 4096 < la
              · have hr := HR3.out
                rw [if_pos hal] at hr
                subst hr
                have hal2 : (4096 : Int) < la := by omega
                go_wp2
                go_ret
                exact ⟨rfl, HB2.out.bel⟩
              · have hr := HR3.out
                rw [if_neg hal] at hr
                have HR4 := Lib.hid hr
                have hal2 : ¬ (4096 : Int) < la := by omega
                clear hr
                have hmm := @run_makeMap Try.prog
                have HB2' := Lib.hid (HB2.out.next ((Below.refl _ wr).alloc (Nat.le_refl _) (.map #[] 0)))
                have HSET := Lib.hid (SetAt.made wr)
                go_wp2
                generalize wr.alloc (.map #[] 0) = W2 at *
                generalize wr.heap.size = m at *
                clear hmm c0 c2
                go_loopw [64] (fun i wr => ∃ k : Nat, k ≤ la ∧ i = .int .i64 k ∧ CyAt w (.slice (some ⟨vb, vo, none⟩) lv vcap) (.slice aa la acap) wr ∧ SetAt wr m ((r.allowed.take k).map pad) ∧ (∀ i, i < k → tupE sizes r.vars (r.allowed.getD i []) = 0) ∧ ∀ i j, j < i → i < k → r.allowed.getD j [] ≠ r.allowed.getD i []) (fun i _ => la - (intOf i).toNat)
                case atStart => exact ⟨0, by omega, rfl, HB2'.out, HSET.out, fun i hi => by omega, fun i j _ hi => by omega⟩
                case round =>
                  obtain ⟨k3, hk3, rfl, hbx, hset, htup, hdis⟩ := hrel
                  have HB4 := Lib.hid hbx
                  have HS4 := Lib.hid hset
                  have HTUP := Lib.hid htup
                  have HDIS := Lib.hid hdis
                  clear htup hdis
                  have hmlt := hset.lt
                  by_cases hlt3 : k3 < la
                  · obtain ⟨rfl, hpa⟩ := HA.out.ha (by omega)
                    have c1 := hbx.v
                    have d1 := (HA.out.kept (Below.keptB hbx.bel HP.out)).hc k3 (by omega)
                    have hscan := scan_at (sizes := sizes) (vars := r.vars) (xs := r.allowed) (k := k3) (by rw [HLA.out]; exact hlt3) HTUP.out HDIS.out
                    rw [HR4.out] at hscan
                    have HSC := Lib.hid hscan
                    obtain ⟨ta, tc, tb, to, htv, htr⟩ := HAS.out k3 hlt3
                    have HT := Lib.hid htr
                    rw [htv] at d1
                    have htc := htr.hcap
                    have htm : tc ≤ 9223372036854775807 := by have := htr.hmax; unfold maxLen at this; omega
                    obtain ⟨tl, htl⟩ : ∃ tl, (r.allowed.getD k3 []).length = tl := ⟨_, rfl⟩
                    rw [htl] at d1 HT htc
                    have HTL := Lib.hid htl
                    clear hbx hset hscan htr htv htl
                    by_cases hne : tl = lv
                    · have htlv : ¬ ((tl : Int) ≠ lv) := by omega
                      have hne2 : (tl : Int) = lv := by omega
                      subst hne
                      have hbl5 := (Below.refl wr.heap.size wr).alloc (Nat.le_refl _) (.cells #[.int .i64 0, .int .i64 0, .int .i64 0] 63)
                      have HB5 := Lib.hid (HB4.out.next hbl5)
                      have HS5 := Lib.hid (HS4.out.block (hbl5.block m hmlt))
                      have hrow5 : (wr.alloc (.cells #[.int .i64 0, .int .i64 0, .int .i64 0] 63)).heap[wr.heap.size]? = some (.cells (arrT (r.allowed.getD k3 []) 0) 63 (0, 0)) := heap_alloc_new _ _
                      have HROW5 := Lib.hid hrow5
                      have hwk : w.heap.size < wr.heap.size := by have := HB4.out; exact (Array.getElem?_eq_some_iff.1 this.r0).1
                      clear hbl5 hrow5
                      go_wp2
                      generalize wr.alloc (.cells #[.int .i64 0, .int .i64 0, .int .i64 0] 63) = W5 at *
                      generalize wr.heap.size = kb at *
                      clear c1 d1
                      go_loopw [76] (fun i wr => ∃ q : Nat, q ≤ tl ∧ i = .int .i64 q ∧ CyAt w (.slice (some ⟨vb, vo, none⟩) tl vcap) (.slice (some ⟨ab, ao, none⟩) la acap) wr ∧ SetAt wr m ((r.allowed.take k3).map pad) ∧ wr.heap[kb]? = some (.cells (arrT (r.allowed.getD k3 []) q) 63 (0, 0)) ∧ ∀ j, j < q → ¬ ((r.allowed.getD k3 []).getD j 0 < 0 ∨ sizes.getD (r.vars.getD j 0).toNat 0 ≤ (r.allowed.getD k3 []).getD j 0)) (fun i _ => tl - (intOf i).toNat)
                      case atStart => exact ⟨0, by omega, rfl, HB5.out, HS5.out, HROW5.out, fun j hj => by omega⟩
                      case round =>
                        obtain ⟨q, hq, rfl, hbx, hset, hrow, hall⟩ := hrel
                        have HB6 := Lib.hid hbx
                        have HS6 := Lib.hid hset
                        have HROW6 := Lib.hid hrow
                        have HALL6 := Lib.hid hall
                        clear hall
                        by_cases hql : q < tl
                        · obtain ⟨rfl, hpt⟩ := HT.out.ha (by omega)
                          have e1 := hbx.v
                          have f1 := (HT.out.kept (Below.keptB hbx.bel HP.out)).hc q (by omega)
                          have f2 := (HV.out.kept (Below.keptB hbx.bel HP.out)).hc q (by omega)
                          have hvq := HVR.out q (by omega)
                          obtain ⟨rfl, hps⟩ := HS.out.ha (by omega)
                          obtain ⟨n, hn⟩ : ∃ n : Nat, r.vars.getD q 0 = n := ⟨(r.vars.getD q 0).toNat, by omega⟩
                          have hn2 : n < ls := by omega
                          have f3 := (HS.out.kept (Below.keptB hbx.bel HP.out)).hc n (by omega)
                          rw [hn] at f2
                          have hbad : ((r.allowed.getD k3 []).getD q 0 < 0 ∨ sizes.getD n 0 ≤ (r.allowed.getD k3 []).getD q 0) → R = 1 := fun hb => by
                            have e : tupE sizes r.vars (r.allowed.getD k3 []) = 1 := by
                              unfold tupE
                              rw [if_neg (by rw [HTL.out, HLV.out]; simp), if_pos ⟨q, by rw [HTL.out]; exact hql, by rw [hn]; exact hb⟩]
                            rw [HSC.out, e]; rfl
                          have hst : ¬ ((r.allowed.getD k3 []).getD q 0 < 0 ∨ sizes.getD n 0 ≤ (r.allowed.getD k3 []).getD q 0) → ∀ j, j < q + 1 → ¬ ((r.allowed.getD k3 []).getD j 0 < 0 ∨ sizes.getD (r.vars.getD j 0).toNat 0 ≤ (r.allowed.getD k3 []).getD j 0) := fun hb j hj => by
                            by_cases e : j = q
                            · subst e; rw [hn]; exact hb
                            · exact HALL6.out j (by omega)
                          have HBAD := Lib.hid hbad
                          have HST := Lib.hid hst
                          have HARR := Lib.hid (arrT_step (t := r.allowed.getD k3 []) (q := q) (by omega))
                          have g1 : wr.cell? ⟨kb, q, none⟩ = some (.int .i64 0) := (cell_row' _ _ q _ _ hrow).trans (arrT_at (by omega))
                          have g2 := frozen_row' wr kb q _ _ hrow
                          clear hbad hst hbx hvq hn hset hrow
                          generalize (r.allowed.getD k3 []).getD q 0 = x at *
                          generalize sizes.getD n 0 = y at *
                          by_cases hx0 : x < 0
                          · have hr := HBAD.out (.inl hx0)
                            subst hr
                            have g0 : decide (x < 0) = true := by simp [hx0]
                            go_wp2
                            go_ret
                            exact ⟨rfl, HB6.out.bel⟩
                          · have g0 : decide (x < 0) = false := by simp [hx0]
                            by_cases hx1 : y ≤ x
                            · have hr := HBAD.out (.inr hx1)
                              subst hr
                              go_wp2
                              go_ret
                              exact ⟨rfl, HB6.out.bel⟩
                            · go_wp2
                              have hon := (Only.refl (fun b => b = kb) wr).setCell (b := kb) rfl q (.int .i64 x)
                              have hrow7 := (setCell_row q (.int .i64 x) HROW6.out).trans (by rw [HARR.out])
                              go_roundw
                              case rel => exact ⟨q + 1, by omega, by go_num, HB6.out.near hon.near (fun b hb => by rw [hb]; exact hwk), HS6.out.block (hon.block m (fun e => by omega)), hrow7, HST.out (by omega)⟩
                              case measure => simp [intOf]; omega
                        · have hql2 : ¬ (q : Int) < tl := by omega
                          have htup0 : tupE sizes r.vars (r.allowed.getD k3 []) = 0 := by
                            unfold tupE
                            rw [if_neg (by rw [HTL.out, HLV.out]; simp), if_neg (by
                              rintro ⟨j, hj, hb⟩
                              exact HALL6.out j (by rw [HTL.out] at hj; omega) hb)]
                          have hs6 := HSC.out
                          rw [if_neg (by rw [htup0]; simp)] at hs6
                          have H6 := Lib.hid hs6
                          have H0 := Lib.hid htup0
                          have hfit : Fit3 (pad (r.allowed.getD k3 [])) := by
                            have hp : ∀ i, (Lit.int .i64 ((r.allowed.getD k3 []).getD i 0)).wf = true := fun i => by
                              by_cases hi : i < tl
                              · have h1 := HALL6.out i (by omega)
                                have h2 := HVR.out i (by omega)
                                have h3 := HSM.out (r.vars.getD i 0).toNat (by omega)
                                exact wf_small (by omega) (by omega)
                              · rw [getD_ge (t := r.allowed.getD k3 []) (i := i) (by rw [HTL.out]; omega)]
                                exact wf_small (by omega) (by omega)
                            exact ⟨hp 0, hp 1, hp 2⟩
                          have hmemP : (pad (r.allowed.getD k3 []) ∈ (r.allowed.take k3).map pad) ↔ r.allowed.getD k3 [] ∈ r.allowed.take k3 := by
                            rw [List.mem_map]
                            constructor
                            · rintro ⟨u, hu, he⟩
                              obtain ⟨j, hj, hju⟩ := List.mem_iff_getElem.1 hu
                              rw [List.length_take] at hj
                              have hjl : j < r.allowed.length := by omega
                              have hju2 : r.allowed.getD j [] = u := by rw [← hju]; simp [List.getD, hjl]
                              have h0 := HTUP.out j (by omega)
                              have hul : u.length = r.vars.length := by
                                unfold tupE at h0
                                rw [hju2] at h0
                                by_cases e : u.length = r.vars.length
                                · exact e
                                · rw [if_pos e] at h0; cases h0
                              rw [← pad_inj (by rw [hul, HLV.out, HTL.out]) (by rw [hul, HLV.out]; omega) he]
                              exact hu
                            · exact fun hu => ⟨_, hu, rfl⟩
                          have hstep : (r.allowed.take k3).map pad ++ [pad (r.allowed.getD k3 [])] = (r.allowed.take (k3 + 1)).map pad := by
                            have hk : k3 < r.allowed.length := by rw [HLA.out]; exact hlt3
                            rw [List.take_succ_eq_append_getElem hk, List.map_append]
                            simp [List.getD, hk]
                          have hlook := hset.look hfit
                          have hfull : arrT (r.allowed.getD k3 []) q = #[.int .i64 (pad (r.allowed.getD k3 [])).1, .int .i64 (pad (r.allowed.getD k3 [])).2.1, .int .i64 (pad (r.allowed.getD k3 [])).2.2] := by
                            have := arrT_full (t := r.allowed.getD k3 []) (q := q) (by rw [HTL.out]; omega)
                            unfold key3 at this
                            exact Value.agg.inj this
                          rw [hfull] at hrow
                          have k0 := (cell_row' _ _ 0 _ _ hrow).trans rfl
                          have k1 := (cell_row' _ _ 1 _ _ hrow).trans rfl
                          have k2' := (cell_row' _ _ 2 _ _ hrow).trans rfl
                          have HFIT := Lib.hid hfit
                          have HMP := Lib.hid hmemP
                          have HSTP := Lib.hid hstep
                          unfold key3 at hlook
                          clear hbx hset hrow htup0 hs6 hfull hstep hfit hmemP
                          by_cases hin : pad (r.allowed.getD k3 []) ∈ (r.allowed.take k3).map pad
                          · have hr := H6.out
                            rw [if_pos (HMP.out.1 hin)] at hr
                            subst hr
                            rw [decide_eq_true hin] at hlook
                            clear hin
                            generalize pad (r.allowed.getD k3 []) = pp at *
                            obtain ⟨p0, p1, p2⟩ := pp
                            go_wp2
                            go_ret
                            exact ⟨rfl, HB6.out.bel⟩
                          · have ht2 : ∀ i, i < k3 + 1 → tupE sizes r.vars (r.allowed.getD i []) = 0 := fun i hi => by
                              by_cases e : i = k3
                              · subst e; exact H0.out
                              · exact HTUP.out i (by omega)
                            have hd2 : ∀ i j, j < i → i < k3 + 1 → r.allowed.getD j [] ≠ r.allowed.getD i [] := fun i j hj hi => by
                              by_cases e : i = k3
                              · subst e
                                intro e2
                                refine hin (HMP.out.2 ?_)
                                rw [← e2]
                                have hjl : j < r.allowed.length := by have := HLA.out; omega
                                have : r.allowed.getD j [] = (r.allowed.take i)[j]'(by rw [List.length_take]; omega) := by simp [List.getD, hjl]
                                rw [this]
                                exact List.getElem_mem _
                              · exact HDIS.out i j hj (by omega)
                            have HT2 := Lib.hid ht2
                            have HD2 := Lib.hid hd2
                            rw [decide_eq_false hin] at hlook
                            have HIN := Lib.hid hin
                            clear ht2 hd2 hin
                            generalize pad (r.allowed.getD k3 []) = pp at *
                            obtain ⟨p0, p1, p2⟩ := pp
                            go_wp2_with (first | (at_mapUpdate; refine wpList_add rfl _ _ _ rfl rfl HS6.out (p0, p1, p2) rfl rfl HFIT.out HIN.out ?_; intro w5 s5 hz5 hg5))
                            have hon := Only.of_grown hg5 hz5
                            rw [HSTP.out] at s5
                            go_roundw
                            case rel => exact ⟨k3 + 1, by omega, by go_num, HB6.out.near hon.near (fun b hb => by omega), s5, HT2.out, HD2.out⟩
                            case measure => simp [intOf]; omega
                    · have htlv : ¬ ((tl : Int) = lv) := by omega
                      have hr : R = 2 := by
                        have e : tupE sizes r.vars (r.allowed.getD k3 []) = 2 := by
                          unfold tupE
                          rw [if_pos (by rw [HTL.out, HLV.out]; exact hne)]
                        rw [HSC.out, e]; rfl
                      subst hr
                      go_wp2
                      go_ret
                      exact ⟨rfl, HB4.out.bel⟩
                  · have hkl3 : ¬ (k3 : Int) < la := by omega
                    have hr : R = 0 := by
                      rw [← HR4.out]
                      exact scan_end (fun i hi => HTUP.out i (by rw [HLA.out] at hi; omega)) (fun i j hj hi => HDIS.out i j hj (by rw [HLA.out] at hi; omega))
                    subst hr
                    clear hbx hset
                    go_wp2
                    go_ret
                    exact ⟨rfl, HB4.out.bel⟩
end Go.Proofs.Ytamidopeojipkaa
