/- revise: the walk. -/
import Derived.Test.YtamidopeojipkaaFine
import Derived.WalkMore
import Derived.Deep.LoopGhost
namespace Go.Proofs.Ytamidopeojipkaa
open Go.RowKit
set_option linter.unusedVariables false

set_option maxRecDepth 20000 in
set_option maxHeartbeats 1600000 in
theorem revise_any {w : World} {P : Nat → Prop} {vv av lv : Value} {base : Nat} {sizes : List Int} {r : Rel} {bs : Nat → Nat} {f : Nat → Nat → Bool} (hv : IntsAt w P vv r.vars) (ha : ListsAt w P av r.allowed) (hP : Under P w.heap.size)
    (hfine : Fine sizes r) (htab : TabAt w base lv bs sizes.length (szs sizes) f) (hPT : ∀ k, P k → ¬ Tabs lv bs sizes.length k) (hm : ∀ i, szs sizes i ≤ 1000) :
    Calls Try.prog 33 #[lv, .agg #[vv, av]] w fun e w' => ∃ c f', e = .returned (.bool c) ∧ TabAt w' base lv bs sizes.length (szs sizes) f' ∧ Near (Tabs lv bs sizes.length) w w' ∧ RevP r sizes.length (szs sizes) f f' c := by
  obtain ⟨va, vcap, vb, vo, rfl, hvr⟩ := hv
  obtain ⟨aa, acap, ab, ao, avs, rfl, har, has⟩ := ha
  have HV := Lib.hid hvr
  have HA := Lib.hid har
  have HAS := Lib.hid has
  have HP := Lib.hid hP
  have HPT := Lib.hid hPT
  have HT := Lib.hid htab
  have HF := Lib.hid hfine
  have HM := Lib.hid hm
  have hvc := hvr.hcap
  have hac := har.hcap
  have hvm : vcap ≤ 9223372036854775807 := by have := hvr.hmax; unfold maxLen at this; omega
  have ham : acap ≤ 9223372036854775807 := by have := har.hmax; unfold maxLen at this; omega
  have hbx : CyAt w (.slice va r.vars.length vcap) (.slice aa r.allowed.length acap) (w.alloc (.cells #[.slice va r.vars.length vcap, .slice aa r.allowed.length acap] 46)) := ⟨(Below.refl _ _).alloc (Nat.le_refl _) _, heap_alloc_new _ _⟩
  have HBX := Lib.hid hbx
  have hl1 := hfine.len1
  have hl3 := hfine.len3
  have hla := hfine.few
  have hls : sizes.length ≠ 0 := by have := (hfine.var 0 hl1).2; omega
  obtain ⟨g, gcap, hlve, hgc, hgm, hgl, hgb, hgc2⟩ : ∃ g cap, lv = .slice (some ⟨g, 0, none⟩) sizes.length cap ∧ sizes.length ≤ cap ∧ cap ≤ 9223372036854775807 ∧ g < w.heap.size ∧ base ≤ g ∧ ∀ i, i < sizes.length → w.cell? ⟨g, i, none⟩ = some (.slice (some ⟨bs i, 0, none⟩) (szs sizes i) (szs sizes i)) := by
    rcases htab.shape with ⟨_, h0⟩ | h0
    · exact absurd h0 hls
    · exact h0
  have HG := Lib.hid hgc2
  obtain ⟨n, hn⟩ : ∃ n, sizes.length = n := ⟨_, rfl⟩
  obtain ⟨m, hmm⟩ : ∃ m, szs sizes = m := ⟨_, rfl⟩
  obtain ⟨kv, hkv⟩ : ∃ kv, r.vars.length = kv := ⟨_, rfl⟩
  obtain ⟨ka, hka⟩ : ∃ ka, r.allowed.length = ka := ⟨_, rfl⟩
  rw [hn, hmm] at HT HG
  rw [hmm] at HM
  rw [hn] at hgc HPT hlve ⊢
  rw [hmm]
  rw [hkv] at HV HBX hvc hl1 hl3 ⊢
  rw [hka] at HA HAS HBX hac hla ⊢
  subst hlve
  have HKV := Lib.hid hkv
  have HKA := Lib.hid hka
  have HN := Lib.hid hn
  have HMM := Lib.hid hmm
  obtain ⟨rfl, hpv⟩ := HV.out.ha (by omega)
  clear hvr har has hP hbx hls hfine htab hm hgc2 hPT hn hmm hkv hka
  go_enter Try.func33, Try.ntmps33
  go_wp2
  go_step3
  go_wp2
  generalize w.alloc (.cells #[.slice (some ⟨vb, vo, none⟩) kv vcap, .slice aa ka acap] 46) = W at *
  go_loopw [5, 22] (fun v i wr => ∃ (k : Nat) (sbs : Nat → Nat) (m2 : Nat → Nat) (f2 : Nat → Nat → Bool), k ≤ kv ∧ i = .int .i64 k ∧ CyAt w (.slice (some ⟨vb, vo, none⟩) kv vcap) (.slice aa ka acap) wr ∧ TabAt wr (w.heap.size + 1) v sbs k m2 f2 ∧ (∀ i, i < k → m2 i = m (vN r i)) ∧ ∀ i j, i < k → j < m2 i → f2 i j = false) (fun _ i _ => kv - (intOf i).toNat)
  case atStart => exact ⟨0, fun _ => 0, fun _ => 0, fun _ _ => true, by omega, rfl, HBX.out, TabAt.nil _ _ _ _ _, fun i hi => by omega, fun i j hi => by omega⟩
  case round =>
    obtain ⟨k, sbs, m2, f2, hk, rfl, hbx, hst, hm2, hf2⟩ := hrel
    have HB := Lib.hid hbx
    have HST := Lib.hid hst
    have HM2 := Lib.hid hm2
    have HF2 := Lib.hid hf2
    clear hm2 hf2
    have c0 := hbx.v
    have c1 := hbx.a
    by_cases hlt : k < kv
    · have d1 := (HV.out.kept (Below.keptB hbx.bel HP.out)).hc k (by omega)
      obtain ⟨hvk, hvk2⟩ := HF.out.var k (by rw [HKV.out]; exact hlt)
      rw [HN.out] at hvk2
      rw [hvk] at d1
      have d2 := (hbx.bel.cell (p := ⟨g, vN r k, none⟩) hgl).trans (HG.out (vN r k) hvk2)
      have hmk := HM.out (vN r k)
      have HMK : Hid (m (vN r k) = m (vN r k)) := Lib.hid rfl
      generalize wr = WO at *
      have HNEW := Lib.hid (heap_alloc_new WO (.cells (rowB (fun _ => false) (m (vN r k))) 4))
      have hbw := (Below.refl _ WO).alloc (Nat.le_refl _) (.cells (rowB (fun _ => false) (m (vN r k))) 4)
      have htw := hst.below hbw
      have HTW := Lib.hid htw
      have HTO := Lib.hid hst
      have HBW := Lib.hid hbw
      have hbase : w.heap.size + 1 ≤ WO.heap.size := (Array.getElem?_eq_some_iff.1 hbx.r0).1
      have hsz : (WO.alloc (.cells (rowB (fun _ => false) (m (vN r k))) 4)).heap.size = WO.heap.size + 1 := World.size_alloc _ _
      have HSZ := Lib.hid hsz
      clear hbx hst hbw htw hsz
      go_wp2_with (first | (refine wpList_mkB rfl _ _ rfl (m (vN r k)) rfl rfl (by omega) ?_) | (refine wpList_pushV und30 info33 rfl (by omega) rfl (.tmp 26) (.tmp 33) rfl (w.heap.size + 1) _ k _ _ rfl rfl HTW.out.own (by rw [HSZ.out]; rfl) (by omega) (by rw [HSZ.out]; omega) ?_; intro v5 w5 ho5 hg5 ha5))
      have hlt5 := HB.out.r0
      go_roundw
      case rel => exact ⟨k + 1, _, _, _, by omega, by go_num, HB.out.near ((Below.near HBW.out).trans' (near_grown hg5) (fun k _ hk => hk)) (fun k hk => HTW.out.base k (.inl hk)), HTW.out.push HNEW.out (by omega) (fun e => by have := HTO.out.lt _ e; omega) ho5 hg5 ha5, fun i hi => by
            by_cases e : i = k
            · simp only [if_pos e]; rw [e]
            · simp only [if_neg e]; exact HM2.out i (by omega), fun i j hi hj => by
            by_cases e : i = k
            · simp only [if_pos e]
            · simp only [if_neg e] at hj ⊢; exact HF2.out i j (by omega) hj⟩
      case measure => simp [intOf]; omega
    · have hkl : ¬ (k : Int) < kv := by omega
      have hk' : k = kv := by omega
      subst hk'
      generalize wr = W1 at *
      obtain ⟨sg, scap, hsv, hsc, hscm, hsgl, hsgb, hcell⟩ : ∃ g cap, u5 = .slice (some ⟨g, 0, none⟩) k cap ∧ k ≤ cap ∧ cap ≤ 9223372036854775807 ∧ g < W1.heap.size ∧ w.heap.size + 1 ≤ g ∧ ∀ i, i < k → W1.cell? ⟨g, i, none⟩ = some (.slice (some ⟨sbs i, 0, none⟩) (m2 i) (m2 i)) := by
        rcases hst.shape with ⟨_, h0⟩ | h0
        · omega
        · exact h0
      subst hsv
      have hst2 : TabAt W1 (w.heap.size + 1) (.slice (some ⟨sg, 0, none⟩) k scap) sbs k m2 (spB f r 0) := hst.congr fun i j hi hj => by rw [HF2.out i j hi hj, spB_zero]
      have HST2 := Lib.hid hst2
      clear hbx hst hcell hst2
      go_wp2
      go_step3
      go_wp2
      clear c0 c1
      go_loopg [39] ka (fun g39 i wr => ∃ J : Nat, J + g39 = ka ∧ i = .int .i64 J ∧ CyAt w (.slice (some ⟨vb, vo, none⟩) k vcap) (.slice aa ka acap) wr ∧ TabAt wr (w.heap.size + 1) (.slice (some ⟨sg, 0, none⟩) k scap) sbs k m2 (spB f r J))
      case atStart => exact ⟨0, by omega, rfl, HB.out, HST2.out⟩
      case round =>
        obtain ⟨J, hJ, rfl, hbx, hst⟩ := hrel
        have HB2 := Lib.hid hbx
        have HST3 := Lib.hid hst
        have c0 := hbx.v
        have c1 := hbx.a
        cases gk with
        | zero =>
          have hkl : ¬ (J : Int) < ka := by omega
          have hrv : RvAt w wr base (.slice (some ⟨g, 0, none⟩) n gcap) bs n m (.slice (some ⟨vb, vo, none⟩) k vcap) (.slice aa ka acap) (.slice (some ⟨sg, 0, none⟩) k scap) sbs k m2 (spB f r r.allowed.length) f :=
            ⟨Below.near hbx.bel, hbx.r0, by rw [show J = ka by omega] at hst; rw [HKA.out]; exact hst, HT.out.below hbx.bel⟩
          have HRV := Lib.hid hrv
          clear hbx hst hrv c1
          generalize wr = W5 at *
          go_wp2
          clear c0
          go_loopg [14, 81] k (fun g81 ch i wr => ∃ (p : Nat) (f' : Nat → Nat → Bool) (c : Bool), p + g81 = k ∧ i = .int .i64 p ∧ ch = .bool c ∧ RvAt w wr base (.slice (some ⟨g, 0, none⟩) n gcap) bs n m (.slice (some ⟨vb, vo, none⟩) k vcap) (.slice aa ka acap) (.slice (some ⟨sg, 0, none⟩) k scap) sbs k m2 (spB f r r.allowed.length) f' ∧ RevQ r n m f f' c p 0)
          case atStart => exact ⟨0, f, false, by omega, rfl, rfl, HRV.out, RevQ.start _ _ _ _⟩
          case round =>
            obtain ⟨p, f', c, hp, rfl, rfl, hrv, hq⟩ := hrel
            have HRV2 := Lib.hid hrv
            have HQ := Lib.hid hq
            clear hq
            cases gk with
            | zero =>
              have hkl : ¬ (p : Int) < k := by omega
              clear hrv
              go_wp2
              try rw [Exit.noGoto_ret]
              go_ret
              exact ⟨c, f', rfl, HRV2.out.tab, HRV2.out.near, HQ.out.fin (by rw [HKV.out]; omega)⟩
            | succ gk6 =>
              have hpl : p < k := by omega
              have hkept := hrv.near.kept HP.out HPT.out
              have d1 := (HV.out.kept hkept).hc p (by omega)
              obtain ⟨hvp, hvp2⟩ := HF.out.var p (by rw [HKV.out]; exact hpl)
              rw [HN.out] at hvp2
              rw [hvp] at d1
              have d2 := hrv.sup.at hpl
              have hmp := HM2.out p hpl
              rw [hmp] at d2
              have HMP := Lib.hid hmp
              have hmk := HM.out (vN r p)
              clear hrv hkept hmp
              go_wp2
              clear d1 d2
              go_loopg [14, 91] (m (vN r p)) (fun g91 ch i wr => ∃ (x : Nat) (f' : Nat → Nat → Bool) (c : Bool), x + g91 = m (vN r p) ∧ i = .int .i64 x ∧ ch = .bool c ∧ RvAt w wr base (.slice (some ⟨g, 0, none⟩) n gcap) bs n m (.slice (some ⟨vb, vo, none⟩) k vcap) (.slice aa ka acap) (.slice (some ⟨sg, 0, none⟩) k scap) sbs k m2 (spB f r r.allowed.length) f' ∧ RevQ r n m f f' c p x)
              case atStart => exact ⟨0, f', c, by omega, rfl, rfl, HRV2.out, HQ.out⟩
              case round =>
                obtain ⟨x, f', c, hx, rfl, rfl, hrv, hq⟩ := hrel
                have HRV3 := Lib.hid hrv
                have HQ3 := Lib.hid hq
                clear hq
                cases gk with
                | zero =>
                  have hkl : ¬ (x : Int) < m (vN r p) := by omega
                  clear hrv
                  go_wp2
                  go_roundg gk6
                  case measure => omega
                  case rel => exact ⟨p + 1, f', c, by omega, by go_num, rfl, HRV3.out, HQ3.out.next (by omega)⟩
                | succ gk7 =>
                  have hxl : x < m (vN r p) := by omega
                  have d1 := hrv.tab.at hvp2
                  obtain ⟨d2, d3⟩ := hrv.tab.flag hvp2 hxl
                  obtain ⟨d4, d5⟩ := hrv.sup.flag hpl (j := x) (by rw [HMP.out]; exact hxl)
                  have HLT := Lib.hid (HT.out.lt)
                  clear hrv d5
                  by_cases hf1 : f' (vN r p) x = true
                  · rw [hf1] at d2
                    have HF1 := Lib.hid hf1
                    clear hf1
                    by_cases hsp : spB f r r.allowed.length p x = true
                    · rw [hsp] at d4
                      have HSP := Lib.hid (spB_supp.1 hsp)
                      clear hsp
                      go_wp2
                      go_roundg gk7
                      case measure => omega
                      case rel => exact ⟨x + 1, f', c, by omega, by go_num, rfl, HRV3.out, HQ3.out.keep fun _ => HSP.out⟩
                    · have hsp2 : spB f r r.allowed.length p x = false := by simpa using hsp
                      rw [hsp2] at d4
                      have HSP := Lib.hid (fun e => hsp (spB_supp.2 e))
                      clear hsp hsp2
                      go_wp2
                      go_roundg gk7
                      case measure => omega
                      case rel => exact ⟨x + 1, _, true, by omega, by go_num, rfl, HRV3.out.set HLT.out hvp2 x false, HQ3.out.drop (by rw [HKV.out]; exact hpl) hvp2 hxl HF1.out HSP.out⟩
                  · have hf2 : f' (vN r p) x = false := by simpa using hf1
                    rw [hf2] at d2
                    have HF1 := Lib.hid hf1
                    clear hf1 hf2
                    go_wp2
                    go_roundg gk7
                    case measure => omega
                    case rel => exact ⟨x + 1, f', c, by omega, by go_num, rfl, HRV3.out, HQ3.out.keep fun e => absurd e HF1.out⟩
        | succ gk2 =>
          have hJl : J < ka := by omega
          obtain ⟨rfl, hpa⟩ := HA.out.ha (by omega)
          have d1 := (HA.out.kept (Below.keptB hbx.bel HP.out)).hc J (by omega)
          obtain ⟨ta, tc, tb, to, htv, htr⟩ := HAS.out J hJl
          have HTR := Lib.hid htr
          have htl := HF.out.wide J (by rw [HKA.out]; exact hJl)
          rw [HKV.out] at htl
          have htc := htr.hcap
          have htm : tc ≤ 9223372036854775807 := by have := htr.hmax; unfold maxLen at this; omega
          rw [htv] at d1
          rw [htl] at d1 htc HTR
          obtain ⟨rfl, hpt⟩ := HTR.out.ha (by omega)
          clear hbx hst htv htr htl
          generalize wr = W2 at *
          go_wp2
          clear c0 c1 d1
          go_loopg [45] k (fun g45 i wr => ∃ q : Nat, q + g45 = k ∧ i = .int .i64 q ∧ Below W2.heap.size W2 wr ∧ ∀ i, i < q → f (vN r i) (tN r J i) = true)
          case atStart => exact ⟨0, by omega, rfl, Below.refl _ _, fun i hi => by omega⟩
          case round =>
            obtain ⟨q, hq, rfl, hb3, hall⟩ := hrel
            have HB3 := Lib.hid hb3
            have HALL := Lib.hid hall
            have hbx := HB2.out.next hb3
            have HBX3 := Lib.hid hbx
            have c0 := hbx.v
            have c1 := hbx.a
            clear hall
            cases gk with
            | zero =>
              have hkl : ¬ (q : Int) < k := by omega
              have hok : okT f r J := fun i hi => HALL.out i (by rw [HKV.out] at hi; omega)
              have HOK := Lib.hid hok
              have htw := HST3.out.below hb3
              have HTW := Lib.hid htw
              clear hb3 hbx hok htw
              go_wp2
              generalize wr = W3 at *
              clear c0 c1
              have hq' : q = k := by omega
              subst hq'
              go_loopg [65] q (fun g65 i wr => ∃ p : Nat, p + g65 = q ∧ i = .int .i64 p ∧ CyAt w (.slice (some ⟨vb, vo, none⟩) q vcap) (.slice (some ⟨ab, ao, none⟩) ka acap) wr ∧ TabAt wr (w.heap.size + 1) (.slice (some ⟨sg, 0, none⟩) q scap) sbs q m2 (spQ f r J p))
              case atStart => exact ⟨0, by omega, rfl, HBX3.out, by rw [spQ_zero]; exact HTW.out⟩
              case round =>
                obtain ⟨p, hp, rfl, hbx, htab⟩ := hrel
                have HBX4 := Lib.hid hbx
                have HTAB := Lib.hid htab
                cases gk with
                | zero =>
                  have hkl : ¬ (p : Int) < q := by omega
                  clear hbx htab
                  go_wp2
                  go_roundg gk2
                  case measure => omega
                  case rel => exact ⟨J + 1, by omega, by go_num, HBX4.out, HTAB.out.congr fun i j hi _ => by
                    have := spQ_full HOK.out (k := i) (by rw [HKV.out]; exact hi) j
                    rw [HKV.out] at this
                    rw [show p = q by omega]; exact this⟩
                | succ gk4 =>
                  have hpl : p < q := by omega
                  have d1 := (HTR.out.kept (Below.keptB hbx.bel HP.out)).hc p (by omega)
                  obtain ⟨htq, htq2⟩ := HF.out.tup J p (by rw [HKA.out]; exact hJl) (by rw [HKV.out]; exact hpl)
                  rw [HMM.out, ← HM2.out p hpl] at htq2
                  rw [htq] at d1
                  have d2 := htab.at hpl
                  obtain ⟨d3, d4⟩ := htab.flag hpl htq2
                  have hon := (Only.refl (fun b => b = sbs p) wr).setCell (b := sbs p) rfl (tN r J p) (.bool true)
                  have HON := Lib.hid hon
                  have hmk := HM.out (vN r p)
                  rw [← HM2.out p hpl] at hmk
                  have hbase := (htab.rows p hpl).1
                  clear hbx htab hon
                  go_wp2
                  go_roundg gk4
                  case measure => omega
                  case rel => exact ⟨p + 1, by omega, by go_num, HBX4.out.near HON.out.near (fun b hb => by rw [hb]; exact hbase), by
                    have := HTAB.out.set hpl (tN r J p) true
                    rw [spQ_step] at this
                    exact this⟩
            | succ gk3 =>
              have hql : q < k := by omega
              have d1 := (HTR.out.kept (Below.keptB hbx.bel HP.out)).hc q (by omega)
              have d2 := (HV.out.kept (Below.keptB hbx.bel HP.out)).hc q (by omega)
              obtain ⟨hvq, hvq2⟩ := HF.out.var q (by rw [HKV.out]; exact hql)
              rw [HN.out] at hvq2
              obtain ⟨htq, htq2⟩ := HF.out.tup J q (by rw [HKA.out]; exact hJl) (by rw [HKV.out]; exact hql)
              rw [HMM.out] at htq2
              rw [hvq] at d2
              rw [htq] at d1
              have d3 := (hbx.bel.cell (p := ⟨g, vN r q, none⟩) hgl).trans (HG.out (vN r q) hvq2)
              have d4 : wr.cell? ⟨bs (vN r q), tN r J q, none⟩ = some (.bool (f (vN r q) (tN r J q))) := (cell_row' _ _ _ _ _ ((HT.out.below hbx.bel).row hvq2)).trans (rowB_at _ htq2)
              have hmk := HM.out (vN r q)
              clear hb3 hbx
              by_cases hfl : f (vN r q) (tN r J q) = true
              · rw [hfl] at d4
                have hst : ∀ i, i < q + 1 → f (vN r i) (tN r J i) = true := fun i hi => by
                  by_cases e : i = q
                  · rw [e]; exact hfl
                  · exact HALL.out i (by omega)
                have HSTP := Lib.hid hst
                clear hst hfl
                go_wp2
                go_roundg gk3
                case measure => omega
                case rel => exact ⟨q + 1, by omega, by go_num, HB3.out, HSTP.out⟩
              · have hfl2 : f (vN r q) (tN r J q) = false := by simpa using hfl
                rw [hfl2] at d4
                have hno : ¬ okT f r J := fun e => hfl (e q (by rw [HKV.out]; exact hql))
                have HNO := Lib.hid hno
                clear hfl hfl2 hno
                go_wp2
                go_roundg gk2
                case measure => omega
                case rel => exact ⟨J + 1, by omega, by go_num, HBX3.out, by rw [spB_skip HNO.out]; exact HST3.out.below HB3.out⟩
end Go.Proofs.Ytamidopeojipkaa
