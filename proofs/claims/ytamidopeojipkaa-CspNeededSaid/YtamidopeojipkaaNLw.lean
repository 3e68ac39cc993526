/- CspNeeded: the walk. -/
import Derived.Test.YtamidopeojipkaaNeed
namespace Go.Proofs.Ytamidopeojipkaa
open Go.RowKit
set_option linter.unusedVariables false

theorem rev_at {lr g : Nat} (h : g < lr) : (List.range lr).reverse.getD (lr - (g + 1)) 0 = g := by
  have : lr - (g + 1) < (List.range lr).reverse.length := by simp; omega
  rw [List.getD_eq_getElem?_getD, List.getElem?_eq_getElem this]
  simp; omega
set_option maxRecDepth 20000 in
set_option maxHeartbeats 1600000 in
theorem small_many {w : World} {P : Nat → Prop} {sv rv : Value} {p : Prob} (hs : IntsAt w P sv p.sizes) (hr : RelsAt w P rv p.rels) (hP : Under P w.heap.size) (hmany : 16 < p.rels.length) :
    Calls Try.prog 10 #[.agg #[sv, rv]] w (OneB false w) := by
  have hbel := (Below.refl _ w).alloc (Nat.le_refl _) (.cells #[sv, rv] 25)
  have HR0 : Hid ((w.alloc (.cells #[sv, rv] 25)).heap[w.heap.size]? = some (.cells #[sv, rv] 25 (0, 0))) := Lib.hid (heap_alloc_new _ _)
  obtain ⟨sa, sc, sb, so, rfl, hsr⟩ := hs
  obtain ⟨ra, rc, rb, ro, rvs, rfl, hrr, hrs⟩ := hr
  have hsc := hsr.hcap
  have hsm : sc ≤ 9223372036854775807 := by have := hsr.hmax; unfold maxLen at this; omega
  have hrc := hrr.hcap
  have hrm : rc ≤ 9223372036854775807 := by have := hrr.hmax; unfold maxLen at this; omega
  have hbx : PxAt w (.slice sa p.sizes.length sc) (.slice ra p.rels.length rc) (w.alloc (.cells #[.slice sa p.sizes.length sc, .slice ra p.rels.length rc] 25)) := ⟨hbel, HR0.out⟩
  have HBX := Lib.hid hbx
  generalize p.sizes.length = ls at *
  generalize p.rels.length = lr at *
  have h16i : (16 : Int) < lr := by omega
  clear hP hbel hsr hrr hrs hbx HR0
  by_cases h20 : 20 < ls
  · have h20i : (20 : Int) < ls := by omega
    go_enter Try.func10, Try.ntmps10
    go_wp2
    go_ret
    exact ⟨rfl, HBX.out.bel⟩
  · have h20i : ¬ (20 : Int) < ls := by omega
    go_enter Try.func10, Try.ntmps10
    go_wp2
    go_ret
    exact ⟨rfl, HBX.out.bel⟩
set_option maxRecDepth 20000 in
set_option maxHeartbeats 1600000 in
theorem needed_many {w : World} {P : Nat → Prop} {sv rv : Value} {p : Prob} (hs : IntsAt w P sv p.sizes) (hr : RelsAt w P rv p.rels) (hP : Under P w.heap.size) (hmany : 16 < p.rels.length) :
    Calls Try.prog 9 #[.agg #[sv, rv]] w (OneB true w) := by
  have hbel := (Below.refl _ w).alloc (Nat.le_refl _) (.cells #[sv, rv] 25)
  have HSM := Lib.hid (fun w1 (hb : Below w.heap.size w w1) => small_many (hs.kept (Below.keptB hb hP)) (hr.kept (Below.keptB hb hP)) (hP.le hb.size) hmany)
  have hbx : PxAt w sv rv (w.alloc (.cells #[sv, rv] 25)) := ⟨hbel, heap_alloc_new _ _⟩
  have HBX := Lib.hid hbx
  obtain ⟨sa, sl, sc, rfl⟩ := hs.slice
  obtain ⟨ra, rl, rc, rfl⟩ := hr.slice
  clear hs hr hP hbel hbx hmany
  go_enter Try.func9, Try.ntmps9
  go_wp2_with (first
    | (go_at_call 10; refine (HSM.out _ HBX.out.bel).mono ?_; rintro e w1 ⟨rfl, hb1⟩; have HB1 := Lib.hid (HBX.out.next hb1); clear hb1)
    | (go_at_call 11; refine (alive_any _).mono ?_; rintro e w9 ⟨rfl, hb9⟩))
  go_ret
  exact ⟨rfl, (HB1.out.next hb9).bel⟩
theorem NdAt.pushB {w W W' w0 : World} {P : Nat → Prop} {s r t : Value} {tb : Nat} {rs : List Rel} (h : NdAt w W P s r tb t rs) (hb : Below w0.heap.size w0 W) (h0 : w0.heap.size ≤ tb) (hg : W.grownBy W' t.ownBlock) (t' : Value) : Below w0.heap.size w0 (W'.setCell ⟨tb, 1, none⟩ t') :=
  (below_row hb hg (fun k hk => by have := (h.own.lt hk).1; omega) hb.size).setCell (show w0.heap.size ≤ (⟨tb, 1, none⟩ : Addr).block from h0) _
theorem erase_same {α : Type} {L : List α} {i jo : Nat} {d : α} (hi : i < L.length) (e : i = jo) : (L.take (i + 1)).eraseIdx jo = (L.take i).eraseIdx jo := by
  subst e
  rw [List.take_succ_eq_append_getElem hi, List.eraseIdx_append_of_length_le (by rw [List.length_take]; omega)]
  have h1 : i - (L.take i).length = 0 := by rw [List.length_take]; omega
  rw [h1]
  have h2 : (L.take i).eraseIdx i = L.take i := List.eraseIdx_of_length_le (by rw [List.length_take]; omega)
  rw [h2]; simp
theorem erase_next {α : Type} {L : List α} {i jo : Nat} {d : α} (hi : i < L.length) (e : i ≠ jo) : (L.take (i + 1)).eraseIdx jo = (L.take i).eraseIdx jo ++ [L.getD i d] := by
  have hd : L.getD i d = L[i] := by simp [List.getD, hi]
  rw [List.take_succ_eq_append_getElem hi, hd]
  by_cases hlt : i < jo
  · rw [List.eraseIdx_of_length_le (by simp; omega), List.eraseIdx_of_length_le (by rw [List.length_take]; omega)]
  · rw [List.eraseIdx_append_of_lt_length (by rw [List.length_take]; omega)]
set_option maxRecDepth 20000 in
set_option maxHeartbeats 1600000 in
theorem needed_walk {w : World} {P : Nat → Prop} {sv rv : Value} {p : Prob} (hs : IntsAt w P sv p.sizes) (hr : RelsAt w P rv p.rels) (hP : Under P w.heap.size) (hfew : p.rels.length ≤ 16) :
    Calls Try.prog 9 #[.agg #[sv, rv]] w (OneB true w) := by
  have hbel := (Below.refl _ w).alloc (Nat.le_refl _) (.cells #[sv, rv] 25)
  have HSM := Lib.hid (fun w1 (hb : Below w.heap.size w w1) => small_any (hs.kept (Below.keptB hb hP)) (hr.kept (Below.keptB hb hP)) (hP.le hb.size))
  have HTY := Lib.hid (fun w1 (hb : Below w.heap.size w w1) => tiny_any (hs.kept (Below.keptB hb hP)) (hr.kept (Below.keptB hb hP)) (hP.le hb.size))
  have HCO := Lib.hid (fun w1 (hb : Below w.heap.size w w1) => coreQ_any (hs.kept (Below.keptB hb hP)) (hr.kept (Below.keptB hb hP)) (hP.le hb.size))
  have HCN := Lib.hid (fun w1 (hb : Below w.heap.size w w1) => count_any (hs.kept (Below.keptB hb hP)) (hr.kept (Below.keptB hb hP)) (hP.le hb.size))
  have hbx : PxAt w sv rv (w.alloc (.cells #[sv, rv] 25)) := ⟨hbel, heap_alloc_new _ _⟩
  have HBX := Lib.hid hbx
  have HSI := Lib.hid hs
  obtain ⟨sa, sl, sc, rfl⟩ := hs.slice
  obtain ⟨ra, rcap, rb, ro, rvs, rfl, hrr, hrs⟩ := hr
  have HRR := Lib.hid hrr
  have HRS := Lib.hid hrs
  have HP := Lib.hid hP
  have hrc := hrr.hcap
  have hrm1 : rcap ≤ 9223372036854775807 := by have := hrr.hmax; unfold maxLen at this; omega
  obtain ⟨lr, hlr⟩ : ∃ lr, p.rels.length = lr := ⟨_, rfl⟩
  rw [hlr] at HSM HTY HCO HCN HBX HRR HRS hrc hfew ⊢
  have HLR := Lib.hid hlr
  clear hs hP hbel hbx hrr hrs hlr
  go_enter Try.func9, Try.ntmps9
  go_wp2_with (first
    | (go_at_call 10; refine (HSM.out _ HBX.out.bel).mono ?_; rintro e w1 ⟨b, rfl, hb1⟩; have HB1 := Lib.hid (HBX.out.next hb1); have c0 := HB1.out.s; have c1 := HB1.out.r; clear hb1; cases b)
    | (go_at_call 24; refine (HTY.out _ HB1.out.bel).mono ?_; rintro e w2 ⟨b2, rfl, hb2⟩; have HB2 := Lib.hid (HB1.out.next hb2); have b0 := HB2.out.s; have b1 := HB2.out.r; clear hb2; cases b2)
    | (go_at_call 25; refine (HCO.out _ HB2.out.bel).mono ?_; rintro e w3 ⟨v3, rfl, ho3, hb3⟩; obtain ⟨a3, q3, g3, o3, rfl, hr3⟩ := ho3.ints; have HO3 := Lib.hid ho3; have HR3 := Lib.hid hr3; have HB3 := Lib.hid (HB2.out.next hb3); have d0 := HB3.out.s; have d1 := HB3.out.r; clear hb3 ho3 hr3)
    | (go_at_call 18; refine (HCN.out _ HB3.out.bel).mono ?_; rintro e w4 ⟨rfl, hb4⟩; have HB4 := Lib.hid (HB3.out.next hb4); have HN4 := Lib.hid hb4; have e0 := HB4.out.s; have e1 := HB4.out.r; have HST := Lib.hid (NdAt.start HB4.out HP.out); obtain ⟨m0, m1, m2, m3, m4⟩ := (NdAt.start HB4.out HP.out).c; clear hb4)
    | (go_at_call 11; refine (alive_any _).mono ?_; rintro e w9 ⟨rfl, hb9⟩))
  · go_ret
    exact ⟨rfl, (HB1.out.next hb9).bel⟩
  · go_ret
    exact ⟨rfl, (HB2.out.next hb9).bel⟩
  · clear c0 c1 b0 b1 d0 d1 e0 e1 m0 m1 m2 m3 m4
    have HB5 := Lib.hid (HN4.out.alloc HN4.out.size (.cells #[.slice sa sl sc, .slice none 0 0] 25))
    have H3T : Hid (w3.heap.size ≤ w4.heap.size) := Lib.hid HN4.out.size
    generalize hW5 : w4.alloc (.cells #[.slice sa sl sc, .slice none 0 0] 25) = W5 at *
    generalize htb : w4.heap.size = tb at *
    have HTB := Lib.hid htb
    clear hW5 htb
    go_loopg [8] lr (fun g8 i wr => ∃ tv : Value, g8 ≤ lr ∧ i = .int .i64 ((g8 : Int) - 1) ∧ NdAt w wr P (.slice sa sl sc) (.slice ra lr rcap) tb tv ((((List.range lr).reverse).take (lr - g8)).map fun i => p.rels.getD i default) ∧ Below w3.heap.size w3 wr)
    case atStart => exact ⟨_, Nat.le_refl _, by go_num, by rw [Nat.sub_self]; exact HST.out, HB5.out⟩
    case round =>
      obtain ⟨tv, hg, rfl, hnd, hnb⟩ := hrel
      have HND := Lib.hid hnd
      have HNB := Lib.hid hnb
      clear hnb
      obtain ⟨ta, tl, tc, rfl⟩ := hnd.own.slice
      cases gk with
      | zero =>
        have hfull : (((List.range lr).reverse).take (lr - 0)).map (fun i => p.rels.getD i default) = ((List.range lr).reverse).map fun i => p.rels.getD i default := by
          rw [List.take_of_length_le (by simp)]
        rw [hfull] at hnd HND
        obtain ⟨n0, n1, n2, n3, n4⟩ := hnd.c
        have hc18 := (NdAt.calls (p := p) (L := (List.range lr).reverse) hnd HSI.out).1
        have hm1 : (((0 : Nat) : Int) - 1) = -1 := by omega
        rw [hm1]
        clear hfull hnd hm1
        by_cases hF : countE p = 0
        · have htc := turned_count hF
          rw [HLR.out] at htc
          rw [htc.1, htc.2] at hc18
          have HC18 := Lib.hid hc18
          rw [hF]
          clear hc18 htc
          by_cases hE0 : coreE p = 0
          · obtain ⟨L, hL⟩ := core_of hE0
            have HL := Lib.hid hL
            rw [hE0, hL.list, hL.num]
            rw [hL.num] at HC18
            clear hL hE0 hF
            go_wp2_with (first | (go_at_call 18; refine HC18.out.mono ?_; rintro e w6 ⟨rfl, hb6⟩; have HB6 := Lib.hid (HND.out.px.next hb6); have HB36 := Lib.hid (Below.next HNB.out hb6); clear hb6))
            clear n0 n1 n2 n3 n4
            obtain ⟨k, hk⟩ : ∃ k, L.length = k := ⟨_, rfl⟩
            have HK := Lib.hid hk
            have hml : (L.map Int.ofNat).length = k := by rw [List.length_map, hk]
            have hk96 : k ≤ 96 := by rw [← hk]; exact HL.out.len
            have HLT := Lib.hid (inc_lt HL.out.inc)
            have HR4 := Lib.hid HR3.out
            have HO4 := Lib.hid HO3.out
            rw [HL.out.list] at HR4 HO4
            rw [hml] at HR4 HO4
            rw [hk]
            have hq3 := HR4.out.hcap
            have hm3 : q3 ≤ 9223372036854775807 := by have := HR4.out.hmax; unfold maxLen at this; omega
            clear hk hml
            go_loopg [11] (k + 1) (fun g11 o wr => o = .int .i64 ((k : Int) - g11) ∧ g11 ≤ k + 1 ∧ Below w6.heap.size w6 wr)
            case atStart => exact ⟨by go_num, Nat.le_refl _, Below.refl _ _⟩
            case round =>
              obtain ⟨rfl, hgk, hbel⟩ := hrel
              have HBL := Lib.hid hbel
              have HB7 := Lib.hid (HB6.out.next hbel)
              have c0 := HB7.out.s
              have c1 := HB7.out.r
              cases gk with
              | zero =>
                clear hbel
                go_wp2_with (first | (go_at_call 11; refine (alive_any _).mono ?_; rintro e w9 ⟨rfl, hb9⟩))
                go_ret
                exact ⟨rfl, (HB7.out.next hb9).bel⟩
              | succ m =>
                have hkm : (k : Int) - ((m + 1 : Nat) : Int) < (k : Int) := by omega
                obtain ⟨jo, hjo⟩ : ∃ jo : Nat, (jo = k ∧ m = k) ∨ (jo < k ∧ jo + (m + 1) = k) := by
                  by_cases e : m = k
                  · exact ⟨k, .inl ⟨rfl, e⟩⟩
                  · exact ⟨k - (m + 1), .inr ⟨by omega, by omega⟩⟩
                have HJO := Lib.hid hjo
                have HST2 := Lib.hid (NdAt.start HB7.out HP.out)
                obtain ⟨m0, m1, m2, m3, m4⟩ := (NdAt.start HB7.out HP.out).c
                have HBQ := Lib.hid (hbel.alloc hbel.size (.cells #[.slice sa sl sc, .slice none 0 0] 25))
                have HQB : Hid (w6.heap.size ≤ wr.heap.size) := Lib.hid hbel.size
                obtain ⟨o, ho⟩ : ∃ o : Int, (k : Int) - ((m + 1 : Nat) : Int) = o := ⟨_, rfl⟩
                rw [ho] at hkm ⊢
                have HO := Lib.hid ho
                clear ho hbel hjo
                go_wp2
                clear c0 c1 m0 m1 m2 m3 m4
                generalize hW7 : wr.alloc (.cells #[.slice sa sl sc, .slice none 0 0] 25) = W7 at *
                generalize hqb : wr.heap.size = qb at *
                clear hW7 hqb
                go_loopg [99] k (fun g99 i99 wr2 => ∃ (i : Nat) (tv : Value), i + g99 = k ∧ i99 = .int .i64 (i : Int) ∧ NdAt w wr2 P (.slice sa sl sc) (.slice ra lr rcap) qb tv (((L.take i).eraseIdx jo).map fun i => p.rels.getD i default) ∧ Below w6.heap.size w6 wr2)
                case atStart => exact ⟨0, _, by omega, by go_num, by rw [List.take_zero, List.eraseIdx_nil, List.map_nil]; exact HST2.out, HBQ.out⟩
                case round =>
                  obtain ⟨i, tv, hik, rfl, hnd, hb6⟩ := hrel
                  cases gk with
                  | zero =>
                    have hfull : L.take i = L := List.take_of_length_le (by rw [HK.out]; omega)
                    rw [hfull] at hnd
                    have hc16 := (NdAt.calls (p := p) (L := L.eraseIdx jo) hnd HSI.out).2
                    unfold SolvePost at hc16
                    obtain ⟨n0, n1, n2, n3, n4⟩ := hnd.c
                    obtain ⟨ta, tl, tc, rfl⟩ := hnd.own.slice
                    have HB62 := Lib.hid hb6
                    have HC16 := Lib.hid hc16
                    have hik' : i = k := by omega
                    subst hik'
                    clear hnd hb6 hc16 hfull
                    rcases HJO.out with ⟨e1, e2⟩ | ⟨e1, e2⟩
                    · have hs7 : solveE (subP p (L.eraseIdx jo)) = 7 := by
                        rw [List.eraseIdx_of_length_le (by rw [HK.out]; omega)]; exact HL.out.err
                      rw [hs7] at HC16
                      have ho1 : o = -1 := by have := HO.out; omega
                      have HO1 := Lib.hid ho1
                      have HE2 := Lib.hid e2
                      rw [ho1]
                      clear hs7 e1 e2 ho1 hkm
                      go_wp2_with (first
                        | (go_at_call 16; refine HC16.out.mono ?_; rintro e w8 ⟨v8, rfl, ho8, hb8⟩; obtain ⟨a8, l8, q8, rfl⟩ := ho8.ints.slice; have HB8 := Lib.hid (HB62.out.trans (hb8.mono HB62.out.size)); clear hb8 ho8))
                      go_roundg m
                      case measure => omega
                      case rel => exact ⟨by have := HE2.out; go_num, by omega, HB8.out⟩
                    · have hs7 : solveE (subP p (L.eraseIdx jo)) = 0 := HL.out.out jo (by rw [HK.out]; exact e1)
                      rw [hs7] at HC16
                      have ho1 : (0 : Int) ≤ o := by have := HO.out; omega
                      have ho2 : ¬ o < 0 := by omega
                      have ho3 : IntKind.i64.wrap (o + 1) = (i : Int) - (m : Int) := by have := HO.out; rw [IntKind.wrap_i64]; omega
                      clear hs7 e1 e2
                      go_wp2_with (first
                        | (go_at_call 16; refine HC16.out.mono ?_; rintro e w8 ⟨v8, rfl, ho8, hb8⟩; obtain ⟨a8, l8, q8, rfl⟩ := ho8.ints.slice; have HB8 := Lib.hid (HB62.out.trans (hb8.mono HB62.out.size)); clear hb8 ho8))
                      go_roundg m
                      case measure => omega
                      case rel => exact ⟨by go_num, by omega, HB8.out⟩
                  | succ n =>
                    have hiL : i < L.length := by rw [HK.out]; omega
                    have hxl : L.getD i 0 < lr := by
                      rw [← HLR.out]; exact HLT.out _ (by rw [List.getD_eq_getElem?_getD, List.getElem?_eq_getElem hiL]; exact List.getElem_mem _)
                    have hdd : (L.map Int.ofNat).getD i 0 = ((L.getD i 0 : Nat) : Int) := by simp [List.getD, hiL]
                    obtain ⟨rfl, hp3⟩ := HR4.out.ha (by omega)
                    have hp3w : Under (fun k_1 => (Value.slice (some ⟨g3, o3, none⟩) k q3).ownBlock = some k_1) w3.heap.size := fun k_1 hk1 => (HO4.out.lt hk1).2
                    have hB3w : Below w3.heap.size w3 wr := Below.next HB36.out hb6
                    have hk3 := Below.keptB hB3w hp3w
                    have HKE := Lib.hid hk3
                    have d3 := (HR4.out.kept hk3).hc i (by omega)
                    rw [hdd] at d3
                    obtain ⟨n0, n1, n2, n3, n4⟩ := hnd.c
                    obtain ⟨ta, tl, tc, rfl⟩ := hnd.own.slice
                    have hik3 : (i : Int) < (k : Int) := by omega
                    have HND2 := Lib.hid hnd
                    have HB62 := Lib.hid hb6
                    have hgeq : ¬ ((lr : Int) ≤ (L.getD i 0 : Nat)) := by omega
                    have hprev : ∀ j, i = j + 1 → wr.cell? ⟨g3, o3 + j, none⟩ = some (.int .i64 ((L.getD j 0 : Nat) : Int)) ∧ L.getD j 0 < L.getD i 0 := by
                      rintro j rfl
                      refine ⟨?_, inc_next HL.out.inc j hiL⟩
                      have h1 := (HR4.out.kept hk3).hc j (by omega)
                      have h2 : (L.map Int.ofNat).getD j 0 = ((L.getD j 0 : Nat) : Int) := by simp [List.getD, show j < L.length by omega]
                      rw [h2] at h1
                      exact h1
                    have HPR := Lib.hid hprev
                    have hio : i = jo ∧ ((i : Int) = o) ∨ i ≠ jo ∧ ((i : Int) ≠ o) := by
                      have := HO.out
                      rcases HJO.out with ⟨e1, e2⟩ | ⟨e1, e2⟩ <;> by_cases e : i = jo
                      · omega
                      · exact .inr ⟨e, by omega⟩
                      · exact .inl ⟨e, by omega⟩
                      · exact .inr ⟨e, by omega⟩
                    have HIO := Lib.hid hio
                    have HIL := Lib.hid hiL
                    have HXL := Lib.hid hxl
                    clear hnd hb6 hp3w hB3w hk3 hdd hp3 hprev hio hiL
                    -- the relation that is read
                    obtain ⟨rfl, hpr⟩ := HRR.out.ha (by omega)
                    have hd := HND2.out.next (Below.refl _ wr).drew
                    have hk' := Below.keptB hd.px.bel HP.out
                    have e1 := (HRR.out.kept hk').hc (L.getD i 0 * 2) (by omega)
                    have e2 : wr.drew.cell? ⟨rb, ro + L.getD i 0 * 2 + 1, none⟩ = some (rvs (L.getD i 0 * 2 + 1)) := (HRR.out.kept hk').hc (L.getD i 0 * 2 + 1) (by omega)
                    obtain ⟨f1, f2⟩ := HRS.out (L.getD i 0) hxl
                    obtain ⟨va, vl, vc, hv⟩ := f1.slice
                    obtain ⟨aa, al, ac, ha⟩ := f2.slice
                    rw [hv] at e1 f1
                    rw [ha] at e2 f2
                    have HF1 := Lib.hid (f1.kept hk')
                    have HF2 := Lib.hid (f2.kept hk')
                    have hd2 := hd.next ((Below.refl _ wr.drew).alloc (Nat.le_refl _) (.cells #[.slice va vl vc, .slice aa al ac] 46))
                    obtain ⟨g0, g1, g2, g3', g4⟩ := hd.c
                    obtain ⟨k0, k1, k2, k3, k4⟩ := hd2.c
                    obtain ⟨j0, j1, j2, j3, j4⟩ := (HND2.out.next ((Below.refl _ wr).alloc (Nat.le_refl _) (.cells #[.slice va vl vc, .slice aa al ac] 46))).c
                    have HD2 := Lib.hid hd
                    have HDB2 := Lib.hid HB62.out.drew
                    have HBS : Hid (qb + 1 ≤ wr.drew.heap.size) := Lib.hid hd.lt
                    have HLQ : Hid ((((L.take i).eraseIdx jo).map fun i => p.rels.getD i default).length ≤ 1000000) := Lib.hid (by
                      rw [List.length_map]
                      have := List.length_eraseIdx_le (L.take i) jo
                      rw [List.length_take] at this
                      omega)
                    have hsame : i = jo → ((L.take (i + 1)).eraseIdx jo).map (fun i => p.rels.getD i default) = ((L.take i).eraseIdx jo).map (fun i => p.rels.getD i default) := fun e => by
                      rw [erase_same (d := 0) HIL.out e]
                    have hnext : i ≠ jo → ((L.take i).eraseIdx jo).map (fun i => p.rels.getD i default) ++ [p.rels.getD (L.getD i 0) default] = ((L.take (i + 1)).eraseIdx jo).map (fun i => p.rels.getD i default) := fun e => by
                      rw [erase_next (d := 0) HIL.out e]; simp
                    have HSAME := Lib.hid hsame
                    have HNEXT := Lib.hid hnext
                    clear hk' f1 f2 hv ha hd hd2 hsame hnext hpr
                    generalize L.getD i 0 = x at *
                    have hcase : (¬ (0 : Int) < (i : Int)) ∨ ∃ j y : Nat, (0 : Int) < (i : Int) ∧ wr.cell? ⟨g3, o3 + j, none⟩ = some (.int .i64 (y : Int)) ∧ ¬ ((x : Int) ≤ (y : Int)) ∧ IntKind.i64.wrap ((i : Int) - 1) = (j : Int) ∧ (j : Int) < (k : Int) := by
                      rcases Nat.eq_zero_or_pos i with e | e
                      · exact .inl (by omega)
                      · obtain ⟨d4, hlt⟩ := HPR.out (i - 1) (by omega)
                        exact .inr ⟨i - 1, L.getD (i - 1) 0, by omega, d4, by omega, by rw [IntKind.wrap_i64]; omega, by omega⟩
                    clear HPR
                    rcases HIO.out with ⟨ho1, ho2⟩ | ⟨ho1, ho2⟩
                    · have HE1 := Lib.hid ho1
                      clear ho1 e1 e2 g0 g1 g2 g3' g4 k0 k1 k2 k3 k4 j0 j1 j2 j3 j4 HIO
                      subst ho2
                      rcases hcase with hi0 | ⟨j, y, hi0, d4, hlti, hw1, hjk⟩
                      all_goals
                        go_wp2
                        go_roundg n
                        case measure => omega
                        case rel => exact ⟨i + 1, _, by omega, by go_num, by rw [HSAME.out HE1.out]; exact HND2.out, HB62.out⟩
                    · have HE1 := Lib.hid ho1
                      clear ho1 HIO
                      rcases hcase with hi0 | ⟨j, y, hi0, d4, hlti, hw1, hjk⟩
                      all_goals
                        go_wp2
                        go_region_law (refine step_pushR rfl (.tmp 130) (.tmp 136) rfl (qb + 1) P (.slice ta tl tc) _ (p.rels.getD x default) (.slice va vl vc) (.slice aa al ac) rfl HD2.out.own HF1.out HF2.out (fun k hk => ⟨HP.out.le HD2.out.px.bel.size k hk, fun e => by have := HP.out k hk; have := (HD2.out.own.lt e).1; have := HD2.out.htb; omega⟩) rfl HLQ.out HBS.out ?_; intro v6 w7 ho6 hg6; rw [HNEXT.out HE1.out] at ho6; obtain ⟨ya, yl, yc, rfl⟩ := ho6.slice; have HN := Lib.hid (HD2.out.push hg6 ho6); have HN2 := Lib.hid (HD2.out.pushB HDB2.out HQB.out hg6 (.slice ya yl yc)); have q1 := (cell_row' _ _ 1 _ _ (HD2.out.old hg6)).trans rfl; have q2 := frozen_row' _ _ 1 _ _ (HD2.out.old hg6); clear ho6 hg6)
                        all_goals
                          go_wp2
                          go_roundg n
                          case measure => omega
                          case rel => exact ⟨i + 1, _, by omega, by go_num, HN.out, HN2.out⟩
          · have HC18 := HC18
            by_cases hE7 : coreE p = 7
            · have hpos := (core_seven hE7).2
              rw [hE7]
              have hposi : (0 : Int) < countN p := by omega
              clear hE7 hE0 hF
              generalize countN p = N at *
              go_wp2_with (first
                | (go_at_call 18; refine HC18.out.mono ?_; rintro e w6 ⟨rfl, hb6⟩; have HB6 := Lib.hid (HND.out.px.next hb6); clear hb6)
                | (go_at_call 11; refine (alive_any _).mono ?_; rintro e w9 ⟨rfl, hb9⟩))
              go_ret
              exact ⟨rfl, (HB6.out.next hb9).bel⟩
            · clear hF
              generalize countN p = N at *
              generalize coreE p = E at *
              go_wp2_with (first
                | (go_at_call 18; refine HC18.out.mono ?_; rintro e w6 ⟨rfl, hb6⟩; have HB6 := Lib.hid (HND.out.px.next hb6); clear hb6)
                | (go_at_call 11; refine (alive_any _).mono ?_; rintro e w9 ⟨rfl, hb9⟩))
              go_ret
              exact ⟨rfl, (HB6.out.next hb9).bel⟩
        · have HC18 := Lib.hid hc18
          have hE0 : coreE p ≠ 0 := fun e => by
            obtain ⟨L, hL⟩ := core_of e
            exact hF hL.ok
          have hE7 : coreE p ≠ 7 := fun e => hF (core_seven e).1
          clear hc18
          generalize countN (subP p (List.range lr).reverse) = N2 at *
          generalize countE (subP p (List.range lr).reverse) = E2 at *
          generalize countN p = N at *
          generalize countE p = F at *
          generalize coreE p = E at *
          go_wp2_with (first
            | (go_at_call 18; refine HC18.out.mono ?_; rintro e w6 ⟨rfl, hb6⟩; have HB6 := Lib.hid (HND.out.px.next hb6); clear hb6)
            | (go_at_call 11; refine (alive_any _).mono ?_; rintro e w9 ⟨rfl, hb9⟩))
          go_ret
          exact ⟨rfl, (HB6.out.next hb9).bel⟩
      | succ m =>
        have hkm : (((m + 1 : Nat) : Int) - 1) = (m : Int) := by omega
        rw [hkm]
        have hml : m < lr := by omega
        obtain ⟨rfl, hpr⟩ := HRR.out.ha (by omega)
        have hd := hnd.next (Below.refl _ wr).drew
        have hk' := Below.keptB hd.px.bel HP.out
        have d1 := (HRR.out.kept hk').hc (m * 2) (by omega)
        have d2 : wr.drew.cell? ⟨rb, ro + m * 2 + 1, none⟩ = some (rvs (m * 2 + 1)) := (HRR.out.kept hk').hc (m * 2 + 1) (by omega)
        obtain ⟨f1, f2⟩ := HRS.out m hml
        obtain ⟨va, vl, vc, hv⟩ := f1.slice
        obtain ⟨aa, al, ac, ha⟩ := f2.slice
        rw [hv] at d1 f1
        rw [ha] at d2 f2
        have HF1 := Lib.hid (f1.kept hk')
        have HF2 := Lib.hid (f2.kept hk')
        have hd2 := hd.next ((Below.refl _ wr.drew).alloc (Nat.le_refl _) (.cells #[.slice va vl vc, .slice aa al ac] 46))
        obtain ⟨g0, g1, g2, g3, g4⟩ := hd.c
        obtain ⟨k0, k1, k2, k3, k4⟩ := hd2.c
        obtain ⟨j0, j1, j2, j3, j4⟩ := (hnd.next ((Below.refl _ wr).alloc (Nat.le_refl _) (.cells #[.slice va vl vc, .slice aa al ac] 46))).c
        have HD := Lib.hid hd
        have HDB := Lib.hid HNB.out.drew
        have HBS : Hid (tb + 1 ≤ wr.drew.heap.size) := Lib.hid hd.lt
        have hstep := subP_step (p := p) (ch := (List.range lr).reverse) (q := lr - (m + 1)) (by simp; omega)
        rw [rev_at hml, show lr - (m + 1) + 1 = lr - m by omega] at hstep
        have HSTEP := Lib.hid hstep
        have HLQ : Hid (((((List.range lr).reverse).take (lr - (m + 1))).map fun i => p.rels.getD i default).length ≤ 1000000) := Lib.hid (by
          rw [List.length_map, List.length_take]; omega)
        clear hnd hk' f1 f2 hv ha hd hd2 hstep hkm
        go_wp2
        go_region_law (refine step_pushR rfl (.tmp 48) (.tmp 54) rfl (tb + 1) P (.slice ta tl tc) _ (p.rels.getD m default) (.slice va vl vc) (.slice aa al ac) rfl HD.out.own HF1.out HF2.out (fun k hk => ⟨HP.out.le HD.out.px.bel.size k hk, fun e => by have := HP.out k hk; have := (HD.out.own.lt e).1; have := HD.out.htb; omega⟩) rfl HLQ.out HBS.out ?_; intro v6 w6 ho6 hg6; rw [HSTEP.out] at ho6; obtain ⟨ya, yl, yc, rfl⟩ := ho6.slice; have HN := Lib.hid (HD.out.push hg6 ho6); have HN2 := Lib.hid (HD.out.pushB HDB.out H3T.out hg6 (.slice ya yl yc)); have q1 := (cell_row' _ _ 1 _ _ (HD.out.old hg6)).trans rfl; have q2 := frozen_row' _ _ 1 _ _ (HD.out.old hg6); clear ho6 hg6)
        all_goals
          go_wp2
          go_roundg m
          case measure => omega
          case rel => exact ⟨_, by omega, by go_num, HN.out, HN2.out⟩
end Go.Proofs.Ytamidopeojipkaa
