/- solutions of the reference: the walk. -/
import Derived.Test.YtamidopeojipkaaNxt
namespace Go.Proofs.Ytamidopeojipkaa
open Go.RowKit
set_option linter.unusedVariables false

open Classical in
noncomputable def fil (p : Prob) (L : List (List Int)) : List (List Int) := L.filter fun a => decide (sat p.rels a)
theorem fil_app (p : Prob) (L M : List (List Int)) : fil p (L ++ M) = fil p L ++ fil p M := by unfold fil; exact List.filter_append ..
theorem fil_yes {p : Prob} {c : List Int} (h : sat p.rels c) (M : List (List Int)) : fil p (c :: M) = c :: fil p M := by
  unfold fil; rw [List.filter_cons_of_pos (by simpa using h)]
theorem fil_no {p : Prob} {c : List Int} (h : ¬ sat p.rels c) (M : List (List Int)) : fil p (c :: M) = fil p M := by
  unfold fil; rw [List.filter_cons_of_neg (by simpa using h)]
theorem sols_fil (p : Prob) : sols p [] = fil p (ext p.sizes) := by
  unfold sols fil; simp
theorem getD_set_ne {xs : List Int} {j m : Nat} {u : Int} (h : j ≠ m) : (xs.set m u).getD j 0 = xs.getD j 0 := by
  simp [List.getD, show ¬ m = j from fun e => h e.symm]
theorem getD_set_eq {xs : List Int} {m : Nat} (h : m < xs.length) (u : Int) : (xs.set m u).getD m 0 = u := by
  simp [List.getD, h]
theorem row_len {w : World} {base e size n : Nat} {v : Value} {xs : List Value} (h : w.ownsRow base e size v n xs) : ∃ a c, v = .slice a n c := by
  rcases h.2 with ⟨h2, h3⟩ | ⟨g, cap, cur, h2, _⟩
  · exact ⟨none, 0, by rw [h2, h3]⟩
  · exact ⟨_, _, h2⟩
def RefSols (p : Prob) (most : Nat) (w : World) (e : Ending) (w' : World) : Prop := ∃ fv vs, e = .returned fv ∧ OwnL w' w.heap.size fv vs ((sols p []).take most) ∧ Below w.heap.size w w'
theorem Good.pos {p : Prob} (h : Good p) : Pos p.sizes := fun m hm => by
  obtain ⟨i, hi, he⟩ := List.mem_iff_getElem.1 hm
  have := (h.size i hi).1
  simpa [List.getD, hi, he] using this

set_option maxRecDepth 20000 in
set_option maxHeartbeats 1600000 in
theorem solR_any {w : World} {P : Nat → Prop} {sv rv : Value} {p : Prob} (hs : IntsAt w P sv p.sizes) (hr : RelsAt w P rv p.rels) (hP : Under P w.heap.size) (hgood : Good p) {most : Nat} (h1 : 1 ≤ most) (hmost : most ≤ 2000000) :
    Calls Try.prog 35 #[sv, rv, .int .i64 most] w (RefSols p most w) := by
  have hsat : ∀ (W : World) (i n : Nat) (av vv uv : Value) (c : List Int), Below w.heap.size w W → i < p.rels.length → OwnI W w.heap.size av c → c.length = p.sizes.length → IntsAt w P vv (p.rels.getD i default).vars → ListsAt w P uv (p.rels.getD i default).allowed → Calls Try.prog 42 #[.agg #[vv, uv], av] W (BoolP (satR (p.rels.getD i default) c) W) := fun W i n av vv uv c hb hi ho hl hv hu =>
    satisfies_any (P := P) (Q := fun k => av.ownBlock = some k) (hv.kept (Below.keptB hb hP)) (hu.kept (Below.keptB hb hP)) (hP.le hb.size) (hgood.fine i hi) ho.ints (fun k hk => (ho.lt hk).2) hl hgood.len
  have HSAT := Lib.hid hsat
  have HPOS := Lib.hid hgood.pos
  have HEXT : Hid (sols p [] = fil p (fromA p.sizes (List.replicate p.sizes.length 0))) := Lib.hid (by rw [sols_fil, ext_zero _ hgood.pos])
  have HIN0 := Lib.hid (in_zero p.sizes hgood.pos)
  obtain ⟨sa, sc, sb, so, rfl, hsr⟩ := hs
  obtain ⟨ra, rc, rb, ro, rvs, rfl, hrr, hrs⟩ := hr
  have HSR := Lib.hid hsr
  have HRR := Lib.hid hrr
  have HRS := Lib.hid hrs
  have HP := Lib.hid hP
  have HSZ : Hid (∀ n, n < p.sizes.length → 1 ≤ p.sizes.getD n 0 ∧ p.sizes.getD n 0 ≤ 64) := Lib.hid hgood.size
  have hsc := hsr.hcap
  have hsm : sc ≤ 9223372036854775807 := by have := hsr.hmax; unfold maxLen at this; omega
  have hrc := hrr.hcap
  have hrm : rc ≤ 9223372036854775807 := by have := hrr.hmax; unfold maxLen at this; omega
  have hl16 := hgood.len
  have hl96 := hgood.rels
  obtain ⟨n, hn⟩ : ∃ n, p.sizes.length = n := ⟨_, rfl⟩
  obtain ⟨lr, hlr⟩ : ∃ lr, p.rels.length = lr := ⟨_, rfl⟩
  rw [hn] at HSR HEXT HIN0 HSZ hsc hl16 ⊢
  rw [hlr] at HRR HRS HSAT hrc hl96 ⊢
  have HN := Lib.hid hn
  have HLR := Lib.hid hlr
  clear hP hgood hsr hrr hrs hsat hn hlr
  go_enter Try.func35, Try.ntmps35
  go_wp2_with (refine wpList_mkI rfl _ _ rfl n rfl rfl (by omega) ?_; intro w1 ho1 hb1)
  have HRS0 : Hid (RsAt w w1 w.heap.size n (List.replicate n 0) (.slice none 0 0) [] []) := Lib.hid ⟨hb1, ho1, OwnL.nil _ _, fun u hu => by simp at hu, Nat.le_refl _⟩
  clear ho1 hb1
  go_loopg [7] (fromA p.sizes (List.replicate n 0)).length (fun g7 ov wr => ∃ (c : List Int) (vs : List Value) (out : List (List Int)), (fromA p.sizes c).length = g7 ∧ RsAt w wr w.heap.size n c ov vs out ∧ c.length = n ∧ In p.sizes c ∧ sols p [] = out ++ fil p (fromA p.sizes c) ∧ out.length < most)
  case atStart => exact ⟨_, [], [], rfl, HRS0.out, by simp, HIN0.out, by rw [HEXT.out]; rfl, by simp; omega⟩
  case round =>
    obtain ⟨c, vs, out, hg7, hrs, hcl, hin, heq, hlen⟩ := hrel
    have HRS1 := Lib.hid hrs
    have HIN := Lib.hid hin
    have HEQ := Lib.hid heq
    have HG7 := Lib.hid hg7
    have HCL := Lib.hid hcl
    clear hrs hin heq hg7 hcl
    generalize gk = g7 at *
    generalize wr = W1 at *
    obtain ⟨oa, ol, oc, rfl⟩ := HRS1.out.o.lists.slice
    go_wp2
    go_loopg [9, 18] lr (fun g18 ok i wr => ∃ (q : Nat) (b : Bool), q + g18 = lr ∧ i = .int .i64 q ∧ ok = .bool b ∧ (b = true ↔ ∀ i, i < q → satR (p.rels.getD i default) c) ∧ Below W1.heap.size W1 wr)
    case atStart => exact ⟨0, true, by omega, rfl, rfl, ⟨fun _ k hk => by omega, fun _ => rfl⟩, Below.refl _ _⟩
    case round =>
      obtain ⟨q, b, hq, rfl, rfl, hb, hbel⟩ := hrel
      have HBEL := Lib.hid hbel
      have HBB := Lib.hid hb
      have HRS2 := Lib.hid (HRS1.out.next hbel)
      clear hb
      cases gk with
      | zero =>
        have hkl : ¬ (q : Int) < lr := by omega
        clear hbel
        generalize wr = W2 at *
        cases b with
        | false =>
          have hns : ¬ sat p.rels c := fun hs => absurd (HBB.out.2 fun i hi => hs i (by rw [HLR.out]; omega)) (by simp)
          have HNS := Lib.hid hns
          clear hns
          have HSTEP := Lib.hid (from_step p.sizes c HPOS.out HIN.out)
          have HRS3 := HRS2
          have HLEN3 := Lib.hid hlen
          have HEQ3 : Hid (sols p [] = out ++ fil p (match nxt p.sizes c with | none => [] | some b => fromA p.sizes b)) := Lib.hid (by rw [HEQ.out, HSTEP.out, fil_no HNS.out]; rfl)
          go_wp2
          go_loopg [12] n (fun g12 kv wr => ∃ c' : List Int, kv = .int .i64 ((g12 : Int) - 1) ∧ g12 ≤ n ∧ RsAt w wr w.heap.size n c' (.slice oa ol oc) vs out ∧ c'.length = n ∧ (∀ j, j < g12 → c'.getD j 0 = c.getD j 0) ∧ ∀ j, g12 ≤ j → j < n → c'.getD j 0 = 0 ∧ c.getD j 0 = p.sizes.getD j 0 - 1)
          case atStart => exact ⟨c, rfl, Nat.le_refl _, HRS3.out, HCL.out, fun j _ => rfl, fun j h1 h2 => by omega⟩
          case round =>
            obtain ⟨c', rfl, hgn, hrs, hcl', hpre, hpost⟩ := hrel
            have HRS4 := Lib.hid hrs
            have HCL2 := Lib.hid hcl'
            have HPRE := Lib.hid hpre
            have HPOST := Lib.hid hpost
            clear hpre hpost hcl'
            cases gk with
            | zero =>
              have hnone : nxt p.sizes c = none := nxt_none _ _ (by rw [HCL.out, HN.out]) fun j hj => (HPOST.out j (Nat.zero_le _) (by rw [HN.out] at hj; exact hj)).2
              have hall : sols p [] = out := by rw [HEQ3.out, hnone]; show out ++ fil p [] = out; simp [fil]
              have HRES : Hid ((sols p []).take most = out) := Lib.hid (by rw [hall, List.take_of_length_le (Nat.le_of_lt HLEN3.out)])
              clear hrs hnone hall
              go_wp2
              go_quiet (fail)
              go_wp2
              go_ret
              refine ⟨_, vs, rfl, ?_, below_drewN HRS4.out.bel _⟩
              rw [HRES.out]
              exact (HRS4.out.next (below_drewN (Below.refl _ _) _)).o
            | succ m =>
              have hkm : (((m + 1 : Nat) : Int) - 1) = (m : Int) := by omega
              rw [hkm]
              have hmn : m < n := by omega
              obtain ⟨d1, d2⟩ := hrs.a.at (j := m) (by rw [HCL2.out]; exact hmn)
              rw [HPRE.out m (by omega)] at d1
              obtain ⟨rfl, hps⟩ := HSR.out.ha (by omega)
              have d3 := (HSR.out.kept (Below.keptB hrs.bel HP.out)).hc m (by omega)
              obtain ⟨hy1, hy2⟩ := HSZ.out m hmn
              have hxin := (in_iff p.sizes c (by rw [HCL.out, HN.out])).2 HIN.out m (by rw [HN.out]; exact hmn)
              obtain ⟨hx0, hx1⟩ := hxin
              clear hrs hkm
              by_cases hmax : c.getD m 0 = p.sizes.getD m 0 - 1
              · have HMAX := Lib.hid hmax
                rw [hmax] at d1
                clear hmax hx0 hx1
                obtain ⟨y, hy⟩ : ∃ y, p.sizes.getD m 0 = y := ⟨_, rfl⟩
                rw [hy] at d1 d3 hy1 hy2
                clear hy
                go_wp2
                go_quiet (fail)
                go_wp2
                go_roundg m
                case measure => omega
                case rel => exact ⟨c'.set m 0, by go_num, by omega, (HRS4.out.next (below_drewN (Below.refl _ _) _)).set (by rw [HCL2.out]; exact hmn) 0, by rw [List.length_set]; exact HCL2.out, fun j hj => by
                    rw [getD_set_ne (by omega)]; exact HPRE.out j (by omega), fun j h1 h2 => by
                    by_cases e : j = m
                    · subst e; exact ⟨getD_set_eq (by rw [HCL2.out]; exact hmn) 0, HMAX.out⟩
                    · rw [getD_set_ne (by omega)]; exact HPOST.out j (by omega) h2⟩
              · have HMAX := Lib.hid hmax
                have HX := Lib.hid (And.intro hx0 hx1)
                obtain ⟨x, hx⟩ : ∃ x, c.getD m 0 = x := ⟨_, rfl⟩
                obtain ⟨y, hy⟩ : ∃ y, p.sizes.getD m 0 = y := ⟨_, rfl⟩
                rw [hx] at d1 hx0 hx1 hmax
                rw [hy] at d3 hy1 hy2 hx1 hmax
                have hne : (x == y - 1) = false := by simpa using hmax
                have HXX := Lib.hid hx
                have HYY := Lib.hid hy
                clear hx hy hmax
                go_wp2
                go_quiet (fail)
                go_wp2
                have hnx : nxt p.sizes c = some (c'.set m (x + 1)) := by
                  refine nxt_some m p.sizes c (c'.set m (x + 1)) (by rw [HCL.out, HN.out]) (by rw [List.length_set, HCL2.out, HN.out]) (by rw [HN.out]; exact hmn) (fun j hj => by rw [getD_set_ne (by omega)]; exact HPRE.out j (by omega)) ?_ (fun j h1 h2 => by rw [getD_set_ne (by omega)]; exact (HPOST.out j (by omega) (by rw [HN.out] at h2; exact h2)).1) ?_ (fun j h1 h2 => (HPOST.out j (by omega) (by rw [HN.out] at h2; exact h2)).2)
                  · rw [getD_set_eq (by rw [HCL2.out]; exact hmn), HXX.out]
                  · have := HX.out.2; have := HMAX.out; omega
                have hlenr : (fromA p.sizes (c'.set m (x + 1))).length < g7 := by
                  have := HG7.out
                  rw [HSTEP.out, hnx, List.length_cons] at this
                  have e : (fromA p.sizes (c'.set m (x + 1))).length + 1 = g7 := this
                  omega
                have hin2 : In p.sizes (c'.set m (x + 1)) := by
                  refine (in_iff p.sizes _ (by rw [List.length_set, HCL2.out, HN.out])).1 fun j hj => ?_
                  rw [HN.out] at hj
                  have hin0 := (in_iff p.sizes c (by rw [HCL.out, HN.out])).2 HIN.out j (by rw [HN.out]; exact hj)
                  by_cases e : j = m
                  · subst e
                    rw [getD_set_eq (by rw [HCL2.out]; exact hmn)]
                    have := HX.out; have := HMAX.out; have := HXX.out; omega
                  · rw [getD_set_ne e]
                    by_cases e2 : j < m
                    · rw [HPRE.out j (by omega)]; exact hin0
                    · rw [(HPOST.out j (by omega) hj).1]
                      have := (HSZ.out j hj).1
                      omega
                have heq2 : sols p [] = out ++ fil p (fromA p.sizes (c'.set m (x + 1))) := by rw [HEQ3.out, hnx]
                go_roundg ((fromA p.sizes (c'.set m (x + 1))).length)
                case measure => exact hlenr
                case rel => exact ⟨c'.set m (x + 1), vs, out, rfl, (HRS4.out.next (below_drewN (Below.refl _ _) _)).set (by rw [HCL2.out]; exact hmn) (x + 1), by rw [List.length_set]; exact HCL2.out, hin2, heq2, HLEN3.out⟩
        | true =>
          have hns : sat p.rels c := fun i hi => HBB.out.1 rfl i (by rw [HLR.out] at hi; omega)
          have HNS := Lib.hid hns
          clear hns
          have HSTEP := Lib.hid (from_step p.sizes c HPOS.out HIN.out)
          have HEQ2 : Hid (sols p [] = (out ++ [c]) ++ fil p (match nxt p.sizes c with | none => [] | some b => fromA p.sizes b)) := Lib.hid (by rw [HEQ.out, HSTEP.out, fil_yes HNS.out, List.append_assoc]; rfl)
          have hbe := (Below.refl W2.heap.size W2).alloc (Nat.le_refl _) (.cells #[] 3)
          have HBE := Lib.hid hbe
          have HEMP : Hid (OwnI (W2.alloc (.cells #[] 3)) W2.heap.size (.slice (some ⟨W2.heap.size, 0, none⟩) 0 0) []) := Lib.hid ⟨rfl, .inr ⟨W2.heap.size, 0, #[], rfl, Nat.le_refl _, heap_alloc_new _ _, Nat.le_refl _, by unfold maxLen; omega, rfl, rfl⟩⟩
          have HCEL : Hid (∀ j, j < c.length → (W2.alloc (.cells #[] 3)).cell? ⟨w.heap.size, 0 + j, none⟩ = some (.int .i64 (c.getD j 0))) := Lib.hid fun j hj => by rw [Nat.zero_add]; exact ((HRS2.out.next hbe).a.at hj).1
          have HSZE : Hid (W2.heap.size ≤ (W2.alloc (.cells #[] 3)).heap.size) := Lib.hid (by simp)
          have HLO : Hid (out.length ≤ 2000000) := Lib.hid (by omega)
          clear hbe
          by_cases hfull : out.length + 1 = most
          · have hfi : (out.length : Int) + 1 = most := by omega
            have HRES : Hid ((sols p []).take most = out ++ [c]) := Lib.hid (by rw [HEQ2.out, ← hfull, List.take_append_of_le_length (by simp), List.take_of_length_le (by simp)])
            clear hfull
            go_wp2_with (first
              | (refine wpList_appI rfl (.tmp 31) (.tmp 32) rfl W2.heap.size (.slice (some ⟨W2.heap.size, 0, none⟩) 0 0) [] rfl HEMP.out w.heap.size 0 n c (by rw [HCL.out]; rfl) HCEL.out (by rw [HCL.out]; simp; omega) HSZE.out ?_; intro v5 w5 ho5 hg5; obtain ⟨ua, ul, uc, rfl⟩ := row_slice ho5; have HO5 : Hid (OwnI w5 W2.heap.size (.slice ua ul uc) c) := Lib.hid ho5; have HB5 := Lib.hid (grown_below HBE.out hg5 HEMP.out); have HRO := Lib.hid (HRS2.out.next HB5.out); clear ho5 hg5)
              | (refine wpList_pushV und39 info22 rfl (by omega) rfl (.tmp 30) (.tmp 34) rfl w.heap.size _ out.length vs _ rfl rfl HRO.out.o.2.1 rfl HLO.out HRO.out.bel.size ?_; intro v6 w6 ho6 hg6 _; obtain ⟨xa, xc, rfl⟩ := row_len ho6; have HRS3 := Lib.hid (HRS2.out.push HB5.out HO5.out hg6 ho6); clear ho6 hg6))
            go_ret
            refine ⟨_, (vs ++ [.slice ua ul uc]), rfl, ?_, HRS3.out.bel⟩
            rw [HRES.out]
            exact HRS3.out.o
          · have hfi : ¬ (out.length : Int) + 1 = most := by omega
            have HLEN3 : Hid ((out ++ [c]).length < most) := Lib.hid (by rw [List.length_append]; simp; omega)
            have HEQ3 := HEQ2
            go_wp2_with (first
              | (refine wpList_appI rfl (.tmp 31) (.tmp 32) rfl W2.heap.size (.slice (some ⟨W2.heap.size, 0, none⟩) 0 0) [] rfl HEMP.out w.heap.size 0 n c (by rw [HCL.out]; rfl) HCEL.out (by rw [HCL.out]; simp; omega) HSZE.out ?_; intro v5 w5 ho5 hg5; obtain ⟨ua, ul, uc, rfl⟩ := row_slice ho5; have HO5 : Hid (OwnI w5 W2.heap.size (.slice ua ul uc) c) := Lib.hid ho5; have HB5 := Lib.hid (grown_below HBE.out hg5 HEMP.out); have HRO := Lib.hid (HRS2.out.next HB5.out); clear ho5 hg5)
              | (refine wpList_pushV und39 info22 rfl (by omega) rfl (.tmp 30) (.tmp 34) rfl w.heap.size _ out.length vs _ rfl rfl HRO.out.o.2.1 rfl HLO.out HRO.out.bel.size ?_; intro v6 w6 ho6 hg6 _; obtain ⟨xa, xc, rfl⟩ := row_len ho6; have HRS3 := Lib.hid (HRS2.out.push HB5.out HO5.out hg6 ho6); clear ho6 hg6))
            go_loopg [12] n (fun g12 kv wr => ∃ c' : List Int, kv = .int .i64 ((g12 : Int) - 1) ∧ g12 ≤ n ∧ RsAt w wr w.heap.size n c' (.slice xa (out.length + 1) xc) (vs ++ [.slice ua ul uc]) (out ++ [c]) ∧ c'.length = n ∧ (∀ j, j < g12 → c'.getD j 0 = c.getD j 0) ∧ ∀ j, g12 ≤ j → j < n → c'.getD j 0 = 0 ∧ c.getD j 0 = p.sizes.getD j 0 - 1)
            case atStart => exact ⟨c, rfl, Nat.le_refl _, HRS3.out, HCL.out, fun j _ => rfl, fun j h1 h2 => by omega⟩
            case round =>
              obtain ⟨c', rfl, hgn, hrs, hcl', hpre, hpost⟩ := hrel
              have HRS4 := Lib.hid hrs
              have HCL2 := Lib.hid hcl'
              have HPRE := Lib.hid hpre
              have HPOST := Lib.hid hpost
              clear hpre hpost hcl'
              cases gk with
              | zero =>
                have hnone : nxt p.sizes c = none := nxt_none _ _ (by rw [HCL.out, HN.out]) fun j hj => (HPOST.out j (Nat.zero_le _) (by rw [HN.out] at hj; exact hj)).2
                have hall : sols p [] = (out ++ [c]) := by rw [HEQ3.out, hnone]; show (out ++ [c]) ++ fil p [] = (out ++ [c]); simp [fil]
                have HRES : Hid ((sols p []).take most = (out ++ [c])) := Lib.hid (by rw [hall, List.take_of_length_le (Nat.le_of_lt HLEN3.out)])
                clear hrs hnone hall
                go_wp2
                go_quiet (fail)
                go_wp2
                go_ret
                refine ⟨_, (vs ++ [.slice ua ul uc]), rfl, ?_, below_drewN HRS4.out.bel _⟩
                rw [HRES.out]
                exact (HRS4.out.next (below_drewN (Below.refl _ _) _)).o
              | succ m =>
                have hkm : (((m + 1 : Nat) : Int) - 1) = (m : Int) := by omega
                rw [hkm]
                have hmn : m < n := by omega
                obtain ⟨d1, d2⟩ := hrs.a.at (j := m) (by rw [HCL2.out]; exact hmn)
                rw [HPRE.out m (by omega)] at d1
                obtain ⟨rfl, hps⟩ := HSR.out.ha (by omega)
                have d3 := (HSR.out.kept (Below.keptB hrs.bel HP.out)).hc m (by omega)
                obtain ⟨hy1, hy2⟩ := HSZ.out m hmn
                have hxin := (in_iff p.sizes c (by rw [HCL.out, HN.out])).2 HIN.out m (by rw [HN.out]; exact hmn)
                obtain ⟨hx0, hx1⟩ := hxin
                clear hrs hkm
                by_cases hmax : c.getD m 0 = p.sizes.getD m 0 - 1
                · have HMAX := Lib.hid hmax
                  rw [hmax] at d1
                  clear hmax hx0 hx1
                  obtain ⟨y, hy⟩ : ∃ y, p.sizes.getD m 0 = y := ⟨_, rfl⟩
                  rw [hy] at d1 d3 hy1 hy2
                  clear hy
                  go_wp2
                  go_quiet (fail)
                  go_wp2
                  go_roundg m
                  case measure => omega
                  case rel => exact ⟨c'.set m 0, by go_num, by omega, (HRS4.out.next (below_drewN (Below.refl _ _) _)).set (by rw [HCL2.out]; exact hmn) 0, by rw [List.length_set]; exact HCL2.out, fun j hj => by
                      rw [getD_set_ne (by omega)]; exact HPRE.out j (by omega), fun j h1 h2 => by
                      by_cases e : j = m
                      · subst e; exact ⟨getD_set_eq (by rw [HCL2.out]; exact hmn) 0, HMAX.out⟩
                      · rw [getD_set_ne (by omega)]; exact HPOST.out j (by omega) h2⟩
                · have HMAX := Lib.hid hmax
                  have HX := Lib.hid (And.intro hx0 hx1)
                  obtain ⟨x, hx⟩ : ∃ x, c.getD m 0 = x := ⟨_, rfl⟩
                  obtain ⟨y, hy⟩ : ∃ y, p.sizes.getD m 0 = y := ⟨_, rfl⟩
                  rw [hx] at d1 hx0 hx1 hmax
                  rw [hy] at d3 hy1 hy2 hx1 hmax
                  have hne : (x == y - 1) = false := by simpa using hmax
                  have HXX := Lib.hid hx
                  have HYY := Lib.hid hy
                  clear hx hy hmax
                  go_wp2
                  go_quiet (fail)
                  go_wp2
                  have hnx : nxt p.sizes c = some (c'.set m (x + 1)) := by
                    refine nxt_some m p.sizes c (c'.set m (x + 1)) (by rw [HCL.out, HN.out]) (by rw [List.length_set, HCL2.out, HN.out]) (by rw [HN.out]; exact hmn) (fun j hj => by rw [getD_set_ne (by omega)]; exact HPRE.out j (by omega)) ?_ (fun j h1 h2 => by rw [getD_set_ne (by omega)]; exact (HPOST.out j (by omega) (by rw [HN.out] at h2; exact h2)).1) ?_ (fun j h1 h2 => (HPOST.out j (by omega) (by rw [HN.out] at h2; exact h2)).2)
                    · rw [getD_set_eq (by rw [HCL2.out]; exact hmn), HXX.out]
                    · have := HX.out.2; have := HMAX.out; omega
                  have hlenr : (fromA p.sizes (c'.set m (x + 1))).length < g7 := by
                    have := HG7.out
                    rw [HSTEP.out, hnx, List.length_cons] at this
                    have e : (fromA p.sizes (c'.set m (x + 1))).length + 1 = g7 := this
                    omega
                  have hin2 : In p.sizes (c'.set m (x + 1)) := by
                    refine (in_iff p.sizes _ (by rw [List.length_set, HCL2.out, HN.out])).1 fun j hj => ?_
                    rw [HN.out] at hj
                    have hin0 := (in_iff p.sizes c (by rw [HCL.out, HN.out])).2 HIN.out j (by rw [HN.out]; exact hj)
                    by_cases e : j = m
                    · subst e
                      rw [getD_set_eq (by rw [HCL2.out]; exact hmn)]
                      have := HX.out; have := HMAX.out; have := HXX.out; omega
                    · rw [getD_set_ne e]
                      by_cases e2 : j < m
                      · rw [HPRE.out j (by omega)]; exact hin0
                      · rw [(HPOST.out j (by omega) hj).1]
                        have := (HSZ.out j hj).1
                        omega
                  have heq2 : sols p [] = (out ++ [c]) ++ fil p (fromA p.sizes (c'.set m (x + 1))) := by rw [HEQ3.out, hnx]
                  go_roundg ((fromA p.sizes (c'.set m (x + 1))).length)
                  case measure => exact hlenr
                  case rel => exact ⟨c'.set m (x + 1), (vs ++ [.slice ua ul uc]), (out ++ [c]), rfl, (HRS4.out.next (below_drewN (Below.refl _ _) _)).set (by rw [HCL2.out]; exact hmn) (x + 1), by rw [List.length_set]; exact HCL2.out, hin2, heq2, HLEN3.out⟩
      | succ gk2 =>
        have hql : q < lr := by omega
        obtain ⟨rfl, hpr⟩ := HRR.out.ha (by omega)
        have hbw := HRS2.out.bel
        have hk' := Below.keptB hbw HP.out
        have d0 := (HRR.out.kept hk').hc (q * 2) (by omega)
        have d1 : wr.cell? ⟨rb, ro + q * 2 + 1, none⟩ = some (rvs (q * 2 + 1)) := (HRR.out.kept hk').hc (q * 2 + 1) (by omega)
        obtain ⟨f1, f2⟩ := HRS.out q hql
        obtain ⟨va, vl, vc, hv⟩ := f1.slice
        obtain ⟨aa, al, ac, ha⟩ := f2.slice
        rw [hv] at d0 f1
        rw [ha] at d1 f2
        have hbl := (Below.refl wr.heap.size wr).alloc (Nat.le_refl _) (.cells #[.slice va vl vc, .slice aa al ac] 46)
        have HBL := Lib.hid hbl
        have HC := Lib.hid (HSAT.out (wr.alloc (.cells #[.slice va vl vc, .slice aa al ac] 46)) q n _ _ _ c (Below.next hbw hbl) hql (HRS2.out.next hbl).a (by rw [HCL.out, HN.out]) f1 f2)
        clear hbel hbw hk' f1 f2 hv ha hbl
        cases b with
        | false =>
          have hst : (false = true ↔ ∀ i, i < q + 1 → satR (p.rels.getD i default) c) := ⟨fun e => absurd e (by simp), fun hm => HBB.out.2 fun k hk => hm k (by omega)⟩
          have HST := Lib.hid hst
          clear hst
          go_wp2
          go_roundg gk2
          case measure => omega
          case rel => exact ⟨q + 1, false, by omega, by go_num, rfl, HST.out, Below.next HBEL.out HBL.out⟩
        | true =>
          have hst : ∀ b2 : Bool, (b2 = true ↔ satR (p.rels.getD q default) c) → (b2 = true ↔ ∀ i, i < q + 1 → satR (p.rels.getD i default) c) := fun b2 h2 => ⟨fun e i hi => by
            by_cases e2 : i = q
            · rw [e2]; exact h2.1 e
            · exact HBB.out.1 rfl i (by omega), fun hm => h2.2 (hm q (by omega))⟩
          have HST := Lib.hid hst
          clear hst
          go_wp2_with (first | (go_at_call 42; refine HC.out.mono ?_; rintro e w5 ⟨b5, rfl, hb5, hbel5⟩; have HB5 := Lib.hid hb5; have HBE5 := Lib.hid hbel5; clear hb5 hbel5))
          go_roundg gk2
          case measure => omega
          case rel => exact ⟨q + 1, b5, by omega, by go_num, rfl, HST.out b5 HB5.out, Below.next (Below.next HBEL.out HBL.out) HBE5.out⟩
end Go.Proofs.Ytamidopeojipkaa
