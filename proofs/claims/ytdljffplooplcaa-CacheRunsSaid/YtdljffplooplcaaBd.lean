/- CacheBounds. -/
import Derived.Test.YtdljffplooplcaaGr
import Derived.Test.YtdljffplooplcaaPlain2
namespace Go.Proofs.Ytdljffplooplcaa
open Go.RowKit
set_option linter.unusedVariables false

/-- between two rounds of CacheBounds' loop -/
def BdAt (w : World) (cap : Int) (ops : List OpT) (c : Nat) (i : Nat) (ad : Int) (wr : World) : Prop :=
  ∃ F h m r es, ad = (es.length : Int) + r ∧ CacheIs wr F c cap h m r es ∧ (∀ x, F x → w.heap.size ≤ x) ∧ Below w.heap.size w wr ∧ Cnt i h m r ∧ (es.length : Int) ≤ cap ∧ (es.length : Int) + r ≤ i ∧
    ∀ p, p ∈ es → lastP ops p.1 i = some p.2

theorem BdAt.below {w : World} {cap : Int} {ops : List OpT} {c i : Nat} {ad : Int} {wr w2 : World} (h : BdAt w cap ops c i ad wr) (hb : Below wr.heap.size wr w2) : BdAt w cap ops c i ad w2 := by
  obtain ⟨F, h, m, r, es, h1, h2, h3, h4, h5⟩ := h
  exact ⟨F, h, m, r, es, h1, h2.below hb, h3, Below.next h4 hb, h5⟩

/-- A slice of strings that a call has made, written out. -/
theorem ownsRow_strs {w : World} {base : Nat} {v : Value} {ks : List ByteArray} (h : w.ownsRow base 9 1 v ks.length (strs ks)) :
    ∃ a cap g, v = .slice a ks.length cap ∧ ks.length ≤ cap ∧ cap ≤ maxLen ∧ (0 < ks.length → a = some ⟨g, 0, none⟩ ∧ base ≤ g ∧ g < w.heap.size) ∧ ∀ i, i < ks.length → w.cell? ⟨g, i, none⟩ = some (.string (ks.getD i ⟨#[]⟩)) := by
  rcases h.2 with ⟨hv, h0⟩ | ⟨g, cap, cur, hv, hb, hg, hn, hm, hs, ht⟩
  · exact ⟨none, 0, 0, by rw [h0]; exact hv, by omega, by unfold maxLen; omega, fun h => by omega, fun i hi => by omega⟩
  · refine ⟨_, cap, g, hv, hn, hm, fun _ => ⟨rfl, hb, (Array.getElem?_eq_some_iff.1 hg).1⟩, fun i hi => ?_⟩
    have := World.ownsRow.cells h (g := g) (by rw [hv]; rfl) i (.string (ks.getD i ⟨#[]⟩)) (by simp [strs, List.getD, hi])
    rw [Addr.add_lit] at this
    rw [Nat.zero_add] at this
    exact this
theorem Only.drewN {D : Nat → Prop} {w w1 : World} (h : Only D w w1) (n : Nat) : Only D w (w1.drewN n) := ⟨h.os, h.tape, h.output, h.size, h.block⟩
theorem str_beq (a b : ByteArray) : (a.toList == b.toList) = decide (a = b) := by
  rw [ByteArray.toList_eq, ByteArray.toList_eq]
  by_cases h : a = b
  · subst h; simp
  · have : ¬ a.data = b.data := fun e => h (by cases a; cases b; simp_all)
    simp [h, this]
theorem nodup_at {ks : List ByteArray} (h : ks.Nodup) {i j : Nat} (hi : i < j) (hj : j < ks.length) : ks.getD i ⟨#[]⟩ ≠ ks.getD j ⟨#[]⟩ := by
  have e1 : ks.getD i ⟨#[]⟩ = ks[i] := by simp [List.getD, Nat.lt_trans hi hj]
  have e2 : ks.getD j ⟨#[]⟩ = ks[j] := by simp [List.getD, hj]
  rw [e1, e2]
  exact (List.pairwise_iff_getElem.1 h) i j (by omega) hj hi

set_option maxRecDepth 20000 in
set_option maxHeartbeats 4000000 in
theorem bd_walk (ca : Int) {w : World} {a : Option Addr} {len cap b off : Nat} {vs : Nat → Value} {ops : List OpT} (h : OpsAt w a len cap b off vs ops) :
    Calls Try.prog 4 #[.int .i64 ca, .slice a len cap] w fun e w' => e = .returned (.bool true) ∧ Below w.heap.size w w' := by
  have HL := Lib.hid (light_any h)
  have HO := Lib.hid h
  have hcap := h.hcap
  have hmx : cap ≤ 9223372036854775807 := by have := h.hmax; unfold maxLen at this; omega
  clear h
  cases hL : lightT ops with
  | false =>
    rw [hL] at HL
    clear hL
    go_enter Try.func4, Try.ntmps4
    go_wp2_with fail
    refine HL.out.mono ?_
    rintro e w1 ⟨rfl, hb1⟩
    go_wp2_with fail
    refine (awake_any _).mono ?_
    rintro e w2 ⟨rfl, hb2⟩
    go_wp2
    go_ret
    exact ⟨rfl, Below.next hb1 hb2⟩
  | true =>
    have HLT := Lib.hid (lightT_of hL)
    rw [hL] at HL
    clear hL
    by_cases h1 : ca < 1
    · go_enter Try.func4, Try.ntmps4
      go_wp2_with fail
      refine HL.out.mono ?_
      rintro e w1 ⟨rfl, hb1⟩
      go_wp2_with fail
      refine (awake_any _).mono ?_
      rintro e w2 ⟨rfl, hb2⟩
      go_wp2
      go_ret
      exact ⟨rfl, Below.next hb1 hb2⟩
    · by_cases h3 : 100 < ca
      · go_enter Try.func4, Try.ntmps4
        go_wp2_with fail
        refine HL.out.mono ?_
        rintro e w1 ⟨rfl, hb1⟩
        go_wp2_with fail
        refine (awake_any _).mono ?_
        rintro e w2 ⟨rfl, hb2⟩
        go_wp2
        go_ret
        exact ⟨rfl, Below.next hb1 hb2⟩
      · have HN1 := Lib.hid (fun w1 => new_is (cap := ca) (by omega) (by omega) w1)
        go_enter Try.func4, Try.ntmps4
        go_wp2_with fail
        refine HL.out.mono ?_
        rintro e w1 ⟨rfl, hb1⟩
        have HB1 := Lib.hid hb1
        clear hb1
        go_wp2_with fail
        refine (HN1.out w1).mono ?_
        rintro e w2 ⟨c, rfl, hc1, s1, hb2⟩
        have hstart : BdAt w ca ops c 0 0 w2 := by
          refine ⟨_, _, _, _, _, rfl, s1, fun x hx => ?_, Below.next HB1.out hb2, ⟨by decide, by decide, by decide, by decide, by decide, by decide⟩, ?_, ?_, ?_⟩
          · have := hx.1; have := HB1.out.size; omega
          · simp; omega
          · simp
          · intro p hp; simp at hp
        have HST := Lib.hid hstart
        clear hstart hb2 s1
        go_wp2
        go_loopw [7, 8] (fun ad i wr => ∃ (k : Nat) (x : Int), k ≤ len ∧ i = .int .i64 k ∧ ad = .int .i64 x ∧ BdAt w ca ops c k x wr) (fun _ i _ => len - (intOf i).toNat)
        case atStart => exact ⟨0, 0, by omega, rfl, rfl, HST.out⟩
        case round =>
          obtain ⟨k, x, hk, rfl, rfl, hbd⟩ := hrel
          by_cases hlt : k < len
          · obtain ⟨F, p1, m1, r1, es, rfl, s1, hF, hbel, hcn, hlen, hadk, hlast⟩ := hbd
            obtain ⟨rfl, hb⟩ := HO.out.ha (by omega)
            obtain ⟨x0, x1, x2, x3, x4⟩ := HO.out.below hbel k hlt
            obtain ⟨av, lv, qv, hv⟩ := x4.slice
            rw [hv] at x3 x4
            have hops := HLT.out.2 k (by rw [HO.out.hlen]; exact hlt)
            have hk40 : k < 40 := by have := HLT.out.1; rw [HO.out.hlen] at this; omega
            have HLP := Lib.hid (fun (cap : Int) (es : Es) (h0 : (ops.getD k default).kind = 0) (h : ∀ p, p ∈ es → lastP ops p.1 k = some p.2) => last_put (cap := cap) h0 h)
            have HLG := Lib.hid (fun (key : ByteArray) (es : Es) (h0 : ¬ (ops.getD k default).kind = 0) (h : ∀ p, p ∈ es → lastP ops p.1 k = some p.2) => last_get (k := key) h0 h)
            generalize ops.getD k default = o at *
            generalize hkd0 : o.kind = kd at *
            clear hkd0
            have hal : Below wr.heap.size wr (wr.alloc (.cells #[.int .i64 kd, .string o.key, .int .i64 o.term.rule, .slice av lv qv] 38)) := (Below.refl _ _).alloc (Nat.le_refl _) _
            have hrow := heap_alloc_new wr (.cells #[.int .i64 kd, .string o.key, .int .i64 o.term.rule, .slice av lv qv] 38)
            have y0 : (wr.alloc (.cells #[.int .i64 kd, .string o.key, .int .i64 o.term.rule, .slice av lv qv] 38)).cell? ⟨wr.heap.size, 0, none⟩ = some (.int .i64 kd) := (cell_of_row _ _ 0 _ _ _ hrow).trans rfl
            have y1 : (wr.alloc (.cells #[.int .i64 kd, .string o.key, .int .i64 o.term.rule, .slice av lv qv] 38)).cell? ⟨wr.heap.size, 1, none⟩ = some (.string o.key) := (cell_of_row _ _ 1 _ _ _ hrow).trans rfl
            have y2 : (wr.alloc (.cells #[.int .i64 kd, .string o.key, .int .i64 o.term.rule, .slice av lv qv] 38)).cell? ⟨wr.heap.size, 2, none⟩ = some (.int .i64 o.term.rule) := (cell_of_row _ _ 2 _ _ _ hrow).trans rfl
            have y3 : (wr.alloc (.cells #[.int .i64 kd, .string o.key, .int .i64 o.term.rule, .slice av lv qv] 38)).cell? ⟨wr.heap.size, 3, none⟩ = some (.slice av lv qv) := (cell_of_row _ _ 3 _ _ _ hrow).trans rfl
            have t1 := s1.below hal
            have hargs : ArgsAt (wr.alloc (.cells #[.int .i64 kd, .string o.key, .int .i64 o.term.rule, .slice av lv qv] 38)) (Here w) (.slice av lv qv) o.term.args := x4.kept (Below.keptB hal ((Here.under w).le hbel.size))
            have hbx : ¬ F wr.heap.size := fun e => by have := s1.under _ e; omega
            have HBX := Lib.hid hbx
            have hwsz : (wr.alloc (.cells #[.int .i64 kd, .string o.key, .int .i64 o.term.rule, .slice av lv qv] 38)).heap.size = wr.heap.size + 1 := by simp
            have HWSZ := Lib.hid hwsz
            have HBEL := Lib.hid (Below.next hbel hal)
            have HROW := Lib.hid hrow
            have T1 := Lib.hid t1
            have HARGS := Lib.hid hargs
            have HF := Lib.hid hF
            have HC := Lib.hid hcn
            have HLAST := Lib.hid hlast
            have HOPS := Lib.hid (show tsize o.term ≤ 1000 by omega)
            have hr0 := hcn.2.2.2.2
            clear s1 t1 hF hcn hlast hops hal hrow hbel hargs hbx hwsz x4 hv
            by_cases hkd : kd = 0
            · subst hkd
              have HPK := Lib.hid (peek_is T1.out o.key)
              go_wp2_with fail
              refine HPK.out.mono ?_
              generalize wr.alloc (.cells #[.int .i64 0, .string o.key, .int .i64 o.term.rule, .slice av lv qv] 38) = W at *
              rintro e w3 ⟨⟨g1, rfl, ga1, _⟩, hb3⟩
              obtain ⟨e1, e2, e3, rfl⟩ := ga1.slice
              have hal3 : Below w3.heap.size w3 (w3.alloc (.cells #[.int .i64 ((lookE o.key es).getD (.node 0 [])).rule, .slice e1 e2 e3] 36)) := (Below.refl _ _).alloc (Nat.le_refl _) _
              have hb3' := Below.next hb3 hal3
              have hrow3 := (hb3'.block wr.heap.size (by rw [HWSZ.out]; omega)).trans HROW.out
              have z1 : (w3.alloc (.cells #[.int .i64 ((lookE o.key es).getD (.node 0 [])).rule, .slice e1 e2 e3] 36)).cell? ⟨wr.heap.size, 1, none⟩ = some (.string o.key) := (cell_of_row _ _ 1 _ _ _ hrow3).trans rfl
              have z2 : (w3.alloc (.cells #[.int .i64 ((lookE o.key es).getD (.node 0 [])).rule, .slice e1 e2 e3] 36)).cell? ⟨wr.heap.size, 2, none⟩ = some (.int .i64 o.term.rule) := (cell_of_row _ _ 2 _ _ _ hrow3).trans rfl
              have z3 : (w3.alloc (.cells #[.int .i64 ((lookE o.key es).getD (.node 0 [])).rule, .slice e1 e2 e3] 36)).cell? ⟨wr.heap.size, 3, none⟩ = some (.slice av lv qv) := (cell_of_row _ _ 3 _ _ _ hrow3).trans rfl
              have hbel3 := Below.next HBEL.out hb3'
              have hP := put_is (T1.out.below hb3') o.key o.term (.slice av lv qv) (Here w) (HARGS.out.kept (Below.keptB hb3' ((Here.under w).le HBEL.out.size))) (fun x hx => ⟨Nat.lt_of_lt_of_le hx hbel3.size, fun e => by have := HF.out x e; unfold Here at hx; omega⟩) HOPS.out ⟨HC.out.2.2.2.2.1, by have := HC.out.2.2.2.2.2; omega⟩
              have HP := Lib.hid hP
              have HBEL3 := Lib.hid hbel3
              have hcount := put_count (cap := ca) (k := o.key) (t := o.term) T1.out.nodup (by omega)
              have HCOUNT := Lib.hid hcount
              clear hb3 hb3' hal3 hrow3 hbel3 hP ga1 y0 y1 y2 y3 x0 x1 x2 x3 hcount
              have hnext : ∀ w4, CacheIs w4 (fun x => F x ∨ Span (w3.alloc (.cells #[.int .i64 ((lookE o.key es).getD (.node 0 [])).rule, .slice e1 e2 e3] 36)).heap.size w4.heap.size x) c ca p1 m1 (r1 + one (fullE ca o.key es)) (putE ca o.key o.term es) → Near F (w3.alloc (.cells #[.int .i64 ((lookE o.key es).getD (.node 0 [])).rule, .slice e1 e2 e3] 36)) w4 →
                  BdAt w ca ops c (k + 1) ((es.length : Int) + r1 + one (lookE o.key es).isNone) w4 := by
                intro w4 s4 hn4
                have hcount := HCOUNT.out
                have hbd := one_bd (lookE o.key es).isNone
                refine ⟨_, _, _, _, _, by omega, s4, fun x hx => ?_, Below.stepN HBEL3.out hn4 HF.out, ?_, put_len T1.out.nodup hlen (by omega), by omega, HLP.out ca es trivial HLAST.out⟩
                · rcases hx with hx | hx
                  · exact HF.out x hx
                  · have := hx.1; have := HBEL3.out.size; omega
                · have := HC.out.step (x := 0) (y := 0) (by omega) (by omega) (one_bd (fullE ca o.key es))
                  simpa using this
              have HNEXT := Lib.hid hnext
              clear hnext
              cases hlk : lookE o.key es with
              | none =>
                rw [hlk] at z1 z2 z3 HP HNEXT
                simp only [Option.getD_none, Option.isSome_none, Option.isNone_none] at z1 z2 z3 HP HNEXT ⊢
                go_wp2_with fail
                refine HP.out.mono ?_
                rintro e w4 ⟨rfl, s4, hn4⟩
                have HX := Lib.hid (HNEXT.out w4 s4 hn4)
                simp only [one, if_true] at HX
                clear s4 hn4 z1 z2 z3 hlk
                obtain ⟨F', h', m', r', es', had, s', hF', hbel', hcn', hlen', hadk', hlast'⟩ := HX.out
                have hkl' : (keysE es').length = es'.length := by simp [keysE]
                have HK := Lib.hid (keys_is s' (by omega))
                have hr' := hcn'.2.2.2.2
                have S' := Lib.hid s'
                have HKN := Lib.hid (show (keysE es').Nodup from s'.nodup)
                rw [had]
                have HAD := Lib.hid had
                clear s' hF' hbel' hcn' hlast' had
                rw [hkl'] at HK
                go_wp2_with fail
                refine HK.out.mono ?_
                rintro e w5 ⟨v, rfl, hown, hb5⟩
                rw [← hkl'] at hown
                obtain ⟨ka, kc, kg, rfl, hkc, hkm, hka, hkcell⟩ := ownsRow_strs hown
                have HST := Lib.hid (stats_is (S'.out.below hb5))
                have HX5 := Lib.hid (HX.out.below hb5)
                have HKC := Lib.hid hkcell
                have hmk : kc ≤ 9223372036854775807 := by unfold maxLen at hkm; omega
                clear hown hkm hkcell hb5
                rw [hkl'] at hka hkc ⊢
                have hsub : (es'.length : Int) + r' - r' = es'.length := by omega
                have hn100 : es'.length ≤ 100 := by omega
                clear hadk'
                go_wp2_with fail
                refine HST.out.mono ?_
                rintro e w6 ⟨rfl, hb6⟩
                have HX6 := Lib.hid (HX5.out.below hb6)
                have HB6 := Lib.hid hb6
                clear hb6
                go_wp2_with fail
                clear hsub hr'
                go_loopw [20] (fun i wr3 => ∃ q : Nat, 1 ≤ q ∧ q ≤ es'.length + 1 ∧ i = .int .i64 q ∧ Below w6.heap.size w6 wr3) (fun i _ => es'.length + 1 - (intOf i).toNat)
                case atStart => exact ⟨1, by omega, by omega, rfl, Below.refl _ _⟩
                case round =>
                  obtain ⟨q, hq, hq2, rfl, hB3⟩ := hrel
                  have HB3 := Lib.hid hB3
                  clear hB3
                  by_cases hql : q < es'.length
                  · obtain ⟨rfl, hg1, hg2⟩ := hka (by omega)
                    go_wp2
                    go_loopw [21] (fun j wr4 => ∃ p : Nat, p ≤ q ∧ j = .int .i64 p ∧ Below w6.heap.size w6 wr4) (fun j _ => q - (intOf j).toNat)
                    case atStart => exact ⟨0, by omega, rfl, HB3.out⟩
                    case round =>
                      obtain ⟨p, hp, rfl, hB4⟩ := hrel
                      by_cases hpq : p < q
                      · have hb54 := Below.next HB6.out hB4
                        have k1 : wr.cell? ⟨kg, p, none⟩ = some (.string ((keysE es').getD p ⟨#[]⟩)) := (hb54.cell (p := ⟨kg, p, none⟩) hg2).trans (HKC.out p (by omega))
                        have k2 : wr.cell? ⟨kg, q, none⟩ = some (.string ((keysE es').getD q ⟨#[]⟩)) := (hb54.cell (p := ⟨kg, q, none⟩) hg2).trans (HKC.out q (by omega))
                        have hne := nodup_at HKN.out hpq (by omega)
                        generalize (keysE es').getD p ⟨#[]⟩ = s1 at *
                        generalize (keysE es').getD q ⟨#[]⟩ = s2 at *
                        have hne1 : (s1.toList == s2.toList) = false := by rw [str_beq]; simpa using hne
                        have HB4 := Lib.hid hB4
                        clear hB4 hb54
                        go_wp2
                        go_quiet (fail)
                        go_wp2
                        exact ⟨⟨p + 1, by omega, by go_num, below_drewN HB4.out _⟩, by simp [intOf]; omega⟩
                      · have HB4 := Lib.hid hB4
                        clear hB4
                        go_wp2
                        go_roundw
                        case rel => exact ⟨q + 1, by omega, by omega, by go_num, HB4.out⟩
                        case measure => simp [intOf]; omega
                  · have HX7 := Lib.hid (HX6.out.below HB3.out)
                    go_wp2
                    go_roundw
                    case rel => exact ⟨k + 1, _, by omega, by go_num, rfl, by rw [← HAD.out]; exact HX7.out⟩
                    case measure => simp [intOf]; omega
              | some u =>
                rw [hlk] at z1 z2 z3 HP HNEXT
                simp only [Option.getD_some, Option.isSome_some, Option.isNone_some] at z1 z2 z3 HP HNEXT ⊢
                go_wp2_with fail
                refine HP.out.mono ?_
                rintro e w4 ⟨rfl, s4, hn4⟩
                have HX := Lib.hid (HNEXT.out w4 s4 hn4)
                simp only [one, Int.add_zero, Bool.false_eq_true, if_false] at HX
                clear s4 hn4 z1 z2 z3 hlk
                obtain ⟨F', h', m', r', es', had, s', hF', hbel', hcn', hlen', hadk', hlast'⟩ := HX.out
                have hkl' : (keysE es').length = es'.length := by simp [keysE]
                have HK := Lib.hid (keys_is s' (by omega))
                have hr' := hcn'.2.2.2.2
                have S' := Lib.hid s'
                have HKN := Lib.hid (show (keysE es').Nodup from s'.nodup)
                rw [had]
                have HAD := Lib.hid had
                clear s' hF' hbel' hcn' hlast' had
                rw [hkl'] at HK
                go_wp2_with fail
                refine HK.out.mono ?_
                rintro e w5 ⟨v, rfl, hown, hb5⟩
                rw [← hkl'] at hown
                obtain ⟨ka, kc, kg, rfl, hkc, hkm, hka, hkcell⟩ := ownsRow_strs hown
                have HST := Lib.hid (stats_is (S'.out.below hb5))
                have HX5 := Lib.hid (HX.out.below hb5)
                have HKC := Lib.hid hkcell
                have hmk : kc ≤ 9223372036854775807 := by unfold maxLen at hkm; omega
                clear hown hkm hkcell hb5
                rw [hkl'] at hka hkc ⊢
                have hsub : (es'.length : Int) + r' - r' = es'.length := by omega
                have hn100 : es'.length ≤ 100 := by omega
                clear hadk'
                go_wp2_with fail
                refine HST.out.mono ?_
                rintro e w6 ⟨rfl, hb6⟩
                have HX6 := Lib.hid (HX5.out.below hb6)
                have HB6 := Lib.hid hb6
                clear hb6
                go_wp2_with fail
                clear hsub hr'
                go_loopw [20] (fun i wr3 => ∃ q : Nat, 1 ≤ q ∧ q ≤ es'.length + 1 ∧ i = .int .i64 q ∧ Below w6.heap.size w6 wr3) (fun i _ => es'.length + 1 - (intOf i).toNat)
                case atStart => exact ⟨1, by omega, by omega, rfl, Below.refl _ _⟩
                case round =>
                  obtain ⟨q, hq, hq2, rfl, hB3⟩ := hrel
                  have HB3 := Lib.hid hB3
                  clear hB3
                  by_cases hql : q < es'.length
                  · obtain ⟨rfl, hg1, hg2⟩ := hka (by omega)
                    go_wp2
                    go_loopw [21] (fun j wr4 => ∃ p : Nat, p ≤ q ∧ j = .int .i64 p ∧ Below w6.heap.size w6 wr4) (fun j _ => q - (intOf j).toNat)
                    case atStart => exact ⟨0, by omega, rfl, HB3.out⟩
                    case round =>
                      obtain ⟨p, hp, rfl, hB4⟩ := hrel
                      by_cases hpq : p < q
                      · have hb54 := Below.next HB6.out hB4
                        have k1 : wr.cell? ⟨kg, p, none⟩ = some (.string ((keysE es').getD p ⟨#[]⟩)) := (hb54.cell (p := ⟨kg, p, none⟩) hg2).trans (HKC.out p (by omega))
                        have k2 : wr.cell? ⟨kg, q, none⟩ = some (.string ((keysE es').getD q ⟨#[]⟩)) := (hb54.cell (p := ⟨kg, q, none⟩) hg2).trans (HKC.out q (by omega))
                        have hne := nodup_at HKN.out hpq (by omega)
                        generalize (keysE es').getD p ⟨#[]⟩ = s1 at *
                        generalize (keysE es').getD q ⟨#[]⟩ = s2 at *
                        have hne1 : (s1.toList == s2.toList) = false := by rw [str_beq]; simpa using hne
                        have HB4 := Lib.hid hB4
                        clear hB4 hb54
                        go_wp2
                        go_quiet (fail)
                        go_wp2
                        exact ⟨⟨p + 1, by omega, by go_num, below_drewN HB4.out _⟩, by simp [intOf]; omega⟩
                      · have HB4 := Lib.hid hB4
                        clear hB4
                        go_wp2
                        go_roundw
                        case rel => exact ⟨q + 1, by omega, by omega, by go_num, HB4.out⟩
                        case measure => simp [intOf]; omega
                  · have HX7 := Lib.hid (HX6.out.below HB3.out)
                    go_wp2
                    go_roundw
                    case rel => exact ⟨k + 1, _, by omega, by go_num, rfl, by rw [← HAD.out]; exact HX7.out⟩
                    case measure => simp [intOf]; omega
            · have HG := Lib.hid (get_is T1.out o.key ⟨HC.out.1, by have := HC.out.2.1; omega⟩ ⟨HC.out.2.2.1, by have := HC.out.2.2.2.1; omega⟩)
              go_wp2_with fail
              refine HG.out.mono ?_
              generalize wr.alloc (.cells #[.int .i64 kd, .string o.key, .int .i64 o.term.rule, .slice av lv qv] 38) = W at *
              rintro e w3 ⟨⟨g1, rfl, ga1, _⟩, s3, hn3⟩
              obtain ⟨e1, e2, e3, rfl⟩ := ga1.slice
              have hal3 : Below w3.heap.size w3 (w3.alloc (.cells #[.int .i64 ((lookE o.key es).getD (.node 0 [])).rule, .slice e1 e2 e3] 36)) := (Below.refl _ _).alloc (Nat.le_refl _) _
              have hbel3 := Below.stepN HBEL.out hn3 HF.out
              have hX : BdAt w ca ops c (k + 1) ((es.length : Int) + r1) w3 := by
                refine ⟨_, _, _, _, _, by rw [get_len T1.out.nodup], s3, HF.out, hbel3, ?_, by rw [get_len T1.out.nodup]; exact hlen, by rw [get_len T1.out.nodup]; omega, HLG.out _ es hkd HLAST.out⟩
                have := HC.out.step (z := 0) (one_bd (lookE o.key es).isSome) (one_bd (lookE o.key es).isNone) (by omega)
                simpa using this
              have HX := Lib.hid (hX.below hal3)
              have hrow3 := (hn3.block wr.heap.size (by rw [HWSZ.out]; omega) HBX.out).trans HROW.out
              have hlt3 := (Array.getElem?_eq_some_iff.1 hrow3).1
              have HROW3 := Lib.hid ((hal3.block wr.heap.size hlt3).trans hrow3)
              have HROW12 := Lib.hid (heap_alloc_new w3 (.cells #[.int .i64 ((lookE o.key es).getD (.node 0 [])).rule, .slice e1 e2 e3] 36))
              have HGA := Lib.hid (ga1.kept (Below.keptB hal3 fun x hx => hx.2))
              have hws3 : (w3.alloc (.cells #[.int .i64 ((lookE o.key es).getD (.node 0 [])).rule, .slice e1 e2 e3] 36)).heap.size = w3.heap.size + 1 := by simp
              have HWS3 := Lib.hid hws3
              have HLT3 := Lib.hid hlt3
              have HB3 := Lib.hid (Below.next hbel3 hal3)
              clear hal3 hbel3 hX hrow3 hlt3 ga1 s3 hn3 hws3 y0 y1 y2 y3 x0 x1 x2 x3
              cases hlk : lookE o.key es with
              | none =>
                rw [hlk] at HX HROW3
                simp only [Option.getD_none, Option.isSome_none, T.rule] at HX HROW3 ⊢
                clear HROW3 HROW12 HGA hlk HWS3 HB3
                go_wp2_with fail
                obtain ⟨F', h', m', r', es', had, s', hF', hbel', hcn', hlen', hadk', hlast'⟩ := HX.out
                have hkl' : (keysE es').length = es'.length := by simp [keysE]
                have HK := Lib.hid (keys_is s' (by omega))
                have hr' := hcn'.2.2.2.2
                have S' := Lib.hid s'
                have HKN := Lib.hid (show (keysE es').Nodup from s'.nodup)
                rw [had]
                have HAD := Lib.hid had
                clear s' hF' hbel' hcn' hlast' had
                rw [hkl'] at HK
                go_wp2_with fail
                refine HK.out.mono ?_
                rintro e w5 ⟨v, rfl, hown, hb5⟩
                rw [← hkl'] at hown
                obtain ⟨ka, kc, kg, rfl, hkc, hkm, hka, hkcell⟩ := ownsRow_strs hown
                have HST := Lib.hid (stats_is (S'.out.below hb5))
                have HX5 := Lib.hid (HX.out.below hb5)
                have HKC := Lib.hid hkcell
                have hmk : kc ≤ 9223372036854775807 := by unfold maxLen at hkm; omega
                clear hown hkm hkcell hb5
                rw [hkl'] at hka hkc ⊢
                have hsub : (es'.length : Int) + r' - r' = es'.length := by omega
                have hn100 : es'.length ≤ 100 := by omega
                clear hadk'
                go_wp2_with fail
                refine HST.out.mono ?_
                rintro e w6 ⟨rfl, hb6⟩
                have HX6 := Lib.hid (HX5.out.below hb6)
                have HB6 := Lib.hid hb6
                clear hb6
                go_wp2_with fail
                clear hsub hr'
                go_loopw [20] (fun i wr3 => ∃ q : Nat, 1 ≤ q ∧ q ≤ es'.length + 1 ∧ i = .int .i64 q ∧ Below w6.heap.size w6 wr3) (fun i _ => es'.length + 1 - (intOf i).toNat)
                case atStart => exact ⟨1, by omega, by omega, rfl, Below.refl _ _⟩
                case round =>
                  obtain ⟨q, hq, hq2, rfl, hB3⟩ := hrel
                  have HB3 := Lib.hid hB3
                  clear hB3
                  by_cases hql : q < es'.length
                  · obtain ⟨rfl, hg1, hg2⟩ := hka (by omega)
                    go_wp2
                    go_loopw [21] (fun j wr4 => ∃ p : Nat, p ≤ q ∧ j = .int .i64 p ∧ Below w6.heap.size w6 wr4) (fun j _ => q - (intOf j).toNat)
                    case atStart => exact ⟨0, by omega, rfl, HB3.out⟩
                    case round =>
                      obtain ⟨p, hp, rfl, hB4⟩ := hrel
                      by_cases hpq : p < q
                      · have hb54 := Below.next HB6.out hB4
                        have k1 : wr.cell? ⟨kg, p, none⟩ = some (.string ((keysE es').getD p ⟨#[]⟩)) := (hb54.cell (p := ⟨kg, p, none⟩) hg2).trans (HKC.out p (by omega))
                        have k2 : wr.cell? ⟨kg, q, none⟩ = some (.string ((keysE es').getD q ⟨#[]⟩)) := (hb54.cell (p := ⟨kg, q, none⟩) hg2).trans (HKC.out q (by omega))
                        have hne := nodup_at HKN.out hpq (by omega)
                        generalize (keysE es').getD p ⟨#[]⟩ = s1 at *
                        generalize (keysE es').getD q ⟨#[]⟩ = s2 at *
                        have hne1 : (s1.toList == s2.toList) = false := by rw [str_beq]; simpa using hne
                        have HB4 := Lib.hid hB4
                        clear hB4 hb54
                        go_wp2
                        go_quiet (fail)
                        go_wp2
                        exact ⟨⟨p + 1, by omega, by go_num, below_drewN HB4.out _⟩, by simp [intOf]; omega⟩
                      · have HB4 := Lib.hid hB4
                        clear hB4
                        go_wp2
                        go_roundw
                        case rel => exact ⟨q + 1, by omega, by omega, by go_num, HB4.out⟩
                        case measure => simp [intOf]; omega
                  · have HX7 := Lib.hid (HX6.out.below HB3.out)
                    go_wp2
                    go_roundw
                    case rel => exact ⟨k + 1, _, by omega, by go_num, rfl, by rw [← HAD.out]; exact HX7.out⟩
                    case measure => simp [intOf]; omega
              | some u =>
                have HLK := Lib.hid (HLAST.out (o.key, u) (look_mem hlk))
                have HU := Lib.hid (T1.out.small _ (look_mem hlk))
                rw [hlk] at HX HROW3 HROW12 HGA HWS3 HB3
                simp only [Option.getD_some, Option.isSome_some] at HX HROW3 HROW12 HGA HWS3 HB3 ⊢
                clear hlk
                go_wp2_with fail
                generalize w3.alloc (.cells #[.int .i64 u.rule, .slice e1 e2 e3] 36) = W3 at *
                have hal4 : Below W3.heap.size W3 (W3.alloc (.cells #[.int .i64 0, .slice none 0 0] 36)) := (Below.refl _ _).alloc (Nat.le_refl _) _
                have HX4 := Lib.hid (HX.out.below hal4)
                have HAL4 := Lib.hid hal4
                have HB4 := Lib.hid (Below.next HB3.out hal4)
                have h3lt := HLT3.out
                have HROW4 := Lib.hid ((hal4.block wr.heap.size (by rw [HWS3.out]; omega)).trans HROW3.out)
                have HROW12' := Lib.hid ((hal4.block w3.heap.size (by rw [HWS3.out]; omega)).trans HROW12.out)
                have HROW14 := Lib.hid (show (W3.alloc (.cells #[.int .i64 0, .slice none 0 0] 36)).heap[w3.heap.size + 1]? = some (.cells #[.int .i64 0, .slice none 0 0] 36 (0, 0)) from by rw [← HWS3.out]; exact heap_alloc_new W3 (.cells #[.int .i64 0, .slice none 0 0] 36))
                have HGA4 := Lib.hid (HGA.out.kept (Below.keptB hal4 fun x hx => by have := hx.2; rw [HWS3.out]; omega))
                have hsz4 : (W3.alloc (.cells #[.int .i64 0, .slice none 0 0] 36)).heap.size = w3.heap.size + 1 + 1 := by rw [← HWS3.out]; simp
                have HSZ4 := Lib.hid hsz4
                clear hal4 hsz4
                generalize W3.alloc (.cells #[.int .i64 0, .slice none 0 0] 36) = W4 at *
                have hne12 : w3.heap.size ≠ w3.heap.size + 1 := by omega
                have hnewr : wr.heap.size ≠ w3.heap.size + 1 := by omega
                have HNE := Lib.hid (And.intro hne12 hnewr)
                have hw3lo : w.heap.size ≤ w3.heap.size + 1 := by rw [← HWS3.out]; exact HB3.out.size
                generalize hwo : wr.heap.size = wo at *
                clear hwo
                clear hne12 hnewr
                go_loopw [15] (fun i wr2 => ∃ (j : Nat) (v : Value), j ≤ k ∧ i = .int .i64 j ∧ Only (fun x => x = (w3.heap.size + 1)) W4 wr2 ∧ wr2.heap[(w3.heap.size + 1)]? = some (.cells #[.int .i64 ((lastP ops o.key j).getD (.node 0 [])).rule, v] 36 (0, 0)) ∧ ArgsAt wr2 (Here w) v ((lastP ops o.key j).getD (.node 0 [])).args) (fun i _ => k - (intOf i).toNat)
                case atStart => exact ⟨0, .slice none 0 0, by omega, rfl, Only.refl _ _, HROW14.out, ArgsAt.nil _ _⟩
                case round =>
                  obtain ⟨j, v, hj, rfl, hO4, hr14, hv14⟩ := hrel
                  have hbelj := Below.stepN HB4.out hO4.near (fun x hx => by rw [hx]; exact hw3lo)
                  by_cases hjk : j < k
                  · obtain ⟨c0, c1, c2, c3, c4⟩ := HO.out.below hbelj j (by omega)
                    have hlp : lastP ops o.key (j + 1) = if (ops.getD j default).kind = 0 ∧ (ops.getD j default).key = o.key then some (ops.getD j default).term else lastP ops o.key j := rfl
                    obtain ⟨ja, jl, jc, hjv⟩ := c4.slice
                    obtain ⟨va, vl, vc, rfl⟩ := hv14.slice
                    rw [hjv] at c3 c4
                    have hrow9 := (hO4.block wo HNE.out.2).trans HROW4.out
                    have d1 : wr.cell? ⟨wo, 1, none⟩ = some (.string o.key) := (cell_of_row _ _ 1 _ _ _ hrow9).trans rfl
                    have f0 := frozen_of_row wr (w3.heap.size + 1) 0 _ _ hr14
                    have f1 := frozen_of_row wr (w3.heap.size + 1) 1 _ _ hr14
                    have b0 : wr.cell? ⟨(w3.heap.size + 1), 0, none⟩ = some (.int .i64 ((lastP ops o.key j).getD (.node 0 [])).rule) := (cell_of_row _ _ 0 _ _ _ hr14).trans rfl
                    have b1 : wr.cell? ⟨(w3.heap.size + 1), 1, none⟩ = some (.slice va vl vc) := (cell_of_row _ _ 1 _ _ _ hr14).trans rfl
                    have HBJ := Lib.hid hbelj
                    have HO4 := Lib.hid hO4
                    have HR14 := Lib.hid hr14
                    have HV14 := Lib.hid hv14
                    have HLPJ := Lib.hid hlp
                    have HC4 := Lib.hid c4
                    generalize ops.getD j default = p at *
                    generalize hkj : p.kind = kj at *
                    clear hkj hbelj hO4 hr14 hv14 hlp c4 hrow9
                    by_cases hk0 : kj = 0
                    · by_cases hkey : p.key = o.key
                      · have hst : (p.key.toList == o.key.toList) = true := by rw [str_beq]; simp [hkey]
                        have hlp2 := HLPJ.out
                        rw [if_pos ⟨hk0, hkey⟩] at hlp2
                        have HLP2 := Lib.hid hlp2
                        subst hk0
                        clear hlp2 hkey
                        go_wp2
                        go_quiet (fail)
                        generalize hW5 : wr.drewN _ = W5
                        have c2' : W5.cell? ⟨b, off + j * 4 + 2, none⟩ = some (.int .i64 p.term.rule) := hW5 ▸ c2
                        have c3' : W5.cell? ⟨b, off + j * 4 + 3, none⟩ = some (.slice ja jl jc) := hW5 ▸ c3
                        have b0' : W5.cell? ⟨(w3.heap.size + 1), 0, none⟩ = some (.int .i64 ((lastP ops o.key j).getD (.node 0 [])).rule) := hW5 ▸ b0
                        have b1' : W5.cell? ⟨(w3.heap.size + 1), 1, none⟩ = some (.slice va vl vc) := hW5 ▸ b1
                        have f0' : W5.frozen? ⟨(w3.heap.size + 1), 0, none⟩ = false := hW5 ▸ f0
                        have f1' : W5.frozen? ⟨(w3.heap.size + 1), 1, none⟩ = false := hW5 ▸ f1
                        have HO5 := Lib.hid (show Only (fun x => x = (w3.heap.size + 1)) W4 W5 from hW5 ▸ HO4.out.drewN _)
                        have HR15 := Lib.hid (show W5.heap[(w3.heap.size + 1)]? = some (.cells #[.int .i64 ((lastP ops o.key j).getD (.node 0 [])).rule, .slice va vl vc] 36 (0, 0)) from hW5 ▸ HR14.out)
                        have HC5 := Lib.hid (show ArgsAt W5 (Here w) (.slice ja jl jc) p.term.args from hW5 ▸ HC4.out.kept (fun _ _ => rfl))
                        clear hW5 c0 c1 c2 c3 b0 b1 f0 f1 d1
                        go_wp2
                        refine ⟨⟨j + 1, .slice ja jl jc, by omega, by go_num, (HO5.out.setCell (b := (w3.heap.size + 1)) rfl _ _).setCell (b := (w3.heap.size + 1)) rfl _ _, ?_, ?_⟩, by simp [intOf]; omega⟩
                        · rw [HLP2.out]
                          exact (setCell_row 1 (.slice ja jl jc) (setCell_row 0 (.int .i64 p.term.rule) HR15.out)).trans rfl
                        · rw [HLP2.out]
                          refine HC5.out.kept fun x hx => ?_
                          have hx2 : x ≠ (w3.heap.size + 1) := fun e => by unfold Here at hx; omega
                          rw [Below.heap_setCell _ _ _ _ hx2, Below.heap_setCell _ _ _ _ hx2]
                      · have hst : (p.key.toList == o.key.toList) = false := by rw [str_beq]; simp [hkey]
                        have hlp2 := HLPJ.out
                        rw [if_neg (fun e => hkey e.2)] at hlp2
                        have HLP2 := Lib.hid hlp2
                        subst hk0
                        clear hlp2 hkey
                        go_wp2
                        go_quiet (fail)
                        go_wp2
                        exact ⟨⟨j + 1, .slice va vl vc, by omega, by go_num, HO4.out.drewN _, by rw [HLP2.out]; exact HR14.out, by rw [HLP2.out]; exact HV14.out.kept (fun _ _ => rfl)⟩, by simp [intOf]; omega⟩
                    · have hk1 : decide (kj = 0) = false := by simpa using hk0
                      have hk2 : (kj == 0) = false := by simpa using hk0
                      go_wp2
                      go_quiet (fail)
                      go_wp2
                      have hlp2 := HLPJ.out
                      rw [if_neg (fun e => hk0 e.1)] at hlp2
                      exact ⟨⟨j + 1, .slice va vl vc, by omega, by go_num, HO4.out.drewN _, by rw [hlp2]; exact HR14.out, by rw [hlp2]; exact HV14.out.kept (fun _ _ => rfl)⟩, by simp [intOf]; omega⟩
                  · have hj' : k = j := by omega
                    subst hj'
                    rw [HLK.out] at hr14 hv14
                    simp only [Option.getD_some] at hr14 hv14
                    obtain ⟨va, vl, vc, rfl⟩ := hv14.slice
                    have hrow12 := (hO4.block w3.heap.size HNE.out.1).trans HROW12'.out
                    have b0 : wr.cell? ⟨(w3.heap.size + 1), 0, none⟩ = some (.int .i64 u.rule) := (cell_of_row _ _ 0 _ _ _ hr14).trans rfl
                    have b1 : wr.cell? ⟨(w3.heap.size + 1), 1, none⟩ = some (.slice va vl vc) := (cell_of_row _ _ 1 _ _ _ hr14).trans rfl
                    have d0 : wr.cell? ⟨w3.heap.size, 0, none⟩ = some (.int .i64 u.rule) := (cell_of_row _ _ 0 _ _ _ hrow12).trans rfl
                    have d1 : wr.cell? ⟨w3.heap.size, 1, none⟩ = some (.slice e1 e2 e3) := (cell_of_row _ _ 1 _ _ _ hrow12).trans rfl
                    have hsw := hO4.size
                    have h4 := HSZ4.out
                    have h3 := HWS3.out
                    have HSM := Lib.hid (same_eq u (.slice e1 e2 e3) (.slice va vl vc) (Span W.heap.size w3.heap.size) (Here w) wr HU.out (fun x hx => by have := hx.2; omega) ((Here.under w).le hbelj.size)
                      (HGA4.out.kept fun x hx => hO4.block x (by have := hx.2; omega)) hv14)
                    have hXj : BdAt w ca ops c (k + 1) ((es.length : Int) + r1) wr := by
                      obtain ⟨F', h', m', r', es', g1, s', g3, g4, g5⟩ := HX.out
                      refine ⟨F', h', m', r', es', g1, (s'.below HAL4.out).near hO4.near (fun x hx e => ?_), g3, hbelj, g5⟩
                      have := s'.under x e
                      have := HWS3.out
                      omega
                    have HXJ := Lib.hid hXj
                    clear hXj hsw h4 h3 hrow12 hr14 hv14 hO4 hbelj
                    go_wp2_with fail
                    refine HSM.out.mono ?_
                    rintro e w7 ⟨rfl, hb7⟩
                    have HX := Lib.hid (HXJ.out.below hb7)
                    clear hb7 b0 b1 d0 d1
                    obtain ⟨F', h', m', r', es', had, s', hF', hbel', hcn', hlen', hadk', hlast'⟩ := HX.out
                    have hkl' : (keysE es').length = es'.length := by simp [keysE]
                    have HK := Lib.hid (keys_is s' (by omega))
                    have hr' := hcn'.2.2.2.2
                    have S' := Lib.hid s'
                    have HKN := Lib.hid (show (keysE es').Nodup from s'.nodup)
                    rw [had]
                    have HAD := Lib.hid had
                    clear s' hF' hbel' hcn' hlast' had
                    rw [hkl'] at HK
                    go_wp2_with fail
                    refine HK.out.mono ?_
                    rintro e w5 ⟨v, rfl, hown, hb5⟩
                    rw [← hkl'] at hown
                    obtain ⟨ka, kc, kg, rfl, hkc, hkm, hka, hkcell⟩ := ownsRow_strs hown
                    have HST := Lib.hid (stats_is (S'.out.below hb5))
                    have HX5 := Lib.hid (HX.out.below hb5)
                    have HKC := Lib.hid hkcell
                    have hmk : kc ≤ 9223372036854775807 := by unfold maxLen at hkm; omega
                    clear hown hkm hkcell hb5
                    rw [hkl'] at hka hkc ⊢
                    have hsub : (es'.length : Int) + r' - r' = es'.length := by omega
                    have hn100 : es'.length ≤ 100 := by omega
                    clear hadk'
                    go_wp2_with fail
                    refine HST.out.mono ?_
                    rintro e w6 ⟨rfl, hb6⟩
                    have HX6 := Lib.hid (HX5.out.below hb6)
                    have HB6 := Lib.hid hb6
                    clear hb6
                    go_wp2_with fail
                    clear hsub hr'
                    go_loopw [20] (fun i wr3 => ∃ q : Nat, 1 ≤ q ∧ q ≤ es'.length + 1 ∧ i = .int .i64 q ∧ Below w6.heap.size w6 wr3) (fun i _ => es'.length + 1 - (intOf i).toNat)
                    case atStart => exact ⟨1, by omega, by omega, rfl, Below.refl _ _⟩
                    case round =>
                      obtain ⟨q, hq, hq2, rfl, hB3⟩ := hrel
                      have HB3 := Lib.hid hB3
                      clear hB3
                      by_cases hql : q < es'.length
                      · obtain ⟨rfl, hg1, hg2⟩ := hka (by omega)
                        go_wp2
                        go_loopw [21] (fun j wr4 => ∃ p : Nat, p ≤ q ∧ j = .int .i64 p ∧ Below w6.heap.size w6 wr4) (fun j _ => q - (intOf j).toNat)
                        case atStart => exact ⟨0, by omega, rfl, HB3.out⟩
                        case round =>
                          obtain ⟨p, hp, rfl, hB4⟩ := hrel
                          by_cases hpq : p < q
                          · have hb54 := Below.next HB6.out hB4
                            have k1 : wr.cell? ⟨kg, p, none⟩ = some (.string ((keysE es').getD p ⟨#[]⟩)) := (hb54.cell (p := ⟨kg, p, none⟩) hg2).trans (HKC.out p (by omega))
                            have k2 : wr.cell? ⟨kg, q, none⟩ = some (.string ((keysE es').getD q ⟨#[]⟩)) := (hb54.cell (p := ⟨kg, q, none⟩) hg2).trans (HKC.out q (by omega))
                            have hne := nodup_at HKN.out hpq (by omega)
                            generalize (keysE es').getD p ⟨#[]⟩ = s1 at *
                            generalize (keysE es').getD q ⟨#[]⟩ = s2 at *
                            have hne1 : (s1.toList == s2.toList) = false := by rw [str_beq]; simpa using hne
                            have HB4 := Lib.hid hB4
                            clear hB4 hb54
                            go_wp2
                            go_quiet (fail)
                            go_wp2
                            exact ⟨⟨p + 1, by omega, by go_num, below_drewN HB4.out _⟩, by simp [intOf]; omega⟩
                          · have HB4 := Lib.hid hB4
                            clear hB4
                            go_wp2
                            go_roundw
                            case rel => exact ⟨q + 1, by omega, by omega, by go_num, HB4.out⟩
                            case measure => simp [intOf]; omega
                      · have HX7 := Lib.hid (HX6.out.below HB3.out)
                        go_wp2
                        go_roundw
                        case rel => exact ⟨k + 1, _, by omega, by go_num, rfl, by rw [← HAD.out]; exact HX7.out⟩
                        case measure => simp [intOf]; omega

          · have hkl : ¬ (k : Int) < len := by omega
            obtain ⟨F, p1, m1, r1, es, hx, s1, hF, hbel, _⟩ := hbd
            have HBEL := Lib.hid hbel
            clear hbel s1 hF
            go_wp2_with fail
            refine (awake_any _).mono ?_
            rintro e w2 ⟨rfl, hb2⟩
            go_wp2
            go_ret
            exact ⟨rfl, Below.next HBEL.out hb2⟩
end Go.Proofs.Ytdljffplooplcaa
