/- CacheGreater. -/
import Derived.Test.YtdljffplooplcaaAwake
import Derived.Test.YtdljffplooplcaaOps
import Derived.Test.YtdljffplooplcaaPlain
import Derived.Test.YtdljffplooplcaaCmp
namespace Go.Proofs.Ytdljffplooplcaa
open Go.RowKit
set_option linter.unusedVariables false

/-- the counters behind i operations -/
def Cnt (i : Nat) (h m r : Int) : Prop := 0 ≤ h ∧ h ≤ i ∧ 0 ≤ m ∧ m ≤ i ∧ 0 ≤ r ∧ r ≤ i
theorem one_bd (b : Bool) : 0 ≤ one b ∧ one b ≤ 1 := by cases b <;> decide
theorem Cnt.step {i : Nat} {h m r : Int} (c : Cnt i h m r) {x y z : Int} (hx : 0 ≤ x ∧ x ≤ 1) (hy : 0 ≤ y ∧ y ≤ 1) (hz : 0 ≤ z ∧ z ≤ 1) : Cnt (i + 1) (h + x) (m + y) (r + z) := by
  obtain ⟨c1, c2, c3, c4, c5, c6⟩ := c
  refine ⟨?_, ?_, ?_, ?_, ?_, ?_⟩ <;> omega
def GrAt (w : World) (ca cb : Int) (c1 c2 : Nat) (i : Nat) (wr : World) : Prop :=
  ∃ F1 F2 h1 m1 r1 h2 m2 r2 A B, CacheIs wr F1 c1 ca h1 m1 r1 A ∧ CacheIs wr F2 c2 cb h2 m2 r2 B ∧ (∀ x, F1 x → ¬ F2 x) ∧ (∀ x, F1 x → w.heap.size ≤ x) ∧ (∀ x, F2 x → w.heap.size ≤ x) ∧ Below w.heap.size w wr ∧
    Cnt i h1 m1 r1 ∧ Cnt i h2 m2 r2 ∧ (A.length : Int) ≤ ca ∧ (B.length : Int) ≤ cb ∧ Inc ca A B

set_option maxRecDepth 20000 in
set_option maxHeartbeats 4000000 in
theorem gr_walk (ca cb : Int) {w : World} {a : Option Addr} {len cap b off : Nat} {vs : Nat → Value} {ops : List OpT} (h : OpsAt w a len cap b off vs ops) :
    Calls Try.prog 5 #[.int .i64 ca, .int .i64 cb, .slice a len cap] w fun e w' => e = .returned (.bool true) ∧ Below w.heap.size w w' := by
  have HL := Lib.hid (light_any h)
  have HO := Lib.hid h
  have hcap := h.hcap
  have hmx : cap ≤ 9223372036854775807 := by have := h.hmax; unfold maxLen at this; omega
  clear h
  cases hL : lightT ops with
  | false =>
    rw [hL] at HL
    clear hL
    go_enter Try.func5, Try.ntmps5
    go_wp2_with fail
    refine HL.out.mono ?_
    rintro e w1 ⟨rfl, hb1⟩
    go_wp2_with fail
    refine (awake_any _).mono ?_
    rintro e w2 ⟨rfl, hb2⟩
    go_wp2
    go_ret
    exact ⟨rfl, Below.next hb1 hb2⟩
  | true =>
    have HLT := Lib.hid (lightT_of hL)
    rw [hL] at HL
    clear hL
    by_cases h1 : ca < 1
    · go_enter Try.func5, Try.ntmps5
      go_wp2_with fail
      refine HL.out.mono ?_
      rintro e w1 ⟨rfl, hb1⟩
      go_wp2_with fail
      refine (awake_any _).mono ?_
      rintro e w2 ⟨rfl, hb2⟩
      go_wp2
      go_ret
      exact ⟨rfl, Below.next hb1 hb2⟩
    · by_cases h2 : cb < ca
      · go_enter Try.func5, Try.ntmps5
        go_wp2_with fail
        refine HL.out.mono ?_
        rintro e w1 ⟨rfl, hb1⟩
        go_wp2_with fail
        refine (awake_any _).mono ?_
        rintro e w2 ⟨rfl, hb2⟩
        go_wp2
        go_ret
        exact ⟨rfl, Below.next hb1 hb2⟩
      · by_cases h3 : 100 < cb
        · go_enter Try.func5, Try.ntmps5
          go_wp2_with fail
          refine HL.out.mono ?_
          rintro e w1 ⟨rfl, hb1⟩
          go_wp2_with fail
          refine (awake_any _).mono ?_
          rintro e w2 ⟨rfl, hb2⟩
          go_wp2
          go_ret
          exact ⟨rfl, Below.next hb1 hb2⟩
        · have HN1 := Lib.hid (fun w1 => new_is (cap := ca) (by omega) (by omega) w1)
          have HN2 := Lib.hid (fun w1 => new_is (cap := cb) (by omega) (by omega) w1)
          go_enter Try.func5, Try.ntmps5
          go_wp2_with fail
          refine HL.out.mono ?_
          rintro e w1 ⟨rfl, hb1⟩
          have HB1 := Lib.hid hb1
          clear hb1
          go_wp2_with fail
          refine (HN1.out w1).mono ?_
          rintro e w2 ⟨c1, rfl, hc1, s1, hb2⟩
          have HB2 := Lib.hid hb2
          have S1 := Lib.hid s1
          clear hb2 s1
          go_wp2_with fail
          refine (HN2.out w2).mono ?_
          rintro e w3 ⟨c2, rfl, hc2, s2, hb3⟩
          have hstart : GrAt w ca cb c1 c2 0 w3 := by
            refine ⟨_, _, _, _, _, _, _, _, _, _, S1.out.below hb3, s2, fun x hx hy => ?_, fun x hx => ?_, fun x hx => ?_, Below.next HB1.out (Below.next HB2.out hb3), ?_, ?_, ?_, ?_, ?_⟩
            · have := hx.2; have := hy.1; omega
            · have := hx.1; have := HB1.out.size; omega
            · have := hx.1; have := HB1.out.size; have := HB2.out.size; omega
            · exact ⟨by decide, by decide, by decide, by decide, by decide, by decide⟩
            · exact ⟨by decide, by decide, by decide, by decide, by decide, by decide⟩
            · simp; omega
            · simp; omega
            · exact ⟨List.Sublist.refl _, .inr rfl⟩
          have HST := Lib.hid hstart
          clear hstart hb3 s2
          go_wp2
          go_loopw [11] (fun i wr => ∃ k : Nat, k ≤ len ∧ i = .int .i64 k ∧ GrAt w ca cb c1 c2 k wr) (fun i _ => len - (intOf i).toNat)
          case atStart => exact ⟨0, by omega, rfl, HST.out⟩
          case round =>
            obtain ⟨k, hk, rfl, hgr⟩ := hrel
            by_cases hlt : k < len
            · obtain ⟨F1, F2, p1, m1, r1, p2, m2, r2, A, B, s1, s2, hdis, hF1, hF2, hbel, hcn1, hcn2, la, lb, hinc⟩ := hgr
              obtain ⟨rfl, hb⟩ := HO.out.ha (by omega)
              obtain ⟨x0, x1, x2, x3, x4⟩ := HO.out.below hbel k hlt
              obtain ⟨av, lv, qv, hv⟩ := x4.slice
              rw [hv] at x3 x4
              have hops := HLT.out.2 k (by rw [HO.out.hlen]; exact hlt)
              have hk40 : k < 40 := by have := HLT.out.1; rw [HO.out.hlen] at this; omega
              generalize ops.getD k default = o at *
              generalize hkd0 : o.kind = kd at *
              clear hkd0
              have hal : Below wr.heap.size wr (wr.alloc (.cells #[.int .i64 kd, .string o.key, .int .i64 o.term.rule, .slice av lv qv] 38)) := (Below.refl _ _).alloc (Nat.le_refl _) _
              have hrow := heap_alloc_new wr (.cells #[.int .i64 kd, .string o.key, .int .i64 o.term.rule, .slice av lv qv] 38)
              have y0 : (wr.alloc (.cells #[.int .i64 kd, .string o.key, .int .i64 o.term.rule, .slice av lv qv] 38)).cell? ⟨wr.heap.size, 0, none⟩ = some (.int .i64 kd) := (cell_of_row _ _ 0 _ _ _ hrow).trans rfl
              have y1 : (wr.alloc (.cells #[.int .i64 kd, .string o.key, .int .i64 o.term.rule, .slice av lv qv] 38)).cell? ⟨wr.heap.size, 1, none⟩ = some (.string o.key) := (cell_of_row _ _ 1 _ _ _ hrow).trans rfl
              have y2 : (wr.alloc (.cells #[.int .i64 kd, .string o.key, .int .i64 o.term.rule, .slice av lv qv] 38)).cell? ⟨wr.heap.size, 2, none⟩ = some (.int .i64 o.term.rule) := (cell_of_row _ _ 2 _ _ _ hrow).trans rfl
              have y3 : (wr.alloc (.cells #[.int .i64 kd, .string o.key, .int .i64 o.term.rule, .slice av lv qv] 38)).cell? ⟨wr.heap.size, 3, none⟩ = some (.slice av lv qv) := (cell_of_row _ _ 3 _ _ _ hrow).trans rfl
              have t1 := s1.below hal
              have t2 := s2.below hal
              have hargs : ArgsAt (wr.alloc (.cells #[.int .i64 kd, .string o.key, .int .i64 o.term.rule, .slice av lv qv] 38)) (Here w) (.slice av lv qv) o.term.args := x4.kept (Below.keptB hal ((Here.under w).le hbel.size))
              have hu1 := s1.under
              have hu2 := s2.under
              have hbx : ¬ F1 wr.heap.size ∧ ¬ F2 wr.heap.size := ⟨fun e => by have := hu1 _ e; omega, fun e => by have := hu2 _ e; omega⟩
              have HBX := Lib.hid hbx
              have hwsz : (wr.alloc (.cells #[.int .i64 kd, .string o.key, .int .i64 o.term.rule, .slice av lv qv] 38)).heap.size = wr.heap.size + 1 := by simp
              have HWSZ := Lib.hid hwsz
              have HBEL := Lib.hid (Below.next hbel hal)
              have HROW := Lib.hid hrow
              have T1 := Lib.hid t1
              have T2 := Lib.hid t2
              have HARGS := Lib.hid hargs
              have HDIS := Lib.hid hdis
              have HF1 := Lib.hid hF1
              have HF2 := Lib.hid hF2
              have HC1 := Lib.hid hcn1
              have HC2 := Lib.hid hcn2
              have LA := Lib.hid la
              have LB := Lib.hid lb
              have HINC := Lib.hid hinc
              have HOPS := Lib.hid (show tsize o.term ≤ 1000 by omega)
              clear s1 s2 t1 t2 hdis hF1 hF2 hcn1 hcn2 la lb hinc hops hal hrow hbel hargs hu1 hu2 hbx hwsz x4 hv
              by_cases hkd : kd = 0
              · subst hkd
                have HP1 := Lib.hid (put_is T1.out o.key o.term (.slice av lv qv) (Here w) HARGS.out (fun x hx => ⟨Nat.lt_of_lt_of_le hx HBEL.out.size, fun e => by have := HF1.out x e; unfold Here at hx; omega⟩) HOPS.out ⟨HC1.out.2.2.2.2.1, by have := HC1.out.2.2.2.2.2; omega⟩)
                go_wp2_with fail
                refine HP1.out.mono ?_
                generalize wr.alloc (.cells #[.int .i64 0, .string o.key, .int .i64 o.term.rule, .slice av lv qv] 38) = W at *
                rintro e w2 ⟨rfl, u1, hn1⟩
                have hrow2 := (hn1.block wr.heap.size (by rw [HWSZ.out]; omega) HBX.out.1).trans HROW.out
                have z1 : w2.cell? ⟨wr.heap.size, 1, none⟩ = some (.string o.key) := (cell_of_row _ _ 1 _ _ _ hrow2).trans rfl
                have z2 : w2.cell? ⟨wr.heap.size, 2, none⟩ = some (.int .i64 o.term.rule) := (cell_of_row _ _ 2 _ _ _ hrow2).trans rfl
                have z3 : w2.cell? ⟨wr.heap.size, 3, none⟩ = some (.slice av lv qv) := (cell_of_row _ _ 3 _ _ _ hrow2).trans rfl
                have hbel2 := Below.stepN HBEL.out hn1 HF1.out
                have hargs2 : ArgsAt w2 (Here w) (.slice av lv qv) o.term.args := HARGS.out.kept fun x hx => hn1.block x (Nat.lt_of_lt_of_le hx HBEL.out.size) fun e => by have := HF1.out x e; unfold Here at hx; omega
                have u2 := T2.out.near hn1 HDIS.out
                have HP2 := Lib.hid (put_is u2 o.key o.term (.slice av lv qv) (Here w) hargs2 (fun x hx => ⟨Nat.lt_of_lt_of_le hx hbel2.size, fun e => by have := HF2.out x e; unfold Here at hx; omega⟩) HOPS.out ⟨HC2.out.2.2.2.2.1, by have := HC2.out.2.2.2.2.2; omega⟩)
                have U1 := Lib.hid u1
                have HN1' := Lib.hid hn1
                have HBEL2 := Lib.hid hbel2
                clear u1 hn1 hbel2 u2 hargs2 hrow2 x0 x1 x2 x3 y0 y1 y2 y3
                go_wp2_with fail
                refine HP2.out.mono ?_
                rintro e w3 ⟨rfl, v2, hn2⟩
                have hU2 := T2.out.under
                have hfin : GrAt w ca cb c1 c2 (k + 1) w3 := by
                  refine ⟨_, _, _, _, _, _, _, _, _, _, U1.out.near hn2 (fun x hx hy => ?_), v2, fun x hx hy => ?_, fun x hx => ?_, fun x hx => ?_, Below.stepN HBEL2.out hn2 HF2.out, ?_, ?_, put_len T1.out.nodup LA.out (by omega), put_len T2.out.nodup LB.out (by omega), inc_put HINC.out T1.out.nodup T2.out.nodup LA.out LB.out (by omega) (by omega)⟩
                  · rcases hy with hy | hy
                    · exact HDIS.out x hy hx
                    · have := hU2 x hx; have := hy.1; omega
                  · rcases hx with hx | hx
                    · rcases hy with hy | hy
                      · exact HDIS.out x hx hy
                      · have := T1.out.under x hx; have := hy.1; have := HN1'.out.size; omega
                    · rcases hy with hy | hy
                      · have := hU2 x hy; have := hx.1; omega
                      · have := hy.1; have := hx.2; omega
                  · rcases hx with hx | hx
                    · exact HF1.out x hx
                    · have := hx.1; have := HBEL.out.size; omega
                  · rcases hx with hx | hx
                    · exact HF2.out x hx
                    · have := hx.1; have := HBEL2.out.size; omega
                  · have := HC1.out.step (x := 0) (y := 0) (by omega) (by omega) (one_bd (fullE ca o.key A))
                    simpa using this
                  · have := HC2.out.step (x := 0) (y := 0) (by omega) (by omega) (one_bd (fullE cb o.key B))
                    simpa using this
                have HFIN := Lib.hid hfin
                clear hfin v2 hn2 z1 z2 z3 hU2
                go_wp2
                go_roundw
                case rel => exact ⟨k + 1, by omega, by go_num, HFIN.out⟩
                case measure => simp [intOf]; omega
              · have HG1 := Lib.hid (get_is T1.out o.key ⟨HC1.out.1, by have := HC1.out.2.1; omega⟩ ⟨HC1.out.2.2.1, by have := HC1.out.2.2.2.1; omega⟩)
                go_wp2_with fail
                refine HG1.out.mono ?_
                generalize wr.alloc (.cells #[.int .i64 kd, .string o.key, .int .i64 o.term.rule, .slice av lv qv] 38) = W at *
                rintro e w2 ⟨⟨g1, rfl, ga1, _⟩, u1, hn1⟩
                obtain ⟨e1, e2, e3, rfl⟩ := ga1.slice
                have hrow2 := (hn1.block wr.heap.size (by rw [HWSZ.out]; omega) HBX.out.1).trans HROW.out
                have hal2 : Below w2.heap.size w2 (w2.alloc (.cells #[.int .i64 ((lookE o.key A).getD (.node 0 [])).rule, .slice e1 e2 e3] 36)) := (Below.refl _ _).alloc (Nat.le_refl _) _
                have hlt2 : wr.heap.size < w2.heap.size := (Array.getElem?_eq_some_iff.1 hrow2).1
                have z1 : (w2.alloc (.cells #[.int .i64 ((lookE o.key A).getD (.node 0 [])).rule, .slice e1 e2 e3] 36)).cell? ⟨wr.heap.size, 1, none⟩ = some (.string o.key) := (cell_of_row _ _ 1 _ _ _ ((hal2.block _ hlt2).trans hrow2)).trans rfl
                have hrow13 := heap_alloc_new w2 (.cells #[.int .i64 ((lookE o.key A).getD (.node 0 [])).rule, .slice e1 e2 e3] 36)
                have hbel2 := Below.next (Below.stepN HBEL.out hn1 HF1.out) hal2
                have u2 := (T2.out.near hn1 HDIS.out).below hal2
                have HG2 := Lib.hid (get_is u2 o.key ⟨HC2.out.1, by have := HC2.out.2.1; omega⟩ ⟨HC2.out.2.2.1, by have := HC2.out.2.2.2.1; omega⟩)
                have hnF2 : ¬ F2 w2.heap.size := fun e => by have := (T2.out.near hn1 HDIS.out).under _ e; omega
                have hw2s : (w2.alloc (.cells #[.int .i64 ((lookE o.key A).getD (.node 0 [])).rule, .slice e1 e2 e3] 36)).heap.size = w2.heap.size + 1 := by simp
                have U1 := Lib.hid (u1.below hal2)
                have HNF2 := Lib.hid hnF2
                have HBEL2 := Lib.hid hbel2
                have HROW13 := Lib.hid hrow13
                have HW2S := Lib.hid hw2s
                have GA1 := Lib.hid (ga1.kept (Below.keptB hal2 fun x hx => hx.2))
                have HU1 := Lib.hid T1.out.under
                clear u1 hn1 hbel2 u2 hrow2 x0 x1 x2 x3 y0 y1 y2 y3 hal2 hlt2 hrow13 hnF2 hw2s ga1
                go_wp2_with fail
                refine HG2.out.mono ?_
                generalize w2.alloc (.cells #[.int .i64 ((lookE o.key A).getD (.node 0 [])).rule, .slice e1 e2 e3] 36) = W2 at *
                rintro e w3 ⟨⟨g2, rfl, ga2, _⟩, v2, hn2⟩
                obtain ⟨f1, f2, f3, rfl⟩ := ga2.slice
                have hal3 : Below w3.heap.size w3 (w3.alloc (.cells #[.int .i64 ((lookE o.key B).getD (.node 0 [])).rule, .slice f1 f2 f3] 36)) := (Below.refl _ _).alloc (Nat.le_refl _) _
                have hrow13' := (hn2.block w2.heap.size (by rw [HW2S.out]; omega) HNF2.out).trans HROW13.out
                have q0 : (w3.alloc (.cells #[.int .i64 ((lookE o.key B).getD (.node 0 [])).rule, .slice f1 f2 f3] 36)).cell? ⟨w2.heap.size, 0, none⟩ = some (.int .i64 ((lookE o.key A).getD (.node 0 [])).rule) := (cell_of_row _ _ 0 _ _ _ ((hal3.block _ (Array.getElem?_eq_some_iff.1 hrow13').1).trans hrow13')).trans rfl
                have q1 : (w3.alloc (.cells #[.int .i64 ((lookE o.key B).getD (.node 0 [])).rule, .slice f1 f2 f3] 36)).cell? ⟨w2.heap.size, 1, none⟩ = some (.slice e1 e2 e3) := (cell_of_row _ _ 1 _ _ _ ((hal3.block _ (Array.getElem?_eq_some_iff.1 hrow13').1).trans hrow13')).trans rfl
                have hrow15 := heap_alloc_new w3 (.cells #[.int .i64 ((lookE o.key B).getD (.node 0 [])).rule, .slice f1 f2 f3] 36)
                have q2 : (w3.alloc (.cells #[.int .i64 ((lookE o.key B).getD (.node 0 [])).rule, .slice f1 f2 f3] 36)).cell? ⟨w3.heap.size, 0, none⟩ = some (.int .i64 ((lookE o.key B).getD (.node 0 [])).rule) := (cell_of_row _ _ 0 _ _ _ hrow15).trans rfl
                have q3 : (w3.alloc (.cells #[.int .i64 ((lookE o.key B).getD (.node 0 [])).rule, .slice f1 f2 f3] 36)).cell? ⟨w3.heap.size, 1, none⟩ = some (.slice f1 f2 f3) := (cell_of_row _ _ 1 _ _ _ hrow15).trans rfl
                have hfin : GrAt w ca cb c1 c2 (k + 1) (w3.alloc (.cells #[.int .i64 ((lookE o.key B).getD (.node 0 [])).rule, .slice f1 f2 f3] 36)) := by
                  refine ⟨_, _, _, _, _, _, _, _, _, _, (U1.out.near hn2 (fun x hx hy => HDIS.out x hy hx)).below hal3, v2.below hal3, HDIS.out, HF1.out, HF2.out, Below.next (Below.stepN HBEL2.out hn2 HF2.out) hal3, ?_, ?_, by rw [get_len T1.out.nodup]; exact LA.out, by rw [get_len T2.out.nodup]; exact LB.out, inc_get HINC.out T1.out.nodup T2.out.nodup⟩
                  · have := HC1.out.step (z := 0) (one_bd (lookE o.key A).isSome) (one_bd (lookE o.key A).isNone) (by omega)
                    simpa using this
                  · have := HC2.out.step (z := 0) (one_bd (lookE o.key B).isSome) (one_bd (lookE o.key B).isNone) (by omega)
                    simpa using this
                have HFIN := Lib.hid hfin
                have hga1 := GA1.out.kept fun x hx => ((hn2.block x (by rw [HW2S.out]; have := hx.2; omega) fun e => by have := T2.out.under x e; have := hx.1; omega))
                have GA1' := Lib.hid (hga1.kept (Below.keptB hal3 fun x hx => by have := hx.2; have := hn2.size; rw [HW2S.out] at this; omega))
                have GA2 := Lib.hid (ga2.kept (Below.keptB hal3 fun x hx => hx.2))
                have hsz3 : w2.heap.size < w3.heap.size := (Array.getElem?_eq_some_iff.1 hrow13').1
                have HSZ3 := Lib.hid hsz3
                clear hfin v2 hn2 hal3 hrow13' hrow15 hga1 ga2 z1 hsz3
                cases hA : lookE o.key A with
                | none =>
                  rw [hA] at q0
                  clear q0 q1 q2 q3
                  go_wp2
                  go_roundw
                  case rel => exact ⟨k + 1, by omega, by go_num, HFIN.out⟩
                  case measure => simp [intOf]; omega
                | some t =>
                  have hB := look_sub HINC.out.1 T2.out.nodup hA
                  have ht : tsize t ≤ 1000 := T1.out.small _ (look_mem hA)
                  rw [hA] at q0 GA1'
                  rw [hB] at q0 q1 q2 q3 HFIN GA2 GA1' ⊢
                  simp only [Option.getD_some, Option.isSome_some] at q0 q1 q2 q3 HFIN GA2 GA1' ⊢
                  have HSM := Lib.hid (same_eq t (.slice e1 e2 e3) (.slice f1 f2 f3) (Span W.heap.size w2.heap.size) (Span W2.heap.size w3.heap.size) (w3.alloc (.cells #[.int .i64 t.rule, .slice f1 f2 f3] 36)) ht (fun x hx => by simp; have := hx.2; have := HSZ3.out; omega) (fun x hx => by simp; have := hx.2; omega) GA1'.out GA2.out)
                  clear hA hB ht
                  go_wp2_with fail
                  refine HSM.out.mono ?_
                  generalize w3.alloc (.cells #[.int .i64 t.rule, .slice f1 f2 f3] 36) = W3 at *
                  rintro e w4 ⟨rfl, hb4⟩
                  have hfin4 : GrAt w ca cb c1 c2 (k + 1) w4 := by
                    obtain ⟨F1, F2, h1, m1, r1, h2, m2, r2, A, B, s1, s2, g3, g4, g5, g6, g7⟩ := HFIN.out
                    exact ⟨F1, F2, h1, m1, r1, h2, m2, r2, A, B, s1.below hb4, s2.below hb4, g3, g4, g5, Below.next g6 hb4, g7⟩
                  have HFIN4 := Lib.hid hfin4
                  clear hfin4 hb4 q0 q1 q2 q3
                  go_wp2
                  go_roundw
                  case rel => exact ⟨k + 1, by omega, by go_num, HFIN4.out⟩
                  case measure => simp [intOf]; omega
            · have hkl : ¬ (k : Int) < len := by omega
              obtain ⟨F1, F2, p1, m1, r1, p2, m2, r2, A, B, s1, s2, hdis, hF1, hF2, hbel, _⟩ := hgr
              have HBEL := Lib.hid hbel
              clear hbel s1 s2 hdis hF1 hF2
              go_wp2_with fail
              refine (awake_any _).mono ?_
              rintro e w2 ⟨rfl, hb2⟩
              go_wp2
              go_ret
              exact ⟨rfl, Below.next HBEL.out hb2⟩
end Go.Proofs.Ytdljffplooplcaa
