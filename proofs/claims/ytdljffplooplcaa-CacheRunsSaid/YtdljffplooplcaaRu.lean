/- CacheRuns. -/
import Derived.Test.YtdljffplooplcaaAgrees
namespace Go.Proofs.Ytdljffplooplcaa
open Go.RowKit
set_option linter.unusedVariables false

/-- between two rounds of CacheRuns' loop -/
def RuAt (w : World) (ca : Int) (c B : Nat) (i : Nat) (wr : World) : Prop :=
  ∃ F P hq m r es ka kl kc ta tl tc, CacheIs wr F c ca hq m r es ∧ StAt wr P ka kl kc ta tl tc es ∧ wr.heap[B]? = some (.cells #[.int .i64 ca, .slice ka kl kc, .slice ta tl tc, .int .i64 hq, .int .i64 m, .int .i64 r] 32 (0, 0)) ∧
    Under P wr.heap.size ∧ (∀ x, P x → ¬ F x ∧ x ≠ B) ∧ (∀ x, Here w x → P x) ∧ (∀ x, F x → w.heap.size ≤ x ∧ x ≠ B) ∧ w.heap.size ≤ B ∧ Below w.heap.size w wr ∧ Cnt i hq m r ∧ es.length ≤ i ∧ i ≤ 41
theorem RuAt.below {w : World} {ca : Int} {c B i : Nat} {wr w2 : World} (h : RuAt w ca c B i wr) (hb : Below wr.heap.size wr w2) : RuAt w ca c B i w2 := by
  obtain ⟨F, P, hq, m, r, es, ka, kl, kc, ta, tl, tc, s, st, row, hU, g1, g2, g3, g4, g5, g6⟩ := h
  exact ⟨F, P, hq, m, r, es, ka, kl, kc, ta, tl, tc, s.below hb, st.kept (Below.keptB hb hU), (hb.block _ (Array.getElem?_eq_some_iff.1 row).1).trans row, hU.le hb.size, g1, g2, g3, g4, Below.next g5 hb, g6⟩

set_option maxRecDepth 20000 in
set_option maxHeartbeats 1600000 in
theorem ru_walk (ca : Int) {w : World} {a : Option Addr} {len cap b off : Nat} {vs : Nat → Value} {ops : List OpT} (h : OpsAt w a len cap b off vs ops) :
    Calls Try.prog 3 #[.int .i64 ca, .slice a len cap] w fun e w' => e = .returned (.bool true) ∧ Below w.heap.size w w' := by
  have HL := Lib.hid (light_any h)
  have HO := Lib.hid h
  have hcap := h.hcap
  have hmx : cap ≤ 9223372036854775807 := by have := h.hmax; unfold maxLen at this; omega
  clear h
  cases hL : lightT ops with
  | false =>
    rw [hL] at HL
    clear hL
    go_enter Try.func3, Try.ntmps3
    go_wp2_with fail
    refine HL.out.mono ?_
    rintro e w1 ⟨rfl, hb1⟩
    go_wp2_with fail
    refine (awake_any _).mono ?_
    rintro e w2 ⟨rfl, hb2⟩
    go_wp2
    go_ret
    exact ⟨rfl, Below.next hb1 hb2⟩
  | true =>
    have HLT := Lib.hid (lightT_of hL)
    rw [hL] at HL
    clear hL
    by_cases hbad : ca < 1 ∨ 4096 < ca
    · go_enter Try.func3, Try.ntmps3
      go_wp2_with fail
      refine HL.out.mono ?_
      rintro e w1 ⟨rfl, hb1⟩
      go_wp2_with fail
      refine (new_no ca hbad _).mono ?_
      rintro e w2 ⟨rfl, rfl⟩
      have HB1 := Lib.hid hb1
      clear hb1
      go_wp2_with fail
      refine (newR_no ca hbad _).mono ?_
      rintro e w2 ⟨rfl, hb2⟩
      have HB2 := Lib.hid hb2
      clear hb2
      go_wp2_with fail
      refine (awake_any _).mono ?_
      rintro e w3 ⟨rfl, hb3⟩
      go_wp2
      go_ret
      exact ⟨rfl, Below.next HB1.out (Below.next HB2.out (Below.next ((Below.refl _ _).alloc (Nat.le_refl _) _) hb3))⟩
    · go_enter Try.func3, Try.ntmps3
      go_wp2_with fail
      refine HL.out.mono ?_
      rintro e w1 ⟨rfl, hb1⟩
      have HB1 := Lib.hid hb1
      clear hb1
      have HN1 := Lib.hid (new_is (cap := ca) (by omega) (by omega) w1)
      go_wp2_with fail
      refine HN1.out.mono ?_
      rintro e w2 ⟨c, rfl, hc1, s1, hb2⟩
      have HN2 := Lib.hid (newR_yes ca (by omega) (by omega) w2)
      have HB2 := Lib.hid hb2
      have S1 := Lib.hid s1
      clear hb2 s1
      go_wp2_with fail
      refine HN2.out.mono ?_
      rintro e w3 ⟨rfl, hb3⟩
      have hal3 : Below w3.heap.size w3 (w3.alloc (.cells #[.int .i64 ca, .slice none 0 0, .slice none 0 0, .int .i64 0, .int .i64 0, .int .i64 0] 32)) := (Below.refl _ _).alloc (Nat.le_refl _) _
      have hstart : RuAt w ca c w3.heap.size 0 (w3.alloc (.cells #[.int .i64 ca, .slice none 0 0, .slice none 0 0, .int .i64 0, .int .i64 0, .int .i64 0] 32)) := by
        have hz1 := HB1.out.size
        have hz2 := HB2.out.size
        have hz3 := hb3.size
        refine ⟨_, Here w, 0, 0, 0, [], none, 0, 0, none, 0, 0, (S1.out.below hb3).below hal3, ⟨⟨0, 0, rfl, Nat.le_refl _, by unfold maxLen; omega, fun _ => rfl, fun h => by omega, fun i h => by omega⟩, ArgsAt.nil _ _, fun _ => rfl, fun p hp => by simp at hp⟩, heap_alloc_new _ _, ?_, fun x hx => ⟨fun e => ?_, ?_⟩, fun x hx => hx, fun x hx => ⟨?_, ?_⟩, by omega, Below.next HB1.out (Below.next HB2.out (Below.next hb3 hal3)), ⟨by decide, by decide, by decide, by decide, by decide, by decide⟩, by simp, by omega⟩
        · exact (Here.under w).le (by simp; omega)
        · have := e.1; unfold Here at hx; omega
        · unfold Here at hx; omega
        · have := hx.1; omega
        · have := hx.2; omega
      have HST := Lib.hid hstart
      clear hstart hb3 hal3
      go_wp2
      generalize w3.heap.size = B at *
      go_loopw [9] (fun i wr => ∃ k : Nat, k ≤ len ∧ i = .int .i64 k ∧ RuAt w ca c B k wr) (fun i _ => len - (intOf i).toNat)
      case atStart => exact ⟨0, by omega, rfl, HST.out⟩
      case round =>
        obtain ⟨k, hk, rfl, hru⟩ := hrel
        by_cases hlt : k < len
        · obtain ⟨F, P, hq, m, r, es, ka, kl, kc, ta, tl, tc, s1, st1, row1, hU, hPF, hHP, hF, hB, hbel, hcn, hle, hk41⟩ := hru
          obtain ⟨rfl, hb⟩ := HO.out.ha (by omega)
          obtain ⟨x0, x1, x2, x3, x4⟩ := HO.out.below hbel k hlt
          obtain ⟨av, lv, qv, hv⟩ := x4.slice
          rw [hv] at x3 x4
          have hops := HLT.out.2 k (by rw [HO.out.hlen]; exact hlt)
          have hk40 : k < 40 := by have := HLT.out.1; rw [HO.out.hlen] at this; omega
          generalize ops.getD k default = o at *
          generalize hkd0 : o.kind = kd at *
          clear hkd0
          have hBlt := (Array.getElem?_eq_some_iff.1 row1).1
          have hal : Below wr.heap.size wr (wr.alloc (.cells #[.int .i64 kd, .string o.key, .int .i64 o.term.rule, .slice av lv qv] 38)) := (Below.refl _ _).alloc (Nat.le_refl _) _
          have hrow := heap_alloc_new wr (.cells #[.int .i64 kd, .string o.key, .int .i64 o.term.rule, .slice av lv qv] 38)
          have y0 : (wr.alloc (.cells #[.int .i64 kd, .string o.key, .int .i64 o.term.rule, .slice av lv qv] 38)).cell? ⟨wr.heap.size, 0, none⟩ = some (.int .i64 kd) := (cell_of_row _ _ 0 _ _ _ hrow).trans rfl
          have y1 : (wr.alloc (.cells #[.int .i64 kd, .string o.key, .int .i64 o.term.rule, .slice av lv qv] 38)).cell? ⟨wr.heap.size, 1, none⟩ = some (.string o.key) := (cell_of_row _ _ 1 _ _ _ hrow).trans rfl
          have y2 : (wr.alloc (.cells #[.int .i64 kd, .string o.key, .int .i64 o.term.rule, .slice av lv qv] 38)).cell? ⟨wr.heap.size, 2, none⟩ = some (.int .i64 o.term.rule) := (cell_of_row _ _ 2 _ _ _ hrow).trans rfl
          have y3 : (wr.alloc (.cells #[.int .i64 kd, .string o.key, .int .i64 o.term.rule, .slice av lv qv] 38)).cell? ⟨wr.heap.size, 3, none⟩ = some (.slice av lv qv) := (cell_of_row _ _ 3 _ _ _ hrow).trans rfl
          have hrowB := (hal.block B hBlt).trans row1
          have b0 : (wr.alloc (.cells #[.int .i64 kd, .string o.key, .int .i64 o.term.rule, .slice av lv qv] 38)).cell? ⟨B, 0, none⟩ = some (.int .i64 ca) := (cell_of_row _ _ 0 _ _ _ hrowB).trans rfl
          have b1 : (wr.alloc (.cells #[.int .i64 kd, .string o.key, .int .i64 o.term.rule, .slice av lv qv] 38)).cell? ⟨B, 1, none⟩ = some (.slice ka kl kc) := (cell_of_row _ _ 1 _ _ _ hrowB).trans rfl
          have b2 : (wr.alloc (.cells #[.int .i64 kd, .string o.key, .int .i64 o.term.rule, .slice av lv qv] 38)).cell? ⟨B, 2, none⟩ = some (.slice ta tl tc) := (cell_of_row _ _ 2 _ _ _ hrowB).trans rfl
          have b3 : (wr.alloc (.cells #[.int .i64 kd, .string o.key, .int .i64 o.term.rule, .slice av lv qv] 38)).cell? ⟨B, 3, none⟩ = some (.int .i64 hq) := (cell_of_row _ _ 3 _ _ _ hrowB).trans rfl
          have b4 : (wr.alloc (.cells #[.int .i64 kd, .string o.key, .int .i64 o.term.rule, .slice av lv qv] 38)).cell? ⟨B, 4, none⟩ = some (.int .i64 m) := (cell_of_row _ _ 4 _ _ _ hrowB).trans rfl
          have b5 : (wr.alloc (.cells #[.int .i64 kd, .string o.key, .int .i64 o.term.rule, .slice av lv qv] 38)).cell? ⟨B, 5, none⟩ = some (.int .i64 r) := (cell_of_row _ _ 5 _ _ _ hrowB).trans rfl
          have HROWB := Lib.hid hrowB
          have T1 := Lib.hid (s1.below hal)
          have ST1 := Lib.hid (st1.kept (Below.keptB hal hU))
          have HARGS := Lib.hid (show ArgsAt (wr.alloc (.cells #[.int .i64 kd, .string o.key, .int .i64 o.term.rule, .slice av lv qv] 38)) (Here w) (.slice av lv qv) o.term.args from x4.kept (Below.keptB hal ((Here.under w).le hbel.size)))
          have HBX := Lib.hid (show ¬ F wr.heap.size from fun e => by have := s1.under _ e; omega)
          have hwsz : (wr.alloc (.cells #[.int .i64 kd, .string o.key, .int .i64 o.term.rule, .slice av lv qv] 38)).heap.size = wr.heap.size + 1 := by simp
          have HWSZ := Lib.hid hwsz
          have HBEL := Lib.hid (Below.next hbel hal)
          have HROW := Lib.hid hrow
          have HU := Lib.hid hU
          have HPF := Lib.hid hPF
          have HHP := Lib.hid hHP
          have HF := Lib.hid hF
          have HC := Lib.hid hcn
          have HOPS := Lib.hid (show tsize o.term ≤ 1000 by omega)
          have HNB := Lib.hid (show B ≠ wr.heap.size by omega)
          clear s1 st1 row1 hU hPF hHP hF hbel hcn hops hal hrow hrowB hwsz x4 hv
          by_cases hkd : kd = 0
          · subst hkd
            have HP1 := Lib.hid (put_is T1.out o.key o.term (.slice av lv qv) (Here w) HARGS.out (fun x hx => ⟨Nat.lt_of_lt_of_le hx HBEL.out.size, (HPF.out x (HHP.out x hx)).1⟩) HOPS.out ⟨HC.out.2.2.2.2.1, by have := HC.out.2.2.2.2.2; omega⟩)
            go_wp2_with fail
            refine HP1.out.mono ?_
            generalize wr.alloc (.cells #[.int .i64 0, .string o.key, .int .i64 o.term.rule, .slice av lv qv] 38) = W at *
            rintro e w4 ⟨rfl, s4, hn4⟩
            have hBF : ¬ F B := fun e => (HF.out B e).2 rfl
            have hrow4 := (hn4.block wr.heap.size (by rw [HWSZ.out]; omega) HBX.out).trans HROW.out
            have hrowB4 := (hn4.block B (by rw [HWSZ.out]; omega) hBF).trans HROWB.out
            have hz4 := hn4.size
            have st4 : StAt w4 P ka kl kc ta tl tc es := ST1.out.kept fun x hx => hn4.block x (by rw [HWSZ.out]; have := HU.out x hx; omega) (HPF.out x hx).1
            have z1 : w4.cell? ⟨wr.heap.size, 1, none⟩ = some (.string o.key) := (cell_of_row _ _ 1 _ _ _ hrow4).trans rfl
            have z2 : w4.cell? ⟨wr.heap.size, 2, none⟩ = some (.int .i64 o.term.rule) := (cell_of_row _ _ 2 _ _ _ hrow4).trans rfl
            have z3 : w4.cell? ⟨wr.heap.size, 3, none⟩ = some (.slice av lv qv) := (cell_of_row _ _ 3 _ _ _ hrow4).trans rfl
            have d0 : (w4).cell? ⟨B, 0, none⟩ = some (.int .i64 ca) := (cell_of_row _ _ 0 _ _ _ hrowB4).trans rfl
            have d1 : (w4).cell? ⟨B, 1, none⟩ = some (.slice ka kl kc) := (cell_of_row _ _ 1 _ _ _ hrowB4).trans rfl
            have d2 : (w4).cell? ⟨B, 2, none⟩ = some (.slice ta tl tc) := (cell_of_row _ _ 2 _ _ _ hrowB4).trans rfl
            have d3 : (w4).cell? ⟨B, 3, none⟩ = some (.int .i64 hq) := (cell_of_row _ _ 3 _ _ _ hrowB4).trans rfl
            have d4 : (w4).cell? ⟨B, 4, none⟩ = some (.int .i64 m) := (cell_of_row _ _ 4 _ _ _ hrowB4).trans rfl
            have d5 : (w4).cell? ⟨B, 5, none⟩ = some (.int .i64 r) := (cell_of_row _ _ 5 _ _ _ hrowB4).trans rfl
            have hbel4 := Below.stepN HBEL.out hn4 (fun x hx => (HF.out x hx).1)
            have hPR := putR_any st4 (fun x hx => by have := HU.out x hx; have := HWSZ.out; omega) ca hq m r o.key o.term (.slice av lv qv) ((HARGS.out.kept fun x hx => hn4.block x (Nat.lt_of_lt_of_le hx HBEL.out.size) (HPF.out x (HHP.out x hx)).1).wide HHP.out) HOPS.out (by omega) T1.out.nodup (by omega) ⟨HC.out.2.2.2.2.1, by have := HC.out.2.2.2.2.2; omega⟩
            have HPR := Lib.hid hPR
            have S4 := Lib.hid s4
            have HN4 := Lib.hid hn4
            have HBEL4 := Lib.hid hbel4
            have HRB4 := Lib.hid hrowB4
            clear s4 hn4 hrow4 hrowB4 st4 hbel4 hPR b0 b1 b2 b3 b4 b5 y1 y2 y3
            go_wp2_with fail
            refine HPR.out.mono ?_
            rintro e w5 ⟨ka3, kl3, kc3, ta3, tl3, tc3, rfl, s5, hb5⟩
            have hlt4 := (Array.getElem?_eq_some_iff.1 HRB4.out).1
            rename_i K aK
            refine aK _ _ ?_
            refine wpList_store_st rfl (.tmp 7) (.tmp 73) rfl B (.int .i64 ca) (.slice ka3 kl3 kc3) (.slice ta3 tl3 tc3) (.int .i64 hq) (.int .i64 m) (.int .i64 (r + one (fullE ca o.key es))) rfl rfl ((hb5.block B hlt4).trans HRB4.out) (by simp [Value.oneCell']) ?_
            intro w6 hr6 ho6
            have hz5 := hb5.size
            have hz6 := ho6.size
            have hws := HWSZ.out
            have hcount := put_count (cap := ca) (k := o.key) (t := o.term) T1.out.nodup (by omega)
            have hbd1 := one_bd (lookE o.key es).isNone
            have hbd2 := one_bd (fullE ca o.key es)
            have hX : RuAt w ca c B (k + 1) w6 := by
              refine ⟨_, _, _, _, _, _, _, _, _, _, _, _, (S4.out.below hb5).near ho6.near (fun x hx e => ?_), s5.kept (fun x hx => ho6.block x ?_), hr6, fun x hx => ?_, fun x hx => ⟨fun e => ?_, ?_⟩, fun x hx => .inl (HHP.out x hx), fun x hx => ⟨?_, ?_⟩, hB, Below.stepN (Below.next HBEL4.out hb5) ho6.near (fun x hx => by omega), ?_, by omega, by omega⟩
              · rcases e with e | e
                · exact hBF (hx ▸ e)
                · have := e.1; omega
              · rcases hx with e | e
                · exact (HPF.out x e).2
                · have := e.1; omega
              · rcases hx with e | e
                · have := HU.out x e; omega
                · have := e.2; omega
              · rcases hx with e2 | e2
                · rcases e with e | e
                  · exact (HPF.out x e2).1 e
                  · have := e.1; have := HU.out x e2; omega
                · rcases e with e | e
                  · have := T1.out.under x e; have := e2.1; omega
                  · have := e.2; have := e2.1; omega
              · rcases hx with e | e
                · exact (HPF.out x e).2
                · have := e.1; omega
              · rcases hx with e | e
                · exact (HF.out x e).1
                · have := e.1; have := HBEL.out.size; omega
              · rcases hx with e | e
                · exact (HF.out x e).2
                · have := e.1; omega
              · have := HC.out.step (x := 0) (y := 0) (by omega) (by omega) hbd2
                simpa using this
            have HX := Lib.hid hX
            clear hX hr6 ho6 s5 hb5 hcount hbd1 hbd2 hz4 hz5 hz6 hlt4 hws hBF z1 z2 z3 d0 d1 d2 d3 d4 d5
            obtain ⟨F', P', h', m', r', es', ka', kl', kc', ta', tl', tc', s', st', row', hU', hPF', hHP', hF', hB', hbel', hcn', hle'⟩ := HX.out
            have x0 : (w6).cell? ⟨B, 0, none⟩ = some (.int .i64 ca) := (cell_of_row _ _ 0 _ _ _ row').trans rfl
            have x1 : (w6).cell? ⟨B, 1, none⟩ = some (.slice ka' kl' kc') := (cell_of_row _ _ 1 _ _ _ row').trans rfl
            have x2 : (w6).cell? ⟨B, 2, none⟩ = some (.slice ta' tl' tc') := (cell_of_row _ _ 2 _ _ _ row').trans rfl
            have x3 : (w6).cell? ⟨B, 3, none⟩ = some (.int .i64 h') := (cell_of_row _ _ 3 _ _ _ row').trans rfl
            have x4 : (w6).cell? ⟨B, 4, none⟩ = some (.int .i64 m') := (cell_of_row _ _ 4 _ _ _ row').trans rfl
            have x5 : (w6).cell? ⟨B, 5, none⟩ = some (.int .i64 r') := (cell_of_row _ _ 5 _ _ _ row').trans rfl
            have HAG := Lib.hid (agrees_any s' st' hU' (by omega))
            clear s' st' row' hU' hPF' hHP' hF' hB' hbel' hcn' hle'
            go_wp2_with fail
            refine HAG.out.mono ?_
            rintro e w9 ⟨rfl, hb9⟩
            have HX9 := Lib.hid (HX.out.below hb9)
            clear hb9 x0 x1 x2 x3 x4 x5
            go_wp2
            go_roundw
            case rel => exact ⟨k + 1, by omega, by go_num, HX9.out⟩
            case measure => simp [intOf]; omega
          · by_cases hkd1 : kd = 1
            · subst hkd1
              have HG := Lib.hid (get_is T1.out o.key ⟨HC.out.1, by have := HC.out.2.1; omega⟩ ⟨HC.out.2.2.1, by have := HC.out.2.2.2.1; omega⟩)
              go_wp2_with fail
              refine HG.out.mono ?_
              generalize wr.alloc (.cells #[.int .i64 1, .string o.key, .int .i64 o.term.rule, .slice av lv qv] 38) = W at *
              rintro e w4 ⟨⟨v4, rfl, ha4, _⟩, s4, hn4⟩
              obtain ⟨ga, gl, gc, rfl⟩ := ha4.slice
              have hBF : ¬ F B := fun e => (HF.out B e).2 rfl
              have hal4 : Below w4.heap.size w4 (w4.alloc (.cells #[.int .i64 ((lookE o.key es).getD (.node 0 [])).rule, .slice ga gl gc] 36)) := (Below.refl _ _).alloc (Nat.le_refl _) _
              have hr11 := heap_alloc_new w4 (.cells #[.int .i64 ((lookE o.key es).getD (.node 0 [])).rule, .slice ga gl gc] 36)
              have hws := HWSZ.out
              have hz4 := hn4.size
              have hrow4 := (hal4.block wr.heap.size (by omega)).trans ((hn4.block wr.heap.size (by omega) HBX.out).trans HROW.out)
              have hrowB4 := (hal4.block B (by omega)).trans ((hn4.block B (by omega) hBF).trans HROWB.out)
              have z1 : (w4.alloc (.cells #[.int .i64 ((lookE o.key es).getD (.node 0 [])).rule, .slice ga gl gc] 36)).cell? ⟨wr.heap.size, 1, none⟩ = some (.string o.key) := (cell_of_row _ _ 1 _ _ _ hrow4).trans rfl
              have d0 : (w4.alloc (.cells #[.int .i64 ((lookE o.key es).getD (.node 0 [])).rule, .slice ga gl gc] 36)).cell? ⟨B, 0, none⟩ = some (.int .i64 ca) := (cell_of_row _ _ 0 _ _ _ hrowB4).trans rfl
              have d1 : (w4.alloc (.cells #[.int .i64 ((lookE o.key es).getD (.node 0 [])).rule, .slice ga gl gc] 36)).cell? ⟨B, 1, none⟩ = some (.slice ka kl kc) := (cell_of_row _ _ 1 _ _ _ hrowB4).trans rfl
              have d2 : (w4.alloc (.cells #[.int .i64 ((lookE o.key es).getD (.node 0 [])).rule, .slice ga gl gc] 36)).cell? ⟨B, 2, none⟩ = some (.slice ta tl tc) := (cell_of_row _ _ 2 _ _ _ hrowB4).trans rfl
              have d3 : (w4.alloc (.cells #[.int .i64 ((lookE o.key es).getD (.node 0 [])).rule, .slice ga gl gc] 36)).cell? ⟨B, 3, none⟩ = some (.int .i64 hq) := (cell_of_row _ _ 3 _ _ _ hrowB4).trans rfl
              have d4 : (w4.alloc (.cells #[.int .i64 ((lookE o.key es).getD (.node 0 [])).rule, .slice ga gl gc] 36)).cell? ⟨B, 4, none⟩ = some (.int .i64 m) := (cell_of_row _ _ 4 _ _ _ hrowB4).trans rfl
              have d5 : (w4.alloc (.cells #[.int .i64 ((lookE o.key es).getD (.node 0 [])).rule, .slice ga gl gc] 36)).cell? ⟨B, 5, none⟩ = some (.int .i64 r) := (cell_of_row _ _ 5 _ _ _ hrowB4).trans rfl
              have hw4s : (w4.alloc (.cells #[.int .i64 ((lookE o.key es).getD (.node 0 [])).rule, .slice ga gl gc] 36)).heap.size = w4.heap.size + 1 := by simp
              have st4 : StAt w4 P ka kl kc ta tl tc es := ST1.out.kept fun x hx => hn4.block x (by have := HU.out x hx; omega) (HPF.out x hx).1
              have HPW := Lib.hid (show Under P (w4.alloc (.cells #[.int .i64 ((lookE o.key es).getD (.node 0 [])).rule, .slice ga gl gc] 36)).heap.size from fun x hx => by have := HU.out x hx; rw [hw4s]; omega)
              have HPR := Lib.hid (getR_any (st4.kept (Below.keptB hal4 fun x hx => by have := HU.out x hx; omega)) HPW.out ca hq m r o.key (by omega) T1.out.nodup ⟨HC.out.1, by have := HC.out.2.1; omega⟩ ⟨HC.out.2.2.1, by have := HC.out.2.2.2.1; omega⟩)
              have hbel4 := Below.next (Below.stepN HBEL.out hn4 (fun x hx => (HF.out x hx).1)) hal4
              have GA4 := Lib.hid (ha4.kept (Below.keptB hal4 fun x hx => hx.2))
              have S4 := Lib.hid (s4.below hal4)
              have HR11 := Lib.hid hr11
              have HW4S := Lib.hid hw4s
              have HBEL4 := Lib.hid hbel4
              have HRB4 := Lib.hid hrowB4
              clear ha4 hal4 hr11 hrow4 hrowB4 st4 hbel4 s4 hn4 hw4s b0 b1 b2 b3 b4 b5 y1 y2 y3
              go_wp2_with fail
              refine HPR.out.mono ?_
              generalize w4.alloc (.cells #[.int .i64 ((lookE o.key es).getD (.node 0 [])).rule, .slice ga gl gc] 36) = W4 at *
              rintro e w5 ⟨ka3, kl3, kc3, ta3, tl3, tc3, v5, rfl, s5, ha5, hb5⟩
              obtain ⟨qa, ql, qc, rfl⟩ := ha5.slice
              have hz5 := hb5.size
              have hw4s := HW4S.out
              have hal6 : Below w5.heap.size w5 ((w5.alloc (.cells #[.int .i64 ca, .slice ka3 kl3 kc3, .slice ta3 tl3 tc3, .int .i64 (hq + one (lookE o.key es).isSome), .int .i64 (m + one (lookE o.key es).isNone), .int .i64 r] 32)).alloc (.cells #[.int .i64 ((lookE o.key es).getD (.node 0 [])).rule, .slice qa ql qc] 36)) := ((Below.refl _ _).alloc (Nat.le_refl _) _).alloc (by simp) _
              have hr13 : ((w5.alloc (.cells #[.int .i64 ca, .slice ka3 kl3 kc3, .slice ta3 tl3 tc3, .int .i64 (hq + one (lookE o.key es).isSome), .int .i64 (m + one (lookE o.key es).isNone), .int .i64 r] 32)).alloc (.cells #[.int .i64 ((lookE o.key es).getD (.node 0 [])).rule, .slice qa ql qc] 36)).heap[w5.heap.size]? = some (.cells #[.int .i64 ca, .slice ka3 kl3 kc3, .slice ta3 tl3 tc3, .int .i64 (hq + one (lookE o.key es).isSome), .int .i64 (m + one (lookE o.key es).isNone), .int .i64 r] 32 (0, 0)) := (Below.heap_alloc _ _ _ (by simp)).trans (heap_alloc_new _ _)
              have hr14 : ((w5.alloc (.cells #[.int .i64 ca, .slice ka3 kl3 kc3, .slice ta3 tl3 tc3, .int .i64 (hq + one (lookE o.key es).isSome), .int .i64 (m + one (lookE o.key es).isNone), .int .i64 r] 32)).alloc (.cells #[.int .i64 ((lookE o.key es).getD (.node 0 [])).rule, .slice qa ql qc] 36)).heap[w5.heap.size + 1]? = some (.cells #[.int .i64 ((lookE o.key es).getD (.node 0 [])).rule, .slice qa ql qc] 36 (0, 0)) := by
                have := heap_alloc_new (w5.alloc (.cells #[.int .i64 ca, .slice ka3 kl3 kc3, .slice ta3 tl3 tc3, .int .i64 (hq + one (lookE o.key es).isSome), .int .i64 (m + one (lookE o.key es).isNone), .int .i64 r] 32)) (.cells #[.int .i64 ((lookE o.key es).getD (.node 0 [])).rule, .slice qa ql qc] 36)
                rwa [World.size_alloc] at this
              have hrB6 := (hal6.block B (by omega)).trans ((hb5.block B (by omega)).trans HRB4.out)
              have hr116 := (hal6.block w4.heap.size (by omega)).trans ((hb5.block w4.heap.size (by omega)).trans HR11.out)
              have hz6 : ((w5.alloc (.cells #[.int .i64 ca, .slice ka3 kl3 kc3, .slice ta3 tl3 tc3, .int .i64 (hq + one (lookE o.key es).isSome), .int .i64 (m + one (lookE o.key es).isNone), .int .i64 r] 32)).alloc (.cells #[.int .i64 ((lookE o.key es).getD (.node 0 [])).rule, .slice qa ql qc] 36)).heap.size = w5.heap.size + 1 + 1 := by simp
              have S5 := Lib.hid (s5.kept (Below.keptB hal6 fun x hx => by rcases hx with e | e; (have := HPW.out x e; omega); exact e.2))
              have GA5 := Lib.hid (ha5.kept (Below.keptB hal6 fun x hx => by have := HPW.out x hx; omega))
              have GA4' := Lib.hid (GA4.out.kept (Below.keptB (Below.next hb5 hal6) fun x hx => by have := hx.2; omega))
              have HB46 := Lib.hid (Below.next hb5 hal6)
              have hsm : tsize ((lookE o.key es).getD (.node 0 [])) ≤ 1000 := by
                cases hlk : lookE o.key es with
                | none => decide
                | some u => exact T1.out.small _ (look_mem hlk)
              have HSM := Lib.hid hsm
              have hbb : ((lookE o.key es).isSome != (lookE o.key es).isSome) = false := by simp
              have HR13 := Lib.hid hr13
              have HR14 := Lib.hid hr14
              have HRB6 := Lib.hid hrB6
              have HR116 := Lib.hid hr116
              have HZ6 := Lib.hid hz6
              clear s5 ha5 hal6 hr13 hr14 hrB6 hr116 hsm z1 d0 d1 d2 d3 d4 d5 hb5
              go_wp2_with ((with_reducible show wpList _ _ _ (⟨_, .store 32 (.tmp 7) _, _, _, _, _⟩ :: _) _ _); refine wpList_store_st rfl (.tmp 7) (.tmp 91) rfl B (.int .i64 ca) (.slice ka3 kl3 kc3) (.slice ta3 tl3 tc3) (.int .i64 (hq + one (lookE o.key es).isSome)) (.int .i64 (m + one (lookE o.key es).isNone)) (.int .i64 r) rfl rfl HRB6.out (by simp [Value.oneCell']) ?_; intro w7 hr7 ho7; have h11a : w7.cell? ⟨w4.heap.size, 0, none⟩ = some (.int .i64 ((lookE o.key es).getD (.node 0 [])).rule) := (cell_of_row _ _ 0 _ _ _ ((ho7.block w4.heap.size (by omega)).trans HR116.out)).trans rfl; have h11b : w7.cell? ⟨w4.heap.size, 1, none⟩ = some (.slice ga gl gc) := (cell_of_row _ _ 1 _ _ _ ((ho7.block w4.heap.size (by omega)).trans HR116.out)).trans rfl; have h14a : w7.cell? ⟨w5.heap.size + 1, 0, none⟩ = some (.int .i64 ((lookE o.key es).getD (.node 0 [])).rule) := (cell_of_row _ _ 0 _ _ _ ((ho7.block (w5.heap.size + 1) (by omega)).trans HR14.out)).trans rfl; have h14b : w7.cell? ⟨w5.heap.size + 1, 1, none⟩ = some (.slice qa ql qc) := (cell_of_row _ _ 1 _ _ _ ((ho7.block (w5.heap.size + 1) (by omega)).trans HR14.out)).trans rfl; have HR7 := Lib.hid hr7; have HO7 := Lib.hid ho7; clear hr7 ho7)
              have ho7 := HO7.out
              have hz7 := ho7.size
              have hz6 := HZ6.out
              have HSME := Lib.hid (same_eq ((lookE o.key es).getD (.node 0 [])) (.slice ga gl gc) (.slice qa ql qc) (Span W.heap.size w4.heap.size) P w7 HSM.out (fun x hx => by have := hx.2; omega) (fun x hx => by have := HU.out x hx; omega)
                (GA4'.out.kept fun x hx => ho7.block x (by have := hx.1; omega)) (GA5.out.kept fun x hx => ho7.block x (HPF.out x hx).2))
              have hX : RuAt w ca c B (k + 1) w7 := by
                refine ⟨F, _, _, _, r, _, _, _, _, _, _, _, (S4.out.below HB46.out).near ho7.near (fun x hx e => hBF (hx ▸ e)), S5.out.kept (fun x hx => ho7.block x ?_), HR7.out, fun x hx => ?_, fun x hx => ⟨fun e => ?_, ?_⟩, fun x hx => .inl (HHP.out x hx), HF.out, hB, Below.stepN (Below.next HBEL4.out HB46.out) ho7.near (fun x hx => by omega), ?_, by rw [get_len T1.out.nodup]; omega, by omega⟩
                · rcases hx with e | e
                  · exact (HPF.out x e).2
                  · have := e.1; omega
                · rcases hx with e | e
                  · have := HU.out x e; omega
                  · have := e.2; omega
                · rcases hx with e2 | e2
                  · exact (HPF.out x e2).1 e
                  · have := T1.out.under x e; have := e2.1; omega
                · rcases hx with e | e
                  · exact (HPF.out x e).2
                  · have := e.1; omega
                · have := HC.out.step (z := 0) (one_bd (lookE o.key es).isSome) (one_bd (lookE o.key es).isNone) (by omega)
                  simpa using this
              have HX7 := Lib.hid hX
              clear hX ho7 hz7 hz6 hz5 hz4 hw4s hws hBF h11a h11b h14a h14b
              refine HSME.out.mono ?_
              rintro e w8 ⟨rfl, hb8⟩
              have HX := Lib.hid (HX7.out.below hb8)
              clear hb8
              obtain ⟨F', P', h', m', r', es', ka', kl', kc', ta', tl', tc', s', st', row', hU', hPF', hHP', hF', hB', hbel', hcn', hle'⟩ := HX.out
              have x0 : (w8).cell? ⟨B, 0, none⟩ = some (.int .i64 ca) := (cell_of_row _ _ 0 _ _ _ row').trans rfl
              have x1 : (w8).cell? ⟨B, 1, none⟩ = some (.slice ka' kl' kc') := (cell_of_row _ _ 1 _ _ _ row').trans rfl
              have x2 : (w8).cell? ⟨B, 2, none⟩ = some (.slice ta' tl' tc') := (cell_of_row _ _ 2 _ _ _ row').trans rfl
              have x3 : (w8).cell? ⟨B, 3, none⟩ = some (.int .i64 h') := (cell_of_row _ _ 3 _ _ _ row').trans rfl
              have x4 : (w8).cell? ⟨B, 4, none⟩ = some (.int .i64 m') := (cell_of_row _ _ 4 _ _ _ row').trans rfl
              have x5 : (w8).cell? ⟨B, 5, none⟩ = some (.int .i64 r') := (cell_of_row _ _ 5 _ _ _ row').trans rfl
              have HAG := Lib.hid (agrees_any s' st' hU' (by omega))
              clear s' st' row' hU' hPF' hHP' hF' hB' hbel' hcn' hle'
              go_wp2_with fail
              refine HAG.out.mono ?_
              rintro e w9 ⟨rfl, hb9⟩
              have HX9 := Lib.hid (HX.out.below hb9)
              clear hb9 x0 x1 x2 x3 x4 x5
              go_wp2
              go_roundw
              case rel => exact ⟨k + 1, by omega, by go_num, HX9.out⟩
              case measure => simp [intOf]; omega
            · by_cases hkd2 : kd = 2
              · subst hkd2
                have HPK := Lib.hid (peek_is T1.out o.key)
                have hx3 : RuAt w ca c B (k + 1) (wr.alloc (.cells #[.int .i64 2, .string o.key, .int .i64 o.term.rule, .slice av lv qv] 38)) := ⟨F, P, hq, m, r, es, ka, kl, kc, ta, tl, tc, T1.out, ST1.out, HROWB.out, HU.out.le (by rw [HWSZ.out]; omega), HPF.out, HHP.out, HF.out, hB, HBEL.out, by have := HC.out.step (x := 0) (y := 0) (z := 0) (by omega) (by omega) (by omega); simpa using this, by omega, by omega⟩
                have HX3 := Lib.hid hx3
                clear hx3
                go_wp2_with fail
                refine HPK.out.mono ?_
                generalize wr.alloc (.cells #[.int .i64 2, .string o.key, .int .i64 o.term.rule, .slice av lv qv] 38) = W at *
                rintro e w4 ⟨⟨v4, rfl, ha4, _⟩, hb4⟩
                obtain ⟨ga, gl, gc, rfl⟩ := ha4.slice
                have hal4 : Below w4.heap.size w4 (w4.alloc (.cells #[.int .i64 ((lookE o.key es).getD (.node 0 [])).rule, .slice ga gl gc] 36)) := (Below.refl _ _).alloc (Nat.le_refl _) _
                have hb4' := Below.next hb4 hal4
                have hr16 := heap_alloc_new w4 (.cells #[.int .i64 ((lookE o.key es).getD (.node 0 [])).rule, .slice ga gl gc] 36)
                have hws := HWSZ.out
                have hz4 := hb4.size
                have hrow4 := (hb4'.block wr.heap.size (by omega)).trans HROW.out
                have hrowB4 := (hb4'.block B (by omega)).trans HROWB.out
                have z1 : (w4.alloc (.cells #[.int .i64 ((lookE o.key es).getD (.node 0 [])).rule, .slice ga gl gc] 36)).cell? ⟨wr.heap.size, 1, none⟩ = some (.string o.key) := (cell_of_row _ _ 1 _ _ _ hrow4).trans rfl
                have d0 : (w4.alloc (.cells #[.int .i64 ((lookE o.key es).getD (.node 0 [])).rule, .slice ga gl gc] 36)).cell? ⟨B, 0, none⟩ = some (.int .i64 ca) := (cell_of_row _ _ 0 _ _ _ hrowB4).trans rfl
                have d1 : (w4.alloc (.cells #[.int .i64 ((lookE o.key es).getD (.node 0 [])).rule, .slice ga gl gc] 36)).cell? ⟨B, 1, none⟩ = some (.slice ka kl kc) := (cell_of_row _ _ 1 _ _ _ hrowB4).trans rfl
                have d2 : (w4.alloc (.cells #[.int .i64 ((lookE o.key es).getD (.node 0 [])).rule, .slice ga gl gc] 36)).cell? ⟨B, 2, none⟩ = some (.slice ta tl tc) := (cell_of_row _ _ 2 _ _ _ hrowB4).trans rfl
                have d3 : (w4.alloc (.cells #[.int .i64 ((lookE o.key es).getD (.node 0 [])).rule, .slice ga gl gc] 36)).cell? ⟨B, 3, none⟩ = some (.int .i64 hq) := (cell_of_row _ _ 3 _ _ _ hrowB4).trans rfl
                have d4 : (w4.alloc (.cells #[.int .i64 ((lookE o.key es).getD (.node 0 [])).rule, .slice ga gl gc] 36)).cell? ⟨B, 4, none⟩ = some (.int .i64 m) := (cell_of_row _ _ 4 _ _ _ hrowB4).trans rfl
                have d5 : (w4.alloc (.cells #[.int .i64 ((lookE o.key es).getD (.node 0 [])).rule, .slice ga gl gc] 36)).cell? ⟨B, 5, none⟩ = some (.int .i64 r) := (cell_of_row _ _ 5 _ _ _ hrowB4).trans rfl
                have hPR := peekR_any (ST1.out.kept (Below.keptB hb4' (HU.out.le (by omega)))) (fun x hx => by have := HU.out x hx; simp; omega) ca hq m r o.key (by omega)
                have HPR := Lib.hid hPR
                have GA4 := Lib.hid (ha4.kept (Below.keptB hal4 fun x hx => hx.2))
                have HX4 := Lib.hid (HX3.out.below hb4')
                have HR16 := Lib.hid hr16
                have hw4s : (w4.alloc (.cells #[.int .i64 ((lookE o.key es).getD (.node 0 [])).rule, .slice ga gl gc] 36)).heap.size = w4.heap.size + 1 := by simp
                have HW4S := Lib.hid hw4s
                have HPW := Lib.hid (show Under P (w4.alloc (.cells #[.int .i64 ((lookE o.key es).getD (.node 0 [])).rule, .slice ga gl gc] 36)).heap.size from fun x hx => by have := HU.out x hx; rw [hw4s]; omega)
                clear ha4 hal4 hb4 hb4' hr16 hrow4 hrowB4 hPR hw4s hz4 b0 b1 b2 b3 b4 b5 y1 y2 y3
                go_wp2_with fail
                refine HPR.out.mono ?_
                generalize w4.alloc (.cells #[.int .i64 ((lookE o.key es).getD (.node 0 [])).rule, .slice ga gl gc] 36) = W4 at *
                rintro e w5 ⟨v5, rfl, ha5, hb5⟩
                obtain ⟨qa, ql, qc, rfl⟩ := ha5.slice
                have hal5 : Below w5.heap.size w5 (w5.alloc (.cells #[.int .i64 ((lookE o.key es).getD (.node 0 [])).rule, .slice qa ql qc] 36)) := (Below.refl _ _).alloc (Nat.le_refl _) _
                have hr18 := heap_alloc_new w5 (.cells #[.int .i64 ((lookE o.key es).getD (.node 0 [])).rule, .slice qa ql qc] 36)
                have hb5' := Below.next hb5 hal5
                have hr16 := (hb5'.block w4.heap.size (by rw [HW4S.out]; omega)).trans HR16.out
                have z5 := hb5.size
                have hPU5 : Under P w5.heap.size := fun x hx => by have := HPW.out x hx; omega
                have hsm : tsize ((lookE o.key es).getD (.node 0 [])) ≤ 1000 := by
                  cases hlk : lookE o.key es with
                  | none => decide
                  | some u => exact T1.out.small _ (look_mem hlk)
                have h16a : (w5.alloc (.cells #[.int .i64 ((lookE o.key es).getD (.node 0 [])).rule, .slice qa ql qc] 36)).cell? ⟨w4.heap.size, 0, none⟩ = some (.int .i64 ((lookE o.key es).getD (.node 0 [])).rule) := (cell_of_row _ _ 0 _ _ _ hr16).trans rfl
                have h16b : (w5.alloc (.cells #[.int .i64 ((lookE o.key es).getD (.node 0 [])).rule, .slice qa ql qc] 36)).cell? ⟨w4.heap.size, 1, none⟩ = some (.slice ga gl gc) := (cell_of_row _ _ 1 _ _ _ hr16).trans rfl
                have h18a : (w5.alloc (.cells #[.int .i64 ((lookE o.key es).getD (.node 0 [])).rule, .slice qa ql qc] 36)).cell? ⟨w5.heap.size, 0, none⟩ = some (.int .i64 ((lookE o.key es).getD (.node 0 [])).rule) := (cell_of_row _ _ 0 _ _ _ hr18).trans rfl
                have h18b : (w5.alloc (.cells #[.int .i64 ((lookE o.key es).getD (.node 0 [])).rule, .slice qa ql qc] 36)).cell? ⟨w5.heap.size, 1, none⟩ = some (.slice qa ql qc) := (cell_of_row _ _ 1 _ _ _ hr18).trans rfl
                have HSME := Lib.hid (same_eq ((lookE o.key es).getD (.node 0 [])) (.slice ga gl gc) (.slice qa ql qc) (Span W.heap.size w4.heap.size) P (w5.alloc (.cells #[.int .i64 ((lookE o.key es).getD (.node 0 [])).rule, .slice qa ql qc] 36)) hsm (fun x hx => by have := hx.2; have := HW4S.out; simp; omega) (fun x hx => by have := hPU5 x hx; simp; omega)
                  (GA4.out.kept (Below.keptB hb5' fun x hx => by have := hx.2; rw [HW4S.out]; omega)) (ha5.kept (Below.keptB hal5 hPU5)))
                have HX5 := Lib.hid (HX4.out.below hb5')
                have hbb : ((lookE o.key es).isSome != (lookE o.key es).isSome) = false := by simp
                clear ha5 hal5 hb5 hb5' hr16 hr18 z5 hPU5 hsm z1 d0 d1 d2 d3 d4 d5
                go_wp2_with fail
                refine HSME.out.mono ?_
                generalize w5.alloc (.cells #[.int .i64 ((lookE o.key es).getD (.node 0 [])).rule, .slice qa ql qc] 36) = W5 at *
                rintro e w6 ⟨rfl, hb6⟩
                have HX := Lib.hid (HX5.out.below hb6)
                clear hb6 h16a h16b h18a h18b
                obtain ⟨F', P', h', m', r', es', ka', kl', kc', ta', tl', tc', s', st', row', hU', hPF', hHP', hF', hB', hbel', hcn', hle'⟩ := HX.out
                have x0 : (w6).cell? ⟨B, 0, none⟩ = some (.int .i64 ca) := (cell_of_row _ _ 0 _ _ _ row').trans rfl
                have x1 : (w6).cell? ⟨B, 1, none⟩ = some (.slice ka' kl' kc') := (cell_of_row _ _ 1 _ _ _ row').trans rfl
                have x2 : (w6).cell? ⟨B, 2, none⟩ = some (.slice ta' tl' tc') := (cell_of_row _ _ 2 _ _ _ row').trans rfl
                have x3 : (w6).cell? ⟨B, 3, none⟩ = some (.int .i64 h') := (cell_of_row _ _ 3 _ _ _ row').trans rfl
                have x4 : (w6).cell? ⟨B, 4, none⟩ = some (.int .i64 m') := (cell_of_row _ _ 4 _ _ _ row').trans rfl
                have x5 : (w6).cell? ⟨B, 5, none⟩ = some (.int .i64 r') := (cell_of_row _ _ 5 _ _ _ row').trans rfl
                have HAG := Lib.hid (agrees_any s' st' hU' (by omega))
                clear s' st' row' hU' hPF' hHP' hF' hB' hbel' hcn' hle'
                go_wp2_with fail
                refine HAG.out.mono ?_
                rintro e w9 ⟨rfl, hb9⟩
                have HX9 := Lib.hid (HX.out.below hb9)
                clear hb9 x0 x1 x2 x3 x4 x5
                go_wp2
                go_roundw
                case rel => exact ⟨k + 1, by omega, by go_num, HX9.out⟩
                case measure => simp [intOf]; omega
              · by_cases hkd3 : kd = 3
                · subst hkd3
                  have HCL := Lib.hid (clear_is T1.out)
                  have HCR0 := Lib.hid (fun w4 => clearR_any (w := w4) (P := P) (ka := ka) (ta := ta) (kl := kl) (kc := kc) (tl := tl) (tc := tc) (es := es) ca hq m r)
                  go_wp2_with fail
                  refine HCL.out.mono ?_
                  generalize wr.alloc (.cells #[.int .i64 3, .string o.key, .int .i64 o.term.rule, .slice av lv qv] 38) = W at *
                  rintro e w4 ⟨rfl, s4, hn4⟩
                  have hBF : ¬ F B := fun e => (HF.out B e).2 rfl
                  have hrow4 := (hn4.block wr.heap.size (by rw [HWSZ.out]; omega) HBX.out).trans HROW.out
                  have hrowB4 := (hn4.block B (by rw [HWSZ.out]; omega) hBF).trans HROWB.out
                  have hz4 := hn4.size
                  have st4 : StAt w4 P ka kl kc ta tl tc es := ST1.out.kept fun x hx => hn4.block x (by rw [HWSZ.out]; have := HU.out x hx; omega) (HPF.out x hx).1
                  have d0 : (w4).cell? ⟨B, 0, none⟩ = some (.int .i64 ca) := (cell_of_row _ _ 0 _ _ _ hrowB4).trans rfl
                  have d1 : (w4).cell? ⟨B, 1, none⟩ = some (.slice ka kl kc) := (cell_of_row _ _ 1 _ _ _ hrowB4).trans rfl
                  have d2 : (w4).cell? ⟨B, 2, none⟩ = some (.slice ta tl tc) := (cell_of_row _ _ 2 _ _ _ hrowB4).trans rfl
                  have d3 : (w4).cell? ⟨B, 3, none⟩ = some (.int .i64 hq) := (cell_of_row _ _ 3 _ _ _ hrowB4).trans rfl
                  have d4 : (w4).cell? ⟨B, 4, none⟩ = some (.int .i64 m) := (cell_of_row _ _ 4 _ _ _ hrowB4).trans rfl
                  have d5 : (w4).cell? ⟨B, 5, none⟩ = some (.int .i64 r) := (cell_of_row _ _ 5 _ _ _ hrowB4).trans rfl
                  have hbel4 := Below.stepN HBEL.out hn4 (fun x hx => (HF.out x hx).1)
                  have S4 := Lib.hid s4
                  have HN4 := Lib.hid hn4
                  have HBEL4 := Lib.hid hbel4
                  have HRB4 := Lib.hid hrowB4
                  clear s4 hn4 hrow4 hrowB4 st4 hbel4 b0 b1 b2 b3 b4 b5 y1 y2 y3
                  go_wp2_with fail
                  refine (HCR0.out w4).mono ?_
                  rintro e w5 ⟨ka3, kl3, kc3, ta3, tl3, tc3, rfl, s5, hb5⟩
                  have hlt4 := (Array.getElem?_eq_some_iff.1 HRB4.out).1
                  rename_i K aK
                  refine aK _ _ ?_
                  refine wpList_store_st rfl (.tmp 7) (.tmp 131) rfl B (.int .i64 ca) (.slice ka3 kl3 kc3) (.slice ta3 tl3 tc3) (.int .i64 hq) (.int .i64 m) (.int .i64 r) rfl rfl ((hb5.block B hlt4).trans HRB4.out) (by simp [Value.oneCell']) ?_
                  intro w6 hr6 ho6
                  have hz5 := hb5.size
                  have hz6 := ho6.size
                  have hws := HWSZ.out
                  have hX : RuAt w ca c B (k + 1) w6 := by
                    refine ⟨_, _, _, _, _, _, _, _, _, _, _, _, (S4.out.below hb5).near ho6.near (fun x hx e => ?_), s5.kept (fun x hx => ho6.block x ?_), hr6, fun x hx => ?_, fun x hx => ⟨fun e => ?_, ?_⟩, fun x hx => .inl (HHP.out x hx), fun x hx => ⟨?_, ?_⟩, hB, Below.stepN (Below.next HBEL4.out hb5) ho6.near (fun x hx => by omega), ?_, by simp, by omega⟩
                    · rcases e with e | e
                      · exact hBF (hx ▸ e)
                      · have := e.1; omega
                    · rcases hx with e | e
                      · exact (HPF.out x e).2
                      · have := e.1; omega
                    · rcases hx with e | e
                      · have := HU.out x e; omega
                      · have := e.2; omega
                    · rcases hx with e2 | e2
                      · rcases e with e | e
                        · exact (HPF.out x e2).1 e
                        · have := e.1; have := HU.out x e2; omega
                      · rcases e with e | e
                        · have := T1.out.under x e; have := e2.1; omega
                        · have := e.2; have := e2.1; omega
                    · rcases hx with e | e
                      · exact (HPF.out x e).2
                      · have := e.1; omega
                    · rcases hx with e | e
                      · exact (HF.out x e).1
                      · have := e.1; have := HBEL.out.size; omega
                    · rcases hx with e | e
                      · exact (HF.out x e).2
                      · have := e.1; omega
                    · have := HC.out.step (x := 0) (y := 0) (z := 0) (by omega) (by omega) (by omega)
                      simpa using this
                  have HX := Lib.hid hX
                  clear hX hr6 ho6 s5 hb5 hz4 hz5 hz6 hlt4 hws hBF d0 d1 d2 d3 d4 d5
                  obtain ⟨F', P', h', m', r', es', ka', kl', kc', ta', tl', tc', s', st', row', hU', hPF', hHP', hF', hB', hbel', hcn', hle'⟩ := HX.out
                  have x0 : (w6).cell? ⟨B, 0, none⟩ = some (.int .i64 ca) := (cell_of_row _ _ 0 _ _ _ row').trans rfl
                  have x1 : (w6).cell? ⟨B, 1, none⟩ = some (.slice ka' kl' kc') := (cell_of_row _ _ 1 _ _ _ row').trans rfl
                  have x2 : (w6).cell? ⟨B, 2, none⟩ = some (.slice ta' tl' tc') := (cell_of_row _ _ 2 _ _ _ row').trans rfl
                  have x3 : (w6).cell? ⟨B, 3, none⟩ = some (.int .i64 h') := (cell_of_row _ _ 3 _ _ _ row').trans rfl
                  have x4 : (w6).cell? ⟨B, 4, none⟩ = some (.int .i64 m') := (cell_of_row _ _ 4 _ _ _ row').trans rfl
                  have x5 : (w6).cell? ⟨B, 5, none⟩ = some (.int .i64 r') := (cell_of_row _ _ 5 _ _ _ row').trans rfl
                  have HAG := Lib.hid (agrees_any s' st' hU' (by omega))
                  clear s' st' row' hU' hPF' hHP' hF' hB' hbel' hcn' hle'
                  go_wp2_with fail
                  refine HAG.out.mono ?_
                  rintro e w9 ⟨rfl, hb9⟩
                  have HX9 := Lib.hid (HX.out.below hb9)
                  clear hb9 x0 x1 x2 x3 x4 x5
                  go_wp2
                  go_roundw
                  case rel => exact ⟨k + 1, by omega, by go_num, HX9.out⟩
                  case measure => simp [intOf]; omega
                · have HX := Lib.hid (show RuAt w ca c B (k + 1) (wr.alloc (.cells #[.int .i64 kd, .string o.key, .int .i64 o.term.rule, .slice av lv qv] 38)) from ⟨F, P, hq, m, r, es, ka, kl, kc, ta, tl, tc, T1.out, ST1.out, HROWB.out, HU.out.le (by rw [HWSZ.out]; omega), HPF.out, HHP.out, HF.out, hB, HBEL.out, by have := HC.out.step (x := 0) (y := 0) (z := 0) (by omega) (by omega) (by omega); simpa using this, by omega, by omega⟩)
                  clear b0 b1 b2 b3 b4 b5 y1 y2 y3
                  obtain ⟨F', P', h', m', r', es', ka', kl', kc', ta', tl', tc', s', st', row', hU', hPF', hHP', hF', hB', hbel', hcn', hle'⟩ := HX.out
                  have x0 : (wr.alloc (.cells #[.int .i64 kd, .string o.key, .int .i64 o.term.rule, .slice av lv qv] 38)).cell? ⟨B, 0, none⟩ = some (.int .i64 ca) := (cell_of_row _ _ 0 _ _ _ row').trans rfl
                  have x1 : (wr.alloc (.cells #[.int .i64 kd, .string o.key, .int .i64 o.term.rule, .slice av lv qv] 38)).cell? ⟨B, 1, none⟩ = some (.slice ka' kl' kc') := (cell_of_row _ _ 1 _ _ _ row').trans rfl
                  have x2 : (wr.alloc (.cells #[.int .i64 kd, .string o.key, .int .i64 o.term.rule, .slice av lv qv] 38)).cell? ⟨B, 2, none⟩ = some (.slice ta' tl' tc') := (cell_of_row _ _ 2 _ _ _ row').trans rfl
                  have x3 : (wr.alloc (.cells #[.int .i64 kd, .string o.key, .int .i64 o.term.rule, .slice av lv qv] 38)).cell? ⟨B, 3, none⟩ = some (.int .i64 h') := (cell_of_row _ _ 3 _ _ _ row').trans rfl
                  have x4 : (wr.alloc (.cells #[.int .i64 kd, .string o.key, .int .i64 o.term.rule, .slice av lv qv] 38)).cell? ⟨B, 4, none⟩ = some (.int .i64 m') := (cell_of_row _ _ 4 _ _ _ row').trans rfl
                  have x5 : (wr.alloc (.cells #[.int .i64 kd, .string o.key, .int .i64 o.term.rule, .slice av lv qv] 38)).cell? ⟨B, 5, none⟩ = some (.int .i64 r') := (cell_of_row _ _ 5 _ _ _ row').trans rfl
                  have HAG := Lib.hid (agrees_any s' st' hU' (by omega))
                  clear s' st' row' hU' hPF' hHP' hF' hB' hbel' hcn' hle'
                  go_wp2_with fail
                  refine HAG.out.mono ?_
                  rintro e w9 ⟨rfl, hb9⟩
                  have HX9 := Lib.hid (HX.out.below hb9)
                  clear hb9 x0 x1 x2 x3 x4 x5
                  go_wp2
                  go_roundw
                  case rel => exact ⟨k + 1, by omega, by go_num, HX9.out⟩
                  case measure => simp [intOf]; omega
        · have hkl : ¬ (k : Int) < len := by omega
          have HBEL := Lib.hid (show Below w.heap.size w wr by obtain ⟨F, P, hq, m, r, es, ka, kl, kc, ta, tl, tc, g1, g2, g3, g4, g5, g6, g7, g8, g9, g10⟩ := hru; exact g9)
          clear hru
          go_wp2_with fail
          refine (awake_any _).mono ?_
          rintro e w2 ⟨rfl, hb2⟩
          go_wp2
          go_ret
          exact ⟨rfl, Below.next HBEL.out hb2⟩
end Go.Proofs.Ytdljffplooplcaa
