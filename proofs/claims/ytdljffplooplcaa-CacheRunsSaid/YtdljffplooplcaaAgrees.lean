/- agrees. -/
import Derived.Test.YtdljffplooplcaaGetR
import Derived.Deep.RegionHeld3
namespace Go.Proofs.Ytdljffplooplcaa
open Go.RowKit
set_option linter.unusedVariables false

set_option maxRecDepth 20000 in
set_option maxHeartbeats 800000 in
theorem agrees_any {w : World} {F P : Nat → Prop} {c : Nat} {ka ta : Option Addr} {kl kc tl tc : Nat} {es : Es} {cap hq m r : Int} (s : CacheIs w F c cap hq m r es) (st : StAt w P ka kl kc ta tl tc es) (hU : Under P w.heap.size) (hlen : es.length ≤ 900) :
    Calls Try.prog 21 #[.pointer (some ⟨c, 0, none⟩), .agg #[.int .i64 cap, .slice ka kl kc, .slice ta tl tc, .int .i64 hq, .int .i64 m, .int .i64 r]] w fun e w' => e = .returned (.bool true) ∧ Below w.heap.size w w' := by
  obtain ⟨hl1, hl2⟩ := st.lens
  have hal : Below w.heap.size w (w.alloc (.cells #[.int .i64 cap, .slice ka kl kc, .slice ta tl tc, .int .i64 hq, .int .i64 m, .int .i64 r] 32)) := (Below.refl _ _).alloc (Nat.le_refl _) _
  have hrow := heap_alloc_new w (.cells #[.int .i64 cap, .slice ka kl kc, .slice ta tl tc, .int .i64 hq, .int .i64 m, .int .i64 r] 32)
  have hkn : (keysE es).length = es.length := by simp [keysE]
  have HK := Lib.hid (keys_is (s.below hal) (by omega))
  rw [hkn] at HK
  have S := Lib.hid s
  have ST := Lib.hid st
  have HU := Lib.hid hU
  have HAL := Lib.hid hal
  have HROW := Lib.hid hrow
  have hws : (w.alloc (.cells #[.int .i64 cap, .slice ka kl kc, .slice ta tl tc, .int .i64 hq, .int .i64 m, .int .i64 r] 32)).heap.size = w.heap.size + 1 := by simp
  have HWS := Lib.hid hws
  have HND := Lib.hid s.nodup
  clear s st hU hal hrow hws
  go_enter Try.func21, Try.ntmps21
  go_wp2_with fail
  refine HK.out.mono ?_
  generalize (w.alloc (.cells #[.int .i64 cap, .slice ka kl kc, .slice ta tl tc, .int .i64 hq, .int .i64 m, .int .i64 r] 32)) = W at *
  rintro e w1 ⟨v, rfl, hown, hb1⟩
  rw [← hkn] at hown
  obtain ⟨xa, xc, xg, rfl, hxc, hxm, hxa, hxcell⟩ := ownsRow_strs hown
  have hb1' := Below.next HAL.out hb1
  have HST := Lib.hid (stats_is (S.out.below hb1'))
  have hr1 := (hb1.block w.heap.size (by rw [HWS.out]; omega)).trans HROW.out
  have a0 : w1.cell? ⟨w.heap.size, 0, none⟩ = some (.int .i64 cap) := (cell_of_row _ _ 0 _ _ _ hr1).trans rfl
  have a1 : w1.cell? ⟨w.heap.size, 1, none⟩ = some (.slice ka kl kc) := (cell_of_row _ _ 1 _ _ _ hr1).trans rfl
  have a2 : w1.cell? ⟨w.heap.size, 2, none⟩ = some (.slice ta tl tc) := (cell_of_row _ _ 2 _ _ _ hr1).trans rfl
  have a3 : w1.cell? ⟨w.heap.size, 3, none⟩ = some (.int .i64 hq) := (cell_of_row _ _ 3 _ _ _ hr1).trans rfl
  have a4 : w1.cell? ⟨w.heap.size, 4, none⟩ = some (.int .i64 m) := (cell_of_row _ _ 4 _ _ _ hr1).trans rfl
  have a5 : w1.cell? ⟨w.heap.size, 5, none⟩ = some (.int .i64 r) := (cell_of_row _ _ 5 _ _ _ hr1).trans rfl
  have HR1 := Lib.hid hr1
  have HB1 := Lib.hid hb1'
  have HXC := Lib.hid hxcell
  have hxm2 : xc ≤ 9223372036854775807 := by unfold maxLen at hxm; omega
  rw [hkn] at hxc hxa ⊢
  rw [hl1] at hxc hxa ⊢
  clear hown hb1 hb1' hr1 hxcell hxm
  go_wp2_with fail
  refine HST.out.mono ?_
  rintro e w2 ⟨rfl, hb2⟩
  have hr2 := (hb2.block w.heap.size (Array.getElem?_eq_some_iff.1 HR1.out).1).trans HR1.out
  have b0 : w2.cell? ⟨w.heap.size, 0, none⟩ = some (.int .i64 cap) := (cell_of_row _ _ 0 _ _ _ hr2).trans rfl
  have b1 : w2.cell? ⟨w.heap.size, 1, none⟩ = some (.slice ka kl kc) := (cell_of_row _ _ 1 _ _ _ hr2).trans rfl
  have b2 : w2.cell? ⟨w.heap.size, 2, none⟩ = some (.slice ta tl tc) := (cell_of_row _ _ 2 _ _ _ hr2).trans rfl
  have b3 : w2.cell? ⟨w.heap.size, 3, none⟩ = some (.int .i64 hq) := (cell_of_row _ _ 3 _ _ _ hr2).trans rfl
  have b4 : w2.cell? ⟨w.heap.size, 4, none⟩ = some (.int .i64 m) := (cell_of_row _ _ 4 _ _ _ hr2).trans rfl
  have b5 : w2.cell? ⟨w.heap.size, 5, none⟩ = some (.int .i64 r) := (cell_of_row _ _ 5 _ _ _ hr2).trans rfl
  have HR2 := Lib.hid hr2
  have HB2 := Lib.hid hb2
  clear hb2 hr2 a0 a1 a2 a3 a4 a5
  go_wp2_with fail
  have hx0 := HB2.out.size
  go_loopw [9] (fun i wr => ∃ j : Nat, j ≤ kl ∧ i = .int .i64 j ∧ Below w2.heap.size w2 wr) (fun i _ => kl - (intOf i).toNat)
  case atStart => exact ⟨0, by omega, rfl, Below.refl _ _⟩
  case round =>
    obtain ⟨j, hj, rfl, hbel⟩ := hrel
    have hb2r := Below.next HB2.out hbel
    have hbwr := Below.next HB1.out hb2r
    by_cases hjl : j < kl
    · obtain ⟨rfl, hg1, hg2⟩ := hxa (by omega)
      have hkj : (keysE es).getD j ⟨#[]⟩ = (es.getD j (⟨#[]⟩, .node 0 [])).1 := by
        have : j < es.length := by omega
        simp [keysE, List.getD, this]
      have hmem : es.getD j (⟨#[]⟩, .node 0 []) ∈ es := by
        have : j < es.length := by omega
        simp [List.getD, this]
      have k1 : wr.cell? ⟨xg, j, none⟩ = some (.string ((keysE es).getD j ⟨#[]⟩)) := (hb2r.cell (p := ⟨xg, j, none⟩) hg2).trans (HXC.out j (by omega))
      rw [hkj] at k1
      have hlook : lookE (es.getD j (⟨#[]⟩, .node 0 [])).1 es = some (es.getD j (⟨#[]⟩, .node 0 [])).2 := look_of HND.out hmem
      have hpk := peek_is (S.out.below hbwr) (es.getD j (⟨#[]⟩, .node 0 [])).1
      rw [hlook] at hpk
      have HPK := Lib.hid hpk
      have hstr := ST.out.kept (Below.keptB hbwr HU.out)
      obtain ⟨⟨kb, ko, hkk⟩, htt, _, hsm⟩ := hstr
      obtain ⟨tb, to, vs, htm⟩ := htt.terms
      obtain ⟨rfl, hkb⟩ := hkk.ha (by omega)
      obtain ⟨rfl, htb⟩ := htm.ha (by omega)
      have q1 := hkk.hc j (by omega)
      rw [hkj] at q1
      have q2 := htm.hr j (by omega)
      have q3 := htm.hv j (by omega)
      have q4 := htm.hs j (by omega)
      have hrd : (es.map (·.2)).getD j default = (es.getD j (⟨#[]⟩, .node 0 [])).2 := by
        have : j < es.length := by omega
        simp [List.getD, this]
      rw [hrd] at q2 q4
      obtain ⟨va, vl, vc, hva⟩ := q4.slice
      rw [hva] at q3 q4
      have hkc := hkk.hcap
      have htc := htm.hcap
      have hkm2 : kc ≤ 9223372036854775807 := by have := hkk.hmax; unfold maxLen at this; omega
      have htm2 : tc ≤ 9223372036854775807 := by have := htm.hmax; unfold maxLen at this; omega
      have HQ4 := Lib.hid q4
      have HSM := Lib.hid (hsm _ hmem)
      have hrr := (hbel.block w.heap.size (Array.getElem?_eq_some_iff.1 HR2.out).1).trans HR2.out
      have HRR := Lib.hid hrr
      have HBWR := Lib.hid hbwr
      have HBEL := Lib.hid hbel
      have HPU := Lib.hid (show Under P wr.heap.size from HU.out.le hbwr.size)
      have hkbl : kb < wr.heap.size := HPU.out kb hkb
      have htbl : tb < wr.heap.size := HPU.out tb htb
      have hxgl : xg < wr.heap.size := Nat.lt_of_lt_of_le hg2 hb2r.size
      generalize es.getD j (⟨#[]⟩, .node 0 []) = p at *
      have hrb : w.heap.size < wr.heap.size := (Array.getElem?_eq_some_iff.1 hrr).1
      clear hpk hkk htm htt hsm hmem hlook hrr hbwr hbel hb2r hkj hrd q4 hva b0 b1 b2 b3 b4 b5
      go_wp2_with fail
      refine HPK.out.mono ?_
      rintro e w3 ⟨⟨v3, rfl, ha3, _⟩, hb3⟩
      simp only [Option.getD_some, Option.isSome_some] at ha3 ⊢
      obtain ⟨ya, yl, yc, rfl⟩ := ha3.slice
      have hal4 : Below w3.heap.size w3 (w3.alloc (.cells #[.int .i64 p.2.rule, .slice ya yl yc] 36)) := (Below.refl _ _).alloc (Nat.le_refl _) _
      have hb4 := Below.next hb3 hal4
      have r4 := heap_alloc_new w3 (.cells #[.int .i64 p.2.rule, .slice ya yl yc] 36)
      have hr4 := (hb4.block w.heap.size hrb).trans HRR.out
      have HA4 := Lib.hid (ha3.kept (Below.keptB hal4 fun x hx => hx.2))
      have HQ5 := Lib.hid (HQ4.out.kept (Below.keptB hb4 HPU.out))
      have d1 := (hb4.cell (p := ⟨xg, j, none⟩) hxgl).trans k1
      have d2 := (hb4.cell (p := ⟨kb, ko + j, none⟩) hkbl).trans q1
      have d3 := (hb4.cell (p := ⟨tb, to + j * 2, none⟩) htbl).trans q2
      have d4 := (hb4.cell (p := ⟨tb, to + j * 2 + 1, none⟩) htbl).trans q3
      have hws4 : (w3.alloc (.cells #[.int .i64 p.2.rule, .slice ya yl yc] 36)).heap.size = w3.heap.size + 1 := by simp
      have hb3s := hb3.size
      have hst : (p.1.toList == p.1.toList) = true := by simp
      have HB4 := Lib.hid hb4
      go_wp2_with fail
      generalize w3.alloc (.cells #[.int .i64 p.2.rule, .slice ya yl yc] 36) = w4 at *
      have e1 : w4.cell? ⟨w.heap.size, 1, none⟩ = some (.slice (some ⟨kb, ko, none⟩) kl kc) := (cell_of_row _ _ 1 _ _ _ hr4).trans rfl
      have e2 : w4.cell? ⟨w.heap.size, 2, none⟩ = some (.slice (some ⟨tb, to, none⟩) tl tc) := (cell_of_row _ _ 2 _ _ _ hr4).trans rfl
      have e3 : w4.cell? ⟨w3.heap.size, 0, none⟩ = some (.int .i64 p.2.rule) := (cell_of_row _ _ 0 _ _ _ r4).trans rfl
      have e4 : w4.cell? ⟨w3.heap.size, 1, none⟩ = some (.slice ya yl yc) := (cell_of_row _ _ 1 _ _ _ r4).trans rfl
      have HSME := Lib.hid (same_eq p.2 (.slice ya yl yc) (.slice va vl vc) (Span wr.heap.size w3.heap.size) P w4.drew HSM.out (fun x hx => by show x < w4.heap.size; have := hx.2; omega) (fun x hx => by show x < w4.heap.size; have := HPU.out x hx; omega) (HA4.out.kept fun _ _ => rfl) (HQ5.out.kept fun _ _ => rfl))
      clear hal4 hb4 hr4 r4 ha3 hb3 k1 q1 q2 q3
      have hjt : j < tl := by omega
      have hz4 : w3.heap.size < w4.heap.size := by omega
      have hz5 : w.heap.size < w4.heap.size := by omega
      have hz6 : xg < w4.heap.size := by omega
      have hz7 : kb < w4.heap.size := by omega
      have hz8 : tb < w4.heap.size := by omega
      go_region_held3 (fun w' => w'.cell? ⟨xg, j, none⟩ = some (.string p.1) ∧ w'.cell? ⟨kb, ko + j, none⟩ = some (.string p.1) ∧ w'.cell? ⟨tb, to + j * 2, none⟩ = some (.int .i64 p.2.rule) ∧ w'.cell? ⟨tb, to + j * 2 + 1, none⟩ = some (.slice va vl vc) ∧ w'.cell? ⟨w.heap.size, 1, none⟩ = some (.slice (some ⟨kb, ko, none⟩) kl kc) ∧ w'.cell? ⟨w.heap.size, 2, none⟩ = some (.slice (some ⟨tb, to, none⟩) tl tc) ∧ w'.cell? ⟨w3.heap.size, 0, none⟩ = some (.int .i64 p.2.rule) ∧ w'.cell? ⟨w3.heap.size, 1, none⟩ = some (.slice ya yl yc))
        (first | exact ⟨d1, d2, d3, d4, e1, e2, e3, e4⟩ | exact ⟨f1, f2, f3, f4, f5, f6, f7, f8⟩)
        (first | (go_at_call 16; refine HSME.out.mono ?_; rintro e w5 ⟨rfl, hb5⟩; have f1 := (hb5.cell (p := ⟨xg, j, none⟩) hz6).trans d1; have f2 := (hb5.cell (p := ⟨kb, ko + j, none⟩) hz7).trans d2; have f3 := (hb5.cell (p := ⟨tb, to + j * 2, none⟩) hz8).trans d3; have f4 := (hb5.cell (p := ⟨tb, to + j * 2 + 1, none⟩) hz8).trans d4; have f5 := (hb5.cell (p := ⟨w.heap.size, 1, none⟩) hz5).trans e1; have f6 := (hb5.cell (p := ⟨w.heap.size, 2, none⟩) hz5).trans e2; have f7 := (hb5.cell (p := ⟨w3.heap.size, 0, none⟩) hz4).trans e3; have f8 := (hb5.cell (p := ⟨w3.heap.size, 1, none⟩) hz4).trans e4))
      have hb5' : Below w4.heap.size w4 w5 := Below.next (Below.refl _ _).drew hb5
      have HF := Lib.hid (Below.next HBEL.out (Below.next HB4.out hb5'))
      clear hb5 hb5' f1 f2 f3 f4 f5 f6 f7 f8 e1 e2 e3 e4 d1 d2 d3 d4
      go_wp2
      go_roundw
      case rel => exact ⟨j + 1, by omega, by go_num, HF.out⟩
      case measure => simp [intOf]; omega
    · have hkl : ¬ (j : Int) < kl := by omega
      have HF := Lib.hid hbwr
      clear hbel hb2r hbwr
      go_wp2
      go_ret
      exact ⟨rfl, HF.out⟩
end Go.Proofs.Ytdljffplooplcaa
