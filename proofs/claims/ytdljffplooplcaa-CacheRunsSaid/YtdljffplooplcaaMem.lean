/- CacheMemory. -/
import Derived.Test.YtdljffplooplcaaAwake
import Derived.Test.YtdljffplooplcaaOpen
import Derived.Test.YtdljffplooplcaaClone
import Derived.Test.YtdljffplooplcaaCmp
namespace Go.Proofs.Ytdljffplooplcaa
open Go.RowKit
set_option linter.unusedVariables false

theorem mm1 (k : ByteArray) (t : T) : putE 1 k t [] = [(k, t)] ∧ fullE 1 k [] = false := ⟨by simp [putE, lookE], by simp [fullE, lookE]⟩
theorem mm2 (k : ByteArray) (t : T) : lookE k [(k, t)] = some t ∧ getE k [(k, t)] = [(k, t)] := ⟨by simp [lookE], by simp [getE, lookE, outE]⟩

theorem ArgsAt.head {w : World} {P : Nat → Prop} {a : Option Addr} {l c : Nat} {ts : List T} (h : ArgsAt w P (.slice a l c) ts) (hl : 0 < l) :
    ∃ b off, a = some ⟨b, off, none⟩ ∧ P b ∧ w.cell? ⟨b, off, none⟩ = some (.int .i64 (ts.getD 0 default).rule) ∧ l ≤ c ∧ c ≤ maxLen := by
  cases h with
  | mk _ _ _ _ b off vs hlen hcap hmax ha hr hv hs =>
    refine ⟨b, off, (ha hl).1, (ha hl).2, ?_, hcap, hmax⟩
    have := hr 0 hl
    simpa using this
theorem ArgsAt.len {w : World} {P : Nat → Prop} {a : Option Addr} {l c : Nat} {ts : List T} (h : ArgsAt w P (.slice a l c) ts) : ts.length = l := by
  cases h with
  | mk _ _ _ _ b off vs hlen hcap hmax ha hr hv hs => exact hlen

set_option maxHeartbeats 4000000 in
theorem mem_walk (k : ByteArray) (t : T) (v : Value) (w : World) (hA : ArgsAt w (Here w) v t.args) :
    Calls Try.prog 7 #[.string k, .agg #[.int .i64 t.rule, v]] w fun e w' => e = .returned (.bool true) ∧ Below w.heap.size w w' := by
  obtain ⟨av, lv, qv, rfl⟩ := hA.slice
  have hbox : Below w.heap.size w (w.alloc (.cells #[.int .i64 t.rule, .slice av lv qv] 36)) := (Below.refl _ _).alloc (Nat.le_refl _) _
  have HW := Lib.hid (within_any t (.slice av lv qv) 20 (Here w) (w.alloc (.cells #[.int .i64 t.rule, .slice av lv qv] 36)) (by decide) (by decide) ((Here.under w).le hbox.size) (hA.kept (Below.keptB hbox (Here.under w))))
  have HBX := Lib.hid hbox
  have hrow := heap_alloc_new w (.cells #[.int .i64 t.rule, .slice av lv qv] 36)
  have b0 : (w.alloc (.cells #[.int .i64 t.rule, .slice av lv qv] 36)).cell? ⟨w.heap.size, 0, none⟩ = some (.int .i64 t.rule) := (cell_of_row _ _ 0 _ _ _ hrow).trans rfl
  have b1 : (w.alloc (.cells #[.int .i64 t.rule, .slice av lv qv] 36)).cell? ⟨w.heap.size, 1, none⟩ = some (.slice av lv qv) := (cell_of_row _ _ 1 _ _ _ hrow).trans rfl
  have HROW := Lib.hid hrow
  have HA := Lib.hid hA
  have hlen := hA.len
  clear hbox hrow hA
  by_cases hk : (60 : Int) < k.size
  · clear hlen
    go_enter Try.func7, Try.ntmps7
    go_wp2_with fail
    refine (awake_any _).mono ?_
    rintro e w2 ⟨rfl, hb2⟩
    go_wp2
    go_ret
    exact ⟨rfl, Below.next HBX.out hb2⟩
  · by_cases hs : (tsize t : Int) ≤ 20
    · have hs' : decide ((tsize t : Int) ≤ 20) = true := by simp [hs]
      rw [hs'] at HW
      by_cases hl0 : lv = 0
      · subst hl0
        clear hlen
        go_enter Try.func7, Try.ntmps7
        go_wp2_with fail
        refine HW.out.mono ?_
        rintro e w1 ⟨rfl, hb1⟩
        have b1' := ((hb1.block w.heap.size (by simp)).trans HROW.out)
        have c1 : w1.cell? ⟨w.heap.size, 1, none⟩ = some (.slice av 0 qv) := (cell_of_row _ _ 1 _ _ _ b1').trans rfl
        have HB1 := Lib.hid hb1
        clear hb1 b1' b0 b1 hs'
        go_wp2_with fail
        refine (awake_any _).mono ?_
        rintro e w2 ⟨rfl, hb2⟩
        go_wp2
        go_ret
        exact ⟨rfl, Below.next HBX.out (Below.next HB1.out hb2)⟩
      · have hlp : 0 < lv := by omega
        have hlne : ¬ ((lv : Int) = 0) := by omega
        go_enter Try.func7, Try.ntmps7
        go_wp2_with fail
        refine HW.out.mono ?_
        rintro e w1 ⟨rfl, hb1⟩
        have hr1 := ((hb1.block w.heap.size (by simp)).trans HROW.out)
        have c1 : w1.cell? ⟨w.heap.size, 1, none⟩ = some (.slice av lv qv) := (cell_of_row _ _ 1 _ _ _ hr1).trans rfl
        have hbw1 := Below.next HBX.out hb1
        have HT := Lib.hid (show tsize t ≤ 1000 by omega)
        have HNEW := Lib.hid (new_is (cap := 1) (by decide) (by decide) w1)
        have HBW1 := Lib.hid hbw1
        have HR1 := Lib.hid hr1
        clear hb1 hr1 hbw1 b0 b1 hs' hlen hs hl0
        go_wp2_with fail
        refine HNEW.out.mono ?_
        rintro e w2 ⟨c, rfl, hc, s2, hb2⟩
        obtain ⟨F2, s2, hF2⟩ := s2.name
        have hbw2 := Below.next HBW1.out hb2
        have hr2 := ((hb2.block w.heap.size (Array.getElem?_eq_some_iff.1 HR1.out).1).trans HR1.out)
        have d0 : w2.cell? ⟨w.heap.size, 0, none⟩ = some (.int .i64 t.rule) := (cell_of_row _ _ 0 _ _ _ hr2).trans rfl
        have d1 : w2.cell? ⟨w.heap.size, 1, none⟩ = some (.slice av lv qv) := (cell_of_row _ _ 1 _ _ _ hr2).trans rfl
        have HCL := Lib.hid (clone_anyF _ t (.slice av lv qv) (Here w) w2 (Nat.le_refl _) HT.out ((Here.under w).le hbw2.size) (HA.out.kept (Below.keptB hbw2 (Here.under w))))
        have S2 := Lib.hid s2
        have HF2 := Lib.hid hF2
        have HBW2 := Lib.hid hbw2
        have HB2 := Lib.hid hb2
        have HR2 := Lib.hid hr2
        clear s2 hF2 hbw2 hb2 hr2 c1
        go_wp2_with fail
        refine HCL.out.mono ?_
        rintro e w3 ⟨v3, rfl, ha3, hb3, hth3⟩
        obtain ⟨a3, l3, q3, rfl⟩ := ha3.slice
        obtain rfl : l3 = lv := ha3.len.symm.trans HA.out.len
        obtain ⟨b3, o3, rfl, hsp3, hcell3, hlc3, hcm3⟩ := ha3.head hlp
        obtain ⟨hlo3, cs3, ty3, hblk3⟩ := hth3 _ _ _ _ _ rfl
        have hal3 : Below w3.heap.size w3 (w3.alloc (.cells #[.int .i64 t.rule, .slice (some ⟨b3, o3, none⟩) l3 q3] 36)) := (Below.refl _ _).alloc (Nat.le_refl _) _
        have hrow7 := heap_alloc_new w3 (.cells #[.int .i64 t.rule, .slice (some ⟨b3, o3, none⟩) l3 q3] 36)
        have hU2 := S2.out.under
        have hsz23 := hb3.size
        have HP := Lib.hid (put_is ((S2.out.below hb3).below hal3) k t (.slice (some ⟨b3, o3, none⟩) l3 q3) (Span w2.heap.size w3.heap.size) (ha3.kept (Below.keptB hal3 (fun x hx => hx.2))) (fun x hx => ⟨by have := hx.2; simp; omega, fun e => by have := hU2 x e; have := hx.1; omega⟩) HT.out ⟨by decide, by decide⟩)
        have HBW3 := Lib.hid (Below.next HBW2.out (Below.next hb3 hal3))
        have HR3 := Lib.hid ((hal3.block w.heap.size (by have := (Array.getElem?_eq_some_iff.1 HR2.out).1; omega)).trans ((hb3.block w.heap.size (Array.getElem?_eq_some_iff.1 HR2.out).1).trans HR2.out))
        have HROW7 := Lib.hid hrow7
        have HC3 := Lib.hid ((hal3.cell (p := ⟨b3, o3, none⟩) hsp3.2).trans hcell3)
        have HBL3 := Lib.hid ((hal3.block b3 hsp3.2).trans hblk3)
        have HSP3 := Lib.hid hsp3
        have hws3 : (w3.alloc (.cells #[.int .i64 t.rule, .slice (some ⟨b3, o3, none⟩) l3 q3] 36)).heap.size = w3.heap.size + 1 := by simp
        have HWS3 := Lib.hid hws3
        clear ha3 hb3 hth3 hsp3 hcell3 hblk3 hal3 hrow7 hU2 hlo3 hws3 hsz23 d0 d1
        go_wp2_with fail
        refine HP.out.mono ?_
        generalize w3.alloc (.cells #[.int .i64 t.rule, .slice (some ⟨b3, o3, none⟩) l3 q3] 36) = W3 at *
        rintro e w4 ⟨rfl, s4, hn4⟩
        rw [(mm1 k t).1, (mm1 k t).2] at s4
        obtain ⟨F4, s4, hF4⟩ := s4.name
        have hF2lo : ∀ x, F2 x → w.heap.size ≤ x := fun x hx => by have := HF2.out x hx; have := this.1; have := HBW1.out.size; omega
        have hnF2 : ¬ F2 b3 := fun e => by have := S2.out.under b3 e; have := HSP3.out.1; omega
        have hbw4 := Below.stepN HBW3.out hn4 hF2lo
        have hws := HWS3.out
        have hr7 := (hn4.block w3.heap.size (by omega) fun e => by have := S2.out.under _ e; have := HSP3.out.1; have := HSP3.out.2; omega).trans HROW7.out
        have hb3lt := (Array.getElem?_eq_some_iff.1 HBL3.out).1
        have hblk4 := (hn4.block b3 hb3lt hnF2).trans HBL3.out
        have hcell4 : w4.cell? ⟨b3, o3, none⟩ = some (.int .i64 (t.args.getD 0 default).rule) := (World.cell?_of_block (w := W3) (hn4.block b3 hb3lt hnF2)).trans HC3.out
        have e71 : w4.cell? ⟨w3.heap.size, 1, none⟩ = some (.slice (some ⟨b3, o3, none⟩) l3 q3) := (cell_of_row _ _ 1 _ _ _ hr7).trans rfl
        have fr3 := frozen_of_row w4 b3 o3 _ _ hblk4
        have hnF4 : ¬ F4 b3 := fun e => by
          rcases hF4 b3 e with e | e
          · exact hnF2 e
          · have := e.1; have := HSP3.out.2; omega
        have hF4lo : ∀ x, F4 x → w.heap.size ≤ x := fun x hx => by
          rcases hF4 x hx with e | e
          · exact hF2lo x e
          · have := e.1; have := HBW3.out.size; omega
        have hws1 : w.heap.size < w1.heap.size := (Array.getElem?_eq_some_iff.1 HR1.out).1
        have hr4 := (hn4.block w.heap.size (by have := HBW3.out.size; have := (Array.getElem?_eq_some_iff.1 HR3.out).1; omega) fun e => by have := (HF2.out _ e).1; omega).trans HR3.out
        have HR4 := Lib.hid hr4
        have hwb3 : w.heap.size < b3 := by have := HSP3.out.1; have := HB2.out.size; omega
        have HWB3 := Lib.hid hwb3
        have hF4w : ¬ F4 w.heap.size := fun e => by
          rcases hF4 _ e with e | e
          · have := (HF2.out _ e).1; omega
          · have := e.1; have := (Array.getElem?_eq_some_iff.1 HR3.out).1; omega
        have HF4W := Lib.hid hF4w
        have hwlo : w.heap.size ≤ b3 := by have := HSP3.out.1; have := HBW2.out.size; omega
        have S4 := Lib.hid s4
        have HBW4 := Lib.hid hbw4
        have HNF4 := Lib.hid hnF4
        have HF4LO := Lib.hid hF4lo
        have HWLO := Lib.hid hwlo
        clear s4 hF4 hF2lo hnF2 hbw4 hws hr7 hb3lt hblk4 hnF4 hF4lo hwlo hn4 hr4 hwb3 hws1 hF4w
        generalize hrule0 : (t.args.getD 0 default).rule = r0 at *
        clear hrule0
        have hmx : q3 ≤ 9223372036854775807 := by unfold maxLen at hcm3; omega
        go_wp2_with fail
        go_region
        generalize hW5 : (w4.setCell ⟨b3, o3, none⟩ _).drew = W5
        have hn5 : Only (fun x => x = b3) w4 W5 := hW5 ▸ ((Only.refl (fun x => x = b3) w4).setCell (b := b3) rfl _ _).drew
        clear hW5 hcell4 e71 fr3
        have s5 := S4.out.near hn5.near (fun x hx hF => HNF4.out (hx ▸ hF))
        have hbw5 := Below.stepN HBW4.out hn5.near (fun x hx => hx ▸ HWLO.out)
        have hr5 := (hn5.block w.heap.size (fun e => by have := HWB3.out; omega)).trans HR4.out
        have HPK := Lib.hid (peek_is s5 k)
        have S5 := Lib.hid s5
        have HBW5 := Lib.hid hbw5
        have HR5 := Lib.hid hr5
        clear s5 hbw5 hr5 hn5
        go_wp2_with fail
        refine HPK.out.mono ?_
        rintro e w6 ⟨⟨v6, rfl, ha6, hth6⟩, hb6⟩
        rw [(mm2 k t).1] at ha6 ⊢
        simp only [Option.getD_some, Option.isSome_some] at ha6 ⊢
        obtain ⟨a6, l6, q6, rfl⟩ := ha6.slice
        obtain rfl : l6 = l3 := ha6.len.symm.trans HA.out.len
        obtain ⟨b6, o6, rfl, hsp6, hcell6, hlc6, hcm6⟩ := ha6.head hlp
        obtain ⟨hlo6, cs6, ty6, hblk6⟩ := hth6 _ _ _ _ _ rfl
        have hal6 : Below w6.heap.size w6 (w6.alloc (.cells #[.int .i64 t.rule, .slice (some ⟨b6, o6, none⟩) l6 q6] 36)) := (Below.refl _ _).alloc (Nat.le_refl _) _
        have hrow8 := heap_alloc_new w6 (.cells #[.int .i64 t.rule, .slice (some ⟨b6, o6, none⟩) l6 q6] 36)
        have hb56 := Below.next hb6 hal6
        have hr6 := (hb56.block w.heap.size (Array.getElem?_eq_some_iff.1 HR5.out).1).trans HR5.out
        have e60 : (w6.alloc (.cells #[.int .i64 t.rule, .slice (some ⟨b6, o6, none⟩) l6 q6] 36)).cell? ⟨w.heap.size, 0, none⟩ = some (.int .i64 t.rule) := (cell_of_row _ _ 0 _ _ _ hr6).trans rfl
        have e61 : (w6.alloc (.cells #[.int .i64 t.rule, .slice (some ⟨b6, o6, none⟩) l6 q6] 36)).cell? ⟨w.heap.size, 1, none⟩ = some (.slice av l6 qv) := (cell_of_row _ _ 1 _ _ _ hr6).trans rfl
        have hws6 : (w6.alloc (.cells #[.int .i64 t.rule, .slice (some ⟨b6, o6, none⟩) l6 q6] 36)).heap.size = w6.heap.size + 1 := by simp
        have hbw6 := Below.next HBW5.out hb56
        have HSM := Lib.hid (same_eq t (.slice (some ⟨b6, o6, none⟩) l6 q6) (.slice av l6 qv) (Span W5.heap.size w6.heap.size) (Here w) (w6.alloc (.cells #[.int .i64 t.rule, .slice (some ⟨b6, o6, none⟩) l6 q6] 36)) HT.out
          (fun x hx => by rw [hws6]; have := hx.2; omega) ((Here.under w).le hbw6.size) (ha6.kept (Below.keptB hal6 fun x hx => hx.2)) (HA.out.kept (Below.keptB hbw6 (Here.under w))))
        have HC6 := Lib.hid ((hal6.cell (p := ⟨b6, o6, none⟩) hsp6.2).trans hcell6)
        have HBL6 := Lib.hid ((hal6.block b6 hsp6.2).trans hblk6)
        have HROW8 := Lib.hid hrow8
        have HR6 := Lib.hid hr6
        have HB56 := Lib.hid hb56
        have HBW6 := Lib.hid hbw6
        have HSP6 := Lib.hid hsp6
        have HWS6 := Lib.hid hws6
        clear ha6 hth6 hb6 hsp6 hcell6 hlo6 hblk6 hal6 hrow8 hb56 hr6 hbw6 hws6
        go_wp2_with fail
        refine HSM.out.mono ?_
        generalize w6.alloc (.cells #[.int .i64 t.rule, .slice (some ⟨b6, o6, none⟩) l6 q6] 36) = W6 at *
        rintro e w7 ⟨rfl, hb7⟩
        have hr8 := (hb7.block w6.heap.size (by rw [HWS6.out]; omega)).trans HROW8.out
        have e81 : w7.cell? ⟨w6.heap.size, 1, none⟩ = some (.slice (some ⟨b6, o6, none⟩) l6 q6) := (cell_of_row _ _ 1 _ _ _ hr8).trans rfl
        have hb6lt := (Array.getElem?_eq_some_iff.1 HBL6.out).1
        have hblk7 := (hb7.block b6 hb6lt).trans HBL6.out
        have hcell7 : w7.cell? ⟨b6, o6, none⟩ = some (.int .i64 (t.args.getD 0 default).rule) := (World.cell?_of_block (w := W6) (hb7.block b6 hb6lt)).trans HC6.out
        have fr6 := frozen_of_row w7 b6 o6 _ _ hblk7
        have hmx6 : q6 ≤ 9223372036854775807 := by unfold maxLen at hcm6; omega
        have HB7 := Lib.hid hb7
        clear hb7 hr8 hb6lt hblk7 e60 e61
        generalize hrule1 : (t.args.getD 0 default).rule = r1 at *
        clear hrule1
        go_wp2_with fail
        go_region
        generalize hW8 : (w7.setCell ⟨b6, o6, none⟩ _).drew = W8
        have hn8 : Only (fun x => x = b6) w7 W8 := hW8 ▸ ((Only.refl (fun x => x = b6) w7).setCell (b := b6) rfl _ _).drew
        clear hW8 hcell7 e81 fr6
        have s8 := ((S5.out.below HB56.out).below HB7.out).near hn8.near (fun x hx hF => by have := S5.out.under x hF; have := HSP6.out.1; omega)
        have hbw8 := Below.stepN (Below.next HBW6.out HB7.out) hn8.near (fun x hx => by have := HSP6.out.1; have := HBW5.out.size; omega)
        have hwlt := (Array.getElem?_eq_some_iff.1 HR6.out).1
        have hr8 := (hn8.block w.heap.size (fun e => by have := HSP6.out.1; have := (Array.getElem?_eq_some_iff.1 HR5.out).1; omega)).trans ((HB7.out.block w.heap.size hwlt).trans HR6.out)
        have HG := Lib.hid (get_is s8 k ⟨by decide, by decide⟩ ⟨by decide, by decide⟩)
        have S8 := Lib.hid s8
        have HBW8 := Lib.hid hbw8
        have HR8 := Lib.hid hr8
        clear s8 hbw8 hr8 hn8 hwlt
        go_wp2_with fail
        refine HG.out.mono ?_
        rintro e w9 ⟨⟨v9, rfl, ha9, hth9⟩, s9, hn9⟩
        clear s9
        rw [(mm2 k t).1] at ha9 ⊢
        simp only [Option.getD_some, Option.isSome_some] at ha9 ⊢
        obtain ⟨a9, l9, q9, rfl⟩ := ha9.slice
        have hal9 : Below w9.heap.size w9 (w9.alloc (.cells #[.int .i64 t.rule, .slice a9 l9 q9] 36)) := (Below.refl _ _).alloc (Nat.le_refl _) _
        have hbw9 := Below.next (Below.stepN HBW8.out hn9 HF4LO.out) hal9
        have hr9 := (hal9.block w.heap.size (by have := hn9.size; have := (Array.getElem?_eq_some_iff.1 HR8.out).1; omega)).trans ((hn9.block w.heap.size (Array.getElem?_eq_some_iff.1 HR8.out).1 HF4W.out).trans HR8.out)
        have e90 : (w9.alloc (.cells #[.int .i64 t.rule, .slice a9 l9 q9] 36)).cell? ⟨w.heap.size, 0, none⟩ = some (.int .i64 t.rule) := (cell_of_row _ _ 0 _ _ _ hr9).trans rfl
        have e91 : (w9.alloc (.cells #[.int .i64 t.rule, .slice a9 l9 q9] 36)).cell? ⟨w.heap.size, 1, none⟩ = some (.slice av l6 qv) := (cell_of_row _ _ 1 _ _ _ hr9).trans rfl
        have HSM9 := Lib.hid (same_eq t (.slice a9 l9 q9) (.slice av l6 qv) (Span W8.heap.size w9.heap.size) (Here w) (w9.alloc (.cells #[.int .i64 t.rule, .slice a9 l9 q9] 36)) HT.out
          (fun x hx => by simp; have := hx.2; omega) ((Here.under w).le hbw9.size) (ha9.kept (Below.keptB hal9 fun x hx => hx.2)) (HA.out.kept (Below.keptB hbw9 (Here.under w))))
        have HBW9 := Lib.hid hbw9
        clear ha9 hth9 hn9 hal9 hbw9 hr9
        go_wp2_with fail
        refine HSM9.out.mono ?_
        rintro e w10 ⟨rfl, hb10⟩
        have HB10 := Lib.hid hb10
        clear hb10 e90 e91
        go_wp2_with fail
        refine (awake_any _).mono ?_
        rintro e w11 ⟨rfl, hb11⟩
        go_wp2
        go_ret
        exact ⟨rfl, Below.next HBW9.out (Below.next HB10.out hb11)⟩
    · have hs' : decide ((tsize t : Int) ≤ 20) = false := by simp [hs]
      rw [hs'] at HW
      clear hlen
      go_enter Try.func7, Try.ntmps7
      go_wp2_with fail
      refine HW.out.mono ?_
      rintro e w1 ⟨rfl, hb1⟩
      go_wp2_with fail
      refine (awake_any _).mono ?_
      rintro e w2 ⟨rfl, hb2⟩
      go_wp2
      go_ret
      exact ⟨rfl, Below.next HBX.out (Below.next hb1 hb2)⟩
end Go.Proofs.Ytdljffplooplcaa
