/- Put of a key that is not there, where the cache is full. -/
import Derived.Test.YtdljffplooplcaaPut
namespace Go.Proofs.Ytdljffplooplcaa
open Go.RowKit
set_option linter.unusedVariables false

set_option maxHeartbeats 1600000 in
theorem put_full {w : World} {c mb q : Nat} {cap h m r : Int} {val : Nat → Ent} {zs : List Nat} {mm : List (ByteArray × Value)} {tm : Nat → T} {P : Nat → Prop}
    (s : StoreAt w c mb cap h m r val (zs ++ [q]) mm tm P) (k : ByteArray) (hk : (zs ++ [q]).find? (fun n => decide ((val n).key = k)) = none) (hlen : ((zs ++ [q]).length : Int) = cap) (t : T) (v : Value) (R : Nat → Prop) (hv : ArgsAt w R v t.args) (hR : ∀ x, R x → x < w.heap.size ∧ x ≠ c ∧ x ≠ mb ∧ x ∉ zs ++ [q]) (hr0 : 0 ≤ r) (hr1 : r ≤ 1000) (ht : tsize t ≤ 1000) :
    Calls Try.prog 12 #[.pointer (some ⟨c, 0, none⟩), .string k, .agg #[.int .i64 t.rule, v]] w (PutNew c mb cap h m (r + 1) val zs (Mp.del (val q).key mm) tm P k t (fun b => b = c ∨ b = mb ∨ b ∈ zs ++ [q]) w) := by
  obtain ⟨av, lv, qv, rfl⟩ := hv.slice
  have hs : ∀ o, StoreAt (w.alloc o) c mb cap h m r val (zs ++ [q]) mm tm P := fun o => s.below ((Below.refl _ _).alloc (Nat.le_refl _) o)
  have s1 := hs (.cells #[.int .i64 t.rule, .slice av lv qv] 36)
  have HM := Lib.hid (made_yes s1.ring.cache (by have := s.pos; omega))
  have hl := look55 s1.map k
  rw [s.get k, hk] at hl
  have c0 : (w.alloc (.cells #[.int .i64 t.rule, .slice av lv qv] 36)).cell? ⟨c, 0, none⟩ = some (.int .i64 cap) := (cell_of_row _ c 0 _ _ _ s1.ring.cache).trans rfl
  have c1 : (w.alloc (.cells #[.int .i64 t.rule, .slice av lv qv] 36)).cell? ⟨c, 1, none⟩ = some (.map (some mb)) := (cell_of_row _ c 1 _ _ _ s1.ring.cache).trans rfl
  simp only [Option.map_none, Option.getD_none, Option.isSome_none] at hl
  have hrow : (w.alloc (.cells #[.int .i64 t.rule, .slice av lv qv] 36)).heap[w.heap.size]? = some (.cells #[.int .i64 t.rule, .slice av lv qv] 36 (0, 0)) := heap_alloc_new _ _
  have b0 : (w.alloc (.cells #[.int .i64 t.rule, .slice av lv qv] 36)).cell? ⟨w.heap.size, 0, none⟩ = some (.int .i64 t.rule) := (cell_of_row _ _ 0 _ _ _ hrow).trans rfl
  have b1 : (w.alloc (.cells #[.int .i64 t.rule, .slice av lv qv] 36)).cell? ⟨w.heap.size, 1, none⟩ = some (.slice av lv qv) := (cell_of_row _ _ 1 _ _ _ hrow).trans rfl
  have hsz : (w.alloc (.cells #[.int .i64 t.rule, .slice av lv qv] 36)).heap.size = w.heap.size + 1 := by simp
  have HROW := Lib.hid hrow
  have HSZ := Lib.hid hsz
  have hbw : Below w.heap.size w (w.alloc (.cells #[.int .i64 t.rule, .slice av lv qv] 36)) := (Below.refl _ _).alloc (Nat.le_refl _) _
  have HBW := Lib.hid hbw
  have HV := Lib.hid (show ArgsAt (w.alloc (.cells #[.int .i64 t.rule, .slice av lv qv] 36)) R (.slice av lv qv) t.args from hv.kept (Below.keptB hbw fun x hx => (hR x hx).1))
  have HR := Lib.hid hR
  have hl8 : ∀ n, (Builtin.len_ #[55] 3 #[.map (some mb)]).run Try.prog ((w.alloc (.cells #[.int .i64 t.rule, .slice av lv qv] 36)).drewN n) = .ok (.int .i64 mm.length) ((w.alloc (.cells #[.int .i64 t.rule, .slice av lv qv] 36)).drewN n) := fun n => run_len55 (w := (w.alloc (.cells #[.int .i64 t.rule, .slice av lv qv] 36)).drewN n) s1.map 3
  have hmn : mm.length = (zs ++ [q]).length := s.len
  have hne : (mm.length : Int) = cap := by rw [hmn]; exact hlen
  have S := Lib.hid s
  have S1 := Lib.hid s1
  have HK := Lib.hid hk
  unfold PutNew
  clear hs s1 s hrow hsz hbw hk hv hR hmn hlen
  go_enter Try.func12, Try.ntmps12
  go_wp2_with fail
  refine HM.out.mono ?_
  rintro e w' ⟨rfl, rfl⟩
  generalize w.alloc (.cells #[.int .i64 t.rule, .slice av lv qv] 36) = w1 at *
  go_wp2_with fail
  go_quiet (fail)
  have hbd : Below w1.heap.size w1 (w1.drewN nq) := below_drewN (Below.refl _ _) nq
  have hsd : (w1.drewN nq).heap.size = w1.heap.size := rfl
  have sd := S1.out.below hbd
  have HLAST := Lib.hid (last_any sd.ring)
  have HREM := Lib.hid (remove_in sd.ring)
  have hrowd := (hbd.block w.heap.size (by rw [HSZ.out]; omega)).trans HROW.out
  have HROWD := Lib.hid hrowd
  have SD := Lib.hid sd
  have HBD := Lib.hid hbd
  have HSD := Lib.hid hsd
  clear hbd hsd hl8 c1 c0 hl b0 b1 sd hrowd
  generalize w1.drewN nq = w2 at *
  go_wp2_with fail
  refine HLAST.out.mono ?_
  rintro e w2' ⟨rfl, rfl⟩
  rw [lastO_append]
  simp only [lastO, ptr]
  go_wp2_with fail
  refine HREM.out.mono ?_
  rintro e w3 ⟨rfl, hr3, hq3, ho3⟩
  rw [List.append_nil] at hr3
  have c13 : w3.cell? ⟨c, 1, none⟩ = some (.map (some mb)) := (cell_of_row _ c 1 _ _ _ hr3.cache).trans rfl
  have q03 : w3.cell? ⟨q, 0, none⟩ = some (.string (val q).key) := (cell_of_row _ q 0 _ _ _ hq3).trans rfl
  have hm3 := SD.out.map.block (ho3.block mb (by have := SD.out.mbc; rintro (d | d); exact this.1 d; exact this.2 d))
  have HR3 := Lib.hid hr3
  have HO3 := Lib.hid ho3
  have HM3 := Lib.hid hm3
  clear hr3 ho3 hq3 hm3
  go_wp2_with fail
  go_region_law (refine step_del rfl _ _ rfl mb mm (val q).key rfl (by first | exact HM3.out | exact HM3.out) rfl ?_; intro vd w4 hm4 hg4 hs4)
  all_goals (
    have ho4 : Only (fun b => b = mb) w3 w4 := by
      have o := Only.of_grown hg4 hs4
      exact ⟨o.os, o.tape, o.output, o.size, o.block⟩
    have s4 := SD.out.dropped HR3.out HO3.out hm4 ho4
    have hpre := S.out.pre
    have hcw := hpre c (.inl rfl)
    have hmw := hpre mb (.inr (.inl rfl))
    have hnw : ∀ x, x ∈ zs ++ [q] → x < w.heap.size := fun x hx => hpre x (.inr (.inr (.inl hx)))
    have hs14 : w4.heap.size = w.heap.size + 1 := by rw [ho4.size, HO3.out.size, HSD.out, HSZ.out]
    have hrow4 : w4.heap[w.heap.size]? = some (.cells #[.int .i64 t.rule, .slice av lv qv] 36 (0, 0)) := by
      refine (ho4.block _ (by omega)).trans ((HO3.out.block _ ?_).trans HROWD.out)
      rintro (d | d)
      · omega
      · have := hnw _ d; omega
    have b04 : w4.cell? ⟨w.heap.size, 0, none⟩ = some (.int .i64 t.rule) := (cell_of_row _ _ 0 _ _ _ hrow4).trans rfl
    have b14 : w4.cell? ⟨w.heap.size, 1, none⟩ = some (.slice av lv qv) := (cell_of_row _ _ 1 _ _ _ hrow4).trans rfl
    have c64 : w4.cell? ⟨c, 6, none⟩ = some (.int .i64 r) := (cell_of_row _ c 6 _ _ _ s4.ring.cache).trans rfl
    have f64 := frozen_of_row w4 c 6 _ _ s4.ring.cache
    have hcne : ¬ (w.heap.size = c) := by omega
    have hcne2 : ¬ (c = w.heap.size) := by omega
    have hk4 : Near (fun b => b = c ∨ b = mb ∨ b ∈ zs ++ [q]) w1 (w4.setCell ⟨c, 6, none⟩ (.int .i64 (r + 1))) :=
      (((Below.near HBD.out).trans' HO3.out.near fun x _ d => by rcases d with d | d; exact .inl d; exact .inr (.inr d)).trans' ho4.near fun x _ d => .inr (.inl d)).trans'
        ((Only.refl (fun b => b = c) w4).setCell (b := c) rfl 6 (.int .i64 (r + 1))).near fun x _ d => .inl d
    have HCP := Lib.hid (copied_any _ t (.slice av lv qv) R (w4.setCell ⟨c, 6, none⟩ (.int .i64 (r + 1))) (Nat.le_refl _) ht (fun x hx => by rw [heap_setCell_size, hs14]; have := (HR.out x hx).1; omega)
      (HV.out.kept fun x hx => by
        have hh := HR.out x hx
        refine hk4.block x (by rw [HSZ.out]; omega) ?_
        rintro (d | d | d)
        · exact hh.2.1 d
        · exact hh.2.2.1 d
        · exact hh.2.2.2 d))
    have s5 := s4.counted (s4.ring.cache.removals (.int .i64 (r + 1)))
    have hs5 : (w4.setCell ⟨c, 6, none⟩ (.int .i64 (r + 1))).heap.size = w.heap.size + 1 := by rw [heap_setCell_size, hs14]
    have c15 : (w4.setCell ⟨c, 6, none⟩ (.int .i64 (r + 1))).cell? ⟨c, 1, none⟩ = some (.map (some mb)) := (cell_of_row _ c 1 _ _ _ s5.ring.cache).trans rfl
    have HS5 := Lib.hid hs5
    have S5 := Lib.hid s5
    have HK4 := Lib.hid hk4
    clear hs5 s5 hk4 hrow4 s4 ho4 hg4 hm4 hs4 hpre hcw hmw hnw hs14 c15
    go_wp2_with fail
    refine HCP.out.mono ?_
    rintro e w6 ⟨v', rfl, ha, hb⟩
    generalize w4.setCell ⟨c, 6, none⟩ (.int .i64 (r + 1)) = w5 at *
    obtain ⟨a3, l3, q3, rfl⟩ := ha.slice
    have hsz56 := hb.size
    have s6 := S5.out.below hb
    have hal : Below w6.heap.size w6 (w6.alloc (.cells #[.string k, .int .i64 t.rule, .slice a3 l3 q3, .pointer none, .pointer none] 67)) := (Below.refl _ _).alloc (Nat.le_refl _) _
    have hm7 := (s6.below hal).map
    have c16 : w6.cell? ⟨c, 1, none⟩ = some (.map (some mb)) := (cell_of_row _ c 1 _ _ _ s6.ring.cache).trans rfl
    have hcw6 : c < w6.heap.size := s6.pre c (.inl rfl)
    have S6 := Lib.hid s6
    have HA := Lib.hid ha
    have HB := Lib.hid hb
    clear ha hb hsz56 s6 hal b04 b14 c64 f64
    go_wp2_with (at_mapUpdate; refine Mp.wpList_upd (Mp.KeyLaw.string Try.underlying9) Try.underlying55 rfl (.tmp 79) (.tmp 80) (.tmp 81) rfl rfl hm7 k rfl ?_; intro w7 hm8 hg8)
    have hlaid := S6.out.laid hg8
    have HF := Lib.hid (front_new (n := w6.heap.size) hlaid.1 (by rw [updE_same]; exact hlaid.2.1) hlaid.2.2.1 hlaid.2.2.2.1)
    have HL := Lib.hid hlaid
    have HM8 := Lib.hid hm8
    clear hlaid hm8 hg8 hm7
    refine HF.out.mono ?_
    rintro e w8 ⟨rfl, hr8, ho8⟩
    have HR8 := Lib.hid hr8
    have HO8 := Lib.hid ho8
    clear hr8 ho8
    go_wp2
    go_ret
    have hpre := S6.out.pre
    have hpre5 := S5.out.pre
    have hb56 := HB.out.size
    have hsz5 := HS5.out
    have hNear8 : Near (fun b => b = c ∨ b = mb ∨ b ∈ zs) w6 w8 :=
      (HL.out.2.2.2.2.wide fun x _ hx => .inr (.inl hx)).trans' (HO8.out.near) fun x hx hd => by rcases hd with rfl | rfl | hd; exact .inl rfl; exact absurd hx (by omega); exact .inr (.inr hd)
    have hw8 := hNear8.size
    have hs8 : w7.heap.size = w8.heap.size := HO8.out.size.symm
    have hlt7 : w6.heap.size < w7.heap.size := (Array.getElem?_eq_some_iff.1 HL.out.2.1).1
    refine ⟨w6.heap.size, by omega, by omega, rfl, ⟨.slice a3 l3 q3, Span w5.heap.size w6.heap.size, ?_, ?_⟩, ?_⟩
    · have hkz : zs.find? (fun n => decide ((val n).key = k)) = none := find_no.2 fun n hn => find_no.1 HK.out n (by simp [hn])
      refine S6.out.added (Nat.le_refl _) hkz ?_ ht ?_ HR8.out ?_ hNear8
      · exact HA.out.kept fun x hx => hNear8.block x hx.2 fun d => by
          have h1 := hx.1
          rcases d with rfl | rfl | d
          · have := hpre5 x (.inl rfl); omega
          · have := hpre5 x (.inr (.inl rfl)); omega
          · have := hpre5 x (.inr (.inr (.inl d))); omega
      · intro x hx
        have h1 := hx.1
        have h2 := hx.2
        exact ⟨by omega, by omega, fun e => by have := hpre5 x (.inl e); omega, fun e => by have := hpre5 x (.inr (.inl e)); omega, fun e => by have := hpre5 x (.inr (.inr (.inl e))); omega⟩
      · rw [← Mp.upd_none (m := Mp.del (val q).key mm) (by rw [S6.out.get k, hkz]; rfl)]
        refine HM8.out.block (HO8.out.block mb ?_)
        have := S6.out.mbc
        have hm := hpre mb (.inr (.inl rfl))
        rintro (d | d | d)
        · exact this.1 d
        · omega
        · exact this.2 d
    · intro x hx
      have := hx.1
      omega
    · refine (Below.near HBW.out).trans (HK4.out.trans' ((Below.near (D := fun b => b = c ∨ b = mb ∨ b ∈ zs) HB.out).trans hNear8) fun x _ d => ?_)
      rcases d with d | d | d
      · exact .inl d
      · exact .inr (.inl d)
      · exact .inr (.inr (by simp [d])))
end Go.Proofs.Ytdljffplooplcaa
