/- Put of a key that is not there. -/
import Derived.Test.YtdljffplooplcaaAdd
import Derived.Deep.AppendLies
namespace Go.Proofs.Ytdljffplooplcaa
open Go.RowKit
set_option linter.unusedVariables false

/-- what a Put of a new key comes to -/
def PutNew (c mb : Nat) (cap h m r : Int) (val : Nat → Ent) (ns : List Nat) (mm : List (ByteArray × Value)) (tm : Nat → T) (P : Nat → Prop) (k : ByteArray) (t : T) (D : Nat → Prop) (w : World) (e : Ending) (w' : World) : Prop :=
  ∃ n, w.heap.size ≤ n ∧ n < w'.heap.size ∧ PutPost c mb cap h m r val (n :: ns) (mm ++ [(k, ptr (some n))]) tm P k t n D w e w'

theorem Only.of_grown {w w' : World} {b : Nat} (h : w.grownBy w' (some b)) (hs : w'.heap.size = w.heap.size) : Only (fun k => k = b) w w' :=
  ⟨h.os, h.tape, h.output, hs, fun k hk => by
    by_cases hlt : k < w.heap.size
    · exact h.block k hlt (fun e => hk (Option.some.inj e))
    · rw [Array.getElem?_eq_none (by omega), Array.getElem?_eq_none (by omega)]⟩

theorem Near.trans' {D E : Nat → Prop} {w w1 w2 : World} (h : Near D w w1) (h2 : Near E w1 w2) (he : ∀ k, k < w.heap.size → E k → D k) : Near D w w2 :=
  ⟨h2.os.trans h.os, h2.tape.trans h.tape, h2.output.trans h.output, Nat.le_trans h.size h2.size, fun k hk hd => (h2.block k (Nat.lt_of_lt_of_le hk h.size) fun e => hd (he k hk e)).trans (h.block k hk hd)⟩

set_option maxHeartbeats 1600000 in
theorem put_new {w : World} {c mb : Nat} {cap h m r : Int} {val : Nat → Ent} {ns : List Nat} {mm : List (ByteArray × Value)} {tm : Nat → T} {P : Nat → Prop}
    (s : StoreAt w c mb cap h m r val ns mm tm P) (k : ByteArray) (hk : ns.find? (fun n => decide ((val n).key = k)) = none) (hlen : (ns.length : Int) ≠ cap) (t : T) (v : Value) (R : Nat → Prop) (hv : ArgsAt w R v t.args) (hR : ∀ k, R k → k < w.heap.size) (ht : tsize t ≤ 1000) :
    Calls Try.prog 12 #[.pointer (some ⟨c, 0, none⟩), .string k, .agg #[.int .i64 t.rule, v]] w (PutNew c mb cap h m r val ns mm tm P k t (fun b => b = c ∨ b = mb ∨ b ∈ ns) w) := by
  obtain ⟨av, lv, qv, rfl⟩ := hv.slice
  have hs : ∀ o, StoreAt (w.alloc o) c mb cap h m r val ns mm tm P := fun o => s.below ((Below.refl _ _).alloc (Nat.le_refl _) o)
  have s1 := hs (.cells #[.int .i64 t.rule, .slice av lv qv] 36)
  have HM := Lib.hid (made_yes s1.ring.cache (by have := s.pos; omega))
  have hl := look55 s1.map k
  rw [s.get k, hk] at hl
  have c0 : (w.alloc (.cells #[.int .i64 t.rule, .slice av lv qv] 36)).cell? ⟨c, 0, none⟩ = some (.int .i64 cap) := (cell_of_row _ c 0 _ _ _ s1.ring.cache).trans rfl
  have c1 : (w.alloc (.cells #[.int .i64 t.rule, .slice av lv qv] 36)).cell? ⟨c, 1, none⟩ = some (.map (some mb)) := (cell_of_row _ c 1 _ _ _ s1.ring.cache).trans rfl
  simp only [Option.map_none, Option.getD_none, Option.isSome_none] at hl
  have hrow : (w.alloc (.cells #[.int .i64 t.rule, .slice av lv qv] 36)).heap[w.heap.size]? = some (.cells #[.int .i64 t.rule, .slice av lv qv] 36 (0, 0)) := heap_alloc_new _ _
  have b0 : (w.alloc (.cells #[.int .i64 t.rule, .slice av lv qv] 36)).cell? ⟨w.heap.size, 0, none⟩ = some (.int .i64 t.rule) := (cell_of_row _ _ 0 _ _ _ hrow).trans rfl
  have b1 : (w.alloc (.cells #[.int .i64 t.rule, .slice av lv qv] 36)).cell? ⟨w.heap.size, 1, none⟩ = some (.slice av lv qv) := (cell_of_row _ _ 1 _ _ _ hrow).trans rfl
  have hsz : (w.alloc (.cells #[.int .i64 t.rule, .slice av lv qv] 36)).heap.size = w.heap.size + 1 := by simp
  have HSZ := Lib.hid hsz
  have hbw : Below w.heap.size w (w.alloc (.cells #[.int .i64 t.rule, .slice av lv qv] 36)) := (Below.refl _ _).alloc (Nat.le_refl _) _
  have HBW := Lib.hid hbw
  have HV := Lib.hid (show ArgsAt (w.alloc (.cells #[.int .i64 t.rule, .slice av lv qv] 36)) R (.slice av lv qv) t.args from hv.kept (Below.keptB hbw hR))
  have HR := Lib.hid hR
  have hl8 : ∀ n, (Builtin.len_ #[55] 3 #[.map (some mb)]).run Try.prog ((w.alloc (.cells #[.int .i64 t.rule, .slice av lv qv] 36)).drewN n) = .ok (.int .i64 mm.length) ((w.alloc (.cells #[.int .i64 t.rule, .slice av lv qv] 36)).drewN n) := fun n => run_len55 (w := (w.alloc (.cells #[.int .i64 t.rule, .slice av lv qv] 36)).drewN n) s1.map 3
  have hmn : mm.length = ns.length := s.len
  have hne : ¬ ((mm.length : Int) = cap) := by rw [hmn]; exact hlen
  have S := Lib.hid s
  have S1 := Lib.hid s1
  have HK := Lib.hid hk
  unfold PutNew
  clear hs s1 s hrow hsz hbw hk hv hR hmn hlen
  go_enter Try.func12, Try.ntmps12
  go_wp2_with fail
  refine HM.out.mono ?_
  rintro e w' ⟨rfl, rfl⟩
  generalize w.alloc (.cells #[.int .i64 t.rule, .slice av lv qv] 36) = w1 at *
  go_wp2_with fail
  go_quiet (fail)
  have hbd : Below w1.heap.size w1 (w1.drewN nq) := below_drewN (Below.refl _ _) nq
  have c1d : (w1.drewN nq).cell? ⟨c, 1, none⟩ = some (.map (some mb)) := c1
  have b0d : (w1.drewN nq).cell? ⟨w.heap.size, 0, none⟩ = some (.int .i64 t.rule) := b0
  have b1d : (w1.drewN nq).cell? ⟨w.heap.size, 1, none⟩ = some (.slice av lv qv) := b1
  have hsd : (w1.drewN nq).heap.size = w1.heap.size := rfl
  have HBD := Lib.hid hbd
  have HSD := Lib.hid hsd
  have HCP := Lib.hid (copied_any _ t (.slice av lv qv) R (w1.drewN nq) (Nat.le_refl _) ht (fun x hx => by rw [hsd, HSZ.out]; have := HR.out x hx; omega) (HV.out.kept (Below.keptB hbd fun x hx => by rw [HSZ.out]; have := HR.out x hx; omega)))
  clear hbd hsd hl8 c1 c0 hl b0 b1
  generalize w1.drewN nq = w2 at *
  go_wp2_with fail
  refine HCP.out.mono ?_
  rintro e w3 ⟨v', rfl, ha, hb⟩
  obtain ⟨a3, l3, q3, rfl⟩ := ha.slice
  have hb13 := Below.next HBD.out hb
  have hsz13 := hb13.size
  have s3 := S1.out.below hb13
  have hal : Below w3.heap.size w3 (w3.alloc (.cells #[.string k, .int .i64 t.rule, .slice a3 l3 q3, .pointer none, .pointer none] 67)) := (Below.refl _ _).alloc (Nat.le_refl _) _
  have hm4 := (s3.below hal).map
  have c13 : w3.cell? ⟨c, 1, none⟩ = some (.map (some mb)) := (cell_of_row _ c 1 _ _ _ s3.ring.cache).trans rfl
  have hn4 : (w3.alloc (.cells #[.string k, .int .i64 t.rule, .slice a3 l3 q3, .pointer none, .pointer none] 67)).heap[w3.heap.size]? = some (.cells #[.string k, .int .i64 t.rule, .slice a3 l3 q3, .pointer none, .pointer none] 67 (0, 0)) := heap_alloc_new _ _
  have hcw : c < w3.heap.size := s3.pre c (.inl rfl)
  have S3 := Lib.hid s3
  have HAL := Lib.hid hal
  have HA := Lib.hid ha
  have HB := Lib.hid hb
  have HN4 := Lib.hid hn4
  clear ha hb hb13 hsz13 s3 hal hn4 c1d b0d b1d
  go_wp2_with (at_mapUpdate; refine Mp.wpList_upd (Mp.KeyLaw.string Try.underlying9) Try.underlying55 rfl (.tmp 79) (.tmp 80) (.tmp 81) rfl rfl hm4 k rfl ?_; intro w5 hm5 hg5)
  have hlaid := S3.out.laid hg5
  have HF := Lib.hid (front_new (n := w3.heap.size) hlaid.1 (by rw [updE_same]; exact hlaid.2.1) hlaid.2.2.1 hlaid.2.2.2.1)
  have HL := Lib.hid hlaid
  have HM5 := Lib.hid hm5
  clear hlaid hm5 hg5 hm4
  refine HF.out.mono ?_
  rintro e w6 ⟨rfl, hr6, ho6⟩
  have HR6 := Lib.hid hr6
  have HO6 := Lib.hid ho6
  clear hr6 ho6
  go_wp2
  go_ret
  have hbw3 : Below w.heap.size w w3 := Below.next HBW.out (Below.next HBD.out HB.out)
  have hpre := S3.out.pre
  have hpre1 := S1.out.pre
  have hw3 := hbw3.size
  have hNear6 : Near (fun b => b = c ∨ b = mb ∨ b ∈ ns) w3 w6 :=
    (HL.out.2.2.2.2.wide fun x _ hx => .inr (.inl hx)).trans' (HO6.out.near) fun x hx hd => by rcases hd with rfl | rfl | hd; exact .inl rfl; exact absurd hx (by omega); exact .inr (.inr hd)
  have hw6 := hNear6.size
  have hs6 : w5.heap.size = w6.heap.size := HO6.out.size.symm
  have hlt5 : w3.heap.size < w5.heap.size := (Array.getElem?_eq_some_iff.1 HL.out.2.1).1
  refine ⟨w3.heap.size, hw3, by omega, rfl, ⟨.slice a3 l3 q3, Span w2.heap.size w3.heap.size, ?_, ?_⟩, ?_⟩
  · refine S3.out.added (Nat.le_refl _) HK.out ?_ ht ?_ HR6.out ?_ hNear6
    · exact HA.out.kept fun x hx => hNear6.block x hx.2 fun d => by
        have h1 := hx.1
        rw [HSD.out] at h1
        rcases d with rfl | rfl | d
        · have := hpre1 x (.inl rfl); omega
        · have := hpre1 x (.inr (.inl rfl)); omega
        · have := hpre1 x (.inr (.inr (.inl d))); omega
    · intro x hx
      have h1 := hx.1
      have h2 := hx.2
      rw [HSD.out] at h1
      exact ⟨by omega, by omega, fun e => by have := hpre1 x (.inl e); omega, fun e => by have := hpre1 x (.inr (.inl e)); omega, fun e => by have := hpre1 x (.inr (.inr (.inl e))); omega⟩
    · rw [← Mp.upd_none (m := mm) (by rw [S3.out.get k, HK.out]; rfl)]
      refine HM5.out.block (HO6.out.block mb ?_)
      have := S3.out.mbc
      have hm := hpre mb (.inr (.inl rfl))
      rintro (d | d | d)
      · exact this.1 d
      · omega
      · exact this.2 d
  · intro x hx
    have := hx.1
    rw [HSD.out, HSZ.out] at this
    omega
  · exact (Below.near hbw3).trans hNear6
end Go.Proofs.Ytdljffplooplcaa
