/- Slices of integers: as in the lists' base. -/
import Derived.Test.YtdljffplooplcaaBase
import Derived.Laws.CopyOwn
namespace Go.Proofs.Ytdljffplooplcaa
open Go.RowKit
set_option linter.unusedVariables false

/-- The cells from off on in block b hold the numbers zs. -/
def IntsAt (w : World) (b off : Nat) (zs : List Int) : Prop :=
  ∀ j, j < zs.length → w.cell? ⟨b, off + j, none⟩ = some (.int .i64 (zs.getD j 0))

/-- The slice value with address a, length len and capacity cap reads as zs. -/
structure Sl (w : World) (a : Option Addr) (len cap : Nat) (zs : List Int) : Prop where
  hlen : zs.length = len
  hcap : len ≤ cap
  hmax : cap ≤ maxLen
  hat : 0 < len → ∃ b off, a = some ⟨b, off, none⟩ ∧ b < w.heap.size ∧ IntsAt w b off zs

theorem Sl.cell {w : World} {a : Option Addr} {len cap : Nat} {zs : List Int} (h : Sl w a len cap zs) :
    ∃ b off, (0 < len → a = some ⟨b, off, none⟩ ∧ b < w.heap.size) ∧ ∀ j, j < len → w.cell? ⟨b, off + j, none⟩ = some (.int .i64 (zs.getD j 0)) := by
  by_cases h0 : 0 < len
  · obtain ⟨b, off, ha, hb, hc⟩ := h.hat h0
    exact ⟨b, off, fun _ => ⟨ha, hb⟩, fun j hj => hc j (by rw [h.hlen]; exact hj)⟩
  · exact ⟨0, 0, fun h => absurd h h0, fun j hj => by omega⟩

theorem Sl.below {w w' : World} {a : Option Addr} {len cap : Nat} {zs : List Int} (h : Sl w a len cap zs) (hb : Below w.heap.size w w') : Sl w' a len cap zs := by
  refine ⟨h.hlen, h.hcap, h.hmax, fun h0 => ?_⟩
  obtain ⟨b, off, ha, hbl, hc⟩ := h.hat h0
  exact ⟨b, off, ha, Nat.lt_of_lt_of_le hbl hb.size, fun j hj => (hb.cell hbl).trans (hc j hj)⟩

theorem info3 : (Try.prog.info? 3).map (fun i => (i.zero, i.size, i.bytes)) = some (some (.int .i64 0), 1, 8) := by kernel_rfl

/-- The slice value v, made in a block from base on, holds the numbers zs and nobody else leads to its cells. -/
def Own (w : World) (base : Nat) (v : Value) (zs : List Int) : Prop := w.ownsRow base 3 1 v zs.length (zs.map (Value.int .i64))

theorem Own.nil (w : World) (base : Nat) : Own w base (.slice none 0 0) [] := World.ownsRow_nil _ _ _ _

theorem Own.sl {w : World} {base : Nat} {v : Value} {zs : List Int} (h : Own w base v zs) : ∃ a cap, v = .slice a zs.length cap ∧ Sl w a zs.length cap zs := by
  rcases h.2 with ⟨rfl, h0⟩ | ⟨g, cap, cur, rfl, hb, hg, hn, hm, hs, ht⟩
  · exact ⟨none, 0, by simp [h0], by rw [h0]; exact ⟨h0, Nat.le_refl _, by unfold maxLen; omega, fun h => by omega⟩⟩
  · refine ⟨_, _, rfl, rfl, hn, hm, fun _ => ⟨g, 0, rfl, (Array.getElem?_eq_some_iff.1 hg).1, fun j hj => ?_⟩⟩
    rw [cell_of_row w g (0 + j) cur _ (0, 0) hg, Nat.zero_add]
    have e : cur[j]? = (cur.toList.take (zs.length * 1))[j]? := by
      rw [List.getElem?_take, if_pos (by omega)]; simp
    rw [e, ht]
    simp [List.getD, hj]

theorem grow_alloc {w w' : World} {o : Obj} {row : Option Nat} (h : (w.alloc o).grownBy w' row) : w.grownBy w' row :=
  ⟨h.os, h.tape, h.output, Nat.le_trans (by simp) h.size, fun k hk hr => (h.block k (by simp; omega) hr).trans (Below.heap_alloc w o k hk)⟩

/-- append(s, u), one number, s the call's own: the number has just been laid in a block of one cell. -/
theorem wpList_push {w : World} {ops : Array Oper} {rest : List Oper} {o : Oper} {a : Act} {Q : Exit → Act → World → Prop} (hgd : o.guard = none) (s x : Operand)
    (ho : o.op = .call { callee := .builtin .append, args := #[s, x], argTypes := #[79, 79] })
    (base : Nat) (v : Value) (zs : List Int) (u : Int) (hs : a.eval s = v) (hown : Own w base v zs)
    (hx : a.eval x = .slice (some ⟨w.heap.size, 0, none⟩) 1 1) (hlen : zs.length ≤ 1000000) (hbase : base ≤ w.heap.size)
    (h : ∀ v' w', Own w' base v' (zs ++ [u]) → w.grownBy w' v.ownBlock → wpList Try.prog ops Q rest (a.put o.dst v') w') :
    wpList Try.prog ops Q (o :: rest) a (w.alloc (.cells #[.int .i64 u] 3)) := by
  obtain ⟨i0, hi, hz0, hz1, hz2⟩ := info_parts info3
  refine wpList_append_own _ hgd s x 79 ho base 3 i0 (.int .i64 0) 1 8 Try.underlying79 hi hz0 hz1 hz2 rfl (by decide) v zs.length (zs.map (Value.int .i64)) hs (hown.alloc _)
    ⟨w.heap.size, 0, none⟩ 1 1 [.int .i64 u] hx rfl ?_ ?_ (by unfold maxLen; omega) (by omega) (by simp; omega) ?_
  · intro j t hj
    match j, hj with
    | 0, hj => simp at hj; subst hj; simp [Addr.add, World.cell?_alloc_at]
  · intro t ht; simp at ht; subst ht; rfl
  · intro v' w' hown' hg _
    refine h v' w' ?_ (grow_alloc hg)
    unfold Own
    simpa using hown'
theorem Sl.src {w : World} {a : Option Addr} {l c : Nat} {xs : List Int} (h : Sl w a l c xs) {ad : Addr} (had : a = some ad) :
    ∀ j u, (xs.map (Value.int .i64))[j]? = some u → w.cell? (ad.add j) = some u := by
  intro j u hu
  have hj : j < xs.length := by have := (List.getElem?_eq_some_iff.1 hu).1; simpa using this
  obtain ⟨b, off, ha, _, hc⟩ := h.hat (by rw [← h.hlen]; omega)
  rw [had] at ha
  cases ha
  rw [Addr.add_lit, hc j hj]
  simp [hj] at hu
  simp [List.getD, hj, hu]

theorem wpList_app {w : World} {ops : Array Oper} {rest : List Oper} {o : Oper} {a : Act} {Q : Exit → Act → World → Prop} (hgd : o.guard = none) (s x : Operand)
    (ho : o.op = .call { callee := .builtin .append, args := #[s, x], argTypes := #[79, 79] })
    (base : Nat) (v : Value) (zs : List Int) (hs : a.eval s = v) (hown : Own w base v zs)
    (sp : Option Addr) (l c : Nat) (xs : List Int) (hx : a.eval x = .slice sp l c) (hsl : Sl w sp l c xs) (hnil : sp = none → c = 0) (hlen : zs.length + l ≤ 1000000) (hbase : base ≤ w.heap.size)
    (h : ∀ v' w', Own w' base v' (zs ++ xs) → w.grownBy w' v.ownBlock → wpList Try.prog ops Q rest (a.put o.dst v') w') :
    wpList Try.prog ops Q (o :: rest) a w := by
  obtain ⟨i0, hi, hz0, hz1, hz2⟩ := info_parts info3
  have hxl := hsl.hlen
  cases hsp : sp with
  | none =>
    have hc := hnil hsp
    have hl : l = 0 := by have := hsl.hcap; omega
    subst hsp hc hl
    have hx0 : xs = [] := List.eq_nil_of_length_eq_zero hxl
    subst hx0
    refine wpList_plain hgd fun K hK => ?_
    have hrun := run_append_owned_none (P := Try.prog) w base 79 o.type 3 i0 1 Try.underlying79 hi v _ _ hown
    unfold Oper.wp
    simp [execOp, ho, resolve, invoke, builtin, hs, hx, hrun, Result.andThen]
    exact hK _ _ (h v w (by simpa using hown) (World.grownBy.refl _ _))
  | some ad =>
    subst hsp
    refine wpList_append_own _ hgd s x 79 ho base 3 i0 (.int .i64 0) 1 8 Try.underlying79 hi hz0 hz1 hz2 rfl (by decide) v zs.length (zs.map (Value.int .i64)) hs hown
      ad l c (xs.map (Value.int .i64)) hx (by simp [hxl]) (hsl.src rfl) (ints_oneCell _ _) (by unfold maxLen; omega) (by omega) hbase ?_
    intro v' w' hown' hg _
    refine h v' w' ?_ hg
    unfold Own
    rw [List.length_append, List.map_append, hxl]
    exact hown'

end Go.Proofs.Ytdljffplooplcaa
