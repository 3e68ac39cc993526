/- all: the ring's iterator. -/
import Derived.Test.YtdljffplooplcaaRange
namespace Go.Proofs.Ytdljffplooplcaa
open Go.RowKit Go.Shelf
set_option linter.unusedVariables false
attribute [local go_sem] Oper.semAt_some

/-- an entry whose arguments' slice is written out -/
structure EntS where
  key : ByteArray
  rule : Int
  a : Option Addr
  l : Nat
  c : Nat
def EntS.val (x : EntS) : Value := .agg #[.string x.key, .int .i64 x.rule, .slice x.a x.l x.c]
def toS (e : Ent) : EntS :=
  match e.args with
  | .slice a l c => ⟨e.key, e.rule, a, l, c⟩
  | _ => ⟨e.key, e.rule, none, 0, 0⟩
theorem toS_key (e : Ent) : (toS e).key = e.key := by unfold toS; split <;> rfl
theorem toS_slice {e : Ent} {a : Option Addr} {l c : Nat} (h : e.args = .slice a l c) : toS e = ⟨e.key, e.rule, a, l, c⟩ := by unfold toS; rw [h]

def leftOf (ns : List Nat) : Value → Nat
  | .pointer (some a) => ns.length - ns.idxOf a.block
  | _ => 0
theorem leftOf_at {pre : List Nat} {b : Nat} {bs : List Nat} (h : (pre ++ b :: bs).Nodup) : leftOf (pre ++ b :: bs) (ptr (some b)) = bs.length + 1 := by
  have hb : b ∉ pre := fun e => by
    rw [List.nodup_append] at h
    exact h.2.2 b e b (by simp) rfl
  show (pre ++ b :: bs).length - (pre ++ b :: bs).idxOf b = _
  rw [List.idxOf_append, if_neg hb]
  simp

set_option maxHeartbeats 1000000 in
theorem all_in (F : Fence) (n : Nat) (h35 : F.fn 35) (hro : F.round = none) (hn : 1 ≤ n) (l n₀ c : Nat) {x0 x1 x4 x5 x6 : Value} {val : Nat → Ent} {ns : List Nat} (J : List EntS → World → Prop)
    (hY : ∀ pre x W, J pre W → pre.length < ns.length → YieldAt F (n - 1) Try.prog l #[x.val] W fun e W' => e = .returned (.bool true) ∧ J (pre ++ [x]) W' ∧ Below n₀ W W')
    (W : World) (hr : Ring W c x0 x1 x4 x5 x6 val ns) (hu : c < n₀ ∧ ∀ b, b ∈ ns → b < n₀) (hsl : ∀ b, b ∈ ns → ∃ a l c, (val b).args = .slice a l c) (h0 : J [] W) :
    CallsIn F n Try.prog 35 #[.pointer (some ⟨c, 2, none⟩), .func (.yield l) #[] #[]] W fun e W' => (∃ v, e = .returned v) ∧ J (ns.map fun b => toS (val b)) W' := by
  have c2 : W.cell? ⟨c, 2, none⟩ = some (ptr (hdO ns none)) := (cell_of_row W c 2 _ _ _ hr.cache).trans rfl
  obtain ⟨ap, hap⟩ := ptr_form (hdO ns none)
  rw [hap] at c2
  have HAP := Lib.hid hap
  have HR := Lib.hid hr
  have HU := Lib.hid hu
  have HSL := Lib.hid hsl
  have HY := Lib.hid hY
  clear hr hu hsl hY hap
  refine callsIn_of_wp Try.func35 rfl h35 ?_ hro
  simp only [Try.ntmps35, List.size_toArray, List.length_cons, List.length_nil, Nat.reduceAdd, Nat.reduceSub, Array.replicate_succ, Array.replicate_zero, List.push_toArray, List.append_toArray, List.nil_append, List.cons_append]
  gi_wp2
  gi_loopw [4] (fun p wr => ∃ (pre rest : List Nat), ns = pre ++ rest ∧ p = ptr (hdO rest none) ∧ J (pre.map fun b => toS (val b)) wr ∧ Below n₀ W wr)
    (fun p wr => leftOf ns p)
  case atStart =>
    exact ⟨[], ns, rfl, HAP.out.symm, h0, Below.refl _ _⟩
  case round =>
    obtain ⟨pre, rest, hx, hp, hJs, hB⟩ := hrel
    cases rest with
    | nil =>
      subst hp
      simp only [hdO, ptr]
      clear hB
      gi_wp2
      go_end0
      exact ⟨⟨_, rfl⟩, by rw [hx, List.append_nil]; exact hJs⟩
    | cons b bs =>
      subst hp
      have hseg := HR.out.seg
      rw [hx] at hseg
      obtain ⟨_, hnode, _⟩ := Seg.append.1 hseg
      have hb : b < n₀ := HU.out.2 b (by rw [hx]; simp)
      obtain ⟨a3, l3, q3, hargs⟩ := HSL.out b (by rw [hx]; simp)
      have hw := (hB.block b hb).trans hnode
      have d0 : wr.cell? ⟨b, 0, none⟩ = some (.string (val b).key) := (cell_of_row wr b 0 _ _ _ hw).trans rfl
      have d1 : wr.cell? ⟨b, 1, none⟩ = some (.int .i64 (val b).rule) := (cell_of_row wr b 1 _ _ _ hw).trans rfl
      have d2 : wr.cell? ⟨b, 2, none⟩ = some (.slice a3 l3 q3) := (cell_of_row wr b 2 _ _ _ hw).trans (by rw [← hargs]; rfl)
      obtain ⟨fn, tmps, assign, body, hy, hR⟩ := HY.out _ ⟨(val b).key, (val b).rule, a3, l3, q3⟩ wr hJs (by rw [hx]; simp)
      simp only [EntS.val] at hy
      have HB := Lib.hid hB
      have HRR := Lib.hid hR
      have HT := Lib.hid (toS_slice hargs)
      have HX := Lib.hid hx
      have HN := Lib.hid hnode
      simp only [hdO, ptr]
      clear hB hR hargs hseg hnode hw hx
      gi_wp2
      refine HRR.out.mono ?_
      rintro e W3 ⟨rfl, hJ3, hk3⟩
      have hw3 := (hk3.block b hb).trans ((HB.out.block b hb).trans HN.out)
      obtain ⟨ap2, hap2⟩ := ptr_form (hdO bs none)
      have d4 : W3.cell? ⟨b, 4, none⟩ = some (.pointer ap2) := (cell_of_row W3 b 4 _ _ _ hw3).trans (by rw [← hap2]; rfl)
      have HAP2 := Lib.hid hap2
      have HK3 := Lib.hid hk3
      clear hk3 hw3 hap2
      gi_wp2
      go_roundw
      case rel => exact ⟨pre ++ [b], bs, by rw [HX.out]; simp, HAP2.out.symm, by rw [List.map_append, List.map_cons, List.map_nil, HT.out]; exact hJ3, belowK_t HB.out HK3.out⟩
      case measure =>
        have hnd := HR.out.nodup
        rw [HX.out] at hnd
        rw [← HAP2.out, HX.out]
        have e1 := leftOf_at hnd
        have e2 : leftOf (pre ++ b :: bs) (ptr (hdO bs none)) < bs.length + 1 := by
          cases bs with
          | nil => simp [hdO, ptr, leftOf]
          | cons d ds =>
            have e3 : pre ++ b :: d :: ds = (pre ++ [b]) ++ d :: ds := by simp
            rw [e3] at hnd ⊢
            rw [show hdO (d :: ds) none = some d from rfl, leftOf_at hnd]
            simp
        exact Nat.lt_of_lt_of_eq e2 e1.symm
end Go.Proofs.Ytdljffplooplcaa
