/- Keys. -/
import Derived.Test.YtdljffplooplcaaAll
namespace Go.Proofs.Ytdljffplooplcaa
open Go.RowKit Go.Shelf
set_option linter.unusedVariables false
attribute [local go_sem] Oper.semAt_some

theorem info9 : (Try.prog.info? 9).map (fun i => (i.zero, i.size, i.bytes)) = some (some (.string ⟨#[]⟩), 1, 16) := by kernel_rfl
def strs (ks : List ByteArray) : List Value := ks.map Value.string

set_option maxRecDepth 100000 in
set_option maxHeartbeats 2000000 in
theorem keys_in {w : World} {c mb : Nat} {cap h m r : Int} {val : Nat → Ent} {ns : List Nat} {mm : List (ByteArray × Value)} {tm : Nat → T} {P : Nat → Prop}
    (s : StoreAt w c mb cap h m r val ns mm tm P) (hlen : ns.length ≤ 1000000) :
    CallsIn Fence.wide 6 Try.prog 22 #[.pointer (some ⟨c, 0, none⟩)] w fun e W' => ∃ v, e = .returned v ∧ W'.ownsRow w.heap.size 9 1 v ns.length (strs (ns.map fun n => (val n).key)) ∧ Below w.heap.size w W' := by
  have HM := Lib.hid (made_yes s.ring.cache (by have := s.pos; omega))
  have S := Lib.hid s
  have HLEN := Lib.hid hlen
  clear s hlen
  obtain ⟨i0, hi, hz0, hz1, hz2⟩ := info_parts info9
  refine callsIn_of_wp_marks Try.func22 rfl trivial ?_ rfl
  simp only [Try.ntmps22, List.size_toArray, List.length_cons, List.length_nil, Nat.reduceAdd, Nat.reduceSub, Array.replicate_succ, Array.replicate_zero, List.push_toArray, List.append_toArray, List.nil_append, List.cons_append]
  gi_wp2_with (refine ⟨trivial, ?_⟩; gi_at_call 26; refine (callsIn_wide.2 HM.out).mono ?_; rintro e w' ⟨rfl, rfl⟩)
  have bO := Go.Boxed.new w 29 (.slice none 0 0)
  have hB0 : Below w.heap.size w (w.alloc (.cells #[.slice none 0 0] 29)) := (Below.refl _ w).alloc (Nat.le_refl _) _
  have s1 := S.out.below hB0
  have S1 := Lib.hid s1
  have hpre := S.out.pre
  have hall : ∀ (l : Nat) (J : List EntS → World → Prop) (W : World), Below (w.alloc (.cells #[.slice none 0 0] 29)).heap.size (w.alloc (.cells #[.slice none 0 0] 29)) W →
      (∀ pre x W1, J pre W1 → pre.length < (ns.map fun b => toS (val b)).length → YieldAt Fence.wide (6 - 1 - 1) Try.prog l #[x.val] W1 fun e W' => e = .returned (.bool true) ∧ J (pre ++ [x]) W' ∧ Below w.heap.size W1 W') →
      J [] W → CallsIn Fence.wide (6 - 1) Try.prog 35 #[.pointer (some ⟨c, 2, none⟩), .func (.yield l) #[] #[]] W fun e W' => (∃ v, e = .returned v) ∧ J (ns.map fun b => toS (val b)) W' := fun l J W hW hY h0 =>
    all_in Fence.wide (6 - 1) trivial rfl (by decide) l w.heap.size c J (fun pre x W1 hj hl => hY pre x W1 hj (by simpa using hl)) W (S1.out.below hW).ring ⟨hpre c (.inl rfl), fun b hb => hpre b (.inr (.inr (.inl hb)))⟩ (fun b hb => (S.out.args b hb).slice) h0
  clear s1
  refine range_bound (n₀ := w.heap.size) (gf := 35) (rc := .pointer (some ⟨c, 2, none⟩)) hB0.size rfl (by decide) rfl trivial (enters_of Try.func35 (by kernel_rfl) rfl) hall (fun _ => rfl)
    (fun pre W => (∃ v, Go.Boxed W w.heap.size 29 v ∧ W.ownsRow w.heap.size 9 1 v pre.length (strs (pre.map EntS.key)) ∧ True) ∧ Below w.heap.size w W)
    (OwnFrom.and (Own.from (holdsRow_own w.heap.size w.heap.size 29 9 1 (fun (pre : List EntS) => pre.length) (fun pre => strs (pre.map EntS.key)) (fun _ _ => True)) _) (ownFrom_below (Nat.le_refl _) (by simp)))
    ⟨⟨_, bO, World.ownsRow_nil _ _ _ _, trivial⟩, hB0⟩
    (fun x a' W => ∃ Bx, w.heap.size < Bx ∧ W.heap[Bx]? = some (.cells #[.string x.key, .int .i64 x.rule, .slice x.a x.l x.c] 65 (0, 0)) ∧ a' = { tmps := #[.pointer (some ⟨c, 0, none⟩), undef, .slice none 0 0, .pointer (some ⟨w.heap.size, 0, none⟩), .pointer (some ⟨Bx, 0, none⟩), .pointer (some ⟨c, 0, none⟩), .bool true, .bool false, .pointer (some ⟨c, 0, none⟩), .pointer (some ⟨c, 0, none⟩), .pointer (some ⟨c, 2, none⟩), .func (Fn.func 35) #[.pointer (some ⟨c, 2, none⟩)] #[], x.val, undef, undef, undef, undef, undef, undef], defers := [] })
    (fun x a' _ X Y row hs hg hr => by
      obtain ⟨Bx, h1, h2, h3⟩ := hs
      refine ⟨Bx, h1, (hg.block Bx (Array.getElem?_eq_some_iff.1 h2).1 fun e => ?_).trans h2, h3⟩
      obtain ⟨_, o, ho, hc⟩ := hr Bx e.symm
      rw [h2] at ho; cases ho; cases hc)
    ?assign ?body ?done
  case assign =>
    rintro l pre x W K ⟨⟨v, hv, hrow, _⟩, hB⟩ hK
    simp only [EntS.val]
    gi_wp2
    exact hK _ _ ((KeepsOthers.alloc _ _).from _) ((Below.refl _ W).alloc hB.size _) ⟨⟨v, hv.alloc _, hrow.alloc _, trivial⟩, hB.alloc hB.size _⟩ ⟨W.heap.size, hv.lt, World.alloc_heap_new W _, rfl⟩
  case body =>
    rintro l pre x a' W hl ⟨⟨v, hv, hrow, _⟩, hB⟩ ⟨Bx, hBx, bX, rfl⟩ hlt
    have hc := hv.cell
    have hx := (cell_of_row W Bx 0 _ _ _ bX).trans rfl
    have hlt2 : pre.length < 1000000 := by
      have h1 := HLEN.out
      rw [List.length_map] at hlt
      omega
    have hBs := hB.size
    gi_wp2_with (gi_at_builtin; refine wpListIn_append_own _ rfl _ _ 29 rfl w.heap.size 9 i0 (.string ⟨#[]⟩) 1 16 Try.underlying29 hi hz0 hz1 hz2 rfl (by decide) _ _ _ rfl (hrow.alloc _) ⟨W.heap.size, 0, none⟩ 1 1 [.string x.key] rfl rfl (cell_one_new _ _ _) (by simp [Value.oneCell']) (by unfold maxLen; omega) (by omega) (by simp; omega) ?_; intro v' w1 hown' hgrow _; obtain ⟨g', cap', rfl⟩ := ownsRow_succ hown'; obtain ⟨hv1, hv2, hr2, hk2, hb2⟩ := hv.appended (by decide) hrow hB.size (Nat.le_refl _) hown' hgrow; have hc1 := hv1.cell; have hf1 := hv1.frozen)
    refine ⟨hk2.from _, hb2, ⟨⟨_, hv2, ?_, trivial⟩, hB.trans hb2⟩⟩
    have e : strs ((pre ++ [x]).map EntS.key) = strs (pre.map EntS.key) ++ [.string x.key] := by simp [strs]
    rw [e, List.length_append]
    exact hr2
  case done =>
    rintro D W hD ⟨⟨v, hv, hrow, _⟩, hB⟩ hK
    have hc := hv.cell
    gi_wp2
    refine ⟨by simp, .inl ⟨_, _, rfl, run_takeDeferred hK, ?_⟩⟩
    refine ⟨_, results_tmp rfl _ _ _, v, rfl, ?_, hB.trans (belowK_b (w := w) (Nat.le_refl _) W D _ _ (by simp at hD; omega) hK rfl rfl)⟩
    have e1 : (ns.map fun b => toS (val b)).map EntS.key = ns.map fun n => (val n).key := by
      rw [List.map_map]
      exact List.map_congr_left fun b _ => toS_key _
    rw [e1, List.length_map] at hrow
    exact ownsRow_putObj hrow _ hK rfl
theorem keys_yes {w : World} {c mb : Nat} {cap h m r : Int} {val : Nat → Ent} {ns : List Nat} {mm : List (ByteArray × Value)} {tm : Nat → T} {P : Nat → Prop}
    (s : StoreAt w c mb cap h m r val ns mm tm P) (hlen : ns.length ≤ 1000000) :
    Calls Try.prog 22 #[.pointer (some ⟨c, 0, none⟩)] w fun e W' => ∃ v, e = .returned v ∧ W'.ownsRow w.heap.size 9 1 v ns.length (strs (ns.map fun n => (val n).key)) ∧ Below w.heap.size w W' :=
  callsIn_wide.1 (keys_in s hlen)
end Go.Proofs.Ytdljffplooplcaa
