/- copied, and the laws for make, copy and append of whole slices of numbers. -/
import Derived.Test.YtecjnenjjedceaaSel
import Derived.Laws.CopyOwn
namespace Go.Proofs.Ytecjnenjjedceaa
open Go.RowKit
set_option linter.unusedVariables false

theorem Sl.src {w : World} {a : Option Addr} {l c : Nat} {xs : List Int} (h : Sl w a l c xs) {ad : Addr} (had : a = some ad) :
    ∀ j u, (xs.map (Value.int .i64))[j]? = some u → w.cell? (ad.add j) = some u := by
  intro j u hu
  have hj : j < xs.length := by have := (List.getElem?_eq_some_iff.1 hu).1; simpa using this
  obtain ⟨b, off, ha, _, hc⟩ := h.hat (by rw [← h.hlen]; omega)
  rw [had] at ha
  cases ha
  rw [Addr.add_lit, hc j hj]
  simp [hj] at hu
  simp [List.getD, hj, hu]

theorem wpList_mk {w : World} {ops : Array Oper} {rest : List Oper} {o : Oper} {a : Act} {Q : Exit → Act → World → Prop} (hgd : o.guard = none) (x y : Operand)
    (hop : o.op = Op.makeSlice 22 x y) (base n : Nat) (hx : a.eval x = .int .i64 n) (hy : a.eval y = .int .i64 n) (hn : n ≤ 1000000) (hb : base ≤ w.heap.size)
    (h : ∀ w', Own w' base (.slice (some ⟨w.heap.size, 0, none⟩) n n) (List.replicate n 0) → w.grownBy w' none → wpList Try.prog ops Q rest (a.put o.dst (.slice (some ⟨w.heap.size, 0, none⟩) n n)) w') :
    wpList Try.prog ops Q (o :: rest) a w := by
  obtain ⟨i0, hi, hz0, hz1, hz2⟩ := info_parts info2
  refine wpList_make_full w hgd x y 22 hop base 2 i0 (.int .i64 0) 1 Try.underlying22 hi hz0 hz1 .i64 .i64 n n n hx hy rfl rfl (by rw [hz2]; omega) (by unfold maxLen; omega) hb ?_
  intro w' hown hg
  refine h w' ?_ hg
  have e : (madeCells (Value.int .i64 0).cells (n * 1)).toList = (List.replicate n (0 : Int)).map (Value.int .i64) := by
    rw [Nat.mul_one]; show (madeCells #[Value.int .i64 0] n).toList = _
    rw [toList_madeCells_one, List.map_replicate]
  rw [e] at hown
  simpa [Own] using hown

theorem wpList_cp {w : World} {ops : Array Oper} {rest : List Oper} {o : Oper} {a : Act} {Q : Exit → Act → World → Prop} (hgd : o.guard = none) (d s : Operand)
    (ho : o.op = .call { callee := .builtin .copy, args := #[d, s], argTypes := #[22, 22] }) (base : Nat) (v : Value) (zs xs : List Int) (hd : a.eval d = v) (hown : Own w base v zs)
    (sp : Option Addr) (l c : Nat) (hs : a.eval s = .slice sp l c) (hsl : Sl w sp l c xs) (hlen : zs.length = l)
    (h : ∀ w', Own w' base v xs → w.grownBy w' v.ownBlock → wpList Try.prog ops Q rest (a.put o.dst (goInt l)) w') :
    wpList Try.prog ops Q (o :: rest) a w := by
  have hxl := hsl.hlen
  by_cases h0 : l = 0
  · have hz : zs = [] := List.eq_nil_of_length_eq_zero (by omega)
    have hx : xs = [] := List.eq_nil_of_length_eq_zero (by omega)
    subst hz hx
    subst h0
    obtain ⟨ap, cp, rfl, _⟩ := hown.sl
    exact wpList_copy_nothing hgd d s 22 22 ho 2 Try.underlying22 (by kernel_rfl) _ _ _ _ _ _ hd hs (by simp) (h w hown (World.grownBy.refl _ _))
  · obtain ⟨b, off, rfl, _, _⟩ := hsl.hat (by omega)
    have hown' := hown
    rcases hown.2 with ⟨_, h1⟩ | ⟨g, cap, cur, rfl, hbg, hg, hnc, hcm, hcs, htake⟩
    · omega
    · refine wpList_copy_own hgd d s 22 22 ho 2 Try.underlying22 (by kernel_rfl) g 0 zs.length cap ⟨b, off, none⟩ l c hd hs cur 2 hg (xs.map (Value.int .i64)) (by simp [hxl, hlen]) (hsl.src rfl) (by simp; omega) (ints_oneCell _ _) ?_
      have e : goInt ((xs.map (Value.int .i64)).length) = goInt l := by simp [hxl]
      rw [e]
      refine h _ ⟨by simp, .inr ⟨g, cap, _, ?_, hbg, setRow_heap w g cur _ 2 _ hg, by omega, hcm, ?_, ?_⟩⟩ ⟨rfl, rfl, rfl, by simp, fun k _ hk => setRow_other w g k _ (fun e => hk (by simp [Value.ownBlock, e]))⟩
      · rw [hxl, hlen]
      · simp; omega
      · simp

theorem copied_any (a : Option Addr) (l c : Nat) (xs : List Int) (w : World) (hA : Sl w a l c xs) (hl : l ≤ 1000) :
    Calls Try.prog 55 #[.slice a l c] w (Gives xs w) := by
  have hA' := Lib.hid hA
  clear hA
  go_enter Try.func55, Try.ntmps55
  go_wp2_with (first | (at_make; refine wpList_mk rfl (.tmp 5) (.tmp 5) rfl w.heap.size l rfl rfl (by omega) (Nat.le_refl _) ?_; intro w1 hown1 hg1) | ((with_reducible show wpList _ _ _ (⟨_, .call ⟨.builtin .copy, _, _⟩, _, _, _, _⟩ :: _) _ _); refine wpList_cp rfl (.tmp 7) (.tmp 8) rfl w.heap.size _ _ xs rfl hown1 a l c rfl (hA'.out.below ((Below.refl _ _).grown hg1 (Nat.le_refl _) (fun k h => by cases h))) (by simp) ?_; intro w2 hown2 hg2))
  go_ret
  exact ⟨_, rfl, hown2, ((Below.refl _ _).grown hg1 (Nat.le_refl _) (fun k h => by cases h)).grown hg2 hg1.size (fun k hk => (hown1.lt k hk).1)⟩
end Go.Proofs.Ytecjnenjjedceaa
