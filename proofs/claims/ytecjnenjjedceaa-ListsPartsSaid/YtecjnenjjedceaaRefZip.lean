/- ref Zip; Append and its reference. -/
import Derived.Test.YtecjnenjjedceaaZip
import Derived.Test.YtecjnenjjedceaaRefSort
import Derived.Deep.RegionLaw
namespace Go.Proofs.Ytecjnenjjedceaa
open Go.RowKit
set_option linter.unusedVariables false

/-- append(s, u) inside a region that draws its order. -/
theorem step_push {w : World} {ops : Array Oper} {o : Oper} {a : Act} {K : Act → World → Prop} {Q : Exit → Act → World → Prop} {E : Prop} (hgd : o.guard = none) (s x : Operand)
    (ho : o.op = .call { callee := .builtin .append, args := #[s, x], argTypes := #[22, 22] })
    (base : Nat) (v : Value) (zs : List Int) (u : Int) (hs : a.eval s = v) (hown : Own w base v zs)
    (hx : a.eval x = .slice (some ⟨w.heap.size, 0, none⟩) 1 1) (hlen : zs.length ≤ 1000000) (hbase : base ≤ w.heap.size)
    (h : ∀ v' w', Own w' base v' (zs ++ [u]) → w.grownBy w' v.ownBlock → K (a.put o.dst v') w') :
    if Region.wanted o (yielded ops a.tmps) = true then Oper.wp Try.prog o a (w.alloc (.cells #[.int .i64 u] 2)).drew K Q else E := by
  have hw : Region.wanted o (yielded ops a.tmps) = true := by simp [Region.wanted, hgd]
  rw [if_pos hw]
  obtain ⟨i0, hi, hz0, hz1, hz2⟩ := info_parts info2
  refine wp_append_own _ s x 22 ho base 2 i0 (.int .i64 0) 1 8 Try.underlying22 hi hz0 hz1 hz2 rfl (by decide) v zs.length (zs.map (Value.int .i64)) hs ((hown.alloc _).drew)
    ⟨w.heap.size, 0, none⟩ 1 1 [.int .i64 u] hx rfl ?_ ?_ (by unfold maxLen; omega) (by omega) (by simp; omega) ?_
  · intro j t hj
    match j, hj with
    | 0, hj => simp at hj; subst hj; simp [Addr.add, World.cell?_alloc_at]
  · intro t ht; simp at ht; subst ht; rfl
  · intro v' w' hown' hg _
    refine h v' w' ?_ (grow_alloc (w := w) (o := .cells #[.int .i64 u] 2) ⟨hg.os, hg.tape, hg.output, hg.size, hg.block⟩)
    unfold Own
    simpa using hown'

def zipP (xs ys : List Int) (k : Nat) : List Int := zipS (xs.take k) (ys.take k)
theorem zipP_snoc (xs ys : List Int) (k : Nat) (x y : Int) (h1 : k < xs.length) (h2 : k < ys.length) (hx : xs.getD k 0 = x) (hy : ys.getD k 0 = y) : zipP xs ys (k + 1) = zipP xs ys k ++ [x + y] := by
  unfold zipP
  rw [take_snoc xs k x h1 hx, take_snoc ys k y h2 hy]
  unfold zipS
  rw [List.zipWith_append (by simp; omega)]
  rfl
theorem zipP_len (xs ys : List Int) (k : Nat) : (zipP xs ys k).length ≤ k := by simp [zipP, zipS]; omega
theorem zipP_end (xs ys : List Int) (k : Nat) (h : xs.length ≤ k ∨ ys.length ≤ k) : zipP xs ys k = zipS xs ys := by
  apply List.ext_getElem?
  intro i
  unfold zipP zipS
  simp only [List.getElem?_zipWith, List.getElem?_take]
  by_cases h1 : i < k
  · rw [if_pos h1, if_pos h1]
  · rw [if_neg h1, if_neg h1]
    rcases h with h | h
    · have : xs[i]? = none := List.getElem?_eq_none (by omega)
      rw [this]
    · have : ys[i]? = none := List.getElem?_eq_none (by omega)
      rw [this]; cases xs[i]? <;> rfl

set_option maxHeartbeats 800000 in
theorem refZip_any (a b : Option Addr) (la lb ca cb : Nat) (xs ys : List Int) (w : World) (hA : Sl w a la ca xs) (hB : Sl w b lb cb ys) (hla : la ≤ 1000) (hlb : lb ≤ 1000) :
    Calls Try.prog 39 #[.slice a la ca, .slice b lb cb] w (GivesE (zipZ xs ys) (zipErr xs ys) w) := by
  have hxl := Lib.hid hA.hlen
  have hyl := Lib.hid hB.hlen
  have C1 := Lib.hid (refAll_any a la ca xs w hA hla)
  have C2 := Lib.hid (refAll_any b lb cb ys w hB hlb)
  obtain ⟨b1, o1, ha0, hac⟩ := hA.cell
  obtain ⟨b2, o2, hb0, hbc⟩ := hB.cell
  clear hA hB
  go_enter Try.func39, Try.ntmps39
  go_wp2_with fail
  refine C1.out.mono ?_
  rintro e w1 ⟨rfl, rfl⟩
  cases h1 : xs.all permB with
  | false =>
    have e0 : errAll xs = 1 := by unfold errAll; rw [h1]; rfl
    rw [e0]
    obtain ⟨e1, e2⟩ := zip_bad (xs := xs) (ys := ys) (by unfold zipOk; rw [h1]; rfl)
    have E1 := Lib.hid e1
    have E2 := Lib.hid e2
    clear h1 e1 e2 e0 hac hbc
    go_wp2
    go_ret2
    rw [E1.out, E2.out]
    exact ⟨_, rfl, Own.nil _ _, Below.refl _ _⟩
  | true =>
    have e0 : errAll xs = 0 := by unfold errAll; rw [h1]; rfl
    rw [e0]
    have H1 := Lib.hid h1
    clear h1 e0
    go_wp2_with fail
    refine C2.out.mono ?_
    rintro e w1 ⟨rfl, rfl⟩
    cases h2 : ys.all permB with
    | false =>
      have e0 : errAll ys = 1 := by unfold errAll; rw [h2]; rfl
      rw [e0]
      obtain ⟨e1, e2⟩ := zip_bad (xs := xs) (ys := ys) (by unfold zipOk; rw [H1.out, h2]; rfl)
      have E1 := Lib.hid e1
      have E2 := Lib.hid e2
      clear h2 e1 e2 e0 hac hbc
      go_wp2
      go_ret2
      rw [E1.out, E2.out]
      exact ⟨_, rfl, Own.nil _ _, Below.refl _ _⟩
    | true =>
      have e0 : errAll ys = 0 := by unfold errAll; rw [h2]; rfl
      rw [e0]
      have H2 := Lib.hid h2
      clear h2 e0
      go_wp2
      go_loopw [6, 7] (fun v i wr => ∃ k : Nat, i = .int .i64 k ∧ k ≤ lb ∧ RefRel (zipP xs ys k) w k la v wr) (fun _ i _ => la - (intOf i).toNat)
      case atStart => exact ⟨0, rfl, by omega, by omega, Own.nil _ _, Below.refl _ _⟩
      case round =>
        obtain ⟨k, rfl, hkb, hk, hown, hbel⟩ := hrel
        by_cases hlt : k < la ∧ k < lb
        · obtain ⟨hlta, hltb⟩ := hlt
          obtain ⟨rfl, hb1⟩ := ha0 (by omega)
          obtain ⟨rfl, hb2⟩ := hb0 (by omega)
          have c1 : wr.cell? ⟨b1, o1 + k, none⟩ = some (.int .i64 (xs.getD k 0)) := (hbel.cell hb1).trans (hac k hlta)
          have c2 : wr.cell? ⟨b2, o2 + k, none⟩ = some (.int .i64 (ys.getD k 0)) := (hbel.cell hb2).trans (hbc k hltb)
          have hxp : permB (xs.getD k 0) = true := by
            cases hq : permB (xs.getD k 0) with
            | true => rfl
            | false => have := all_at_false permB xs k _ (by rw [hxl.out]; exact hlta) rfl hq; rw [H1.out] at this; cases this
          have hyp : permB (ys.getD k 0) = true := by
            cases hq : permB (ys.getD k 0) with
            | true => rfl
            | false => have := all_at_false permB ys k _ (by rw [hyl.out]; omega) rfl hq; rw [H2.out] at this; cases this
          generalize hx : xs.getD k 0 = x at c1 hxp
          generalize hy : ys.getD k 0 = y at c2 hyp
          have hst := Lib.hid (zipP_snoc xs ys k x y (by rw [hxl.out]; exact hlta) (by rw [hyl.out]; exact hltb) hx hy)
          have hpl := zipP_len xs ys k
          have hxb := permB_true hxp
          have hyb := permB_true hyp
          have hwr : IntKind.i64.wrap (x + y) = x + y := IntWalk.i64_in _ (by omega)
          have hs := hbel.size
          have hn : ∀ k, u6.ownBlock = some k → w.heap.size ≤ k := fun k hk => (hown.lt k hk).1
          clear hx hxp hy hyp hbc hb0 hac ha0
          go_wp2
          go_region_law (refine step_push rfl (.tmp 29) (.tmp 39) rfl w.heap.size _ _ _ rfl hown rfl (by omega) hs ?_; intro v' w3 hown3 hg3)
          all_goals
            clear hwr
            go_wp2
            go_roundw
            case rel => exact ⟨k + 1, by go_num, by omega, by omega, by rw [hst.out]; exact hown3, hbel.grown hg3 hs hn⟩
            case measure => simp [intOf]; omega
        · have hk' := Lib.hid (zipP_end xs ys k (by rw [hxl.out, hyl.out]; omega))
          have hzl : (zipP xs ys k).length ≤ 1000 := by have := zipP_len xs ys k; omega
          obtain ⟨ao, co, rfl, hso⟩ := hown.sl
          have hcall2 := Lib.hid (refAll_any ao _ co _ wr hso hzl)
          rw [hk'.out] at hcall2 hown
          have HO := Lib.hid hown
          have hcase : k < la ∨ ¬ k < la := by omega
          have hge : k < la → ¬ k < lb := by omega
          clear hso hac hbc ha0 hb0 hown hlt
          rcases hcase with hk1 | hk1
          case' inl => have hk2 := hge hk1
          all_goals
            clear hge
            go_wp2_with fail
            rw [hk'.out]
            refine hcall2.out.mono ?_
            rintro e w4 ⟨rfl, rfl⟩
            cases h3 : (zipS xs ys).all permB with
            | false =>
              have e0 : errAll (zipS xs ys) = 1 := by unfold errAll; rw [h3]; rfl
              rw [e0]
              obtain ⟨e1, e2⟩ := zip_bad (xs := xs) (ys := ys) (by unfold zipOk; rw [H1.out, H2.out, h3]; rfl)
              have E1 := Lib.hid e1
              have E2 := Lib.hid e2
              clear h3 e1 e2 e0
              go_wp2
              go_ret2
              rw [E1.out, E2.out]
              exact ⟨_, rfl, Own.nil _ _, hbel⟩
            | true =>
              have e0 : errAll (zipS xs ys) = 0 := by unfold errAll; rw [h3]; rfl
              rw [e0]
              obtain ⟨e1, e2⟩ := zip_good (xs := xs) (ys := ys) (by unfold zipOk; rw [H1.out, H2.out, h3]; rfl)
              have E1 := Lib.hid e1
              have E2 := Lib.hid e2
              clear h3 e1 e2 e0
              go_wp2
              go_ret2
              rw [E1.out, E2.out]
              exact ⟨_, rfl, HO.out, hbel⟩
end Go.Proofs.Ytecjnenjjedceaa
