/- A problem that came in, opened. -/
import Derived.Test.YtamidopeojipkaaBase
import Derived.OpenShut
namespace Go.Proofs.Ytamidopeojipkaa
open Go.ChangeShapes Go.WideShapes Go.RowKit
set_option linter.unusedVariables false

theorem cellsOf46 : Try.prog.cellsOf 46 = 2 := by kernel_rfl
theorem cellsOf3' : Try.prog.cellsOf 3 = 1 := by kernel_rfl
theorem cellsOf22 : Try.prog.cellsOf 22 = 1 := by kernel_rfl
theorem cellsOf23 : Try.prog.cellsOf 23 = 1 := by kernel_rfl
theorem cellsOf39 : Try.prog.cellsOf 39 = 1 := by kernel_rfl
theorem cellsOf25 : Try.prog.cellsOf 25 = 2 := by kernel_rfl

theorem cells1 {w : World} {base : Nat} {a : Addr} {cs : List Value} (h : w.cells? base a 1 = some cs) : ∃ c0, cs = [c0] ∧ w.cell? (a.add 0) = some c0 := by
  unfold World.cells? at h
  split at h
  · have e : List.range 1 = [0] := rfl
    rw [e] at h
    simp only [List.mapM_cons, List.mapM_nil, Option.bind_eq_bind, Option.pure_def] at h
    cases h0 : w.cell? (a.add 0) with
    | none => rw [h0] at h; cases h
    | some x =>
      rw [h0] at h
      cases h
      exact ⟨x, rfl, rfl⟩
  · cases h
theorem cells2 {w : World} {base : Nat} {a : Addr} {cs : List Value} (h : w.cells? base a 2 = some cs) : ∃ c0 c1, cs = [c0, c1] ∧ w.cell? (a.add 0) = some c0 ∧ w.cell? (a.add 1) = some c1 := by
  unfold World.cells? at h
  split at h
  · have e : List.range 2 = [0, 1] := rfl
    rw [e] at h
    simp only [List.mapM_cons, List.mapM_nil, Option.bind_eq_bind, Option.pure_def] at h
    cases h0 : w.cell? (a.add 0) with
    | none => rw [h0] at h; cases h
    | some x =>
      cases h1 : w.cell? (a.add 1) with
      | none => rw [h0, h1] at h; cases h
      | some y =>
        rw [h0, h1] at h
        cases h
        exact ⟨x, y, rfl, rfl, rfl⟩
  · cases h

variable {H : Type} {enc : TypeId × Value → H} {w : World} {base : Nat} {spare : Nat → Bool} {held : Bool}
theorem open_ints {fuel : Nat} {cs : List Value} {x : DataW H × List MemPlace} (h : DataW.trod enc Try.prog w base spare held fuel 22 cs = some x) : ∃ v xs, cs = [v] ∧ IntsAt w (Here w) v xs := by
  rcases DataW.trod_slice Try.underlying22 h with ⟨h0, _⟩ | ⟨a, len, cap, elems, rest, m, hm, h0, _, _, hlc, hcm, hel, hat, _, _⟩
  · exact ⟨_, [], h0, IntsAt.nil _ _⟩
  · have key : ∀ i, ∃ n : Int, i < len → w.cell? (a.add i) = some (.int .i64 n) := by
      intro i
      by_cases hi : i < len
      · have h := hat i hi
        rw [cellsOf3', List.getElem?_eq_getElem (by omega)] at h
        obtain ⟨ccs, hcells, htr⟩ := Option.bind_eq_some_iff.1 h
        obtain ⟨c0, rfl, hc⟩ := cells1 hcells
        obtain ⟨r, hr, _, _⟩ := DataW.trod_int Try.underlying3 htr
        cases hr
        refine ⟨r, fun _ => ?_⟩
        rw [Nat.mul_one] at hc
        simpa [Addr.add] using hc
      · exact ⟨0, fun h => absurd h hi⟩
    obtain ⟨f, hf⟩ := Classical.axiomOfChoice key
    have hgd : ∀ i, i < len → ((List.range len).map f).getD i 0 = f i := fun i hi => by simp [List.getD, hi]
    have hlen : ((List.range len).map f).length = len := by simp
    refine ⟨_, (List.range len).map f, h0, ?_⟩
    by_cases hz : 0 < len
    · obtain ⟨b, off, spot⟩ := a
      have h1 := hf 0 hz
      have h1 : w.cell? ⟨b, off, spot⟩ = some (.int .i64 (f 0)) := h1
      have hs : spot = none := World.cell?_spot h1
      subst hs
      have hb : b < w.heap.size := World.block_lt_of_cell? w _ h1
      refine ⟨_, cap, b, off, by rw [hlen], ?_⟩
      rw [hlen]
      refine ⟨hlc, hcm, fun _ => ⟨rfl, hb⟩, fun j hj => ?_⟩
      rw [Nat.mul_one] at hj
      have h2 := hf j hj
      rw [Addr.add_lit] at h2
      rw [hgd j hj]; exact h2
    · have : len = 0 := by omega
      subst this
      exact ⟨_, cap, 0, 0, rfl, hlc, hcm, fun h => by simp at h, fun j hj => by simp at hj⟩
theorem open_lists {fuel : Nat} {cs : List Value} {x : DataW H × List MemPlace} (h : DataW.trod enc Try.prog w base spare held fuel 39 cs = some x) : ∃ v xs, cs = [v] ∧ ListsAt w (Here w) v xs := by
  rcases DataW.trod_slice Try.underlying39 h with ⟨h0, _⟩ | ⟨a, len, cap, elems, rest, m, hm, h0, _, _, hlc, hcm, hel, hat, _, _⟩
  · exact ⟨_, [], h0, none, 0, 0, 0, fun _ => undef, rfl, ⟨Nat.le_refl _, by unfold maxLen; omega, fun h => by simp at h, fun j hj => by simp at hj⟩, fun i hi => by simp at hi⟩
  · have key : ∀ i, ∃ n : Value × List Int, i < len → w.cell? (a.add i) = some n.1 ∧ IntsAt w (Here w) n.1 n.2 := by
      intro i
      by_cases hi : i < len
      · have h := hat i hi
        rw [cellsOf22, List.getElem?_eq_getElem (by omega)] at h
        obtain ⟨ccs, hcells, htr⟩ := Option.bind_eq_some_iff.1 h
        obtain ⟨c0, rfl, hc⟩ := cells1 hcells
        obtain ⟨v, xs, he, hI⟩ := open_ints htr
        cases he
        refine ⟨(c0, xs), fun _ => ⟨?_, hI⟩⟩
        rw [Nat.mul_one] at hc
        simpa [Addr.add] using hc
      · exact ⟨(undef, []), fun h => absurd h hi⟩
    obtain ⟨f, hf⟩ := Classical.axiomOfChoice key
    have hgd : ∀ i, i < len → ((List.range len).map fun i => (f i).2).getD i [] = (f i).2 := fun i hi => by simp [List.getD, hi]
    have hlen : ((List.range len).map fun i => (f i).2).length = len := by simp
    refine ⟨_, (List.range len).map fun i => (f i).2, h0, ?_⟩
    by_cases hz : 0 < len
    · obtain ⟨b, off, spot⟩ := a
      have h1 := (hf 0 hz).1
      have h1 : w.cell? ⟨b, off, spot⟩ = some (f 0).1 := h1
      have hs : spot = none := World.cell?_spot h1
      subst hs
      have hb : b < w.heap.size := World.block_lt_of_cell? w _ h1
      refine ⟨_, cap, b, off, fun i => (f i).1, by rw [hlen], ?_, fun i hi => ?_⟩
      · rw [hlen]
        refine ⟨hlc, hcm, fun _ => ⟨rfl, hb⟩, fun j hj => ?_⟩
        rw [Nat.mul_one] at hj
        have h2 := (hf j hj).1
        rw [Addr.add_lit] at h2
        exact h2
      · rw [hlen] at hi
        rw [hgd i hi]; exact (hf i hi).2
    · have : len = 0 := by omega
      subst this
      exact ⟨_, cap, 0, 0, fun _ => undef, rfl, ⟨hlc, hcm, fun h => by simp at h, fun j hj => by simp at hj⟩, fun i hi => by simp at hi⟩
theorem open_rel {fuel : Nat} {cs : List Value} {x : DataW H × List MemPlace} (h : DataW.trod enc Try.prog w base spare held fuel 46 cs = some x) : ∃ (v u : Value) (r : Rel), cs = [v, u] ∧ IntsAt w (Here w) v r.vars ∧ ListsAt w (Here w) u r.allowed := by
  obtain ⟨xs, n, rfl, _, hcl, hxl, hf⟩ := DataW.trod_struct Try.underlying46 h
  rw [cellsOf46] at hcl
  match cs, hcl with
  | [c0, c1], _ =>
    have hxl2 : xs.length = 2 := hxl
    have f0 : DataW.trod enc Try.prog w base spare held n 22 (List.take (Try.prog.cellsOf 22) (List.drop 0 [c0, c1])) = xs[0]? := hf 0 _ rfl
    have f1 : DataW.trod enc Try.prog w base spare held n 39 (List.take (Try.prog.cellsOf 39) (List.drop 1 [c0, c1])) = xs[1]? := hf 1 _ rfl
    rw [cellsOf22, List.getElem?_eq_getElem (by omega)] at f0
    rw [cellsOf39, List.getElem?_eq_getElem (by omega)] at f1
    obtain ⟨v, vs, he, hI⟩ := open_ints f0
    cases he
    obtain ⟨u, us, he2, hL⟩ := open_lists f1
    cases he2
    exact ⟨c0, c1, ⟨vs, us⟩, rfl, hI, hL⟩
theorem open_rels {fuel : Nat} {cs : List Value} {x : DataW H × List MemPlace} (h : DataW.trod enc Try.prog w base spare held fuel 23 cs = some x) : ∃ v rs, cs = [v] ∧ RelsAt w (Here w) v rs := by
  rcases DataW.trod_slice Try.underlying23 h with ⟨h0, _⟩ | ⟨a, len, cap, elems, rest, m, hm, h0, _, _, hlc, hcm, hel, hat, _, _⟩
  · exact ⟨_, [], h0, none, 0, 0, 0, fun _ => undef, rfl, ⟨Nat.le_refl _, by unfold maxLen; omega, fun h => by simp at h, fun j hj => by simp at hj⟩, fun i hi => by simp at hi⟩
  · have key : ∀ i, ∃ n : Value × Value × Rel, i < len → w.cell? ((a.add (i * 2)).add 0) = some n.1 ∧ w.cell? ((a.add (i * 2)).add 1) = some n.2.1 ∧ IntsAt w (Here w) n.1 n.2.2.vars ∧ ListsAt w (Here w) n.2.1 n.2.2.allowed := by
      intro i
      by_cases hi : i < len
      · have h := hat i hi
        rw [cellsOf46, List.getElem?_eq_getElem (by omega)] at h
        obtain ⟨ccs, hcells, htr⟩ := Option.bind_eq_some_iff.1 h
        obtain ⟨c0, c1, rfl, hc0, hc1⟩ := cells2 hcells
        obtain ⟨v, u, r, he, hI, hL⟩ := open_rel htr
        cases he
        exact ⟨(c0, c1, r), fun _ => ⟨hc0, hc1, hI, hL⟩⟩
      · exact ⟨(undef, undef, default), fun h => absurd h hi⟩
    obtain ⟨f, hf⟩ := Classical.axiomOfChoice key
    have hgd : ∀ i, i < len → ((List.range len).map fun i => (f i).2.2).getD i default = (f i).2.2 := fun i hi => by simp [List.getD, hi]
    have hlen : ((List.range len).map fun i => (f i).2.2).length = len := by simp
    refine ⟨_, (List.range len).map fun i => (f i).2.2, h0, ?_⟩
    by_cases hz : 0 < len
    · obtain ⟨b, off, spot⟩ := a
      have h1 := (hf 0 hz).1
      have h1 : w.cell? ⟨b, off, spot⟩ = some (f 0).1 := by simpa [Addr.add] using h1
      have hs : spot = none := World.cell?_spot h1
      subst hs
      have hb : b < w.heap.size := World.block_lt_of_cell? w _ h1
      refine ⟨_, cap, b, off, fun j => if j % 2 = 0 then (f (j / 2)).1 else (f (j / 2)).2.1, by rw [hlen], ?_, fun i hi => ?_⟩
      · rw [hlen]
        refine ⟨hlc, hcm, fun _ => ⟨rfl, hb⟩, fun j hj => ?_⟩
        have hj2 : j / 2 < len := by omega
        obtain ⟨g0, g1, _, _⟩ := hf (j / 2) hj2
        rw [Addr.add_lit, Addr.add_lit, Nat.add_zero] at g0
        rw [Addr.add_lit, Addr.add_lit] at g1
        by_cases e : j % 2 = 0
        · rw [if_pos e]
          rw [show off + j = off + j / 2 * 2 by omega]
          exact g0
        · rw [if_neg e]
          rw [show off + j = off + j / 2 * 2 + 1 by omega]
          exact g1
      · rw [hlen] at hi
        rw [hgd i hi]
        obtain ⟨_, _, g2, g3⟩ := hf i hi
        have e1 : i * 2 % 2 = 0 := by omega
        have e2 : i * 2 / 2 = i := by omega
        have e3 : ¬ (i * 2 + 1) % 2 = 0 := by omega
        have e4 : (i * 2 + 1) / 2 = i := by omega
        simp only [e1, e2, e3, e4, if_true, if_false]
        exact ⟨g2, g3⟩
    · have : len = 0 := by omega
      subst this
      exact ⟨_, cap, 0, 0, fun _ => undef, rfl, ⟨hlc, hcm, fun h => by simp at h, fun j hj => by simp at hj⟩, fun i hi => by simp at hi⟩
theorem open_problem {fuel : Nat} {cs : List Value} {x : DataW H × List MemPlace} (h : DataW.trod enc Try.prog w base spare held fuel 25 cs = some x) : ∃ (v u : Value) (p : Prob), cs = [v, u] ∧ IntsAt w (Here w) v p.sizes ∧ RelsAt w (Here w) u p.rels := by
  obtain ⟨xs, n, rfl, _, hcl, hxl, hf⟩ := DataW.trod_struct Try.underlying25 h
  rw [cellsOf25] at hcl
  match cs, hcl with
  | [c0, c1], _ =>
    have hxl2 : xs.length = 2 := hxl
    have f0 : DataW.trod enc Try.prog w base spare held n 22 (List.take (Try.prog.cellsOf 22) (List.drop 0 [c0, c1])) = xs[0]? := hf 0 _ rfl
    have f1 : DataW.trod enc Try.prog w base spare held n 23 (List.take (Try.prog.cellsOf 23) (List.drop 1 [c0, c1])) = xs[1]? := hf 1 _ rfl
    rw [cellsOf22, List.getElem?_eq_getElem (by omega)] at f0
    rw [cellsOf23, List.getElem?_eq_getElem (by omega)] at f1
    obtain ⟨v, vs, he, hI⟩ := open_ints f0
    cases he
    obtain ⟨u, us, he2, hL⟩ := open_rels f1
    cases he2
    exact ⟨c0, c1, ⟨vs, us⟩, rfl, hI, hL⟩
end Go.Proofs.Ytamidopeojipkaa
