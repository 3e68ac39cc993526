/- A term that came in, opened. -/
import Derived.Test.YtdljffplooplcaaBase
import Derived.OpenShut
namespace Go.Proofs.Ytdljffplooplcaa
open Go.ChangeShapes Go.WideShapes Go.RowKit
set_option linter.unusedVariables false

theorem cellsOf36 : Try.prog.cellsOf 36 = 2 := by kernel_rfl
theorem cellsOf3 : Try.prog.cellsOf 3 = 1 := by kernel_rfl
theorem cellsOf30 : Try.prog.cellsOf 30 = 1 := by kernel_rfl
/-- below the heap's size -/
def Here (w : World) : Nat → Prop := fun k => k < w.heap.size
theorem Here.under (w : World) : Under (Here w) w.heap.size := fun _ h => h

theorem cells2 {w : World} {base : Nat} {a : Addr} {c0 c1 : Value} (h : w.cells? base a 2 = some [c0, c1]) : w.cell? (a.add 0) = some c0 ∧ w.cell? (a.add 1) = some c1 := by
  unfold World.cells? at h
  split at h
  · have e : List.range 2 = [0, 1] := rfl
    rw [e] at h
    simp only [List.mapM_cons, List.mapM_nil, Option.bind_eq_bind, Option.pure_def] at h
    cases h0 : w.cell? (a.add 0) with
    | none => rw [h0] at h; cases h
    | some x =>
      cases h1 : w.cell? (a.add 1) with
      | none => rw [h0, h1] at h; cases h
      | some y =>
        rw [h0, h1] at h
        cases h
        exact ⟨rfl, rfl⟩
  · cases h

theorem open_term {H : Type} {enc : TypeId × Value → H} {w : World} {base : Nat} {spare : Nat → Bool} {held : Bool} : ∀ (fuel : Nat) (cs : List Value) (x : DataW H × List MemPlace),
    DataW.trod enc Try.prog w base spare held fuel 36 cs = some x → ∃ (t : T) (v : Value), cs = [.int .i64 t.rule, v] ∧ ArgsAt w (Here w) v t.args := by
  intro fuel
  induction fuel using Nat.strongRecOn with
  | _ fuel ih =>
    intro cs x hx
    obtain ⟨xs, n, rfl, _, hcl, hxl, hf⟩ := DataW.trod_struct Try.underlying36 hx
    rw [cellsOf36] at hcl
    match cs, hcl with
    | [c0, c1], _ =>
      have hxl2 : xs.length = 2 := hxl
      have f0 : DataW.trod enc Try.prog w base spare held n 3 (List.take (Try.prog.cellsOf 3) (List.drop 0 [c0, c1])) = xs[0]? := hf 0 _ rfl
      have f1 : DataW.trod enc Try.prog w base spare held n 30 (List.take (Try.prog.cellsOf 30) (List.drop 1 [c0, c1])) = xs[1]? := hf 1 _ rfl
      rw [cellsOf3, List.getElem?_eq_getElem (by omega)] at f0
      rw [cellsOf30, List.getElem?_eq_getElem (by omega)] at f1
      obtain ⟨r, hr, _, _⟩ := DataW.trod_int Try.underlying3 f0
      cases hr
      rcases DataW.trod_slice Try.underlying30 f1 with ⟨h0, _⟩ | ⟨a, len, cap, elems, rest, m, hm, h0, _, _, hlc, hcm, hel, hat, _, _⟩
      · cases h0
        exact ⟨.node r [], _, rfl, ArgsAt.nil _ _⟩
      · cases h0
        subst hm
        have key : ∀ i, ∃ p : T × Value, i < len → w.cell? ((a.add (i * 2)).add 0) = some (.int .i64 p.1.rule) ∧ w.cell? ((a.add (i * 2)).add 1) = some p.2 ∧ ArgsAt w (Here w) p.2 p.1.args := by
          intro i
          by_cases hi : i < len
          · have h := hat i hi
            rw [cellsOf36, List.getElem?_eq_getElem (by omega)] at h
            obtain ⟨ccs, hcells, htr⟩ := Option.bind_eq_some_iff.1 h
            obtain ⟨t, v, rfl, hA⟩ := ih m (by omega) ccs _ htr
            have h2 := cells2 hcells
            exact ⟨(t, v), fun _ => ⟨h2.1, h2.2, hA⟩⟩
          · exact ⟨(default, undef), fun h => absurd h hi⟩
        obtain ⟨f, hff⟩ := Classical.axiomOfChoice key
        have hgd : ∀ i, i < len → ((List.range len).map fun i => (f i).1).getD i default = (f i).1 := fun i hi => by simp [List.getD, hi]
        refine ⟨.node r ((List.range len).map fun i => (f i).1), _, rfl, ?_⟩
        by_cases h0 : 0 < len
        · obtain ⟨b, off, spot⟩ := a
          have h1 := (hff 0 h0).1
          have h1 : w.cell? ⟨b, off, spot⟩ = some (.int .i64 (f 0).1.rule) := h1
          have hs : spot = none := World.cell?_spot h1
          subst hs
          have hb : b < w.heap.size := World.block_lt_of_cell? w _ h1
          refine .mk _ len cap ((List.range len).map fun i => (f i).1) b off (fun i => (f i).2) (by rw [List.length_map, List.length_range]) hlc hcm (fun _ => ⟨rfl, hb⟩) ?_ ?_ ?_
          · intro i hi
            have h2 := (hff i hi).1
            rw [Addr.add_lit, Addr.add_lit, Nat.add_zero] at h2
            show w.cell? _ = some (.int .i64 (T.rule (((List.range len).map fun i => (f i).1).getD i default)))
            rw [hgd i hi]; exact h2
          · intro i hi
            have h2 := (hff i hi).2.1
            rw [Addr.add_lit, Addr.add_lit] at h2
            exact h2
          · intro i hi
            show ArgsAt w (Here w) (f i).2 (T.args (((List.range len).map fun i => (f i).1).getD i default))
            rw [hgd i hi]
            exact (hff i hi).2.2
        · have : len = 0 := by omega
          subst this
          exact .mk _ 0 cap _ 0 0 (fun _ => undef) rfl hlc hcm (fun h => by omega) (fun i h => by omega) (fun i h => by omega) (fun i h => by omega)
end Go.Proofs.Ytdljffplooplcaa
