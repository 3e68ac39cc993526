/- A slice of operations that came in, opened; light. -/
import Derived.Test.YtdljffplooplcaaOpen
import Derived.Test.YtdljffplooplcaaCopied
namespace Go.Proofs.Ytdljffplooplcaa
open Go.ChangeShapes Go.WideShapes Go.RowKit
set_option linter.unusedVariables false

structure OpT where
  kind : Int
  key : ByteArray
  term : T
instance : Inhabited OpT := ⟨⟨0, ⟨#[]⟩, .node 0 []⟩⟩

/-- The slice reads as these operations. -/
structure OpsAt (w : World) (a : Option Addr) (len cap : Nat) (b off : Nat) (vs : Nat → Value) (ops : List OpT) : Prop where
  hlen : ops.length = len
  hcap : len ≤ cap
  hmax : cap ≤ maxLen
  ha : 0 < len → a = some ⟨b, off, none⟩ ∧ b < w.heap.size
  h0 : ∀ i, i < len → w.cell? ⟨b, off + i * 4, none⟩ = some (.int .i64 (ops.getD i default).kind)
  h1 : ∀ i, i < len → w.cell? ⟨b, off + i * 4 + 1, none⟩ = some (.string (ops.getD i default).key)
  h2 : ∀ i, i < len → w.cell? ⟨b, off + i * 4 + 2, none⟩ = some (.int .i64 (ops.getD i default).term.rule)
  h3 : ∀ i, i < len → w.cell? ⟨b, off + i * 4 + 3, none⟩ = some (vs i)
  hs : ∀ i, i < len → ArgsAt w (Here w) (vs i) (ops.getD i default).term.args

theorem cellsOf38 : Try.prog.cellsOf 38 = 4 := by kernel_rfl
theorem cellsOf9 : Try.prog.cellsOf 9 = 1 := by kernel_rfl
theorem cells4 {w : World} {base : Nat} {a : Addr} {c0 c1 c2 c3 : Value} (h : w.cells? base a 4 = some [c0, c1, c2, c3]) : w.cell? (a.add 0) = some c0 ∧ w.cell? (a.add 1) = some c1 ∧ w.cell? (a.add 2) = some c2 ∧ w.cell? (a.add 3) = some c3 := by
  unfold World.cells? at h
  split at h
  · have e : List.range 4 = [0, 1, 2, 3] := rfl
    rw [e] at h
    simp only [List.mapM_cons, List.mapM_nil, Option.bind_eq_bind, Option.pure_def] at h
    cases h0 : w.cell? (a.add 0) with
    | none => rw [h0] at h; cases h
    | some x =>
      cases h1 : w.cell? (a.add 1) with
      | none => rw [h0, h1] at h; cases h
      | some y =>
        cases h2 : w.cell? (a.add 2) with
        | none => rw [h0, h1, h2] at h; cases h
        | some z =>
          cases h3 : w.cell? (a.add 3) with
          | none => rw [h0, h1, h2, h3] at h; cases h
          | some u =>
            rw [h0, h1, h2, h3] at h
            cases h
            exact ⟨rfl, rfl, rfl, rfl⟩
  · cases h

theorem open_op {H : Type} {enc : TypeId × Value → H} {w : World} {base : Nat} {spare : Nat → Bool} {held : Bool} (fuel : Nat) (cs : List Value) (x : DataW H × List MemPlace)
    (hx : DataW.trod enc Try.prog w base spare held fuel 38 cs = some x) : ∃ (o : OpT) (v : Value), cs = [.int .i64 o.kind, .string o.key, .int .i64 o.term.rule, v] ∧ ArgsAt w (Here w) v o.term.args := by
  obtain ⟨xs, n, rfl, _, hcl, hxl, hf⟩ := DataW.trod_struct Try.underlying38 hx
  rw [cellsOf38] at hcl
  match cs, hcl with
  | [c0, c1, c2, c3], _ =>
    have hxl3 : xs.length = 3 := hxl
    have f0 : DataW.trod enc Try.prog w base spare held n 3 (List.take (Try.prog.cellsOf 3) (List.drop 0 [c0, c1, c2, c3])) = xs[0]? := hf 0 _ rfl
    have f1 : DataW.trod enc Try.prog w base spare held n 9 (List.take (Try.prog.cellsOf 9) (List.drop 1 [c0, c1, c2, c3])) = xs[1]? := hf 1 _ rfl
    have f2 : DataW.trod enc Try.prog w base spare held n 36 (List.take (Try.prog.cellsOf 36) (List.drop 2 [c0, c1, c2, c3])) = xs[2]? := hf 2 _ rfl
    rw [cellsOf3, List.getElem?_eq_getElem (by omega)] at f0
    rw [cellsOf9, List.getElem?_eq_getElem (by omega)] at f1
    rw [cellsOf36, List.getElem?_eq_getElem (by omega)] at f2
    obtain ⟨r, hr, _, _⟩ := DataW.trod_int Try.underlying3 f0
    cases hr
    obtain ⟨s, hs, _⟩ := DataW.trod_string Try.underlying9 f1
    cases hs
    obtain ⟨t, v', he, hA⟩ := open_term n _ _ f2
    cases he
    exact ⟨⟨r, s, t⟩, _, rfl, hA⟩

theorem open_ops {H : Type} {enc : TypeId × Value → H} {w : World} {base : Nat} {spare : Nat → Bool} {held : Bool} (fuel : Nat) (v : Value) (x : DataW H × List MemPlace)
    (hx : DataW.trod enc Try.prog w base spare held fuel 22 [v] = some x) : ∃ a len cap b off vs ops, v = .slice a len cap ∧ OpsAt w a len cap b off vs ops := by
  rcases DataW.trod_slice Try.underlying22 hx with ⟨h0, _⟩ | ⟨a, len, cap, elems, rest, m, hm, h0, _, _, hlc, hcm, hel, hat, _, _⟩
  · cases h0
    exact ⟨none, 0, 0, 0, 0, fun _ => undef, [], rfl, rfl, Nat.le_refl _, by unfold maxLen; omega, fun h => by omega, fun i h => by omega, fun i h => by omega, fun i h => by omega, fun i h => by omega, fun i h => by omega⟩
  · cases h0
    subst hm
    have key : ∀ i, ∃ p : OpT × Value, i < len → (w.cell? ((a.add (i * 4)).add 0) = some (.int .i64 p.1.kind) ∧ w.cell? ((a.add (i * 4)).add 1) = some (.string p.1.key) ∧ w.cell? ((a.add (i * 4)).add 2) = some (.int .i64 p.1.term.rule) ∧ w.cell? ((a.add (i * 4)).add 3) = some p.2) ∧ ArgsAt w (Here w) p.2 p.1.term.args := by
      intro i
      by_cases hi : i < len
      · have h := hat i hi
        rw [cellsOf38, List.getElem?_eq_getElem (by omega)] at h
        obtain ⟨ccs, hcells, htr⟩ := Option.bind_eq_some_iff.1 h
        obtain ⟨o, v, rfl, hA⟩ := open_op _ _ _ htr
        exact ⟨(o, v), fun _ => ⟨cells4 hcells, hA⟩⟩
      · exact ⟨(default, undef), fun h => absurd h hi⟩
    obtain ⟨f, hff⟩ := Classical.axiomOfChoice key
    have hgd : ∀ i, i < len → ((List.range len).map fun i => (f i).1).getD i default = (f i).1 := fun i hi => by simp [List.getD, hi]
    by_cases h0 : 0 < len
    · obtain ⟨b, off, spot⟩ := a
      have h1 := (hff 0 h0).1.1
      have h1 : w.cell? ⟨b, off, spot⟩ = some (.int .i64 (f 0).1.kind) := h1
      have hs : spot = none := World.cell?_spot h1
      subst hs
      have hb : b < w.heap.size := World.block_lt_of_cell? w _ h1
      refine ⟨_, len, cap, b, off, fun i => (f i).2, (List.range len).map fun i => (f i).1, rfl, by rw [List.length_map, List.length_range], hlc, hcm, fun _ => ⟨rfl, hb⟩, ?_, ?_, ?_, ?_, ?_⟩
      · intro i hi
        have h2 := (hff i hi).1.1
        rw [Addr.add_lit, Addr.add_lit, Nat.add_zero] at h2
        rw [hgd i hi]; exact h2
      · intro i hi
        have h2 := (hff i hi).1.2.1
        rw [Addr.add_lit, Addr.add_lit] at h2
        rw [hgd i hi]; exact h2
      · intro i hi
        have h2 := (hff i hi).1.2.2.1
        rw [Addr.add_lit, Addr.add_lit] at h2
        rw [hgd i hi]; exact h2
      · intro i hi
        have h2 := (hff i hi).1.2.2.2
        rw [Addr.add_lit, Addr.add_lit] at h2
        exact h2
      · intro i hi
        rw [hgd i hi]; exact (hff i hi).2
    · have : len = 0 := by omega
      subst this
      exact ⟨_, 0, cap, 0, 0, fun _ => undef, [], rfl, rfl, hlc, hcm, fun h => by omega, fun i h => by omega, fun i h => by omega, fun i h => by omega, fun i h => by omega, fun i h => by omega⟩

theorem OpsAt.below {w w' : World} {a : Option Addr} {len cap b off : Nat} {vs : Nat → Value} {ops : List OpT} (h : OpsAt w a len cap b off vs ops) (hb : Below w.heap.size w w') :
    (∀ i, i < len → w'.cell? ⟨b, off + i * 4, none⟩ = some (.int .i64 (ops.getD i default).kind) ∧ w'.cell? ⟨b, off + i * 4 + 1, none⟩ = some (.string (ops.getD i default).key) ∧
      w'.cell? ⟨b, off + i * 4 + 2, none⟩ = some (.int .i64 (ops.getD i default).term.rule) ∧ w'.cell? ⟨b, off + i * 4 + 3, none⟩ = some (vs i) ∧ ArgsAt w' (Here w) (vs i) (ops.getD i default).term.args) := by
  intro i hi
  have hlt := (h.ha (by omega)).2
  exact ⟨(hb.cell hlt).trans (h.h0 i hi), (hb.cell hlt).trans (h.h1 i hi), (hb.cell hlt).trans (h.h2 i hi), (hb.cell hlt).trans (h.h3 i hi), (h.hs i hi).kept (Below.keptB hb (Here.under w))⟩

/-- light -/
def lightT (ops : List OpT) : Bool := decide (ops.length ≤ 40) && ops.all fun o => decide (o.key.size ≤ 60) && decide (tsize o.term ≤ 20)
theorem lightT_of {ops : List OpT} (h : lightT ops = true) : ops.length ≤ 40 ∧ ∀ i, i < ops.length → (ops.getD i default).key.size ≤ 60 ∧ tsize (ops.getD i default).term ≤ 20 := by
  unfold lightT at h
  simp only [Bool.and_eq_true, decide_eq_true_eq, List.all_eq_true] at h
  refine ⟨h.1, fun i hi => ?_⟩
  have := h.2 (ops.getD i default) (by simp [List.getD, hi])
  exact this

set_option maxHeartbeats 1000000 in
theorem light_any {w : World} {a : Option Addr} {len cap b off : Nat} {vs : Nat → Value} {ops : List OpT} (h : OpsAt w a len cap b off vs ops) :
    Calls Try.prog 8 #[.slice a len cap] w (OneB (lightT ops) w) := by
  have hl := h.hlen
  have hcap := h.hcap
  have hmx : cap ≤ 9223372036854775807 := by have := h.hmax; unfold maxLen at this; omega
  have ha := h.ha
  have HO := Lib.hid h
  clear h
  by_cases h40 : len ≤ 40
  · have hll : lightT ops = ops.all fun o => decide (o.key.size ≤ 60) && decide (tsize o.term ≤ 20) := by unfold lightT; rw [hl]; simp [h40]
    have HLL := Lib.hid hll
    have HL := Lib.hid hl
    clear hll hl
    unfold OneB
    generalize lightT ops = L at *
    have hk40 : ¬ (40 : Int) < len := by omega
    go_enter Try.func8, Try.ntmps8
    go_wp2
    go_loopw [3] (fun i wr => ∃ k : Nat, k ≤ len ∧ i = .int .i64 k ∧ Below w.heap.size w wr ∧ (∀ j, j < k → (ops.getD j default).key.size ≤ 60 ∧ tsize (ops.getD j default).term ≤ 20)) (fun i _ => len - (intOf i).toNat)
    case atStart => exact ⟨0, by omega, rfl, Below.refl _ _, fun j hj => by omega⟩
    case round =>
      obtain ⟨k, hk, rfl, hbel, hsf⟩ := hrel
      have HSF := Lib.hid hsf
      clear hsf
      by_cases hlt : k < len
      · obtain ⟨rfl, hb⟩ := ha (by omega)
        obtain ⟨c0, c1, c2, c3, c4⟩ := HO.out.below hbel k hlt
        obtain ⟨av, lv, qv, hv⟩ := c4.slice
        rw [hv] at c3 c4
        have hfalse : ¬ ((ops.getD k default).key.size ≤ 60 ∧ tsize (ops.getD k default).term ≤ 20) → L = false := fun hn => by
          rw [HLL.out]
          rw [← Bool.not_eq_true, List.all_eq_true]
          intro hall
          have := hall (ops.getD k default) (by have := HL.out; simp [List.getD, this, hlt])
          simp only [Bool.and_eq_true, decide_eq_true_eq] at this
          exact hn this
        have HF := Lib.hid hfalse
        have HBEL := Lib.hid hbel
        clear hfalse
        have HA := Lib.hid c4
        have HST := Lib.hid (show ∀ (_ : (ops.getD k default).key.size ≤ 60) (_ : tsize (ops.getD k default).term ≤ 20), ∀ j, j < k + 1 → (ops.getD j default).key.size ≤ 60 ∧ tsize (ops.getD j default).term ≤ 20 from fun h1 h2 j hj => by
          by_cases e : j = k
          · subst e; exact ⟨h1, h2⟩
          · exact HSF.out j (by omega))
        generalize ops.getD k default = o at *
        clear c4 hbel
        by_cases h60 : (60 : Int) < o.key.size
        · have hx := HF.out (by omega)
          subst hx
          go_wp2
          go_ret
          exact ⟨rfl, HBEL.out⟩
        · go_wp2_with fail
          refine (within_any o.term (.slice av lv qv) 20 (Here w) wr (by decide) (by decide) ((Here.under w).le HBEL.out.size) HA.out).mono ?_
          by_cases h20 : (tsize o.term : Int) ≤ 20
          · have hd : decide ((tsize o.term : Int) ≤ 20) = true := by simp [h20]
            rw [hd]
            rintro e w2 ⟨rfl, hb2⟩
            have HB2 := Lib.hid hb2
            clear hb2
            go_wp2
            go_roundw
            case rel => exact ⟨k + 1, by omega, by go_num, Below.next HBEL.out HB2.out, HST.out (by omega) (by omega)⟩
            case measure => simp [intOf]; omega
          · have hd : decide ((tsize o.term : Int) ≤ 20) = false := by simp [h20]
            rw [hd]
            rintro e w2 ⟨rfl, hb2⟩
            have hx := HF.out (by omega)
            subst hx
            go_wp2
            go_ret
            exact ⟨rfl, Below.next HBEL.out hb2⟩
      · have hk' : k = len := by omega
        have hkl : ¬ (k : Int) < len := by omega
        have hx : L = true := by
          rw [HLL.out, List.all_eq_true]
          intro o ho
          obtain ⟨i, hi, rfl⟩ := List.mem_iff_getElem.1 ho
          have := HSF.out i (by have := HL.out; omega)
          simp only [Bool.and_eq_true, decide_eq_true_eq]
          simpa [List.getD, hi] using this
        subst hx
        go_wp2
        go_ret
        exact ⟨rfl, hbel⟩
  · have hll : lightT ops = false := by unfold lightT; rw [hl]; simp [h40]
    rw [hll]
    have hk40 : (40 : Int) < len := by omega
    go_enter Try.func8, Try.ntmps8
    go_wp2
    go_ret
    exact ⟨rfl, Below.refl _ _⟩
end Go.Proofs.Ytdljffplooplcaa
