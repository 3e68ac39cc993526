/- Definitions and small laws for the walks of this seat: lists of integers, lists of lists, relations and problems as they lie in memory. -/
import Derived.Test.YtamidopeojipkaaRows
import Derived.WalkKit
import Derived.WalkLawsBesides
import Derived.WalkSpells
import Derived.BigQuiet
import Derived.Deep.QuietTactic
import Derived.Lib.Hide
import Derived.Below
namespace Go.Proofs.Ytamidopeojipkaa
open Go.RowKit
set_option linter.unusedVariables false

/-- The blocks with P stand in w' as in w. -/
def Kept (P : Nat → Prop) (w w' : World) : Prop := ∀ k, P k → w'.heap[k]? = w.heap[k]?
/-- The blocks with P lie below n. -/
def Under (P : Nat → Prop) (n : Nat) : Prop := ∀ k, P k → k < n
theorem Under.le {P : Nat → Prop} {n m : Nat} (h : Under P n) (hm : n ≤ m) : Under P m := fun k hk => Nat.lt_of_lt_of_le (h k hk) hm
theorem Below.keptB {P : Nat → Prop} {w w' : World} {B : Nat} (h : Below B w w') (hh : Under P B) : Kept P w w' := fun k h1 => h.block k (hh k h1)
theorem Kept.cell {P : Nat → Prop} {w w' : World} (h : Kept P w w') {p : Addr} (h0 : P p.block) : w'.cell? p = w.cell? p := World.cell?_of_block (w := w) (h p.block h0)
theorem Below.next {w w1 w2 : World} (h : Below w.heap.size w w1) (h2 : Below w1.heap.size w1 w2) : Below w.heap.size w w2 := h.trans (h2.mono h.size)
/-- below the heap's size -/
def Here (w : World) : Nat → Prop := fun k => k < w.heap.size
theorem Here.under (w : World) : Under (Here w) w.heap.size := fun _ h => h
/-- blocks from lo to below hi -/
def Span (lo hi : Nat) : Nat → Prop := fun k => lo ≤ k ∧ k < hi

/-- A slice with n elements of size cells each, which read as row; its cells lie in a block with P. -/
structure RowAt (w : World) (P : Nat → Prop) (a : Option Addr) (n cap size b off : Nat) (row : Nat → Value) : Prop where
  hcap : n ≤ cap
  hmax : cap ≤ maxLen
  ha : 0 < n → a = some ⟨b, off, none⟩ ∧ P b
  hc : ∀ j, j < n * size → w.cell? ⟨b, off + j, none⟩ = some (row j)
theorem RowAt.kept {w w' : World} {P : Nat → Prop} {a : Option Addr} {n cap size b off : Nat} {row : Nat → Value} (h : RowAt w P a n cap size b off row) (hk : Kept P w w') : RowAt w' P a n cap size b off row :=
  ⟨h.hcap, h.hmax, h.ha, fun j hj => (hk.cell (p := ⟨b, off + j, none⟩) (h.ha (by rcases Nat.eq_zero_or_pos n with e | e; (subst e; simp at hj); exact e)).2).trans (h.hc j hj)⟩
theorem RowAt.wide {w : World} {P P' : Nat → Prop} {a : Option Addr} {n cap size b off : Nat} {row : Nat → Value} (h : RowAt w P a n cap size b off row) (hp : ∀ k, P k → P' k) : RowAt w P' a n cap size b off row :=
  ⟨h.hcap, h.hmax, fun h0 => ⟨(h.ha h0).1, hp _ (h.ha h0).2⟩, h.hc⟩

/-- The slice value v reads as these integers. -/
def IntsAt (w : World) (P : Nat → Prop) (v : Value) (xs : List Int) : Prop :=
  ∃ a cap b off, v = .slice a xs.length cap ∧ RowAt w P a xs.length cap 1 b off fun j => .int .i64 (xs.getD j 0)
theorem IntsAt.kept {w w' : World} {P : Nat → Prop} {v : Value} {xs : List Int} (h : IntsAt w P v xs) (hk : Kept P w w') : IntsAt w' P v xs := by
  obtain ⟨a, cap, b, off, hv, hr⟩ := h
  exact ⟨a, cap, b, off, hv, hr.kept hk⟩
theorem IntsAt.wide {w : World} {P P' : Nat → Prop} {v : Value} {xs : List Int} (h : IntsAt w P v xs) (hp : ∀ k, P k → P' k) : IntsAt w P' v xs := by
  obtain ⟨a, cap, b, off, hv, hr⟩ := h
  exact ⟨a, cap, b, off, hv, hr.wide hp⟩
theorem IntsAt.nil (w : World) (P : Nat → Prop) : IntsAt w P (.slice none 0 0) [] :=
  ⟨none, 0, 0, 0, rfl, Nat.le_refl _, by unfold maxLen; omega, fun h => by simp at h, fun j hj => by simp at hj⟩

/-- The slice value v reads as these lists. -/
def ListsAt (w : World) (P : Nat → Prop) (v : Value) (xss : List (List Int)) : Prop :=
  ∃ a cap b off vs, v = .slice a xss.length cap ∧ RowAt w P a xss.length cap 1 b off vs ∧ ∀ i, i < xss.length → IntsAt w P (vs i) (xss.getD i [])
theorem ListsAt.kept {w w' : World} {P : Nat → Prop} {v : Value} {xss : List (List Int)} (h : ListsAt w P v xss) (hk : Kept P w w') : ListsAt w' P v xss := by
  obtain ⟨a, cap, b, off, vs, hv, hr, hs⟩ := h
  exact ⟨a, cap, b, off, vs, hv, hr.kept hk, fun i hi => (hs i hi).kept hk⟩
theorem ListsAt.wide {w : World} {P P' : Nat → Prop} {v : Value} {xss : List (List Int)} (h : ListsAt w P v xss) (hp : ∀ k, P k → P' k) : ListsAt w P' v xss := by
  obtain ⟨a, cap, b, off, vs, hv, hr, hs⟩ := h
  exact ⟨a, cap, b, off, vs, hv, hr.wide hp, fun i hi => (hs i hi).wide hp⟩

structure Rel where
  vars : List Int
  allowed : List (List Int)
instance : Inhabited Rel := ⟨⟨[], []⟩⟩
structure Prob where
  sizes : List Int
  rels : List Rel
/-- The slice value v reads as these relations. -/
def RelsAt (w : World) (P : Nat → Prop) (v : Value) (rs : List Rel) : Prop :=
  ∃ a cap b off vs, v = .slice a rs.length cap ∧ RowAt w P a rs.length cap 2 b off vs ∧ ∀ i, i < rs.length → IntsAt w P (vs (i * 2)) (rs.getD i default).vars ∧ ListsAt w P (vs (i * 2 + 1)) (rs.getD i default).allowed
theorem RelsAt.kept {w w' : World} {P : Nat → Prop} {v : Value} {rs : List Rel} (h : RelsAt w P v rs) (hk : Kept P w w') : RelsAt w' P v rs := by
  obtain ⟨a, cap, b, off, vs, hv, hr, hs⟩ := h
  exact ⟨a, cap, b, off, vs, hv, hr.kept hk, fun i hi => ⟨(hs i hi).1.kept hk, (hs i hi).2.kept hk⟩⟩
theorem RelsAt.wide {w : World} {P P' : Nat → Prop} {v : Value} {rs : List Rel} (h : RelsAt w P v rs) (hp : ∀ k, P k → P' k) : RelsAt w P' v rs := by
  obtain ⟨a, cap, b, off, vs, hv, hr, hs⟩ := h
  exact ⟨a, cap, b, off, vs, hv, hr.wide hp, fun i hi => ⟨(hs i hi).1.wide hp, (hs i hi).2.wide hp⟩⟩
theorem IntsAt.slice {w : World} {P : Nat → Prop} {v : Value} {xs : List Int} (h : IntsAt w P v xs) : ∃ a l c, v = .slice a l c := by
  obtain ⟨a, cap, b, off, hv, _⟩ := h; exact ⟨_, _, _, hv⟩
theorem ListsAt.slice {w : World} {P : Nat → Prop} {v : Value} {xs : List (List Int)} (h : ListsAt w P v xs) : ∃ a l c, v = .slice a l c := by
  obtain ⟨a, cap, b, off, vs, hv, _⟩ := h; exact ⟨_, _, _, hv⟩
theorem RelsAt.slice {w : World} {P : Nat → Prop} {v : Value} {xs : List Rel} (h : RelsAt w P v xs) : ∃ a l c, v = .slice a l c := by
  obtain ⟨a, cap, b, off, vs, hv, _⟩ := h; exact ⟨_, _, _, hv⟩

/-- What a call that hands back one number, one flag, comes to. -/
def OneI (n : Int) (w : World) (e : Ending) (w' : World) : Prop := e = .returned (.int .i64 n) ∧ Below w.heap.size w w'
def OneB (b : Bool) (w : World) (e : Ending) (w' : World) : Prop := e = .returned (.bool b) ∧ Below w.heap.size w w'

/-- Ints of the reference. -/
theorem ints_any {w : World} {P Q : Nat → Prop} {v1 v2 : Value} {xs ys : List Int} (h1 : IntsAt w P v1 xs) (h2 : IntsAt w Q v2 ys) (hP : Under P w.heap.size) (hQ : Under Q w.heap.size) :
    Calls Try.prog 20 #[v1, v2] w (OneB (decide (xs = ys)) w) := by
  obtain ⟨a1, c1, b1, o1, rfl, hr1⟩ := h1
  obtain ⟨a2, c2, b2, o2, rfl, hr2⟩ := h2
  obtain ⟨D, hD⟩ : ∃ D, decide (xs = ys) = D := ⟨_, rfl⟩
  rw [hD]
  have HD := Lib.hid hD
  have hc1 := hr1.hcap
  have hc2 := hr2.hcap
  have hm1 : c1 ≤ 9223372036854775807 := by have := hr1.hmax; unfold maxLen at this; omega
  have hm2 : c2 ≤ 9223372036854775807 := by have := hr2.hmax; unfold maxLen at this; omega
  have H1 := Lib.hid hr1
  have H2 := Lib.hid hr2
  have HP := Lib.hid hP
  have HQ := Lib.hid hQ
  obtain ⟨l1, hl1⟩ : ∃ l1, xs.length = l1 := ⟨_, rfl⟩
  obtain ⟨l2, hl2⟩ : ∃ l2, ys.length = l2 := ⟨_, rfl⟩
  rw [hl1] at hc1 H1 ⊢
  rw [hl2] at hc2 H2 ⊢
  have HL1 := Lib.hid hl1
  have HL2 := Lib.hid hl2
  clear hr1 hr2 hD hP hQ hl1 hl2
  by_cases hne : l1 = l2
  · subst hne
    go_enter Try.func20, Try.ntmps20
    go_wp2
    go_loopw [13] (fun i wr => ∃ k : Nat, k ≤ l1 ∧ i = .int .i64 k ∧ Below w.heap.size w wr ∧ ∀ j, j < k → xs.getD j 0 = ys.getD j 0) (fun i _ => l1 - (intOf i).toNat)
    case atStart => exact ⟨0, by omega, rfl, Below.refl _ _, fun j hj => by omega⟩
    case round =>
      obtain ⟨k, hk, rfl, hbel, hall⟩ := hrel
      have HALL := Lib.hid hall
      have HBEL := Lib.hid hbel
      clear hall
      by_cases hlt : k < l1
      · obtain ⟨rfl, hp1⟩ := H1.out.ha (by omega)
        obtain ⟨rfl, hp2⟩ := H2.out.ha (by omega)
        have d1 := (H1.out.kept (Below.keptB hbel HP.out)).hc k (by omega)
        have d2 := (H2.out.kept (Below.keptB hbel HQ.out)).hc k (by omega)
        by_cases heq : xs.getD k 0 = ys.getD k 0
        · have hstep : ∀ j, j < k + 1 → xs.getD j 0 = ys.getD j 0 := fun j hj => by
            by_cases e : j = k
            · subst e; exact heq
            · exact HALL.out j (by omega)
          have HST := Lib.hid hstep
          rw [← heq] at d2
          generalize xs.getD k 0 = x at *
          clear hstep heq hbel
          go_wp2
          go_quiet (fail)
          go_wp2
          exact ⟨⟨k + 1, by omega, by go_num, below_drewN HBEL.out _, HST.out⟩, by simp [intOf]; omega⟩
        · have hf : D = false := by
            rw [← HD.out]
            exact decide_eq_false fun e => heq (by rw [e])
          subst hf
          have hx : ¬ (xs.getD k 0 = ys.getD k 0) := heq
          generalize xs.getD k 0 = x at *
          generalize ys.getD k 0 = y at *
          clear heq hbel
          go_wp2
          go_quiet (fail)
          go_wp2
          go_ret
          exact ⟨rfl, below_drewN HBEL.out _⟩
      · have ht : D = true := by
          rw [← HD.out]
          refine decide_eq_true (List.ext_getElem (by rw [HL1.out, HL2.out]) fun j h1 h2 => ?_)
          have := HALL.out j (by have := HL1.out; omega)
          simpa [List.getD, h1, h2] using this
        subst ht
        clear hbel
        have hkl : ¬ (k : Int) < l1 := by omega
        go_wp2
        go_ret
        exact ⟨rfl, HBEL.out⟩
  · have hf : D = false := by
      rw [← HD.out]
      exact decide_eq_false fun e => hne (by rw [← HL1.out, ← HL2.out, e])
    subst hf
    have hne2 : ¬ ((l1 : Int) = l2) := by omega
    go_enter Try.func20, Try.ntmps20
    go_wp2
    go_ret
    exact ⟨rfl, Below.refl _ _⟩
end Go.Proofs.Ytamidopeojipkaa
