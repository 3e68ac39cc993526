/- lists.chosen: the elements at which a closure says yes, whatever state the closure keeps. -/
import Derived.Test.YtecjnenjjedceaaBase
namespace Go.Proofs.Ytecjnenjjedceaa
open Go.RowKit
set_option linter.unusedVariables false

/-- What a closure's call may do: it writes at most one block, one of those from lo on that stood before hi; it may make blocks. -/
def Touch (lo hi : Nat) (w w' : World) : Prop := ∃ row, w.grownBy w' row ∧ ∀ k, row = some k → lo ≤ k ∧ k < hi

/-- the choice with a state: the elements at which f says yes. -/
def pickS {S : Type} (f : S → Int → Bool × S) : S → List Int → List Int × S
  | s, [] => ([], s)
  | s, x :: xs => (if (f s x).1 then x :: (pickS f (f s x).2 xs).1 else (pickS f (f s x).2 xs).1, (pickS f (f s x).2 xs).2)

theorem pickS_snoc {S : Type} (f : S → Int → Bool × S) (s : S) (xs : List Int) (x : Int) :
    pickS f s (xs ++ [x]) = ((pickS f s xs).1 ++ (if (f (pickS f s xs).2 x).1 then [x] else []), (f (pickS f s xs).2 x).2) := by
  induction xs generalizing s with
  | nil => simp only [List.nil_append, pickS]; rfl
  | cons y ys ih =>
    have ih' := ih (f s y).2
    simp only [List.cons_append, pickS]
    rw [ih']
    cases h : (f s y).1
    · rfl
    · rfl

theorem pickS_take {S : Type} (f : S → Int → Bool × S) (s : S) (xs : List Int) (k : Nat) (x : Int) (hk : k < xs.length) (hx : xs.getD k 0 = x) :
    pickS f s (xs.take (k + 1)) = ((pickS f s (xs.take k)).1 ++ (if (f (pickS f s (xs.take k)).2 x).1 then [x] else []), (f (pickS f s (xs.take k)).2 x).2) := by
  rw [← pickS_snoc, List.take_succ_eq_append_getElem hk]
  simp [List.getD, hk] at hx
  rw [hx]

theorem pickS_len {S : Type} (f : S → Int → Bool × S) (s : S) (xs : List Int) : (pickS f s xs).1.length ≤ xs.length := by
  induction xs generalizing s with
  | nil => simp [pickS]
  | cons y ys ih => simp only [pickS]; have := ih (f s y).2; split <;> simp <;> omega

/-- what chosen hands back -/
def Chose {S : Type} (I : S → World → Prop) (f : S → Int → Bool × S) (s0 : S) (xs : List Int) (W w : World) (e : Ending) (w' : World) : Prop :=
  ∃ v, e = .returned v ∧ Own w' w.heap.size v (pickS f s0 xs).1 ∧ Below W.heap.size W w' ∧ I (pickS f s0 xs).2 w'

/-- the loop's relation at round k -/
def ChRel {S : Type} (I : S → World → Prop) (f : S → Int → Bool × S) (s0 : S) (xs : List Int) (W w : World) (k : Nat) (v : Value) (wr : World) : Prop :=
  Below W.heap.size W wr ∧ I (pickS f s0 (xs.take k)).2 wr ∧ w.heap.size ≤ wr.heap.size ∧ Own wr w.heap.size v (pickS f s0 (xs.take k)).1

set_option maxHeartbeats 400000 in
theorem chosen_any {S : Type} (I : S → World → Prop) (f : S → Int → Bool × S) (fn : Nat) (cap : Array Value) (a : Option Addr) (l c : Nat) (xs : List Int) (s0 : S) (W w : World)
    (hA : Sl W a l c xs) (hl : l ≤ 1000) (hW : Below W.heap.size W w) (hI0 : I s0 w)
    (hIb : ∀ s w1 w2, I s w1 → (∀ k, k < w.heap.size → w2.heap[k]? = w1.heap[k]?) → I s w2)
    (hcf : ∀ args w1, (callFunc fn args).run Try.prog w1 = .ok (.enter fn args) w1)
    (hcl : ∀ s x w1, I s w1 → Calls Try.prog fn (#[.int .i64 x] ++ cap) w1 fun e w2 => e = .returned (.bool (f s x).1) ∧ I (f s x).2 w2 ∧ Touch W.heap.size w.heap.size w1 w2) :
    Calls Try.prog 52 #[.slice a l c, .func (.func fn) #[] cap] w (Chose I f s0 xs W w) := by
  obtain ⟨b1, o1, ha0, hac⟩ := hA.cell
  have hxl := Lib.hid hA.hlen
  have hWs := hW.size
  have HC := Lib.hid hcl
  have HI := Lib.hid hIb
  clear hcl hIb hA
  go_enter Try.func52, Try.ntmps52
  go_wp2
  go_loopw [5, 10] (fun v i wr => ∃ k : Nat, k ≤ l ∧ i = .int .i64 k ∧ ChRel I f s0 xs W w k v wr) (fun _ i _ => l - (intOf i).toNat)
  case atStart => exact ⟨0, by omega, rfl, hW, hI0, Nat.le_refl _, Own.nil _ _⟩
  case round =>
    obtain ⟨k, hk, rfl, hrel⟩ := hrel
    by_cases hlt : k < l
    · obtain ⟨hbel, hI, hsz, hown⟩ := hrel
      obtain ⟨rfl, hb1⟩ := ha0 (by omega)
      have c1 : wr.cell? ⟨b1, o1 + k, none⟩ = some (.int .i64 (xs.getD k 0)) := (hbel.cell hb1).trans (hac k hlt)
      generalize hx : xs.getD k 0 = x at c1
      have hstep := Lib.hid (pickS_take f s0 xs k x (by rw [hxl.out]; exact hlt) hx)
      have hpl : (pickS f s0 (xs.take k)).1.length ≤ 1000 := by
        have := pickS_len f s0 (xs.take k)
        have := List.length_take_le k xs
        omega
      generalize hps : pickS f s0 (xs.take k) = ps at hstep hown hI hpl
      clear hx hac ha0 hps
      go_wp2_with fail
      refine (HC.out ps.2 x _ hI).mono ?_
      rintro e w2 ⟨rfl, hI2, row, hg, hrow⟩
      have hn : ∀ k, u5.ownBlock = some k → w.heap.size ≤ k := fun k hk => (hown.lt k hk).1
      have hown2 : Own w2 w.heap.size u5 ps.1 := hown.kept hg (by
        rcases hb : u5.ownBlock with _ | q
        · exact .inl rfl
        · refine .inr fun e => ?_
          have h1 := hn q hb
          have h2 := hrow q e.symm
          omega)
      have hbel2 := hbel.grown hg hbel.size (fun k hk => (hrow k hk).1)
      have hsz2 : w.heap.size ≤ w2.heap.size := Nat.le_trans hsz hg.size
      clear hown hbel hI hsz c1 hg hrow
      by_cases hf : (f ps.2 x).1 = true
      · go_wp2_with (at_builtin; go_loud (refine wpList_push rfl (.tmp 17) (.tmp 19) rfl w.heap.size _ _ _ rfl hown2 rfl (by omega) hsz2 ?_); intro v' w3 hown3 hg3)
        go_roundw
        case rel =>
          refine ⟨k + 1, by omega, by go_num, hbel2.grown hg3 (by have := hbel2.size; omega) (fun k hk => by have := hn k hk; omega), ?_, Nat.le_trans hsz2 hg3.size, ?_⟩
          · rw [hstep.out]; exact HI.out _ _ _ hI2 (fun k hk => hg3.block k (by omega) (fun e => by have := hn k e.symm; omega))
          · rw [hstep.out]; simpa [hf] using hown3
        case measure => simp [intOf]; omega
      · go_wp2
        go_roundw
        case rel =>
          refine ⟨k + 1, by omega, by go_num, hbel2, by rw [hstep.out]; exact hI2, hsz2, by rw [hstep.out]; simpa [hf] using hown2⟩
        case measure => simp [intOf]; omega
    · have hk' : k = l := by omega
      have HK := Lib.hid hk'
      clear hk'
      go_wp2
      go_ret
      obtain ⟨hbel, hI, hsz, hown⟩ := hrel
      rw [HK.out, List.take_of_length_le (by rw [hxl.out]; exact Nat.le_refl _)] at hown hI
      exact ⟨_, rfl, hown, hbel, hI⟩
end Go.Proofs.Ytecjnenjjedceaa
