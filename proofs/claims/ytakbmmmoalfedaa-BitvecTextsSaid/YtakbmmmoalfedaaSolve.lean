/- Solve. -/
import Derived.Test.YtakbmmmoalfedaaOp
namespace Go.Proofs.Ytakbmmmoalfedaa
open Go.RowKit
set_option linter.unusedVariables false

/-- the numbers below n with the property -/
def solL (f : Int → Bool) : Nat → List Int
  | 0 => []
  | n + 1 => solL f n ++ if f n = true then [(n : Int)] else []
theorem solL_len (f : Int → Bool) : ∀ n, (solL f n).length ≤ n
  | 0 => by simp [solL]
  | n + 1 => by have := solL_len f n; simp only [solL, List.length_append]; split <;> simp <;> omega
/-- all of them below 256 -/
@[irreducible] def solA (f : Int → Bool) : List Int := solL f 256
theorem solA_of {f : Int → Bool} {k : Nat} (h : k = 256) : solL f k = solA f := by subst h; unfold solA; rfl
def solves (l : List UInt8) (r k x : Int) : Bool := (opZ l x k).2 && (opZ l x k).1 == r

/-- A call that hands back a slice of its own with the numbers zs. -/
def Gives (zs : List Int) (w : World) (e : Ending) (w' : World) : Prop :=
  ∃ v, e = .returned v ∧ Own w' w.heap.size v zs ∧ Below w.heap.size w w'

theorem Below.grownBy {w w' : World} (h : Below w.heap.size w w') : w.grownBy w' none := ⟨h.os, h.tape, h.output, h.size, fun k hk _ => h.block k hk⟩
theorem Below.next {w w1 w2 : World} (h : Below w.heap.size w w1) (h2 : Below w1.heap.size w1 w2) : Below w.heap.size w w2 := h.trans (h2.mono h.size)

def SolRel (f : Int → Bool) (w : World) (k : Nat) (v : Value) (wr : World) : Prop :=
  Below w.heap.size w wr ∧ Own wr w.heap.size v (solL f k)

theorem SolRel.call {f : Int → Bool} {w wr w2 : World} {k : Nat} {v : Value} (h : SolRel f w k v wr) (hb : Below wr.heap.size wr w2) : SolRel f w k v w2 := by
  refine ⟨Below.next h.1 hb, h.2.kept (Below.grownBy hb) ?_⟩
  rcases hv : v.ownBlock with _ | q
  · exact .inl rfl
  · exact .inr (by simp)
theorem SolRel.no {f : Int → Bool} {w wr : World} {k : Nat} {v : Value} (h : SolRel f w k v wr) (hf : f k = false) : SolRel f w (k + 1) v wr := by
  refine ⟨h.1, ?_⟩
  show Own wr w.heap.size v (solL f k ++ if f k = true then [(k : Int)] else [])
  rw [if_neg (by rw [hf]; decide), List.append_nil]
  exact h.2
theorem SolRel.yes {f : Int → Bool} {w wr w3 : World} {k : Nat} {v v' : Value} (h : SolRel f w k v wr) (hf : f k = true) (ho : Own w3 w.heap.size v' (solL f k ++ [(k : Int)])) (hg : wr.grownBy w3 v.ownBlock) : SolRel f w (k + 1) v' w3 := by
  refine ⟨h.1.grown hg h.1.size (fun q hq => (h.2.lt q hq).1), ?_⟩
  show Own w3 w.heap.size v' (solL f k ++ if f k = true then [(k : Int)] else [])
  rw [if_pos hf]
  exact ho

set_option maxRecDepth 10000 in
set_option maxHeartbeats 400000 in
theorem solve_any (s : ByteArray) (r kn : Int) (w : World) : Calls Try.prog 34 #[.string s, .int .i64 r, .int .i64 kn] w (Gives (solA (solves s.toList r kn)) w) := by
  generalize hf : solves s.toList r kn = f
  have HF := Lib.hid hf
  clear hf
  go_enter Try.func34, Try.ntmps34
  go_wp2
  go_loopw [7, 11] (fun v i wr => ∃ k : Nat, k ≤ 256 ∧ i = .int .i64 k ∧ SolRel f w k v wr) (fun _ i _ => 256 - (intOf i).toNat)
  case atStart => exact ⟨0, by omega, rfl, Below.refl _ _, Own.nil _ _⟩
  case round =>
    obtain ⟨k, hk, rfl, hrel⟩ := hrel
    by_cases hlt : k < 256
    · go_wp2_with fail
      refine (operate_any _ _ _ _).mono ?_
      rintro e w2 ⟨rfl, hb⟩
      have hrel2 := hrel.call hb
      have hsz2 : w.heap.size ≤ w2.heap.size := hrel2.1.size
      have HR := Lib.hid hrel2
      clear hrel hb
      have hfk : f k = ((opZ s.toList k kn).2 && (opZ s.toList k kn).1 == r) := by rw [← HF.out]; rfl
      have HFK := Lib.hid hfk
      clear hfk
      generalize hz : opZ s.toList k kn = z at HFK
      rcases z with ⟨n, ok⟩
      have hlen := solL_len f k
      cases ok with
      | false =>
        have HN := Lib.hid (show f k = false by rw [HFK.out]; rfl)
        go_wp2
        go_roundw
        case rel => exact ⟨k + 1, by omega, by go_num, HR.out.no HN.out⟩
        case measure => simp [intOf]; omega
      | true =>
        cases hn : (n == r) with
        | false =>
          have HN := Lib.hid (show f k = false by rw [HFK.out, hn]; rfl)
          go_wp2
          go_roundw
          case rel => exact ⟨k + 1, by omega, by go_num, HR.out.no HN.out⟩
          case measure => simp [intOf]; omega
        | true =>
          have HN := Lib.hid (show f k = true by rw [HFK.out, hn]; rfl)
          have hown2 := HR.out.2
          go_wp2_with (at_builtin; go_loud (refine wpList_push rfl (.tmp 27) (.tmp 29) rfl w.heap.size _ _ _ rfl hown2 rfl (by omega) hsz2 ?_); intro v' w3 hown3 hg3)
          go_roundw
          case rel => exact ⟨k + 1, by omega, by go_num, HR.out.yes HN.out hown3 hg3⟩
          case measure => simp [intOf]; omega
    · have hk' : k = 256 := by omega
      have HK := Lib.hid hk'
      clear hk'
      go_wp2
      go_ret
      obtain ⟨hbel, hown⟩ := hrel
      rw [solA_of HK.out] at hown
      exact ⟨_, rfl, hown, hbel⟩
end Go.Proofs.Ytakbmmmoalfedaa
