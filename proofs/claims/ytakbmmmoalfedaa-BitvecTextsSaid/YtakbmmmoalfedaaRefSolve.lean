/- The reference's Solve. -/
import Derived.Test.YtakbmmmoalfedaaApply
import Derived.Test.YtakbmmmoalfedaaSolve
namespace Go.Proofs.Ytakbmmmoalfedaa
open Go.RowKit
set_option linter.unusedVariables false

theorem V_both (a b v : Int) (h : V a = true → V b = true → V v = true) : V (both a b v) = true := by
  unfold both
  split
  · rename_i hc
    simp only [Bool.and_eq_true] at hc
    exact h hc.1 hc.2
  · rfl
theorem V_mod (n : Int) : V (n % 256) = true := V_mk (by omega) (by omega)
theorem V_land (f : Nat → Nat → Nat) (a b : Int) (hf : ∀ x y : Nat, x < 2 ^ 8 → y < 2 ^ 8 → f x y < 2 ^ 8) (ha : V a = true) (hb : V b = true) : V ((f a.toNat b.toNat : Nat) : Int) = true := by
  have h1 := V_true ha
  have h2 := V_true hb
  have := hf a.toNat b.toNat (by omega) (by omega)
  exact V_mk (by omega) (by omega)
theorem V_opZ (l : List UInt8) (x k : Int) : V (opZ l x k).1 = true := by
  have hd := (pow_le_256 (distZ_le k)).2.2
  have hdiv : V x = true → V (x / 2 ^ distZ k) = true := fun h => by
    have h1 := V_true h
    have h3 : 0 ≤ x / 2 ^ distZ k := Int.ediv_nonneg h1.1 (by omega)
    have h4 : x / 2 ^ distZ k ≤ x := Int.ediv_le_self _ h1.1
    exact V_mk h3 (by omega)
  unfold opZ
  split
  · show V (leftZ x k) = true
    unfold leftZ
    split
    · exact V_mod _
    · rfl
  split
  · show V (rightZ x k) = true
    unfold rightZ
    split
    · exact hdiv (by assumption)
    · rfl
  split
  · show V (arithZ x k) = true
    unfold arithZ; split
    · split
      · exact V_mod _
      · exact hdiv (by assumption)
    · rfl
  split
  · show V (notZ x) = true
    unfold notZ; split
    · rename_i h; have := V_true h; exact V_mk (by omega) (by omega)
    · rfl
  split
  · exact V_both _ _ _ (V_land (· &&& ·) x k (fun x y h _ => Nat.and_lt_two_pow _ (by assumption)))
  split
  · exact V_both _ _ _ (V_land (· ||| ·) x k (fun x y h h' => Nat.or_lt_two_pow h h'))
  split
  · exact V_both _ _ _ (V_land (· ^^^ ·) x k (fun x y h h' => Nat.xor_lt_two_pow h h'))
  split
  · exact V_both _ _ _ fun _ _ => V_mod _
  split
  · exact V_both _ _ _ fun _ _ => V_mod _
  split
  · exact V_both _ _ _ fun _ _ => V_mod _
  · rfl

set_option maxRecDepth 10000 in
set_option maxHeartbeats 400000 in
theorem refSolve_any (s : ByteArray) (r kn : Int) (w : World) : Calls Try.prog 35 #[.string s, .int .i64 r, .int .i64 kn] w (Gives (solA (solves s.toList r kn)) w) := by
  generalize hf : solves s.toList r kn = f
  have HF := Lib.hid hf
  clear hf
  go_enter Try.func35, Try.ntmps35
  go_wp2
  go_loopw [7, 8] (fun v i wr => ∃ k : Nat, k ≤ 256 ∧ i = .int .i64 k ∧ SolRel f w k v wr) (fun _ i _ => 256 - (intOf i).toNat)
  case atStart => exact ⟨0, by omega, rfl, Below.refl _ _, Own.nil _ _⟩
  case round =>
    obtain ⟨k, hk, rfl, hrel⟩ := hrel
    by_cases hlt : k < 256
    · go_wp2_with fail
      refine (apply_any _ _ _ _).mono ?_
      rintro e w2 ⟨rfl, hb⟩
      have hrel2 := hrel.call hb
      have hsz2 : w.heap.size ≤ w2.heap.size := hrel2.1.size
      have HR := Lib.hid hrel2
      clear hrel hb
      have hfk : f k = ((opZ s.toList k kn).2 && (opZ s.toList k kn).1 == r) := by rw [← HF.out]; rfl
      have HFK := Lib.hid hfk
      clear hfk
      have hvn := V_opZ s.toList k kn
      have HVN := Lib.hid hvn
      clear hvn
      generalize hz : opZ s.toList k kn = z at HFK HVN
      rcases z with ⟨n, ok⟩
      have hlen := solL_len f k
      cases ok with
      | false =>
        have HN := Lib.hid (show f k = false by rw [HFK.out]; rfl)
        go_wp2
        go_roundw
        case rel => exact ⟨k + 1, by omega, by go_num, HR.out.no HN.out⟩
        case measure => simp [intOf]; omega
      | true =>
        cases hvr : V r with
        | false =>
          have HN := Lib.hid (show f k = false by
            rw [HFK.out]
            show (n == r) = false
            by_cases e : n = r
            · subst e; have := HVN.out; rw [show V n = true from this] at hvr; cases hvr
            · simpa using e)
          have HVR := Lib.hid hvr
          clear hvr
          go_wp2_with fail
          refine (refValid_any _ _).mono ?_
          rintro e w3 ⟨rfl, rfl⟩
          rw [HVR.out]
          go_wp2
          go_roundw
          case rel => exact ⟨k + 1, by omega, by go_num, HR.out.no HN.out⟩
          case measure => simp [intOf]; omega
        | true =>
          have HVR := Lib.hid hvr
          clear hvr
          cases hn : (n == r) with
          | false =>
            have HN := Lib.hid (show f k = false by rw [HFK.out, hn]; rfl)
            go_wp2_with fail
            refine (refValid_any _ _).mono ?_
            rintro e w3 ⟨rfl, rfl⟩
            rw [HVR.out]
            go_wp2
            go_roundw
            case rel => exact ⟨k + 1, by omega, by go_num, HR.out.no HN.out⟩
            case measure => simp [intOf]; omega
          | true =>
            have HN := Lib.hid (show f k = true by rw [HFK.out, hn]; rfl)
            have hown2 := HR.out.2
            go_wp2_with fail
            refine (refValid_any _ _).mono ?_
            rintro e w3 ⟨rfl, rfl⟩
            rw [HVR.out]
            go_wp2_with (at_builtin; go_loud (refine wpList_push rfl (.tmp 32) (.tmp 34) rfl w.heap.size _ _ _ rfl hown2 rfl (by omega) hsz2 ?_); intro v' w3 hown3 hg3)
            go_roundw
            case rel => exact ⟨k + 1, by omega, by go_num, HR.out.yes HN.out hown3 hg3⟩
            case measure => simp [intOf]; omega
    · have hk' : k = 256 := by omega
      have HK := Lib.hid hk'
      clear hk'
      go_wp2
      go_ret
      obtain ⟨hbel, hown⟩ := hrel
      rw [solA_of HK.out] at hown
      exact ⟨_, rfl, hown, hbel⟩
end Go.Proofs.Ytakbmmmoalfedaa
