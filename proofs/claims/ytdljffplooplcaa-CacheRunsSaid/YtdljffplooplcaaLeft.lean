/- Within of the reference. -/
import Derived.Test.YtdljffplooplcaaBase
namespace Go.Proofs.Ytdljffplooplcaa
open Go.RowKit
set_option linter.unusedVariables false

def leftR (m : Int) (n : Nat) : Int := if (n : Int) ≤ m then m - n else -1
theorem leftR_bd (m : Int) (n : Nat) (h1 : m ≤ 1000) (hn : 1 ≤ n) : -1 ≤ leftR m n ∧ leftR m n ≤ 1000 := by unfold leftR; split <;> omega
theorem leftR_add {m : Int} {n k : Nat} (h : 0 ≤ leftR m n) : leftR (leftR m n) k = leftR m (n + k) := by
  unfold leftR at h ⊢
  by_cases h1 : (n : Int) ≤ m
  · rw [if_pos h1]
    by_cases h2 : ((n + k : Nat) : Int) ≤ m
    · rw [if_pos (by omega), if_pos h2]; omega
    · rw [if_neg (by omega), if_neg h2]
  · rw [if_neg h1] at h; omega
theorem leftR_neg {m : Int} {n k : Nat} (h : leftR m n < 0) (hk : n ≤ k) : leftR m k = -1 ∧ leftR m n = -1 := by
  unfold leftR at h ⊢
  by_cases h1 : (n : Int) ≤ m
  · rw [if_pos h1] at h; omega
  · rw [if_neg (by omega), if_neg h1]; exact ⟨rfl, rfl⟩

/-- the parameter's box: the term's two cells in the first block of the call -/
def Boxed (w : World) (v : Value) (wr : World) : Prop := Below w.heap.size w wr ∧ w.heap.size < wr.heap.size ∧ wr.cell? ⟨w.heap.size, 1, none⟩ = some v
theorem Boxed.next {w wr w2 : World} {v : Value} (h : Boxed w v wr) (hb : Below wr.heap.size wr w2) : Boxed w v w2 :=
  ⟨Below.next h.1 hb, Nat.lt_of_lt_of_le h.2.1 hb.size, (hb.cell h.2.1).trans h.2.2⟩

set_option maxHeartbeats 400000 in
theorem left_any : ∀ (n : Nat) (t : T) (v : Value) (m : Int) (P : Nat → Prop) (w : World), tsize t ≤ n → 0 ≤ m → m ≤ 1000 → Under P w.heap.size → ArgsAt w P v t.args →
    Calls Try.prog 36 #[.agg #[.int .i64 t.rule, v], .int .i64 m] w (OneI (leftR m (tsize t)) w) := by
  intro n
  induction n with
  | zero => intro t v m P w h; have := tsize_pos t; omega
  | succ n ih =>
    intro t v m P w hn h0 h1 hh hA
    have IH := Lib.hid ih
    clear ih
    obtain ⟨a, len, cap, ts, b, off, vs, hlen, hcap, hmax, ha, hr, hv, hs⟩ := hA
    generalize t.rule = r
    have hts := tsize_eq t
    obtain ⟨N, hN⟩ : ∃ N, tsize t = N := ⟨_, rfl⟩
    rw [hN] at hts hn ⊢
    have HN := Lib.hid hts
    have HL := Lib.hid hlen
    have hmx : len ≤ 9223372036854775807 := by unfold maxLen at hmax; omega
    have HR := Lib.hid hr
    have HV := Lib.hid hv
    have HS := Lib.hid hs
    generalize t.args = ts at *
    clear hN hts hlen hr hv hs
    go_enter Try.func36, Try.ntmps36
    go_wp2
    go_loopw [1, 5] (fun c i wr => ∃ k : Nat, k ≤ len ∧ i = .int .i64 k ∧ c = .int .i64 (leftR m (1 + lsize (ts.take k))) ∧ Boxed w (.slice a len cap) wr) (fun _ i _ => len - (intOf i).toNat)
    case atStart =>
      refine ⟨0, by omega, rfl, ?_, (Below.refl _ _).alloc (Nat.le_refl _) _, by simp, World.cell?_alloc_at _ _ _ _ rfl⟩
      have e : leftR m (1 + lsize (ts.take 0)) = m - 1 := by
        show leftR m (1 + 0) = m - 1
        unfold leftR
        split <;> omega
      rw [e]
    case round =>
      obtain ⟨k, hk, rfl, rfl, hbox⟩ := hrel
      obtain ⟨hbel, hlt0, hcell⟩ := hbox
      have hbd := leftR_bd m (1 + lsize (ts.take k)) h1 (by omega)
      by_cases hlt : k < len
      · by_cases hc : 0 ≤ leftR m (1 + lsize (ts.take k))
        · obtain ⟨rfl, hb⟩ := ha (by omega)
          have hkept : Kept P w wr := Below.keptB hbel hh
          have c1 := (hkept.cell (p := ⟨b, off + k * 2, none⟩) hb).trans (HR.out k hlt)
          have c2 := (hkept.cell (p := ⟨b, off + k * 2 + 1, none⟩) hb).trans (HV.out k hlt)
          have hsub := Lib.hid ((HS.out k hlt).kept hkept)
          have hst := Lib.hid (lsize_take_succ ts k (by rw [HL.out]; exact hlt))
          have hle : tsize (ts.getD k default) ≤ n := by
            have := tsize_getD ts k (by rw [HL.out]; exact hlt)
            have := HN.out
            omega
          have hadd := Lib.hid (leftR_add (k := tsize (ts.getD k default)) hc)
          have HB := Lib.hid (show Boxed w (.slice (some ⟨b, off, none⟩) len cap) wr from ⟨hbel, hlt0, hcell⟩)
          have hhi := Lib.hid (hh.le hbel.size)
          generalize ts.getD k default = u at *
          generalize hcur : leftR m (1 + lsize (ts.take k)) = cur at *
          clear hcur hbel hkept
          go_wp2_with fail
          refine (IH.out u (vs k) cur P wr hle hc hbd.2 hhi.out hsub.out).mono ?_
          rintro e w2 ⟨rfl, hb2⟩
          rw [hadd.out]
          go_wp2
          go_roundw
          case rel =>
            refine ⟨k + 1, by omega, by go_num, ?_, HB.out.next hb2⟩
            rw [hst.out, Nat.add_assoc]
          case measure => simp [intOf]; omega
        · have hng := Lib.hid (leftR_neg (k := N) (by omega : leftR m (1 + lsize (ts.take k)) < 0) (by have := lsize_take_le ts k; have := HN.out; omega))
          generalize hcur : leftR m (1 + lsize (ts.take k)) = cur at *
          clear hcur
          go_wp2
          go_ret
          exact ⟨by rw [hng.out.1, hng.out.2]; rfl, hbel⟩
      · have hk' : k = len := by omega
        have he := Lib.hid (show leftR m (1 + lsize (ts.take k)) = leftR m N by rw [hk', List.take_of_length_le (by rw [HL.out]; exact Nat.le_refl _), HN.out])
        have hkl : ¬ (k : Int) < len := by omega
        clear hk'
        generalize leftR m (1 + lsize (ts.take k)) = cur at *
        go_wp2
        go_ret
        exact ⟨by rw [he.out]; rfl, hbel⟩

theorem within_any (t : T) (v : Value) (m : Int) (P : Nat → Prop) (w : World) (h0 : 0 ≤ m) (h1 : m ≤ 1000) (hh : Under P w.heap.size) (hA : ArgsAt w P v t.args) :
    Calls Try.prog 24 #[.agg #[.int .i64 t.rule, v], .int .i64 m] w (OneB (decide ((tsize t : Int) ≤ m)) w) := by
  have hsub : ∀ o, ArgsAt (w.alloc o) P v t.args := fun o => hA.kept (Below.keptB ((Below.refl _ w).alloc (Nat.le_refl _) o) hh)
  have HSUB := Lib.hid hsub
  clear hA hsub
  obtain ⟨d, hd⟩ : ∃ d, decide ((tsize t : Int) ≤ m) = d := ⟨_, rfl⟩
  have hl : (decide (0 ≤ leftR m (tsize t))) = d := by
    rw [← hd]
    unfold leftR
    by_cases h : (tsize t : Int) ≤ m
    · rw [if_pos h]; simp [h]
    · rw [if_neg h]; simp [h]
  have HD := Lib.hid hl
  rw [hd]
  clear hd hl
  go_enter Try.func24, Try.ntmps24
  go_wp2_with fail
  refine (left_any _ t v m P _ (Nat.le_refl _) h0 h1 (hh.le (by simp)) (HSUB.out _)).mono ?_
  rintro e w2 ⟨rfl, hb2⟩
  go_wp2
  go_ret
  refine ⟨?_, ((Below.refl _ _).alloc (Nat.le_refl _) _).trans (hb2.mono (by simp))⟩
  rw [← HD.out]
  rfl
end Go.Proofs.Ytdljffplooplcaa
