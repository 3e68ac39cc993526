/- lists.Sort. -/
import Derived.Test.YtecjnenjjedceaaReverse
import Derived.Deep.RegionWith
namespace Go.Proofs.Ytecjnenjjedceaa
open Go.RowKit
set_option linter.unusedVariables false

def leI (x y : Int) : Bool := decide (x ≤ y)
/-- the numbers in ascending order -/
def sortL (xs : List Int) : List Int := xs.mergeSort leI

theorem sortL_perm (xs : List Int) : (sortL xs).Perm xs := List.mergeSort_perm xs leI
theorem sortL_sorted (xs : List Int) : (sortL xs).Pairwise (· ≤ ·) := by
  have := List.pairwise_mergeSort (le := leI) (fun a b c h1 h2 => by simp [leI] at *; omega) (fun a b => by simp [leI]; omega) xs
  exact this.imp (fun h => by simpa [leI] using h)
theorem sorted_unique {xs ys : List Int} (h1 : xs.Pairwise (· ≤ ·)) (h2 : ys.Pairwise (· ≤ ·)) (hp : xs.Perm ys) : xs = ys :=
  hp.eq_of_pairwise (fun a b _ _ h3 h4 => by omega) h1 h2

theorem addr_map0 (a : Option Addr) : a.map (fun x => x.add 0) = a := by cases a <;> simp [Addr.add]

theorem run_size2 (w : World) : (sizeOf 2).run Try.prog w = .ok 1 w := by kernel_rfl
theorem elem22 : Try.prog.elem 22 = 2 := by kernel_rfl

theorem slice_to (w : World) (a : Option Addr) (l c m : Nat) (h : m ≤ c) : (Instr.slice 22 (.slice a l c) none (some (.int .i64 (m : Int))) none).run Try.prog w = .ok (.slice a m c) w := by
  rw [run_slice_h w 22 a l c (by rw [elem22]; exact Try.underlying22) .i64 m (by omega) (by omega), elem22, run_size2]
  simp only [Result.andThen, sliced, Int.toNat_natCast, Nat.zero_mul, addr_map0, Nat.sub_zero, ite_self]

theorem slice_from (w : World) (a : Option Addr) (l c m : Nat) (h : m ≤ l) :
    (Instr.slice 22 (.slice a l c) (some (.int .i64 (m : Int))) none none).run Try.prog w = .ok (.slice (if c = m then a else a.map (fun x => x.add (m * 1))) (l - m) (c - m)) w := by
  rw [run_slice_l w 22 a l c (by rw [elem22]; exact Try.underlying22) .i64 m (by omega) (by omega), elem22, run_size2]
  simp only [Result.andThen, sliced, Int.toNat_natCast]

/-- what l[m:] comes to, its address behind a name -/
theorem cut_from (a : Option Addr) (l c m : Nat) (h : m ≤ l) : ∃ a', (∀ w, (Instr.slice 22 (.slice a l c) (some (.int .i64 (m : Int))) none none).run Try.prog w = .ok (.slice a' (l - m) (c - m)) w) ∧
    ∀ w xs, Sl w a l c xs → Sl w a' (l - m) (c - m) (xs.drop m) :=
  ⟨_, fun w => slice_from w a l c m h, fun w xs hs => hs.drop h⟩

theorem bnext {w w1 w2 : World} (h : Below w.heap.size w w1) (h2 : Below w1.heap.size w1 w2) : Below w.heap.size w w2 := h.trans (h2.mono h.size)

def lenV : Value → Nat | .slice _ l _ => l | _ => 0

/-- the loop's relation: what is left of the two halves, what is merged -/
def MRel (A0 B0 : List Int) (W w : World) (va vb vo : Value) (wr : World) : Prop :=
  ∃ a la ca b lb cb A B O, va = .slice a la ca ∧ vb = .slice b lb cb ∧ Sl W a la ca A ∧ Sl W b lb cb B ∧ Own wr W.heap.size vo O ∧ Below W.heap.size W wr ∧
    O ++ List.merge A B leI = List.merge A0 B0 leI ∧ O.length + la + lb ≤ 1000

theorem Sl.head {W wr : World} {a : Option Addr} {la ca : Nat} {A : List Int} (h : Sl W a la ca A) (hb : Below W.heap.size W wr) (h0 : 0 < la) :
    ∃ ba oa x A', a = some ⟨ba, oa, none⟩ ∧ A = x :: A' ∧ wr.cell? ⟨ba, oa, none⟩ = some (.int .i64 x) := by
  obtain ⟨ba, oa, rfl, hbl, hc⟩ := h.hat h0
  match A, h.hlen, hc with
  | [], he, _ => simp at he; omega
  | x :: A', _, hc => exact ⟨ba, oa, x, A', rfl, rfl, (hb.cell hbl).trans (by simpa using hc 0 (by simp))⟩

theorem Sl.tail {W : World} {b o l c : Nat} {x : Int} {A : List Int} (h : Sl W (some ⟨b, o, none⟩) l c (x :: A)) (h0 : 0 < l) :
    Sl W (if c = 1 then some ⟨b, o, none⟩ else some ⟨b, o + 1, none⟩) (l - 1) (c - 1) A := by
  have := h.drop (m := 1) h0
  simpa [Addr.add_lit] using this

theorem Own.mono {w : World} {b1 b2 : Nat} {v : Value} {zs : List Int} (h : Own w b1 v zs) (hb : b2 ≤ b1) : Own w b2 v zs := by
  refine ⟨h.1, ?_⟩
  rcases h.2 with h | ⟨g, cap, cur, hv, hbg, rest⟩
  · exact .inl h
  · exact .inr ⟨g, cap, cur, hv, Nat.le_trans hb hbg, rest⟩

theorem Own.drewN {w : World} {b : Nat} {v : Value} {zs : List Int} (h : Own w b v zs) (n : Nat) : Own (w.drewN n) b v zs := h

theorem merge_sortL (xs : List Int) (m : Nat) : List.merge (sortL (xs.take m)) (sortL (xs.drop m)) leI = sortL xs := by
  refine sorted_unique ?_ (sortL_sorted xs) ?_
  · have := List.pairwise_merge (le := leI) (fun a b c h1 h2 => by simp [leI] at *; omega) (fun a b => by simp [leI]; omega) (sortL (xs.take m)) (sortL (xs.drop m))
      ((sortL_sorted _).imp (fun h => by simpa [leI] using h)) ((sortL_sorted _).imp (fun h => by simpa [leI] using h))
    exact this.imp (fun h => by simpa [leI] using h)
  · refine (List.merge_perm_append leI).trans ?_
    refine ((sortL_perm _).append (sortL_perm _)).trans ?_
    rw [List.take_append_drop]
    exact (sortL_perm xs).symm

set_option maxHeartbeats 1600000 in
theorem sort_step (n : Nat) (ih : ∀ (a : Option Addr) (l c : Nat) (xs : List Int) (w : World), l ≤ n → Sl w a l c xs → l ≤ 1000 → Calls Try.prog 24 #[.slice a l c] w (Gives (sortL xs) w))
    (a : Option Addr) (l c : Nat) (xs : List Int) (w : World) (hA : Sl w a l c xs) (hl : l ≤ 1000) (hn : l ≤ n + 1) (h2 : 2 ≤ l) :
    Calls Try.prog 24 #[.slice a l c] w (Gives (sortL xs) w) := by
  have IH := Lib.hid ih
  have hc := hA.hcap
  have hm := hA.hmax
  unfold maxLen at hm
  have hxl := Lib.hid hA.hlen
  obtain ⟨m, hmd⟩ : ∃ m, m = l / 2 := ⟨_, rfl⟩
  have hm1 : 1 ≤ m ∧ m < l ∧ m ≤ n ∧ l - m ≤ n := by omega
  have e1 : IntKind.i64.wrap ((l : Int) / 2) = (m : Int) := by
    rw [IntWalk.i64_in _ (by omega)]; omega
  have hs1 : ∀ w, (Instr.slice 22 (.slice a l c) none (some (.int .i64 (m : Int))) none).run Try.prog w = .ok (.slice a m c) w := fun w => slice_to w a l c m (by omega)
  obtain ⟨a', hs2, hsl2⟩ := cut_from a l c m (by omega)
  obtain ⟨hm1, hm2, hm3, hm4⟩ := hm1
  have hdr : Below w.heap.size w w.drew := (Below.refl _ _).drew
  have hA1 := Lib.hid ((hA.take (m := m) (by omega)).below hdr)
  have hA2 := Lib.hid ((hsl2 w xs hA).below hdr)
  have HD := Lib.hid hdr
  have HMD := Lib.hid hmd
  clear hA ih hsl2 hmd hn hdr
  go_enter Try.func24, Try.ntmps24
  go_wp2_with fail
  go_region_with (first
    | (go_at_call_of 24 (Value.slice a m c); refine (IH.out a m c _ _ hm3 hA1.out (by omega)).mono ?_; rintro e w1 ⟨v1, rfl, hown1, hb1⟩)
    | (go_at_call_of 24 (Value.slice a' (l - m) (c - m)); refine (IH.out a' (l - m) (c - m) _ _ hm4 (hA2.out.below hb1) (by omega)).mono ?_; rintro e w2 ⟨v2, rfl, hown2, hb2⟩))
  have hbb := bnext (bnext HD.out hb1) hb2
  obtain ⟨a1, c1, rfl, hs1⟩ := hown1.sl
  obtain ⟨a2, c2, rfl, hs2⟩ := hown2.sl
  have hmrg := Lib.hid (merge_sortL xs m)
  have hsz1 : (sortL (xs.take m)).length + (sortL (xs.drop m)).length ≤ 1000 := by
    rw [(sortL_perm _).length_eq, (sortL_perm _).length_eq, List.length_take, List.length_drop, hxl.out]; omega
  generalize hA0 : sortL (xs.take m) = A0 at hs1 hsz1 hmrg ⊢
  generalize hB0 : sortL (xs.drop m) = B0 at hs2 hsz1 hmrg ⊢
  have HA0 := Lib.hid hA0
  have HB0 := Lib.hid hB0
  have hS1 := Lib.hid (hs1.below hb2)
  have hS2 := Lib.hid hs2
  clear hs1 hs2 hown1 hown2 hA0 hB0 e1 hA1 hA2 hb1 hb2
  obtain ⟨i0, hi, hz0, hz1, hz2⟩ := info_parts info2
  go_wp2_with (at_make; refine wpList_make_own _ rfl (.const (.int .i64 0)) (.tmp 24) 22 rfl w2.heap.size 2 i0 (.int .i64 0) 1 Try.underlying22 hi hz0 hz1 .i64 .i64 l l rfl rfl rfl (by rw [hz2]; omega) (by unfold maxLen; omega) (Nat.le_refl _) ?_; intro w3 hown3 hg3)
  clear hi hz0 hz1 hz2
  go_loopw [3, 4, 5] (fun va vb vo wr => MRel A0 B0 w2 w va vb vo wr) (fun va vb _ _ => lenV va + lenV vb)
  case atStart => exact ⟨_, _, _, _, _, _, A0, B0, [], rfl, rfl, hS1.out, hS2.out, hown3, (Below.refl _ _).grown hg3 (Nat.le_refl _) (fun k h => by cases h), rfl, by simpa using hsz1⟩
  case round =>
    obtain ⟨a, la, ca, b, lb, cb, A, B, O, rfl, rfl, hsa, hsb, hown, hbel, heq, hlen⟩ := hrel
    have hs := hbel.size
    have hn : ∀ k, u5.ownBlock = some k → w2.heap.size ≤ k := fun k hk => (hown.lt k hk).1
    by_cases hla : la = 0
    · subst hla
      have hA : A = [] := List.eq_nil_of_length_eq_zero hsa.hlen
      subst hA
      by_cases hlb : lb = 0
      · subst hlb
        have hB : B = [] := List.eq_nil_of_length_eq_zero hsb.hlen
        subst hB
        have HE := Lib.hid heq
        clear heq hsa hsb
        go_wp2
        go_ret
        have e2 := HE.out.trans hmrg.out
        simp at e2
        subst e2
        exact ⟨_, rfl, hown.mono hbb.size, hbb.trans (hbel.mono hbb.size)⟩
      · have hlb0 : (0 : Int) < lb := by omega
        have hlb1 : ((lb : Int) == 0) = false := by simp; omega
        obtain ⟨ba, oa, x, B', rfl, rfl, cx⟩ := hsb.head hbel (by omega)
        have hsb' := Lib.hid (hsb.tail (by omega))
        have HE := Lib.hid heq
        have hca := hsa.hmax
        clear heq hsa hsb hlb
        go_wp2
        go_quiet (fail)
        go_wp2_with (at_builtin; refine wpList_push rfl (.tmp 59) (.tmp 63) rfl w2.heap.size _ _ _ rfl (hown.drewN _) rfl (by omega) hs ?_; intro v' w4 hown4 hg4)
        go_roundw
        case rel => exact ⟨_, _, _, _, _, _, _, _, _, rfl, rfl, Sl.empty w2 _ hca, hsb'.out, hown4, (below_drewN hbel _).grown hg4 hs hn, by rw [← HE.out]; simp, by simp; omega⟩
        case measure => simp [lenV]; omega
    · have hla0 : (0 : Int) < la := by omega
      have hla2 : decide (0 < la) = true := by simp; omega
      obtain ⟨aa, oa, x, A', rfl, rfl, cx⟩ := hsa.head hbel (by omega)
      have hsa' := Lib.hid (hsa.tail (by omega))
      have HSA := Lib.hid hsa
      have HE := Lib.hid heq
      clear heq hsa hla
      by_cases hlb : lb = 0
      · subst hlb
        have hB : B = [] := List.eq_nil_of_length_eq_zero hsb.hlen
        subst hB
        have HSB := Lib.hid hsb
        clear hsb
        go_wp2
        go_quiet (fail)
        go_wp2_with (at_builtin; refine wpList_push rfl (.tmp 51) (.tmp 55) rfl w2.heap.size _ _ _ rfl (hown.drewN _) rfl (by omega) hs ?_; intro v' w4 hown4 hg4)
        go_roundw
        case rel => exact ⟨_, _, _, _, _, _, _, _, _, rfl, rfl, hsa'.out, HSB.out, hown4, (below_drewN hbel _).grown hg4 hs hn, by rw [← HE.out]; simp, by simp; omega⟩
        case measure => simp [lenV]; omega
      · have hlb0 : (0 : Int) < lb := by omega
        have hlb1 : ((lb : Int) == 0) = false := by simp; omega
        obtain ⟨bb, ob, y, B', rfl, rfl, cy⟩ := hsb.head hbel (by omega)
        have hsb' := Lib.hid (hsb.tail (by omega))
        have HSB := Lib.hid hsb
        clear hsb hlb
        by_cases hxy : x ≤ y
        · go_wp2
          go_quiet (fail)
          go_wp2_with (at_builtin; refine wpList_push rfl (.tmp 51) (.tmp 55) rfl w2.heap.size _ _ _ rfl (hown.drewN _) rfl (by omega) hs ?_; intro v' w4 hown4 hg4)
          go_roundw
          case rel => exact ⟨_, _, _, _, _, _, _, _, _, rfl, rfl, hsa'.out, HSB.out, hown4, (below_drewN hbel _).grown hg4 hs hn, by rw [← HE.out, List.cons_merge_cons, if_pos (by simp [leI, hxy])]; simp, by simp; omega⟩
          case measure => simp [lenV]; omega
        · go_wp2
          go_quiet (fail)
          go_wp2_with (at_builtin; refine wpList_push rfl (.tmp 59) (.tmp 63) rfl w2.heap.size _ _ _ rfl (hown.drewN _) rfl (by omega) hs ?_; intro v' w4 hown4 hg4)
          go_roundw
          case rel => exact ⟨_, _, _, _, _, _, _, _, _, rfl, rfl, HSA.out, hsb'.out, hown4, (below_drewN hbel _).grown hg4 hs hn, by rw [← HE.out, List.cons_merge_cons, if_neg (by simp [leI, hxy])]; simp, by simp; omega⟩
          case measure => simp [lenV]; omega

theorem sort_small (a : Option Addr) (l c : Nat) (xs : List Int) (w : World) (hA : Sl w a l c xs) (h2 : l < 2) :
    Calls Try.prog 24 #[.slice a l c] w (Gives (sortL xs) w) := by
  have hcall := Lib.hid (copied_any a l c xs w hA (by omega))
  have e : sortL xs = xs := by
    have := hA.hlen
    match xs with
    | [] => simp [sortL]
    | [x] => simp [sortL]
    | _ :: _ :: _ => simp at this; omega
  rw [e]
  clear hA e
  go_enter Try.func24, Try.ntmps24
  go_wp2_with fail
  refine hcall.out.mono ?_
  rintro e w' ⟨v, rfl, hown, hb⟩
  go_wp2
  go_ret
  exact ⟨v, rfl, hown, hb⟩

theorem sort_any_n (n : Nat) : ∀ (a : Option Addr) (l c : Nat) (xs : List Int) (w : World), l ≤ n → Sl w a l c xs → l ≤ 1000 → Calls Try.prog 24 #[.slice a l c] w (Gives (sortL xs) w) := by
  induction n with
  | zero => exact fun a l c xs w hn hA _ => sort_small a l c xs w hA (by omega)
  | succ n ih =>
    intro a l c xs w hn hA hl
    by_cases h2 : 2 ≤ l
    · exact sort_step n ih a l c xs w hA hl hn h2
    · exact sort_small a l c xs w hA (by omega)

theorem sort_any (a : Option Addr) (l c : Nat) (xs : List Int) (w : World) (hA : Sl w a l c xs) (hl : l ≤ 1000) :
    Calls Try.prog 24 #[.slice a l c] w (Gives (sortL xs) w) := sort_any_n l a l c xs w (Nat.le_refl _) hA hl
end Go.Proofs.Ytecjnenjjedceaa
