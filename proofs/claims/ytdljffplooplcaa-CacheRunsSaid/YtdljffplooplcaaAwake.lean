/- awake. -/
import Derived.Test.YtdljffplooplcaaIs
namespace Go.Proofs.Ytdljffplooplcaa
open Go.RowKit
set_option linter.unusedVariables false

def kA : ByteArray := { data := #[97] }
def kB : ByteArray := { data := #[98] }
def kC : ByteArray := { data := #[99] }
theorem aw1 : putE 2 kA (.node 1 []) [] = [(kA, .node 1 [])] ∧ fullE 2 kA [] = false := ⟨by kernel_rfl, by kernel_rfl⟩
theorem aw2 : putE 2 kB (.node 2 []) [(kA, .node 1 [])] = [(kB, .node 2 []), (kA, .node 1 [])] ∧ fullE 2 kB [(kA, .node 1 [])] = false := ⟨by kernel_rfl, by kernel_rfl⟩
theorem aw3 : lookE kA [(kB, .node 2 []), (kA, .node 1 [])] = some (.node 1 []) ∧ getE kA [(kB, .node 2 []), (kA, .node 1 [])] = [(kA, .node 1 []), (kB, .node 2 [])] := ⟨by kernel_rfl, by kernel_rfl⟩
theorem aw4 : putE 2 kC (.node 3 []) [(kA, .node 1 []), (kB, .node 2 [])] = [(kC, .node 3 []), (kA, .node 1 [])] ∧ fullE 2 kC [(kA, .node 1 []), (kB, .node 2 [])] = true := ⟨by kernel_rfl, by kernel_rfl⟩
theorem aw5 : lookE kB [(kC, .node 3 []), (kA, .node 1 [])] = none ∧ getE kB [(kC, .node 3 []), (kA, .node 1 [])] = [(kC, .node 3 []), (kA, .node 1 [])] := ⟨by kernel_rfl, by kernel_rfl⟩

set_option maxHeartbeats 4000000 in
theorem awake_any (w : World) : Calls Try.prog 9 #[] w fun e w' => e = .returned (.bool true) ∧ Below w.heap.size w w' := by
  have HNEW := Lib.hid (new_is (cap := 2) (by decide) (by decide) w)
  go_enter Try.func9, Try.ntmps9
  go_wp2_with fail
  refine HNEW.out.mono ?_
  rintro e w1 ⟨c, rfl, hc, s1, hb1⟩
  have HP1 := Lib.hid (put_is s1 kA (.node 1 []) (.slice none 0 0) (fun _ => False) (ArgsAt.nil _ _) (fun _ h => h.elim) (by decide) ⟨by decide, by decide⟩)
  have HB1 := Lib.hid hb1
  have U1 := Lib.hid s1.under
  clear s1 hb1
  go_wp2_with fail
  refine HP1.out.mono ?_
  rintro e w2 ⟨rfl, s2, hn2⟩
  rw [aw1.1, aw1.2] at s2
  obtain ⟨F2, s2, hG2⟩ := s2.name
  have HG2 := Lib.hid hG2
  clear hG2
  have HP2 := Lib.hid (put_is s2 kB (.node 2 []) (.slice none 0 0) (fun _ => False) (ArgsAt.nil _ _) (fun _ h => h.elim) (by decide) ⟨by decide, by decide⟩)
  have HN2 := Lib.hid hn2
  have U2 := Lib.hid s2.under
  clear s2 hn2
  go_wp2_with fail
  refine HP2.out.mono ?_
  rintro e w3 ⟨rfl, s3, hn3⟩
  rw [aw2.1, aw2.2] at s3
  obtain ⟨F3, s3, hG3⟩ := s3.name
  have HGG3 := Lib.hid hG3
  clear hG3
  have HG3 := Lib.hid (get_is s3 kA ⟨by decide, by decide⟩ ⟨by decide, by decide⟩)
  have HN3 := Lib.hid hn3
  have U3 := Lib.hid s3.under
  clear s3 hn3
  go_wp2_with fail
  refine HG3.out.mono ?_
  rintro e w4 ⟨⟨v4, rfl, ha4, _⟩, s4, hn4⟩
  rw [aw3.1, aw3.2] at s4
  rw [aw3.1] at ha4 ⊢
  obtain ⟨a4, l4, q4, rfl⟩ := ha4.slice
  simp only [Option.getD_some, T.rule]
  have hb4 : Below w4.heap.size w4 (w4.alloc (.cells #[.int .i64 1, .slice a4 l4 q4] 36)) := (Below.refl _ _).alloc (Nat.le_refl _) _
  have HROW := Lib.hid (heap_alloc_new w4 (.cells #[.int .i64 1, .slice a4 l4 q4] 36))
  have HP4 := Lib.hid (put_is (s4.below hb4) kC (.node 3 []) (.slice none 0 0) (fun _ => False) (ArgsAt.nil _ _) (fun _ h => h.elim) (by decide) ⟨by decide, by decide⟩)
  have HN4 := Lib.hid hn4
  have U4 := Lib.hid s4.under
  clear s4 hn4 ha4 hb4
  go_wp2_with fail
  refine HP4.out.mono ?_
  rintro e w5 ⟨rfl, s5, hn5⟩
  rw [aw4.1, aw4.2] at s5
  have hr5 : w5.heap[w4.heap.size]? = some (.cells #[.int .i64 1, .slice a4 l4 q4] 36 (0, 0)) :=
    (hn5.block w4.heap.size (by simp) fun e => by have := U4.out _ e; omega).trans HROW.out
  obtain ⟨F5, s5, hG5⟩ := s5.name
  have hF5 : ∀ x, F5 x → x ≠ w4.heap.size := fun x hx => by
    rcases hG5 x hx with hx | hx
    · have := U4.out _ hx; omega
    · have := hx.1; simp at this; omega
  have HPK := Lib.hid (peek_is s5 kB)
  have S5 := Lib.hid s5
  have HR5 := Lib.hid hr5
  have HF5 := Lib.hid hF5
  have HN5 := Lib.hid hn5
  have HG5 := Lib.hid hG5
  clear s5 hn5 hr5 hF5 hG5
  go_wp2_with fail
  refine HPK.out.mono ?_
  rintro e w6 ⟨⟨v6, rfl, ha6, _⟩, hb6⟩
  rw [aw5.1] at ha6 ⊢
  obtain ⟨a6, l6, q6, rfl⟩ := ha6.slice
  simp only [Option.getD_none, T.rule]
  have hb6' : Below w5.heap.size w5 (w6.alloc (.cells #[.int .i64 0, .slice a6 l6 q6] 36)) := Below.next hb6 ((Below.refl _ _).alloc (Nat.le_refl _) _)
  have HST6 := Lib.hid (stats_is (S5.out.below hb6'))
  have HB6 := Lib.hid hb6'
  clear hb6 hb6' ha6
  go_wp2_with fail
  refine HST6.out.mono ?_
  rintro e w7 ⟨rfl, hb7⟩
  have hb57 := Below.next HB6.out hb7
  have HG7 := Lib.hid (get_is (S5.out.below hb57) kB ⟨by decide, by decide⟩ ⟨by decide, by decide⟩)
  have HB57 := Lib.hid hb57
  clear hb7 hb57
  go_wp2_with fail
  refine HG7.out.mono ?_
  rintro e w8 ⟨⟨v8, rfl, ha8, _⟩, s8, hn8⟩
  rw [aw5.1] at ha8 ⊢
  rw [aw5.1, aw5.2] at s8
  obtain ⟨a8, l8, q8, rfl⟩ := ha8.slice
  simp only [Option.getD_none, T.rule]
  have hb8 : Below w8.heap.size w8 (w8.alloc (.cells #[.int .i64 0, .slice a8 l8 q8] 36)) := (Below.refl _ _).alloc (Nat.le_refl _) _
  have s9 := s8.below hb8
  have HST8 := Lib.hid (stats_is s9)
  have S9 := Lib.hid s9
  have HB8 := Lib.hid hb8
  have HN8 := Lib.hid hn8
  clear s8 hn8 ha8 hb8 s9
  go_wp2_with fail
  refine HST8.out.mono ?_
  rintro e w9 ⟨rfl, hb9⟩
  have HK9 := Lib.hid (keys_is (S9.out.below hb9) (by decide))
  have HB9 := Lib.hid hb9
  clear hb9
  go_wp2_with fail
  refine HK9.out.mono ?_
  rintro e w10 ⟨v, rfl, hown, hb10⟩
  have hkl : keysE [(kC, T.node 3 []), (kA, T.node 1 [])] = [kC, kA] := rfl
  rw [hkl] at hown
  obtain ⟨g, cap, rfl⟩ := ownsRow_succ hown
  have hg0 := World.ownsRow.cells hown (g := g) rfl 0 _ rfl
  have hg1 := World.ownsRow.cells hown (g := g) rfl 1 _ rfl
  rw [Addr.add_lit] at hg0 hg1
  have hcap : 2 ≤ cap ∧ cap ≤ maxLen := by
    rcases hown.2 with ⟨h0, _⟩ | ⟨g', cap', cur, h0, hb, hg, hn, hm, hs, ht⟩
    · cases h0
    · cases h0; exact ⟨hn, hm⟩
  have hb810 := Below.next HB8.out (Below.next HB9.out hb10)
  have hr8 : w8.heap[w4.heap.size]? = some (.cells #[.int .i64 1, .slice a4 l4 q4] 36 (0, 0)) := by
    have h5 : w4.heap.size < w5.heap.size := (Array.getElem?_eq_some_iff.1 HR5.out).1
    refine (HN8.out.block w4.heap.size (Nat.lt_of_lt_of_le h5 HB57.out.size) fun e => HF5.out _ e rfl).trans ((HB57.out.block _ h5).trans HR5.out)
  have hr10 := (hb810.block w4.heap.size (Array.getElem?_eq_some_iff.1 hr8).1).trans hr8
  have b0 : w10.cell? ⟨w4.heap.size, 0, none⟩ = some (.int .i64 1) := (cell_of_row w10 _ 0 _ _ _ hr10).trans rfl
  have HB810 := Lib.hid hb810
  clear hb10 hb810 hr8 hr10 hown
  have tC : (kC.toList == [99]) = true := by kernel_rfl
  have tA : (kA.toList == [97]) = true := by kernel_rfl
  go_wp2_with fail
  go_ret
  refine ⟨rfl, ?_⟩
  have n1 : Below w.heap.size w w1 := HB1.out
  have n2 := Below.stepN n1 HN2.out fun k hk => hk.1
  have f2 : ∀ k, F2 k → w.heap.size ≤ k := fun k hk => by
    have z1 := n1.size
    rcases HG2.out k hk with e | e
    · exact e.1
    · have := e.1; omega
  have n3 := Below.stepN n2 HN3.out f2
  have f3 : ∀ k, F3 k → w.heap.size ≤ k := fun k hk => by
    have z2 := n2.size
    rcases HGG3.out k hk with e | e
    · exact f2 k e
    · have := e.1; omega
  have n4 := Below.stepN n3 HN4.out f3
  have n5 := Below.stepN (Below.next n4 ((Below.refl _ _).alloc (Nat.le_refl _) _)) HN5.out f3
  have f5 : ∀ k, F5 k → w.heap.size ≤ k := fun k hk => by
    have z4 := n4.size
    rcases HG5.out k hk with e | e
    · exact f3 k e
    · have := e.1; simp at this; omega
  have n8 := Below.stepN (Below.next n5 HB57.out) HN8.out f5
  exact Below.next n8 HB810.out
end Go.Proofs.Ytdljffplooplcaa
