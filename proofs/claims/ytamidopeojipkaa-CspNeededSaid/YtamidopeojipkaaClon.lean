/- slices.Clone. -/
import Derived.Test.YtamidopeojipkaaSolv
namespace Go.Proofs.Ytamidopeojipkaa
open Go.RowKit
set_option linter.unusedVariables false

theorem eql_nil (w : World) : (binOp BinOp.eql 22 (.slice none 0 0) (.slice none 0 0)).run Try.prog w = .ok (.bool true) w := by kernel_rfl
theorem eql_some (w : World) (g n cap : Nat) : (binOp BinOp.eql 22 (.slice (some ⟨g, 0, none⟩) n cap) (.slice none 0 0)).run Try.prog w = .ok (.bool false) w := by kernel_rfl
set_option maxRecDepth 20000 in
set_option maxHeartbeats 800000 in
theorem clone_any {w : World} {base : Nat} {v : Value} {xs : List Int} (h1 : OwnI w base v xs) (hl : xs.length ≤ 1000) :
    Calls Try.prog 44 #[v] w fun e w' => ∃ v', e = .returned v' ∧ OwnI w' w.heap.size v' xs ∧ Below w.heap.size w w' := by
  rcases h1.2 with ⟨rfl, h0⟩ | ⟨g, cap, cur, rfl, hb, hg, hn, hm, hs, ht⟩
  · have : xs = [] := List.eq_nil_of_length_eq_zero h0
    subst this
    have he := eql_nil w
    go_enter Try.func44, Try.ntmps44
    go_wp2
    go_ret
    exact ⟨_, rfl, OwnI.nil _ _, Below.refl _ _⟩
  · have hc : ∀ j, j < xs.length → w.cell? ⟨g, 0 + j, none⟩ = some (.int .i64 (xs.getD j 0)) := by
      intro j hj
      rw [cell_of_row w g (0 + j) cur _ (0, 0) hg, Nat.zero_add]
      have e : cur[j]? = (cur.toList.take (xs.length * 1))[j]? := by
        rw [List.getElem?_take, if_pos (by omega)]; simp
      rw [e, ht]
      simp [List.getD, hj]
    have hbl := (Below.refl w.heap.size w).alloc (Nat.le_refl _) (.cells #[] 3)
    have hgl := (Array.getElem?_eq_some_iff.1 hg).1
    have hc2 : ∀ j, j < xs.length → (w.alloc (.cells #[] 3)).cell? ⟨g, 0 + j, none⟩ = some (.int .i64 (xs.getD j 0)) := fun j hj => (hbl.cell (p := ⟨g, 0 + j, none⟩) hgl).trans (hc j hj)
    have hown : OwnI (w.alloc (.cells #[] 3)) w.heap.size (.slice (some ⟨w.heap.size, 0, none⟩) 0 0) [] :=
      ⟨rfl, .inr ⟨w.heap.size, 0, #[], rfl, Nat.le_refl _, heap_alloc_new _ _, Nat.le_refl _, by unfold maxLen; omega, rfl, rfl⟩⟩
    have HC := Lib.hid hc2
    have HB := Lib.hid hbl
    have HO := Lib.hid hown
    have HM : Hid (w.heap.size ≤ (w.alloc (.cells #[] 3)).heap.size) := Lib.hid (by simp)
    have he := eql_some w g xs.length cap
    clear hc hbl hc2 hown h1 hg hm hs ht
    go_enter Try.func44, Try.ntmps44
    go_wp2_with (refine wpList_appI rfl (.tmp 5) (.tmp 6) rfl w.heap.size (.slice (some ⟨w.heap.size, 0, none⟩) 0 0) [] rfl HO.out g 0 cap xs rfl HC.out (by simp; omega) HM.out ?_; intro v5 w5 ho5 hg5)
    go_ret
    exact ⟨_, rfl, ho5, grown_below HB.out hg5 HO.out⟩
end Go.Proofs.Ytamidopeojipkaa
