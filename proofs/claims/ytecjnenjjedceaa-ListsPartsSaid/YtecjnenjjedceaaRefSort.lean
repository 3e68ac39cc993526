/- ref Sort. -/
import Derived.Test.YtecjnenjjedceaaSort
namespace Go.Proofs.Ytecjnenjjedceaa
open Go.RowKit
set_option linter.unusedVariables false

theorem wpList_app {w : World} {ops : Array Oper} {rest : List Oper} {o : Oper} {a : Act} {Q : Exit → Act → World → Prop} (hgd : o.guard = none) (s x : Operand)
    (ho : o.op = .call { callee := .builtin .append, args := #[s, x], argTypes := #[22, 22] })
    (base : Nat) (v : Value) (zs : List Int) (hs : a.eval s = v) (hown : Own w base v zs)
    (sp : Option Addr) (l c : Nat) (xs : List Int) (hx : a.eval x = .slice sp l c) (hsl : Sl w sp l c xs) (hnil : sp = none → c = 0) (hlen : zs.length + l ≤ 1000000) (hbase : base ≤ w.heap.size)
    (h : ∀ v' w', Own w' base v' (zs ++ xs) → w.grownBy w' v.ownBlock → wpList Try.prog ops Q rest (a.put o.dst v') w') :
    wpList Try.prog ops Q (o :: rest) a w := by
  obtain ⟨i0, hi, hz0, hz1, hz2⟩ := info_parts info2
  have hxl := hsl.hlen
  cases hsp : sp with
  | none =>
    have hc := hnil hsp
    have hl : l = 0 := by have := hsl.hcap; omega
    subst hsp hc hl
    have hx0 : xs = [] := List.eq_nil_of_length_eq_zero hxl
    subst hx0
    refine wpList_plain hgd fun K hK => ?_
    have hrun := run_append_owned_none (P := Try.prog) w base 22 o.type 2 i0 1 Try.underlying22 hi v _ _ hown
    unfold Oper.wp
    simp [execOp, ho, resolve, invoke, builtin, hs, hx, hrun, Result.andThen]
    exact hK _ _ (h v w (by simpa using hown) (World.grownBy.refl _ _))
  | some ad =>
    subst hsp
    refine wpList_append_own _ hgd s x 22 ho base 2 i0 (.int .i64 0) 1 8 Try.underlying22 hi hz0 hz1 hz2 rfl (by decide) v zs.length (zs.map (Value.int .i64)) hs hown
      ad l c (xs.map (Value.int .i64)) hx (by simp [hxl]) (hsl.src rfl) (ints_oneCell _ _) (by unfold maxLen; omega) (by omega) hbase ?_
    intro v' w' hown' hg _
    refine h v' w' ?_ hg
    unfold Own
    rw [List.length_append, List.map_append, hxl]
    exact hown'

/-- O with x put in at place k -/
def insK (O : List Int) (k : Nat) (x : Int) : List Int := O.take k ++ [x] ++ O.drop k

theorem insK_length (O : List Int) (k : Nat) (x : Int) : (insK O k x).length = O.length + 1 := by
  simp [insK]; omega

theorem insK_perm (O : List Int) (k : Nat) (x : Int) : (insK O k x).Perm (O ++ [x]) := by
  have h1 : (insK O k x).Perm (O.take k ++ (O.drop k ++ [x])) := by
    unfold insK
    rw [List.append_assoc]
    exact List.Perm.append_left _ List.perm_append_comm
  rw [← List.append_assoc, List.take_append_drop] at h1
  exact h1

theorem insK_sorted {O : List Int} (hO : O.Pairwise (· ≤ ·)) (k : Nat) (x : Int) (h1 : ∀ j, k ≤ j → j < O.length → x ≤ O.getD j 0) (h2 : ∀ j, j < k → j < O.length → O.getD j 0 ≤ x) :
    (insK O k x).Pairwise (· ≤ ·) := by
  unfold insK
  rw [List.append_assoc, List.pairwise_append]
  refine ⟨hO.take, ?_, ?_⟩
  · rw [List.singleton_append, List.pairwise_cons]
    refine ⟨fun y hy => ?_, hO.drop⟩
    obtain ⟨j, hj, rfl⟩ := List.mem_iff_getElem.1 hy
    rw [List.length_drop] at hj
    have := h1 (k + j) (by omega) (by omega)
    rw [List.getElem_drop]
    simpa [List.getD, show k + j < O.length by omega] using this
  · intro y hy z hz
    obtain ⟨j, hj, rfl⟩ := List.mem_iff_getElem.1 hy
    rw [List.length_take] at hj
    have h3 : O.getD j 0 ≤ x := h2 j (by omega) (by omega)
    have e : (O.take k)[j] = O.getD j 0 := by simp [List.getD, show j < O.length by omega]
    rw [e]
    rw [List.singleton_append] at hz
    rcases List.mem_cons.1 hz with rfl | hz
    · exact h3
    · obtain ⟨i, hi, rfl⟩ := List.mem_iff_getElem.1 hz
      rw [List.length_drop] at hi
      have := h1 (k + i) (by omega) (by omega)
      have e2 : (O.drop k)[i] = O.getD (k + i) 0 := by simp [List.getD, show k + i < O.length by omega]
      rw [e2]; omega

theorem sorted_getD {O : List Int} (hO : O.Pairwise (· ≤ ·)) {i j : Nat} (hij : i ≤ j) (hj : j < O.length) : O.getD i 0 ≤ O.getD j 0 := by
  by_cases e : i = j
  · subst e; omega
  · have := List.pairwise_iff_getElem.1 hO i j (by omega) hj (by omega)
    simpa [List.getD, hj, show i < O.length by omega] using this

theorem Sl.drewN {w : World} {a : Option Addr} {l c : Nat} {xs : List Int} (h : Sl w a l c xs) (n : Nat) : Sl (w.drewN n) a l c xs := h.below (below_drewN (Below.refl _ _) n)

theorem Own.sl' {w : World} {base : Nat} {v : Value} {zs : List Int} (h : Own w base v zs) : ∃ a cap, v = .slice a zs.length cap ∧ Sl w a zs.length cap zs ∧ (a = none → cap = 0) := by
  obtain ⟨a, cap, rfl, hs⟩ := h.sl
  refine ⟨a, cap, rfl, hs, fun e => ?_⟩
  subst e
  rcases h.2 with ⟨h1, _⟩ | ⟨g, cap', cur, h1, _⟩
  · simp only [Value.slice.injEq, true_and] at h1; exact h1.2
  · cases h1

def SRel (xs : List Int) (w : World) (l k : Nat) (v : Value) (wr : World) : Prop :=
  k ≤ l ∧ ∃ O, O.Pairwise (· ≤ ·) ∧ O.Perm (xs.take k) ∧ Own wr w.heap.size v O ∧ Below w.heap.size w wr

set_option maxHeartbeats 1600000 in
theorem refSort_any (a : Option Addr) (l c : Nat) (xs : List Int) (w : World) (hA : Sl w a l c xs) (hl : l ≤ 1000) :
    Calls Try.prog 25 #[.slice a l c] w (Gives (sortL xs) w) := by
  obtain ⟨b1, o1, ha0, hac⟩ := hA.cell
  have hxl := Lib.hid hA.hlen
  clear hA
  go_enter Try.func25, Try.ntmps25
  go_wp2
  go_loopw [3, 4] (fun v i wr => ∃ k : Nat, i = .int .i64 k ∧ SRel xs w l k v wr) (fun _ i _ => l - (intOf i).toNat)
  case atStart => exact ⟨0, rfl, by omega, [], List.Pairwise.nil, by simp, Own.nil _ _, Below.refl _ _⟩
  case round =>
    obtain ⟨i, rfl, hk, O, hO, hP, hown, hbel⟩ := hrel
    by_cases hlt : i < l
    · obtain ⟨rfl, hb1⟩ := ha0 (by omega)
      have c1 : wr.cell? ⟨b1, o1 + i, none⟩ = some (.int .i64 (xs.getD i 0)) := (hbel.cell hb1).trans (hac i hlt)
      generalize hx : xs.getD i 0 = x at c1
      have hst := Lib.hid (take_snoc xs i x (by rw [hxl.out]; exact hlt) hx)
      have hOl : O.length ≤ 1000 := by rw [hP.length_eq]; have := List.length_take_le i xs; omega
      have hs := hbel.size
      have HO := Lib.hid hO
      have HP := Lib.hid hP
      obtain ⟨ao, co, rfl, hso, hnil⟩ := hown.sl'
      have HNIL := Lib.hid hnil
      have hoc := hso.hcap
      have HOW := Lib.hid hown
      generalize hn : O.length = n at hso hOl hoc
      have HN := Lib.hid hn
      have HSO := Lib.hid hso
      clear hx hac ha0 hO hP hown hn hnil hso
      go_wp2
      obtain ⟨wo, rfl⟩ : ∃ wo : World, wo = wr := ⟨_, rfl⟩
      go_loopw [5] (fun kk wi => ∃ k : Nat, kk = .int .i64 k ∧ k ≤ n ∧ (∀ j, k ≤ j → j < n → x < O.getD j 0) ∧ ∃ m, wi = wo.drewN m) (fun kk _ => (intOf kk).toNat)
      case atStart => exact ⟨n, rfl, Nat.le_refl _, fun j h1 h2 => by omega, 0, rfl⟩
      case round =>
        obtain ⟨k, rfl, hkn, hgt, m, rfl⟩ := hrel
        have hb0 : Below wo.heap.size wo (wo.drewN m) := below_drewN (Below.refl _ _) m
        by_cases hcont : ∃ j, k = j + 1 ∧ x < O.getD j 0
        · obtain ⟨j, rfl, hj⟩ := hcont
          obtain ⟨ba, oa, ha, hac⟩ := HSO.out.cell
          obtain ⟨rfl, _⟩ := ha (by omega)
          have c2 := hac j (by omega)
          have hgt' : ∀ i, j ≤ i → i < n → x < O.getD i 0 := fun i h1 h2 => by
            by_cases e : i = j
            · subst e; exact hj
            · exact hgt i (by omega) h2
          have HG := Lib.hid hgt'
          generalize hy : O.getD j 0 = y at c2 hj
          clear hgt hgt' hac ha hy
          have e1 : IntKind.i64.wrap ((j : Int) + 1 - 1) = (j : Int) := by rw [IntWalk.i64_in _ (by omega)]; omega
          go_wp2
          go_quiet (fail)
          clear e1
          go_wp2
          go_roundw
          case rel => exact ⟨j, by go_num, by omega, HG.out, m + nq, rfl⟩
          case measure => simp [intOf]
        · have hle : ∀ j, j < k → j < O.length → O.getD j 0 ≤ x := by
            intro j h1 h2
            match k, h1, hcont with
            | k + 1, h1, hcont =>
              have h3 : ¬ x < O.getD k 0 := fun h => hcont ⟨k, rfl, h⟩
              have h4 := sorted_getD HO.out (i := j) (j := k) (by omega) (by rw [HN.out]; omega)
              omega
          have hins := Lib.hid (insK_sorted HO.out k x (fun j h1 h2 => by have := hgt j h1 (by rw [← HN.out]; exact h2); omega) hle)
          have hprm := Lib.hid (show (insK O k x).Perm (xs.take (i + 1)) by rw [hst.out]; exact (insK_perm O k x).trans (HP.out.append_right [x]))
          have hlen := Lib.hid (insK_length O k x)
          have hcase : k = 0 ∨ ∃ j, k = j + 1 ∧ O.getD j 0 ≤ x := by
            match k, hcont with
            | 0, _ => exact .inl rfl
            | k + 1, hcont => exact .inr ⟨k, rfl, by have h3 : ¬ x < O.getD k 0 := fun h => hcont ⟨k, rfl, h⟩; omega⟩
          clear hgt hle hcont
          have hfin : ∀ W1 : World, Below wo.heap.size wo W1 → Hid (Sl W1 ao k co (O.take k)) := fun W1 hb => Lib.hid ((HSO.out.take hkn).below hb)
          have hfin2 : ∀ W1 : World, Below wo.heap.size wo W1 → ¬ co = k → Hid (Sl W1 (Option.map (fun x => x.add k) ao) (n - k) (co - k) (O.drop k)) := fun W1 hb hck => Lib.hid ((HSO.out.drop' hkn hck).below hb)
          have HNIL2 : Hid (Option.map (fun x => x.add k) ao = none → co - k = 0) := fun h => by have := HNIL.out (by simpa using h); omega
          have hlt2 : (O.take k).length ≤ 1000 := by rw [List.length_take]; omega
          rcases hcase with hk0 | hcase
          case' inl =>
            have hk0' : decide (0 < k) = false := by simp; omega
            have hk0'' : (k : Int) ≤ 0 := by omega
            clear hk0
            go_wp2
            go_quiet (fail)
          case' inr =>
            obtain ⟨j, hk1, hj⟩ := hcase
            have hk0' : decide (0 < k) = true := by simp; omega
            have hk0'' : (0 : Int) < k := by omega
            obtain ⟨ba, oa, ha, hac⟩ := HSO.out.cell
            obtain ⟨rfl, _⟩ := ha (by omega)
            have c2 := hac j (by omega)
            have e1 : IntKind.i64.wrap ((k : Int) - 1) = (j : Int) := by rw [IntWalk.i64_in _ (by omega)]; omega
            have hjn : (j : Int) < n := by omega
            generalize hy : O.getD j 0 = y at c2 hj
            clear hac ha hy hk1
            go_wp2
            go_quiet (fail)
          all_goals
            have hb2 := below_drewN hb0 nq
            have c3 : ((wo.drewN m).drewN nq).cell? ⟨b1, o1 + i, none⟩ = some (.int .i64 x) := c1
            generalize (wo.drewN m).drewN nq = W1 at hb2 c3 ⊢
            have hW1 := hb2.size
            clear c1
            by_cases hck : co = k
            · have hnk : n - k = 0 := by omega
              have hdr := Lib.hid (show O.drop k = [] from List.drop_of_length_le (by rw [HN.out]; omega))
              subst hck
              go_wp2_with (first
                | (at_builtin; refine wpList_app rfl (.tmp 31) (.tmp 34) rfl wo.heap.size (.slice none 0 0) [] rfl (Own.nil _ _) _ co co (O.take co) rfl (hfin _ hb2).out HNIL.out (by simp; omega) hW1 ?_; intro v1 w4 hown4 hg4; have c4 := hg4.cell c3 (by simp [Value.ownBlock]); have hW4 := Nat.le_trans hW1 hg4.size)
                | (at_builtin; refine wpList_push rfl (.tmp 36) (.tmp 41) rfl wo.heap.size v1 _ _ rfl hown4 rfl (by rw [List.nil_append]; omega) hW4 ?_; intro v2 w5 hown5 hg5; have hW5 := Nat.le_trans hW4 hg5.size)
                | (at_builtin; refine wpList_app rfl (.tmp 43) (.tmp 46) rfl wo.heap.size v2 _ rfl hown5 _ 0 0 [] rfl (Sl.empty _ _ (by unfold maxLen; omega)) (fun _ => rfl) (by rw [List.nil_append, List.length_append, List.length_singleton]; omega) hW5 ?_; intro v3 w6 hown6 hg6))
              go_roundw
              case rel =>
                refine ⟨i + 1, by go_num, by omega, insK O co x, hins.out, hprm.out, ?_, ?_⟩
                · have e : insK O co x = ([] ++ O.take co ++ [x]) ++ [] := by simp [insK, hdr.out]
                  rw [e]; exact hown6.mono hs
                · have hb4 := hb2.grown hg4 hW1 (fun k h => by cases h)
                  have hb5 := hb4.grown hg5 hW4 (fun k h => (hown4.lt k h).1)
                  have hb6 := hb5.grown hg6 hW5 (fun k h => (hown5.lt k h).1)
                  exact bnext hbel hb6
              case measure => simp [intOf]; omega
            · have hdl : (O.drop k).length = n - k := by rw [List.length_drop, HN.out]
              have HDL := Lib.hid hdl
              clear hdl
              go_wp2_with (first
                | (at_builtin; refine wpList_app rfl (.tmp 31) (.tmp 34) rfl wo.heap.size (.slice none 0 0) [] rfl (Own.nil _ _) _ k co (O.take k) rfl (hfin _ hb2).out HNIL.out (by simp; omega) hW1 ?_; intro v1 w4 hown4 hg4; have c4 := hg4.cell c3 (by simp [Value.ownBlock]); have hW4 := Nat.le_trans hW1 hg4.size; have hb4 := Lib.hid (hb2.grown hg4 hW1 (fun k h => by cases h)))
                | (at_builtin; refine wpList_push rfl (.tmp 36) (.tmp 41) rfl wo.heap.size v1 _ _ rfl hown4 rfl (by rw [List.nil_append]; omega) hW4 ?_; intro v2 w5 hown5 hg5; have hW5 := Nat.le_trans hW4 hg5.size; have hb5 := Lib.hid (hb4.out.grown hg5 hW4 (fun k h => (hown4.lt k h).1)))
                | (at_builtin; (refine wpList_app rfl (.tmp 43) (.tmp 46) rfl wo.heap.size v2 _ rfl hown5 _ (n - k) (co - k) (O.drop k) rfl (by simpa [Addr.add_lit] using (hfin2 _ hb5.out hck).out) (by intro h; first | (simp at h; done) | exact HNIL2.out h) (by rw [List.nil_append, List.length_append, List.length_singleton]; omega) hW5 ?_); intro v3 w6 hown6 hg6))
              go_roundw
              case rel =>
                refine ⟨i + 1, by go_num, by omega, insK O k x, hins.out, hprm.out, ?_, ?_⟩
                · have e : insK O k x = ([] ++ O.take k ++ [x]) ++ O.drop k := by simp [insK]
                  rw [e]; exact hown6.mono hs
                · exact bnext hbel (hb5.out.grown hg6 hW5 (fun k h => (hown5.lt k h).1))
              case measure => simp [intOf]; omega
    · have hk' : i = l := by omega
      have HE := Lib.hid (sorted_unique hO (sortL_sorted xs) (hP.trans (by rw [hk', List.take_of_length_le (by rw [hxl.out]; exact Nat.le_refl _)]; exact (sortL_perm xs).symm)))
      clear hO hP hk'
      go_wp2
      go_ret
      rw [← HE.out]
      exact ⟨_, rfl, hown, hbel⟩
end Go.Proofs.Ytecjnenjjedceaa
