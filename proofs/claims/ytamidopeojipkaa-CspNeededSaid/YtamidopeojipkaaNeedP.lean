/- CspNeeded: the plain part. -/
import Derived.Test.YtamidopeojipkaaCoreQ
namespace Go.Proofs.Ytamidopeojipkaa
open Go.RowKit
set_option linter.unusedVariables false

/-- increasing numbers from one on, below another -/
def inc (len : Nat) : Nat → List Nat → Prop
  | _, [] => True
  | a, i :: M => a ≤ i ∧ i < len ∧ inc len (i + 1) M
theorem inc_le {len : Nat} : ∀ {a b : Nat} {M : List Nat}, inc len b M → a ≤ b → inc len a M
  | _, _, [], _, _ => trivial
  | _, _, _ :: _, h, hab => ⟨Nat.le_trans hab h.1, h.2⟩
theorem inc_lt {len : Nat} : ∀ {a : Nat} {M : List Nat}, inc len a M → ∀ i ∈ M, i < len
  | _, [], _, i, hi => by simp at hi
  | _, j :: M, h, i, hi => by
    rcases List.mem_cons.1 hi with e | e
    · rw [e]; exact h.2.1
    · exact inc_lt h.2.2 i e
theorem inc_erase {len : Nat} : ∀ {a : Nat} {M : List Nat} (j : Nat), inc len a M → inc len a (M.eraseIdx j)
  | _, [], j, _ => by simp [inc]
  | a, i :: M, 0, h => by simpa using inc_le h.2.2 (Nat.le_succ_of_le h.1)
  | a, i :: M, j + 1, h => ⟨h.1, h.2.1, inc_erase j h.2.2⟩
theorem inc_range (len : Nat) : ∀ (n a : Nat), a + n = len → inc len a (List.range' a n)
  | 0, _, _ => trivial
  | n + 1, a, h => by
    rw [List.range'_succ]
    exact ⟨Nat.le_refl _, by omega, inc_range len n (a + 1) (by omega)⟩
/-- neighbours -/
theorem inc_next {len : Nat} : ∀ {a : Nat} {M : List Nat}, inc len a M → ∀ k, k + 1 < M.length → M.getD k 0 < M.getD (k + 1) 0
  | _, [], _, k, hk => by simp at hk
  | _, [_], _, k, hk => by simp at hk
  | _, i :: i2 :: M, h, 0, _ => by
    have := h.2.2.1
    simp; omega
  | _, i :: i2 :: M, h, k + 1, hk => by simpa using inc_next h.2.2 k (by simpa using hk)
theorem coreS_some {p : Prob} : ∀ (k : Nat) (ch : List Nat) (from_ : Nat) (L : List Nat), coreS p k ch from_ = some L → ∃ M, L = ch ++ M ∧ M.length = k ∧ inc p.rels.length from_ M ∧ sols (subP p L) [] = []
  | 0, ch, from_, L, h => by
    unfold coreS at h
    split at h
    · rename_i hz
      cases h
      exact ⟨[], by simp, rfl, trivial, hz⟩
    · cases h
  | k + 1, ch, from_, L, h => by
    unfold coreS at h
    obtain ⟨i, hi, hf⟩ := List.exists_of_findSome?_eq_some h
    rw [List.mem_range'_1] at hi
    obtain ⟨M, h1, h2, h3, h4⟩ := coreS_some k _ _ _ hf
    exact ⟨i :: M, by rw [h1]; simp, by simp [h2], ⟨hi.1, by omega, h3⟩, h4⟩
theorem coreS_no {p : Prob} : ∀ (k : Nat) (ch : List Nat) (from_ : Nat), coreS p k ch from_ = none → ∀ M, M.length = k → inc p.rels.length from_ M → sols (subP p (ch ++ M)) [] ≠ []
  | 0, ch, from_, h, M, hM, _ => by
    have : M = [] := List.eq_nil_of_length_eq_zero hM
    subst this
    unfold coreS at h
    split at h
    · cases h
    · rename_i hz; simpa using hz
  | k + 1, ch, from_, h, [], hM, _ => by simp at hM
  | k + 1, ch, from_, h, i :: M, hM, hi => by
    unfold coreS at h
    rw [List.findSome?_eq_none_iff] at h
    have hf := h i (by rw [List.mem_range'_1]; have := hi.2.1; have := hi.1; omega)
    have := coreS_no k _ _ hf M (by simpa using hM) hi.2.2
    simpa using this
theorem sat_sub {p : Prob} {L : List Nat} (hL : ∀ i ∈ L, i < p.rels.length) {a : List Int} (h : sat p.rels a) : sat (subP p L).rels a := by
  intro i hi
  simp only [subP, List.length_map] at hi
  have e : (subP p L).rels.getD i default = p.rels.getD (L[i]) default := by simp [subP, List.getD, hi]
  rw [e]
  exact h _ (hL _ (List.getElem_mem _))
theorem sat_all {p : Prob} {L : List Nat} (hL : ∀ i, i < p.rels.length → i ∈ L) {a : List Int} (h : sat (subP p L).rels a) : sat p.rels a := by
  intro i hi
  obtain ⟨j, hj, he⟩ := List.mem_iff_getElem.1 (hL i hi)
  have := h j (by simpa [subP] using hj)
  have e : (subP p L).rels.getD j default = p.rels.getD i default := by simp [subP, List.getD, hj, he]
  rw [e] at this
  exact this
open Classical in
theorem sols_all {p : Prob} {L : List Nat} (h1 : ∀ i ∈ L, i < p.rels.length) (h2 : ∀ i, i < p.rels.length → i ∈ L) : sols (subP p L) [] = sols p [] := by
  unfold sols
  show List.filter _ (List.map _ (ext (p.sizes.drop 0))) = List.filter _ (List.map _ (ext (p.sizes.drop 0)))
  congr 1
  funext a
  exact decide_eq_decide.2 ⟨sat_all h2, sat_sub h1⟩
theorem sols_mono {p : Prob} {L : List Nat} (h1 : ∀ i ∈ L, i < p.rels.length) (h : sols (subP p L) [] = []) : sols p [] = [] := by
  rw [List.eq_nil_iff_forall_not_mem] at h ⊢
  intro a ha
  unfold sols at ha h
  simp only [List.mem_filter] at ha
  refine h a ?_
  simp only [List.mem_filter]
  refine ⟨ha.1, ?_⟩
  have h2 : sat p.rels a := by simpa using ha.2
  simpa using sat_sub h1 h2
theorem first_zero {sizes : List Int} : ∀ {rs : List Rel}, (∀ i, i < rs.length → relE sizes (rs.getD i default) = 0) → firstE sizes rs = 0 := fun h => first_end _ h
theorem rels_zero {p : Prob} (h : checkE p = 0) : ∀ i, i < p.rels.length → relE p.sizes (p.rels.getD i default) = 0 := by
  unfold checkE at h
  by_cases h1 : 16 < p.sizes.length
  · rw [if_pos h1] at h; cases h
  rw [if_neg h1] at h
  by_cases h2 : ∃ k, k < p.sizes.length ∧ (p.sizes.getD k 0 < 1 ∨ 64 < p.sizes.getD k 0)
  · rw [if_pos h2] at h; cases h
  rw [if_neg h2] at h
  by_cases h3 : 96 < p.rels.length
  · rw [if_pos h3] at h; cases h
  rw [if_neg h3] at h
  exact fun i hi => first_all _ h i hi
theorem check_sub {p : Prob} (h : checkE p = 0) {L : List Nat} (hl : L.length ≤ 96) (hL : ∀ i ∈ L, i < p.rels.length) : checkE (subP p L) = 0 := by
  have hr := rels_zero h
  unfold checkE at h ⊢
  by_cases h1 : 16 < p.sizes.length
  · rw [if_pos h1] at h; cases h
  rw [if_neg (show ¬ 16 < (subP p L).sizes.length from h1)]
  rw [if_neg h1] at h
  by_cases h2 : ∃ k, k < p.sizes.length ∧ (p.sizes.getD k 0 < 1 ∨ 64 < p.sizes.getD k 0)
  · rw [if_pos h2] at h; cases h
  rw [if_neg (show ¬ ∃ k, k < (subP p L).sizes.length ∧ ((subP p L).sizes.getD k 0 < 1 ∨ 64 < (subP p L).sizes.getD k 0) from h2), if_neg (by simpa [subP] using hl)]
  refine first_end _ fun i hi => ?_
  simp only [subP, List.length_map] at hi
  have e : (subP p L).rels.getD i default = p.rels.getD (L[i]) default := by simp [subP, List.getD, hi]
  rw [e]
  exact hr _ (hL _ (List.getElem_mem _))
end Go.Proofs.Ytamidopeojipkaa
