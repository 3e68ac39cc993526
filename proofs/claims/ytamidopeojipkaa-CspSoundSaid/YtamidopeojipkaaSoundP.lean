/- CspSound: the plain part. -/
import Derived.Test.YtamidopeojipkaaSols
import Derived.Test.YtamidopeojipkaaBefore
namespace Go.Proofs.Ytamidopeojipkaa
open Go.RowKit
set_option linter.unusedVariables false

theorem ext_in : ∀ (s : List Int) (b : List Int), b ∈ ext s → ∀ k, k < s.length → 0 ≤ b.getD k 0 ∧ b.getD k 0 < s.getD k 0
  | [], b, h, k, hk => by simp at hk
  | n :: s, b, h, k, hk => by
    simp only [ext, List.mem_flatMap, List.mem_map, List.mem_range] at h
    obtain ⟨x, hx, c, hc, rfl⟩ := h
    cases k with
    | zero => simp; omega
    | succ k => simpa using ext_in s c hc k (by simpa using hk)
theorem in_ext : ∀ (s : List Int) (b : List Int), b.length = s.length → (∀ k, k < s.length → 0 ≤ b.getD k 0 ∧ b.getD k 0 < s.getD k 0) → b ∈ ext s
  | [], [], _, _ => by simp [ext]
  | [], _ :: _, h, _ => by simp at h
  | _ :: _, [], h, _ => by simp at h
  | n :: s, x :: b, h, hk => by
    have h0 := hk 0 (by simp)
    simp only [ext, List.mem_flatMap, List.mem_map, List.mem_range]
    refine ⟨x.toNat, ?_, b, in_ext s b (by simpa using h) fun k hk2 => by simpa using hk (k + 1) (by simpa using hk2), ?_⟩
    · have h1 : 0 ≤ x := by simpa using h0.1
      have h2 : x < n := by simpa using h0.2
      omega
    · have h1 : 0 ≤ x := by simpa using h0.1
      congr 1; omega
theorem ext_order : ∀ (s : List Int), (ext s).Pairwise lexLt
  | [] => by simp [ext]
  | n :: s => by
    have ih := ext_order s
    unfold ext
    rw [List.pairwise_flatMap]
    refine ⟨fun x _ => ?_, ?_⟩
    · rw [List.pairwise_map]
      refine ih.imp fun {a b} h => ?_
      obtain ⟨k, hk, h1, h2⟩ := h
      refine ⟨k + 1, by simpa using hk, by simpa using h1, fun j hj => ?_⟩
      cases j with
      | zero => simp
      | succ j => simpa using h2 j (by omega)
    · refine List.pairwise_lt_range.imp fun {x y} hxy a ha b hb => ?_
      simp only [List.mem_map] at ha hb
      obtain ⟨a', _, rfl⟩ := ha
      obtain ⟨b', _, rfl⟩ := hb
      exact ⟨0, by simp, by simp; omega, fun j hj => by omega⟩
theorem mem_sols {p : Prob} {a : List Int} : a ∈ sols p [] ↔ a ∈ ext p.sizes ∧ sat p.rels a := by
  unfold sols
  simp
theorem sols_order (p : Prob) : (sols p []).Pairwise lexLt := by
  have : (sols p []).Sublist (ext p.sizes) := by
    unfold sols
    simp only [List.length_nil, List.drop_zero, List.nil_append, List.map_id']
    exact List.filter_sublist
  exact (ext_order p.sizes).sublist this
open Classical in
/-- the values of a solution remain -/
theorem sol_gac {p : Prob} (hg : Good p) {a : List Int} (h : a ∈ sols p []) {k : Nat} (hk : k < p.sizes.length) : gac p k (a.getD k 0).toNat = true := by
  obtain ⟨h1, h2⟩ := mem_sols.1 h
  have hin := ext_in _ _ h1
  unfold gac
  refine decide_eq_true ⟨fun v x => decide (v < p.sizes.length ∧ a.getD v 0 = (x : Int)), ?_, ?_⟩
  · intro i hi kk hkk x hx hs
    have hs2 : vN (p.rels.getD i default) kk < p.sizes.length ∧ a.getD (vN (p.rels.getD i default) kk) 0 = (x : Int) := by simpa using hs
    obtain ⟨j, hj, hm⟩ := h2 i hi
    refine ⟨j, hj, ?_, fun q hq => ?_⟩
    · have := hm kk hkk; omega
    · have h3 := ((hg.fine i hi).var q hq).2
      have h4 := hm q hq
      simpa using ⟨h3, h4⟩
  · have := hin k hk
    exact decide_eq_true ⟨hk, by omega⟩
open Classical in
theorem gac_closed {p : Prob} (hg : Good p) : Closed p (gac p) := by
  intro i hi k hk x hx hs
  have hs2 : ∃ S, Closed p S ∧ S (vN (p.rels.getD i default) k) x = true := by
    unfold gac at hs; exact of_decide_eq_true hs
  obtain ⟨S, h1, h2⟩ := hs2
  refine supp_mono (hg.fine i hi) (fun v y _ _ e => ?_) (h1 i hi k hk x hx h2)
  unfold gac
  exact decide_eq_true ⟨S, h1, e⟩
theorem cntR_zero {f : Nat → Bool} : ∀ {k : Nat}, cntR f k = 0 → ∀ x, x < k → f x = false
  | 0, _, x, hx => by omega
  | k + 1, h, x, hx => by
    unfold cntR at h
    by_cases e : f k = true
    · rw [if_pos e] at h; omega
    · by_cases e2 : x = k
      · rw [e2]; simpa using e
      · rw [if_neg e] at h
        exact cntR_zero (k := k) (by omega) x (by omega)
theorem cntR_one {f : Nat → Bool} : ∀ {k : Nat}, cntR f k = 1 → ∃ c, c < k ∧ f c = true ∧ ∀ x, x < k → f x = true → x = c
  | 0, h => by simp [cntR] at h
  | k + 1, h => by
    unfold cntR at h
    by_cases e : f k = true
    · rw [if_pos e] at h
      have h0 := cntR_zero (f := f) (k := k) (by omega)
      refine ⟨k, by omega, e, fun x hx hf => ?_⟩
      by_cases e2 : x = k
      · exact e2
      · rw [h0 x (by omega)] at hf; cases hf
    · rw [if_neg e] at h
      obtain ⟨c, h1, h2, h3⟩ := cntR_one (f := f) (k := k) (by omega)
      refine ⟨c, by omega, h2, fun x hx hf => ?_⟩
      by_cases e2 : x = k
      · rw [e2] at hf; exact absurd hf e
      · exact h3 x (by omega) hf
theorem none_sols {p : Prob} (hg : Good p) {v : Nat} (hv : v < p.sizes.length) (h0 : cntR (gac p v) (szs p.sizes v) = 0) : sols p [] = [] := by
  rw [List.eq_nil_iff_forall_not_mem]
  intro a ha
  have h1 := sol_gac hg ha hv
  have h2 := ext_in _ _ (mem_sols.1 ha).1 v hv
  have h3 := cntR_zero h0 (a.getD v 0).toNat (by unfold szs; omega)
  rw [h3] at h1; cases h1
theorem one_sols {p : Prob} (hg : Good p) (h : ∀ v, v < p.sizes.length → cntR (gac p v) (szs p.sizes v) = 1) : (sols p []).length = 1 := by
  have hc : ∀ v, ∃ c, v < p.sizes.length → c < szs p.sizes v ∧ gac p v c = true ∧ ∀ x, x < szs p.sizes v → gac p v x = true → x = c := fun v => by
    by_cases hv : v < p.sizes.length
    · obtain ⟨c, h1, h2, h3⟩ := cntR_one (h v hv)
      exact ⟨c, fun _ => ⟨h1, h2, h3⟩⟩
    · exact ⟨0, fun e => absurd e hv⟩
  obtain ⟨c, hc⟩ := Classical.axiomOfChoice hc
  let a : List Int := (List.range p.sizes.length).map fun v => (c v : Int)
  have hal : a.length = p.sizes.length := by simp [a]
  have hag : ∀ v, v < p.sizes.length → a.getD v 0 = (c v : Int) := fun v hv => by simp [a, List.getD, hv]
  have hext : a ∈ ext p.sizes := in_ext _ _ hal fun k hk => by
    have := (hc k hk).1
    unfold szs at this
    rw [hag k hk]; omega
  have hsat : sat p.rels a := fun i hi => by
    have hf := hg.fine i hi
    obtain ⟨hv1, hv2⟩ := hf.var 0 hf.len1
    obtain ⟨g1, g2, g3⟩ := hc _ hv2
    obtain ⟨j, hj, _, hok⟩ := gac_closed hg i hi 0 hf.len1 _ g1 g2
    refine ⟨j, hj, fun k hk => ?_⟩
    have hvk := (hf.var k hk).2
    rw [hag _ hvk]
    have := (hc _ hvk).2.2 _ (hf.tup j k hj hk).2 (hok k hk)
    rw [this]
  have hmem : a ∈ sols p [] := mem_sols.2 ⟨hext, hsat⟩
  have hall : ∀ b, b ∈ sols p [] → b = a := fun b hb => by
    have hbe := (mem_sols.1 hb).1
    have hbl := ext_len _ _ hbe
    refine List.ext_getElem (by rw [hbl, hal]) fun k h1 h2 => ?_
    have hk : k < p.sizes.length := by rw [← hbl]; exact h1
    have hbi := ext_in _ _ hbe k hk
    have hgb := sol_gac hg hb hk
    have := (hc k hk).2.2 _ (by unfold szs; omega) hgb
    have e1 : b.getD k 0 = b[k] := by simp [List.getD, h1]
    have e2 : a.getD k 0 = a[k] := by simp [List.getD, h2]
    rw [← e1, ← e2, hag k hk]
    omega
  have hirr : ∀ x : List Int, ¬ lexLt x x := fun x ⟨k, _, h1, _⟩ => by omega
  have hord := sols_order p
  match hm : sols p [], hmem, hall, hord with
  | [], hmem, _, _ => simp at hmem
  | [x], _, _, _ => rfl
  | x :: y :: l, _, hall, hord =>
    have e1 := hall x (by simp)
    have e2 := hall y (by simp)
    rw [e1, e2] at hord
    have := (List.pairwise_cons.1 hord).1 a (by simp)
    exact absurd this (hirr a)
end Go.Proofs.Ytamidopeojipkaa
