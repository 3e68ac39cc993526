/- Plain facts about the list of keys and terms. -/
import Derived.Test.YtdljffplooplcaaIs
namespace Go.Proofs.Ytdljffplooplcaa
set_option linter.unusedVariables false

theorem look_cons (k : ByteArray) (p : ByteArray × T) (es : Es) : lookE k (p :: es) = if p.1 = k then some p.2 else lookE k es := by
  unfold lookE
  rw [List.find?_cons]
  by_cases h : p.1 = k
  · simp [h]
  · simp [h]
theorem look_none {k : ByteArray} : ∀ {es : Es}, lookE k es = none ↔ k ∉ keysE es
  | [] => by simp [lookE, keysE]
  | p :: es => by
    rw [look_cons]
    have ih := look_none (k := k) (es := es)
    show _ ↔ k ∉ p.1 :: keysE es
    rw [List.mem_cons, not_or]
    by_cases h : p.1 = k
    · rw [if_pos h]; simp [h]
    · rw [if_neg h, ih]
      exact ⟨fun x => ⟨fun e => h e.symm, x⟩, fun x => x.2⟩
theorem look_mem {k : ByteArray} {t : T} : ∀ {es : Es}, lookE k es = some t → (k, t) ∈ es
  | [], h => by simp [lookE] at h
  | p :: es, h => by
    rw [look_cons] at h
    by_cases e : p.1 = k
    · rw [if_pos e] at h
      obtain rfl := Option.some.inj h
      subst e
      simp
    · rw [if_neg e] at h
      exact List.mem_cons_of_mem _ (look_mem h)
theorem look_of {k : ByteArray} {t : T} : ∀ {es : Es}, (keysE es).Nodup → (k, t) ∈ es → lookE k es = some t
  | [], _, h => by simp at h
  | p :: es, hn, h => by
    have hn2 : p.1 ∉ keysE es ∧ (keysE es).Nodup := by simpa [keysE] using hn
    rw [look_cons]
    rcases List.mem_cons.1 h with rfl | h
    · simp
    · rw [if_neg (fun e : p.1 = k => hn2.1 (e ▸ List.mem_map.2 ⟨(k, t), h, rfl⟩))]
      exact look_of hn2.2 h
theorem out_none {k : ByteArray} {es : Es} (h : k ∉ keysE es) : outE k es = es := by
  unfold outE
  rw [List.filter_eq_self]
  intro p hp
  simp only [ne_eq, decide_not, Bool.not_eq_true', decide_eq_false_iff_not]
  intro e
  exact h (e ▸ List.mem_map.2 ⟨p, hp, rfl⟩)
theorem out_len {k : ByteArray} : ∀ {es : Es}, (keysE es).Nodup → k ∈ keysE es → (outE k es).length + 1 = es.length
  | [], _, h => by simp [keysE] at h
  | p :: es, hn, h => by
    have hn2 : p.1 ∉ keysE es ∧ (keysE es).Nodup := by simpa [keysE] using hn
    by_cases e : p.1 = k
    · have : outE k (p :: es) = outE k es := by simp [outE, e]
      rw [this, out_none (e ▸ hn2.1)]
      rfl
    · have : outE k (p :: es) = p :: outE k es := by simp [outE, e]
      rw [this, List.length_cons, List.length_cons, out_len hn2.2]
      rcases List.mem_cons.1 (show k ∈ p.1 :: keysE es from h) with h | h
      · exact absurd h.symm e
      · exact h
theorem out_sub {k : ByteArray} {A B : Es} (h : A.Sublist B) : (outE k A).Sublist (outE k B) := h.filter _
theorem keys_sub {A B : Es} (h : A.Sublist B) : (keysE A).Sublist (keysE B) := h.map _
theorem not_out (k : ByteArray) (es : Es) : k ∉ keysE (outE k es) := by
  intro h
  obtain ⟨p, hp, e⟩ := List.mem_map.1 h
  simp only [outE, List.mem_filter] at hp
  simpa [e] using hp.2
theorem drop_sub {α : Type} {A B : List α} (h : A.Sublist B) : A.dropLast.Sublist B.dropLast := by
  rcases List.eq_nil_or_concat A with rfl | ⟨xs, x, rfl⟩
  · simp
  · rcases List.eq_nil_or_concat B with rfl | ⟨ys, y, rfl⟩
    · simp at h
    · rw [List.concat_eq_append, List.concat_eq_append] at h
      rw [List.concat_eq_append, List.concat_eq_append, List.dropLast_concat, List.dropLast_concat]
      have hr := h.reverse
      rw [List.reverse_append, List.reverse_append] at hr
      have : (x :: xs.reverse).Sublist (y :: ys.reverse) := hr
      have h2 : xs.reverse.Sublist ys.reverse := by
        cases this with
        | cons _ h3 => exact (List.sublist_cons_self _ _).trans h3
        | cons_cons _ h3 => exact h3
      exact List.reverse_sublist.1 h2

/-- A smaller cache's list inside a greater one's. -/
def Inc (ca : Int) (A B : Es) : Prop := A.Sublist B ∧ ((A.length : Int) = ca ∨ A.length = B.length)

theorem put_len {cap : Int} {k : ByteArray} {t : T} {es : Es} (hn : (keysE es).Nodup) (hl : (es.length : Int) ≤ cap) (h1 : 1 ≤ cap) : ((putE cap k t es).length : Int) ≤ cap := by
  unfold putE
  cases h : lookE k es with
  | some u =>
    have hm : k ∈ keysE es := by
      have := look_mem h
      exact List.mem_map.2 ⟨_, this, rfl⟩
    have := out_len hn hm
    simp
    omega
  | none =>
    simp only
    by_cases hf : (es.length : Int) = cap
    · rw [if_pos hf]; simp; omega
    · rw [if_neg hf]; simp; omega
theorem get_len {k : ByteArray} {es : Es} (hn : (keysE es).Nodup) : (getE k es).length = es.length := by
  unfold getE
  cases h : lookE k es with
  | some u =>
    have hm : k ∈ keysE es := List.mem_map.2 ⟨_, look_mem h, rfl⟩
    have := out_len hn hm
    simp
    omega
  | none => rfl
theorem look_sub {k : ByteArray} {t : T} {A B : Es} (h : A.Sublist B) (hn : (keysE B).Nodup) (hl : lookE k A = some t) : lookE k B = some t := look_of hn (h.subset (look_mem hl))

theorem inc_get {ca : Int} {k : ByteArray} {A B : Es} (h : Inc ca A B) (ha : (keysE A).Nodup) (hb : (keysE B).Nodup) : Inc ca (getE k A) (getE k B) := by
  refine ⟨?_, by rw [get_len ha, get_len hb]; exact h.2⟩
  unfold getE
  cases hA : lookE k A with
  | some t =>
    rw [look_sub h.1 hb hA]
    exact (out_sub h.1).cons_cons _
  | none =>
    cases hB : lookE k B with
    | none => exact h.1
    | some t =>
      show A.Sublist ((k, t) :: outE k B)
      have := out_sub (k := k) h.1
      rw [out_none (look_none.1 hA)] at this
      exact this.cons _

theorem inc_put {ca cb : Int} {k : ByteArray} {t : T} {A B : Es} (h : Inc ca A B) (ha : (keysE A).Nodup) (hb : (keysE B).Nodup) (la : (A.length : Int) ≤ ca) (lb : (B.length : Int) ≤ cb) (hab : ca ≤ cb) (h1 : 1 ≤ ca) :
    Inc ca (putE ca k t A) (putE cb k t B) := by
  obtain ⟨hs, hl⟩ := h
  have hsl := hs.length_le
  unfold putE
  cases hA : lookE k A with
  | some u =>
    rw [look_sub hs hb hA]
    have e1 : (outE k A).length + 1 = A.length := out_len ha (List.mem_map.2 ⟨_, look_mem hA, rfl⟩)
    have e2 : (outE k B).length + 1 = B.length := out_len hb (List.mem_map.2 ⟨_, hs.subset (look_mem hA), rfl⟩)
    refine ⟨(out_sub hs).cons_cons _, ?_⟩
    simp only [List.length_cons]
    omega
  | none =>
    cases hB : lookE k B with
    | some u =>
      have hne : A.length ≠ B.length := fun e => by
        have := hs.eq_of_length e
        subst this
        rw [hA] at hB; cases hB
      have hf : (A.length : Int) = ca := by omega
      simp only
      rw [if_pos hf]
      have hd : A.dropLast.Sublist (outE k B) := by
        have := out_sub (k := k) ((List.dropLast_sublist A).trans hs)
        rwa [out_none (fun e => look_none.1 hA ((keys_sub (List.dropLast_sublist A)).subset e))] at this
      refine ⟨hd.cons_cons _, .inl ?_⟩
      simp
      omega
    | none =>
      simp only
      by_cases fa : (A.length : Int) = ca
      · rw [if_pos fa]
        by_cases fb : (B.length : Int) = cb
        · rw [if_pos fb]
          refine ⟨(drop_sub hs).cons_cons _, .inl ?_⟩
          simp; omega
        · rw [if_neg fb]
          refine ⟨((List.dropLast_sublist A).trans hs).cons_cons _, .inl ?_⟩
          simp; omega
      · rw [if_neg fa]
        have hfb : ¬ (B.length : Int) = cb := by omega
        rw [if_neg hfb]
        refine ⟨hs.cons_cons _, .inr ?_⟩
        simp; omega
end Go.Proofs.Ytdljffplooplcaa
