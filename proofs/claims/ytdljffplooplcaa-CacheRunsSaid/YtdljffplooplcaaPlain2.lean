/- Plain facts for CacheBounds. -/
import Derived.Test.YtdljffplooplcaaPlain
import Derived.Test.YtdljffplooplcaaOps
namespace Go.Proofs.Ytdljffplooplcaa
set_option linter.unusedVariables false

/-- the term last put under a key by the first operations -/
def lastP (ops : List OpT) (key : ByteArray) : Nat → Option T
  | 0 => none
  | i + 1 => if (ops.getD i default).kind = 0 ∧ (ops.getD i default).key = key then some (ops.getD i default).term else lastP ops key i

theorem put_count {cap : Int} {k : ByteArray} {t : T} {es : Es} (hn : (keysE es).Nodup) (h1 : 1 ≤ cap) :
    ((putE cap k t es).length : Int) + one (fullE cap k es) = es.length + one (lookE k es).isNone := by
  unfold putE fullE
  cases h : lookE k es with
  | some u =>
    have e1 : (outE k es).length + 1 = es.length := out_len hn (List.mem_map.2 ⟨_, look_mem h, rfl⟩)
    simp [one]
    omega
  | none =>
    by_cases hf : (es.length : Int) = cap
    · simp [one, hf]; omega
    · simp [one, hf]
theorem put_mem {cap : Int} {k : ByteArray} {t : T} {es : Es} {p : ByteArray × T} (h : p ∈ putE cap k t es) : p = (k, t) ∨ (p ∈ es ∧ p.1 ≠ k) := by
  unfold putE at h
  cases hl : lookE k es with
  | some u =>
    rw [hl] at h
    rcases List.mem_cons.1 h with h | h
    · exact .inl h
    · simp [outE] at h; exact .inr h
  | none =>
    rw [hl] at h
    have key : ∀ q, q ∈ es → q.1 ≠ k := fun q hq e => look_none.1 hl (e ▸ List.mem_map.2 ⟨q, hq, rfl⟩)
    simp only at h
    split at h
    · rcases List.mem_cons.1 h with h | h
      · exact .inl h
      · have := (List.dropLast_sublist es).subset h
        exact .inr ⟨this, key p this⟩
    · rcases List.mem_cons.1 h with h | h
      · exact .inl h
      · exact .inr ⟨h, key p h⟩
theorem get_mem {k : ByteArray} {es : Es} {p : ByteArray × T} (h : p ∈ getE k es) : p ∈ es := by
  unfold getE at h
  cases hl : lookE k es with
  | some u =>
    rw [hl] at h
    rcases List.mem_cons.1 h with rfl | h
    · exact look_mem hl
    · exact (List.mem_filter.1 h).1
  | none => rw [hl] at h; exact h
theorem last_put {ops : List OpT} {i : Nat} {cap : Int} {es : Es} (h0 : (ops.getD i default).kind = 0) (h : ∀ p, p ∈ es → lastP ops p.1 i = some p.2) :
    ∀ p, p ∈ putE cap (ops.getD i default).key (ops.getD i default).term es → lastP ops p.1 (i + 1) = some p.2 := by
  intro p hp
  unfold lastP
  rcases put_mem hp with rfl | ⟨hp, hne⟩
  · simp only [h0, and_self, if_true]
  · rw [if_neg (fun e => hne e.2.symm)]
    exact h p hp
theorem last_get {ops : List OpT} {i : Nat} {k : ByteArray} {es : Es} (h0 : ¬ (ops.getD i default).kind = 0) (h : ∀ p, p ∈ es → lastP ops p.1 i = some p.2) :
    ∀ p, p ∈ getE k es → lastP ops p.1 (i + 1) = some p.2 := by
  intro p hp
  unfold lastP
  rw [if_neg (fun e => h0 e.1)]
  exact h p (get_mem hp)
end Go.Proofs.Ytdljffplooplcaa
