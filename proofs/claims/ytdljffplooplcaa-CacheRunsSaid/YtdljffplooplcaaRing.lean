/- The ring as a list of nodes. -/
import Derived.Test.YtdljffplooplcaaRemove
namespace Go.Proofs.Ytdljffplooplcaa
open Go.RowKit
set_option linter.unusedVariables false

/-- a node's entry: key, rule, arguments -/
structure Ent where
  key : ByteArray
  rule : Int
  args : Value
def hdO : List Nat → Option Nat → Option Nat
  | [], nx => nx
  | b :: _, _ => some b
def lastO : Option Nat → List Nat → Option Nat
  | p, [] => p
  | _, b :: bs => lastO (some b) bs
def Seg (w : World) (val : Nat → Ent) : Option Nat → List Nat → Option Nat → Prop
  | _, [], _ => True
  | p, b :: bs, nx => NodeAt w b (val b).key (val b).rule (val b).args p (hdO bs nx) ∧ Seg w val (some b) bs nx
theorem hdO_append (xs ys : List Nat) (nx : Option Nat) : hdO (xs ++ ys) nx = hdO xs (hdO ys nx) := by cases xs <;> rfl
theorem lastO_append : ∀ (p : Option Nat) (xs ys : List Nat), lastO p (xs ++ ys) = lastO (lastO p xs) ys
  | _, [], _ => rfl
  | p, b :: bs, ys => lastO_append (some b) bs ys
theorem Seg.append {w : World} {val : Nat → Ent} : ∀ {p : Option Nat} {xs ys : List Nat} {nx : Option Nat}, Seg w val p (xs ++ ys) nx ↔ Seg w val p xs (hdO ys nx) ∧ Seg w val (lastO p xs) ys nx
  | p, [], ys, nx => by simp [Seg, lastO]
  | p, b :: bs, ys, nx => by
    show (NodeAt w b _ _ _ p (hdO (bs ++ ys) nx) ∧ Seg w val (some b) (bs ++ ys) nx) ↔ (NodeAt w b _ _ _ p (hdO bs (hdO ys nx)) ∧ Seg w val (some b) bs (hdO ys nx)) ∧ Seg w val (lastO (some b) bs) ys nx
    rw [hdO_append, Seg.append, and_assoc]
theorem Seg.kept {w w' : World} {val : Nat → Ent} : ∀ {p : Option Nat} {xs : List Nat} {nx : Option Nat}, Seg w val p xs nx → (∀ b, b ∈ xs → w'.heap[b]? = w.heap[b]?) → Seg w' val p xs nx
  | _, [], _, _, _ => trivial
  | p, b :: bs, nx, h, hk => ⟨(hk b (by simp)).trans h.1, Seg.kept h.2 fun c hc => hk c (by simp [hc])⟩
theorem Seg.congr {w : World} {val val' : Nat → Ent} : ∀ {p : Option Nat} {xs : List Nat} {nx : Option Nat}, Seg w val p xs nx → (∀ b, b ∈ xs → val' b = val b) → Seg w val' p xs nx
  | _, [], _, _, _ => trivial
  | p, b :: bs, nx, h, hk => ⟨by rw [hk b (by simp)]; exact h.1, Seg.congr h.2 fun c hc => hk c (by simp [hc])⟩

/-- Block c is a cache whose list is ns. -/
structure Ring (w : World) (c : Nat) (x0 x1 x4 x5 x6 : Value) (val : Nat → Ent) (ns : List Nat) : Prop where
  cache : CacheAt w c x0 x1 (hdO ns none) (lastO none ns) x4 x5 x6
  seg : Seg w val none ns none
  nodup : ns.Nodup
  apart : c ∉ ns

theorem snoc_or_nil (xs : List Nat) : xs = [] ∨ ∃ ys q, xs = ys ++ [q] := by
  rcases List.eq_nil_or_concat xs with h | ⟨ys, q, h⟩
  · exact .inl h
  · exact .inr ⟨ys, q, by simpa using h⟩

theorem remove_in {c n : Nat} {x0 x1 x4 x5 x6 : Value} {val : Nat → Ent} {xs ys : List Nat} {w : World} (h : Ring w c x0 x1 x4 x5 x6 val (xs ++ n :: ys)) :
    Calls Try.prog 30 #[.pointer (some ⟨c, 2, none⟩), .pointer (some ⟨n, 0, none⟩)] w fun e w' => e = .returned (.tuple #[]) ∧ Ring w' c x0 x1 x4 x5 x6 val (xs ++ ys) ∧
      NodeAt w' n (val n).key (val n).rule (val n).args none none ∧ Only (fun b => b = c ∨ b ∈ xs ++ n :: ys) w w' := by
  obtain ⟨hc, hseg, hnd, hap⟩ := h
  obtain ⟨hsx, hsn⟩ := Seg.append.1 hseg
  obtain ⟨hn, hsy⟩ := hsn
  have hnd2 : (xs ++ ys).Nodup := hnd.sublist (by simp)
  have hcn : c ≠ n := fun e => hap (by simp [e])
  have hap2 : c ∉ xs ++ ys := fun e => hap (by simp at e ⊢; rcases e with e | e <;> simp [e])
  rw [hdO_append, lastO_append] at hc
  have hnx : n ∉ xs := fun e => by
    rw [List.nodup_append] at hnd
    exact hnd.2.2 n e n (by simp) rfl
  have hny : n ∉ ys := fun e => by
    rw [List.nodup_append] at hnd
    have := hnd.2.1
    simp at this
    exact this.1 e
  rcases snoc_or_nil xs with rfl | ⟨xs, q, rfl⟩
  · cases ys with
    | nil =>
      refine (remove_00 c n _ _ _ x0 x1 x4 x5 x6 w hn hc hcn).mono ?_
      rintro e w' ⟨rfl, r1, r2, r3⟩
      exact ⟨rfl, ⟨r2, trivial, hnd2, hap2⟩, r1, r3.wide (by intro b hb; simp at hb ⊢; omega)⟩
    | cons s ys =>
      obtain ⟨hs, hsy⟩ := hsy
      have hns : n ≠ s := fun e => hny (by simp [e])
      have hcs : c ≠ s := fun e => hap (by simp [e])
      refine (remove_0s c n s _ _ _ x0 x1 x4 x5 x6 _ _ _ _ _ w hn hc hcn hs hns hcs).mono ?_
      rintro e w' ⟨rfl, r1, r2, r3, r4⟩
      refine ⟨rfl, ⟨r2, ⟨r3, hsy.kept fun b hb => r4.block b ?_⟩, hnd2, hap2⟩, r1, r4.wide (by intro b hb; simp at hb ⊢; omega)⟩
      have hn1 : b ≠ n := fun e => hny (by simp [← e, hb])
      have hn2 : b ≠ c := fun e => hap (by simp [← e, hb])
      have hn3 : b ≠ s := fun e => by
        simp at hnd2
        exact hnd2.1 (e ▸ hb)
      omega
  · obtain ⟨hsx1, hq, -⟩ := Seg.append.1 hsx
    have hnq : n ≠ q := fun e => hnx (by simp [e])
    have hcq : c ≠ q := fun e => hap (by simp [e])
    have hxq : ∀ b, b ∈ xs → b ≠ q := fun b hb e => by
      rw [List.nodup_append] at hnd2
      have := hnd2.1
      rw [List.nodup_append] at this
      exact this.2.2 b hb q (by simp) e
    have hxn : ∀ b, b ∈ xs → b ≠ n ∧ b ≠ c := fun b hb => ⟨fun e => hnx (by simp [← e, hb]), fun e => hap (by simp [← e, hb])⟩
    rw [lastO_append] at hn hc
    cases ys with
    | nil =>
      refine (remove_q0 c n q _ _ _ x0 x1 x4 x5 x6 _ _ _ _ _ w hn hc hcn hq hnq hcq).mono ?_
      rintro e w' ⟨rfl, r1, r2, r3, r4⟩
      refine ⟨rfl, ⟨?_, ?_, hnd2, hap2⟩, r1, r4.wide (by intro b hb; simp at hb ⊢; omega)⟩
      · rw [List.append_nil, hdO_append, lastO_append]
        rw [hdO_append] at r2
        exact r2
      · rw [List.append_nil]
        refine Seg.append.2 ⟨hsx1.kept fun b hb => r4.block b ?_, r3, trivial⟩
        have h1 := hxn b hb
        have h2 := hxq b hb
        omega
    | cons s ys =>
      obtain ⟨hs, hsy⟩ := hsy
      have hns : n ≠ s := fun e => hny (by simp [e])
      have hcs : c ≠ s := fun e => hap (by simp [e])
      have hqs : q ≠ s := fun e => by
        rw [List.nodup_append] at hnd2
        exact hnd2.2.2 q (by simp) s (by simp) e
      refine (remove_qs c n q s _ _ _ x0 x1 x4 x5 x6 _ _ _ _ _ _ _ _ _ _ w hn hc hcn hq hnq hcq hs hns hcs hqs).mono ?_
      rintro e w' ⟨rfl, r1, r2, r3, r4, r5⟩
      refine ⟨rfl, ⟨?_, ?_, hnd2, hap2⟩, r1, r5.wide (by intro b hb; simp at hb ⊢; omega)⟩
      · rw [hdO_append, lastO_append, lastO_append, hdO_append]
        rw [hdO_append] at r2
        exact r2
      · refine Seg.append.2 ⟨Seg.append.2 ⟨hsx1.kept fun b hb => r5.block b ?_, r3, trivial⟩, ?_⟩
        · have h1 := hxn b hb
          have h2 := hxq b hb
          have h3 : b ≠ s := fun e => by
            rw [List.nodup_append] at hnd2
            exact hnd2.2.2 b (by simp [hb]) s (by simp) e
          omega
        · rw [lastO_append]
          refine ⟨r4, hsy.kept fun b hb => r5.block b ?_⟩
          have hn1 : b ≠ n := fun e => hny (by simp [← e, hb])
          have hn2 : b ≠ c := fun e => hap (by simp [← e, hb])
          have hn3 : b ≠ s := fun e => by
            rw [List.nodup_append] at hnd2
            have := hnd2.2.1
            simp at this
            exact this.1 (e ▸ hb)
          have hn4 : b ≠ q := fun e => by
            rw [List.nodup_append] at hnd2
            exact hnd2.2.2 q (by simp) b (by simp [hb]) e.symm
          omega
end Go.Proofs.Ytdljffplooplcaa
