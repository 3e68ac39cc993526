/- front. -/
import Derived.Test.YtdljffplooplcaaRing
namespace Go.Proofs.Ytdljffplooplcaa
open Go.RowKit
set_option linter.unusedVariables false

def RemPost (c n : Nat) (x0 x1 x4 x5 x6 : Value) (val : Nat → Ent) (zs : List Nat) (D : Nat → Prop) (w : World) (e : Ending) (w' : World) : Prop :=
  e = .returned (.tuple #[]) ∧ Ring w' c x0 x1 x4 x5 x6 val zs ∧ NodeAt w' n (val n).key (val n).rule (val n).args none none ∧ Only D w w'

set_option maxHeartbeats 1600000 in
theorem front_of {c n : Nat} {x0 x1 x4 x5 x6 : Value} {val : Nat → Ent} {zs : List Nat} {D : Nat → Prop} {w : World}
    (hrem : Calls Try.prog 30 #[.pointer (some ⟨c, 2, none⟩), .pointer (some ⟨n, 0, none⟩)] w (RemPost c n x0 x1 x4 x5 x6 val zs D w)) (hnz : n ∉ zs) (hcn : c ≠ n) (hDc : D c) (hDn : D n) (hDz : ∀ b, b ∈ zs → D b) :
    Calls Try.prog 28 #[.pointer (some ⟨c, 2, none⟩), .pointer (some ⟨n, 0, none⟩)] w fun e w' => e = .returned (.tuple #[]) ∧ Ring w' c x0 x1 x4 x5 x6 val (n :: zs) ∧ Only D w w' := by
  have HD := Lib.hid (show D c ∧ D n ∧ ∀ b, b ∈ zs → D b from ⟨hDc, hDn, hDz⟩)
  have HREM := Lib.hid hrem
  have HNZ := Lib.hid hnz
  clear hDc hDn hDz hrem hnz
  cases zs with
  | nil =>
    go_enter Try.func28, Try.ntmps28
    go_wp2_with fail
    refine HREM.out.mono ?_
    rintro e w1 ⟨rfl, hr, hn, ho⟩
    have hc := hr.cache
    have c2 : w1.cell? ⟨c, 2, none⟩ = some (.pointer none) := (cell_of_row w1 c 2 _ _ _ hc).trans rfl
    have c3 : w1.cell? ⟨c, 3, none⟩ = some (.pointer none) := (cell_of_row w1 c 3 _ _ _ hc).trans rfl
    have n4 : w1.cell? ⟨n, 4, none⟩ = some (.pointer none) := (cell_of_row w1 n 4 _ _ _ hn).trans rfl
    have fc2 := frozen_of_row w1 c 2 _ _ hc
    have fc3 := frozen_of_row w1 c 3 _ _ hc
    have fn4 := frozen_of_row w1 n 4 _ _ hn
    have HC := Lib.hid hc
    have HN := Lib.hid hn
    have HR := Lib.hid hr
    have HO := Lib.hid ho
    clear hc hn hr ho
    go_wp2
    go_end0
    refine ⟨rfl, ⟨(((HC.out.far hcn _ _).tail (some n)).head (some n)), ⟨((HN.out.next none).far hcn.symm _ _).far hcn.symm _ _, trivial⟩, by simp, by simpa using hcn⟩, ?_⟩
    exact ((HO.out.setCell HD.out.2.1 _ _).setCell HD.out.1 _ _).setCell HD.out.1 _ _
  | cons z zs =>
    go_enter Try.func28, Try.ntmps28
    go_wp2_with fail
    refine HREM.out.mono ?_
    rintro e w1 ⟨rfl, hr, hn, ho⟩
    have hc := hr.cache
    have hz := hr.seg.1
    have hcz : c ≠ z := fun e => hr.apart (by simp [e])
    have hnz : n ≠ z := fun e => HNZ.out (by simp [e])
    have c2 : w1.cell? ⟨c, 2, none⟩ = some (.pointer (some ⟨z, 0, none⟩)) := (cell_of_row w1 c 2 _ _ _ hc).trans rfl
    have n4 : w1.cell? ⟨n, 4, none⟩ = some (.pointer none) := (cell_of_row w1 n 4 _ _ _ hn).trans rfl
    have z3 : w1.cell? ⟨z, 3, none⟩ = some (.pointer none) := (cell_of_row w1 z 3 _ _ _ hz).trans rfl
    have fc2 := frozen_of_row w1 c 2 _ _ hc
    have fz3 := frozen_of_row w1 z 3 _ _ hz
    have fn4 := frozen_of_row w1 n 4 _ _ hn
    have HC := Lib.hid hc
    have HN := Lib.hid hn
    have HZ := Lib.hid hz
    have HR := Lib.hid hr
    have HO := Lib.hid ho
    clear hc hn hr ho hz
    go_wp2
    go_end0
    have hD := HD.out
    refine ⟨rfl, ⟨(((HC.out.far hcn _ _).far hcz _ _).head (some n)), ⟨((HN.out.next (some z)).far hnz _ _).far hcn.symm _ _, (((HZ.out.far hnz.symm _ _).prev (some n)).far hcz.symm _ _), HR.out.seg.2.kept fun b hb => ?_⟩, ?_, ?_⟩, ?_⟩
    · have h1 : b ≠ n := fun e => HNZ.out (by simp [← e, hb])
      have h2 : b ≠ c := fun e => HR.out.apart (by simp [← e, hb])
      have h3 : b ≠ z := fun e => by
        have := HR.out.nodup
        simp at this
        exact this.1 (e ▸ hb)
      exact (Below.heap_setCell _ _ _ _ h2).trans ((Below.heap_setCell _ _ _ _ h3).trans (Below.heap_setCell _ _ _ _ h1))
    · exact List.nodup_cons.2 ⟨HNZ.out, HR.out.nodup⟩
    · have := HR.out.apart
      simp at this ⊢
      exact ⟨hcn, this.1, this.2⟩
    · exact ((HO.out.setCell hD.2.1 _ _).setCell (hD.2.2 z (by simp)) _ _).setCell hD.1 _ _

theorem front_in {c n : Nat} {x0 x1 x4 x5 x6 : Value} {val : Nat → Ent} {xs ys : List Nat} {w : World} (h : Ring w c x0 x1 x4 x5 x6 val (xs ++ n :: ys)) :
    Calls Try.prog 28 #[.pointer (some ⟨c, 2, none⟩), .pointer (some ⟨n, 0, none⟩)] w fun e w' => e = .returned (.tuple #[]) ∧ Ring w' c x0 x1 x4 x5 x6 val (n :: (xs ++ ys)) ∧ Only (fun b => b = c ∨ b ∈ xs ++ n :: ys) w w' := by
  have hnd := h.nodup
  have hcn : c ≠ n := fun e => h.apart (by simp [e])
  refine front_of (D := fun b => b = c ∨ b ∈ xs ++ n :: ys) ((remove_in h).mono fun e w' hh => hh) ?_ hcn (.inl rfl) (.inr (by simp)) (fun b hb => .inr ?_)
  · intro e
    rw [List.nodup_append] at hnd
    rcases List.mem_append.1 e with e | e
    · exact hnd.2.2 n e n (by simp) rfl
    · have := hnd.2.1
      simp at this
      exact this.1 e
  · simp at hb ⊢
    rcases hb with hb | hb <;> simp [hb]

theorem Seg.node {w : World} {val : Nat → Ent} : ∀ {p : Option Nat} {xs : List Nat} {nx : Option Nat}, Seg w val p xs nx → ∀ b, b ∈ xs → ∃ ca, w.heap[b]? = some (.cells ca 67 (0, 0))
  | _, [], _, _, b, hb => by simp at hb
  | p, x :: xs, nx, h, b, hb => by
    rcases List.mem_cons.1 hb with rfl | hb
    · exact ⟨_, h.1⟩
    · exact Seg.node h.2 b hb
theorem Ring.other {c n : Nat} {x0 x1 x4 x5 x6 : Value} {val : Nat → Ent} {ns : List Nat} {w : World} (h : Ring w c x0 x1 x4 x5 x6 val ns) (hn : n ∉ ns) : Other w n (hdO ns none) ∧ Other w n (lastO none ns) := by
  have key : ∀ b, b ∈ ns → b ≠ n ∧ ∃ ca, w.heap[b]? = some (.cells ca 67 (0, 0)) := fun b hb => ⟨fun e => hn (e ▸ hb), h.seg.node b hb⟩
  constructor
  · intro b hb
    cases ns with
    | nil => cases hb
    | cons z zs => cases hb; exact key _ (by simp)
  · intro b hb
    rcases snoc_or_nil ns with rfl | ⟨ys, q, rfl⟩
    · cases hb
    · rw [lastO_append] at hb
      cases hb
      exact key _ (by simp)
theorem front_new {c n : Nat} {x0 x1 x4 x5 x6 : Value} {val : Nat → Ent} {ns : List Nat} {w : World} (h : Ring w c x0 x1 x4 x5 x6 val ns) (hn : NodeAt w n (val n).key (val n).rule (val n).args none none) (hnn : n ∉ ns) (hcn : c ≠ n) :
    Calls Try.prog 28 #[.pointer (some ⟨c, 2, none⟩), .pointer (some ⟨n, 0, none⟩)] w fun e w' => e = .returned (.tuple #[]) ∧ Ring w' c x0 x1 x4 x5 x6 val (n :: ns) ∧ Only (fun b => b = c ∨ b = n ∨ b ∈ ns) w w' := by
  obtain ⟨h1, h2⟩ := h.other hnn
  refine front_of (D := fun b => b = c ∨ b = n ∨ b ∈ ns) ((remove_iso c n _ _ _ x0 x1 x4 x5 x6 _ _ w hn h.cache hcn h1 h2).mono ?_) hnn hcn (.inl rfl) (.inr (.inl rfl)) (fun b hb => .inr (.inr hb))
  rintro e w' ⟨rfl, r1, r2, r3⟩
  refine ⟨rfl, ⟨r2, h.seg.kept fun b hb => r3.block b ?_, h.nodup, h.apart⟩, r1, r3.wide fun b hb => ?_⟩
  · have a1 : b ≠ n := fun e => hnn (e ▸ hb)
    have a2 : b ≠ c := fun e => h.apart (e ▸ hb)
    omega
  · rcases hb with hb | hb
    · exact .inr (.inl hb)
    · exact .inl hb
end Go.Proofs.Ytdljffplooplcaa
