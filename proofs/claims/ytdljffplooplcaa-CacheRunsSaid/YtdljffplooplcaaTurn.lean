/- Put of a key that is there. -/
import Derived.Test.YtdljffplooplcaaGot
namespace Go.Proofs.Ytdljffplooplcaa
open Go.RowKit
set_option linter.unusedVariables false

theorem Seg.turn {w w' : World} {val val' : Nat → Ent} {n : Nat} (hn : ∀ q s, NodeAt w n (val n).key (val n).rule (val n).args q s → NodeAt w' n (val' n).key (val' n).rule (val' n).args q s) :
    ∀ {p : Option Nat} {xs : List Nat} {nx : Option Nat}, Seg w val p xs nx → (∀ b, b ∈ xs → b ≠ n → w'.heap[b]? = w.heap[b]? ∧ val' b = val b) → Seg w' val' p xs nx
  | _, [], _, _, _ => trivial
  | p, b :: bs, nx, h, hb => by
    refine ⟨?_, Seg.turn hn h.2 fun x hx => hb x (by simp [hx])⟩
    by_cases e : b = n
    · subst e; exact hn _ _ h.1
    · obtain ⟨h1, h2⟩ := hb b (by simp) e
      rw [h2]
      exact h1.trans h.1
def updE {α : Type} (f : Nat → α) (n : Nat) (x : α) : Nat → α := fun b => if b = n then x else f b
theorem updE_same {α : Type} (f : Nat → α) (n : Nat) (x : α) : updE f n x n = x := by simp [updE]
theorem updE_other {α : Type} (f : Nat → α) {n b : Nat} (x : α) (h : b ≠ n) : updE f n x b = f b := by simp [updE, h]
theorem NodeAt.entry {w : World} {b : Nat} {k : ByteArray} {r : Int} {v : Value} {p n : Option Nat} (h : NodeAt w b k r v p n) (r' : Int) (v' : Value) :
    NodeAt ((w.setCell ⟨b, 1, none⟩ (.int .i64 r')).setCell ⟨b, 2, none⟩ v') b k r' v' p n :=
  (setCell_row 2 v' (setCell_row 1 (.int .i64 r') h)).trans rfl

theorem StoreAt.turned {w : World} {c mb : Nat} {cap h m r : Int} {val : Nat → Ent} {ns : List Nat} {mm : List (ByteArray × Value)} {tm : Nat → T} {P : Nat → Prop}
    (s : StoreAt w c mb cap h m r val ns mm tm P) {n : Nat} (hn : n ∈ ns) {t : T} {v' : Value} {Q : Nat → Prop} (ha : ArgsAt w Q v' t.args) (ht : tsize t ≤ 1000) (hQ : ∀ k, Q k → k < w.heap.size ∧ k ≠ c ∧ k ≠ mb ∧ k ∉ ns) :
    StoreAt ((w.setCell ⟨n, 1, none⟩ (.int .i64 t.rule)).setCell ⟨n, 2, none⟩ v') c mb cap h m r (updE val n ⟨(val n).key, t.rule, v'⟩) ns mm (updE tm n t) (fun k => P k ∨ Q k) := by
  have hf : ∀ b, b ≠ n → ((w.setCell ⟨n, 1, none⟩ (.int .i64 t.rule)).setCell ⟨n, 2, none⟩ v').heap[b]? = w.heap[b]? := fun b hb => (Below.heap_setCell _ _ _ _ hb).trans (Below.heap_setCell _ _ _ _ hb)
  have hcn : c ≠ n := fun e => s.ring.apart (e ▸ hn)
  have hmn : mb ≠ n := fun e => s.mbc.2 (e ▸ hn)
  have hkey : ∀ b, (updE val n ⟨(val n).key, t.rule, v'⟩ b).key = (val b).key := fun b => by
    by_cases e : b = n
    · subst e; rw [updE_same]
    · rw [updE_other _ _ e]
  have hsz : ((w.setCell ⟨n, 1, none⟩ (.int .i64 t.rule)).setCell ⟨n, 2, none⟩ v').heap.size = w.heap.size := by rw [heap_setCell_size, heap_setCell_size]
  refine ⟨⟨(hf c hcn).trans s.ring.cache, s.ring.seg.turn (n := n) (fun q z hq => ?_) (fun b _ e => ⟨hf b e, updE_other _ _ e⟩), s.ring.nodup, s.ring.apart⟩, s.map.block (hf mb hmn), fun k => ?_, s.len, ?_,
    fun b hb => ?_, fun b hb => ?_, fun b hb => ?_, fun k hk => ?_, s.mbc, s.pos, s.mnd⟩
  · rw [updE_same]
    exact hq.entry _ _
  · rw [s.get k]
    simp only [hkey]
  · simp only [hkey]
    exact s.keys
  · by_cases e : b = n
    · subst e; rw [updE_same, updE_same]
    · rw [updE_other _ _ e, updE_other _ _ e]; exact s.rule b hb
  · by_cases e : b = n
    · subst e; rw [updE_same, updE_same]
      exact (ha.kept fun k hk => hf k fun e => (hQ k hk).2.2.2 (e ▸ hn)).wide fun k hk => .inr hk
    · rw [updE_other _ _ e, updE_other _ _ e]
      exact ((s.args b hb).kept fun k hk => hf k fun e => (s.own k hk).2.2.2 (e ▸ hn)).wide fun k hk => .inl hk
  · by_cases e : b = n
    · subst e; rw [updE_same]; exact ht
    · rw [updE_other _ _ e]; exact s.small b hb
  · rw [hsz]
    rcases hk with hk | hk
    · exact s.own k hk
    · exact hQ k hk

theorem StoreAt.pre {w : World} {c mb : Nat} {cap h m r : Int} {val : Nat → Ent} {ns : List Nat} {mm : List (ByteArray × Value)} {tm : Nat → T} {P : Nat → Prop}
    (s : StoreAt w c mb cap h m r val ns mm tm P) : ∀ k, k = c ∨ k = mb ∨ k ∈ ns ∨ P k → k < w.heap.size := by
  intro k hk
  rcases hk with rfl | rfl | hk | hk
  · exact (Array.getElem?_eq_some_iff.1 s.ring.cache).1
  · exact s.map.lt
  · obtain ⟨ca, hca⟩ := s.ring.seg.node _ hk
    exact (Array.getElem?_eq_some_iff.1 hca).1
  · exact (s.own k hk).1

/-- what a Put comes to -/
def PutPost (c mb : Nat) (cap h m r : Int) (val : Nat → Ent) (ns : List Nat) (mm : List (ByteArray × Value)) (tm : Nat → T) (P : Nat → Prop) (k : ByteArray) (t : T) (n : Nat) (D : Nat → Prop) (w : World) (e : Ending) (w' : World) : Prop :=
  e = .returned (.int .i64 0) ∧ (∃ (v' : Value) (Q : Nat → Prop), StoreAt w' c mb cap h m r (updE val n ⟨k, t.rule, v'⟩) ns mm (updE tm n t) (fun k => P k ∨ Q k) ∧ ∀ k, Q k → w.heap.size ≤ k) ∧ Near D w w'

set_option maxHeartbeats 1600000 in
theorem put_same {w : World} {c mb n : Nat} {cap h m r : Int} {val : Nat → Ent} {xs ys : List Nat} {mm : List (ByteArray × Value)} {tm : Nat → T} {P : Nat → Prop}
    (s : StoreAt w c mb cap h m r val (xs ++ n :: ys) mm tm P) (k : ByteArray) (hk : (xs ++ n :: ys).find? (fun n => decide ((val n).key = k)) = some n) (t : T) (v : Value) (R : Nat → Prop) (hv : ArgsAt w R v t.args) (hR : ∀ k, R k → k < w.heap.size) (ht : tsize t ≤ 1000) :
    Calls Try.prog 12 #[.pointer (some ⟨c, 0, none⟩), .string k, .agg #[.int .i64 t.rule, v]] w (PutPost c mb cap h m r val (n :: (xs ++ ys)) mm tm P k t n (fun b => b = c ∨ b ∈ xs ++ n :: ys) w) := by
  obtain ⟨av, lv, qv, rfl⟩ := hv.slice
  have hs : ∀ o, StoreAt (w.alloc o) c mb cap h m r val (xs ++ n :: ys) mm tm P := fun o => s.below ((Below.refl _ _).alloc (Nat.le_refl _) o)
  have s1 := hs (.cells #[.int .i64 t.rule, .slice av lv qv] 36)
  have hkn : (val n).key = k := (find_yes hk).2
  have HM := Lib.hid (made_yes s1.ring.cache (by have := s.pos; omega))
  have hl := look55 s1.map k
  rw [s.get k, hk] at hl
  have c1 : (w.alloc (.cells #[.int .i64 t.rule, .slice av lv qv] 36)).cell? ⟨c, 1, none⟩ = some (.map (some mb)) := (cell_of_row _ c 1 _ _ _ s1.ring.cache).trans rfl
  simp only [Option.map_some, Option.getD_some, Option.isSome_some, ptr] at hl
  have hrow : (w.alloc (.cells #[.int .i64 t.rule, .slice av lv qv] 36)).heap[w.heap.size]? = some (.cells #[.int .i64 t.rule, .slice av lv qv] 36 (0, 0)) := heap_alloc_new _ _
  have b0 : (w.alloc (.cells #[.int .i64 t.rule, .slice av lv qv] 36)).cell? ⟨w.heap.size, 0, none⟩ = some (.int .i64 t.rule) := (cell_of_row _ _ 0 _ _ _ hrow).trans rfl
  have b1 : (w.alloc (.cells #[.int .i64 t.rule, .slice av lv qv] 36)).cell? ⟨w.heap.size, 1, none⟩ = some (.slice av lv qv) := (cell_of_row _ _ 1 _ _ _ hrow).trans rfl
  have hsz : (w.alloc (.cells #[.int .i64 t.rule, .slice av lv qv] 36)).heap.size = w.heap.size + 1 := by simp
  have HSZ := Lib.hid hsz
  have hbw : Below w.heap.size w (w.alloc (.cells #[.int .i64 t.rule, .slice av lv qv] 36)) := (Below.refl _ _).alloc (Nat.le_refl _) _
  have HBW := Lib.hid hbw
  have HCP := Lib.hid (copied_any _ t _ R _ (Nat.le_refl _) ht (fun k hk => by rw [hsz]; have := hR k hk; omega) (hv.kept (Below.keptB hbw hR)))
  have S := Lib.hid s
  have S1 := Lib.hid s1
  have HK := Lib.hid hkn
  unfold PutPost
  clear hs s1 s hrow hsz hbw hk hkn hv hR
  go_enter Try.func12, Try.ntmps12
  go_wp2_with fail
  refine HM.out.mono ?_
  rintro e w' ⟨rfl, rfl⟩
  generalize w.alloc (.cells #[.int .i64 t.rule, .slice av lv qv] 36) = w1 at *
  go_wp2_with fail
  refine HCP.out.mono ?_
  rintro e w2 ⟨v', rfl, ha, hb⟩
  obtain ⟨a3, l3, q3, rfl⟩ := ha.slice
  have s2 := S1.out.below hb
  obtain ⟨q, z, hnode⟩ := s2.ring.seg.at n (by simp)
  have n1 : w2.cell? ⟨n, 1, none⟩ = some (.int .i64 (val n).rule) := (cell_of_row _ n 1 _ _ _ hnode).trans rfl
  have hva : ∃ a l c, (val n).args = .slice a l c := (s2.args n (by simp)).slice
  obtain ⟨a4, l4, q4, hva⟩ := hva
  have n2 : w2.cell? ⟨n, 2, none⟩ = some (.slice a4 l4 q4) := (cell_of_row _ n 2 _ _ _ hnode).trans (by rw [← hva]; rfl)
  have f1 := frozen_of_row w2 n 1 _ _ hnode
  have f2 := frozen_of_row w2 n 2 _ _ hnode
  have c12 : w2.cell? ⟨c, 1, none⟩ = some (.map (some mb)) := (cell_of_row _ c 1 _ _ _ s2.ring.cache).trans rfl
  have s3 := s2.turned (n := n) (by simp) ha ht (fun x hx => by
    have h1 := hx.1
    rw [HSZ.out] at h1
    have hp := S.out.pre
    exact ⟨hx.2, fun e => by have := hp x (.inl e); omega, fun e => by have := hp x (.inr (.inl e)); omega, fun e => by have := hp x (.inr (.inr (.inl e))); omega⟩)
  have HF := Lib.hid (front_in s3.ring)
  have S3 := Lib.hid s3
  have HB := Lib.hid hb
  clear ha hb s2 s3 hnode hva hl c1 b0 b1
  go_wp2_with fail
  refine HF.out.mono ?_
  rintro e w4 ⟨rfl, hr4, ho4⟩
  have HR4 := Lib.hid hr4
  have HO4 := Lib.hid ho4
  clear hr4 ho4
  go_wp2
  go_ret
  refine ⟨rfl, ⟨.slice a3 l3 q3, Span w1.heap.size w2.heap.size, ?_, ?_⟩, ?_⟩
  · rw [← HK.out]
    exact S3.out.order (perm_front xs ys n) HR4.out HO4.out
  · intro k hk
    have := hk.1
    rw [HSZ.out] at this
    omega
  · have n1 : Near (fun b => b = c ∨ b ∈ xs ++ n :: ys) w2 w4 := ((((Only.refl (fun b => b = c ∨ b ∈ xs ++ n :: ys) w2).setCell (b := n) (.inr (by simp)) 1 (.int .i64 t.rule)).setCell (b := n) (.inr (by simp)) 2 (.slice a3 l3 q3)).trans HO4.out).near
    exact ((Below.near HBW.out).trans (Below.near HB.out)).trans n1
end Go.Proofs.Ytdljffplooplcaa
