/- The ring: remove, front. -/
import Derived.Test.YtdljffplooplcaaCopied
import Derived.LaidEqlPtr
namespace Go.Proofs.Ytdljffplooplcaa
open Go.RowKit
set_option linter.unusedVariables false

/-- a pointer to a node, or nil -/
def ptr : Option Nat → Value
  | none => .pointer none
  | some b => .pointer (some ⟨b, 0, none⟩)
/-- Block b is a node: its entry's cells, the nodes before and behind it. -/
def NodeAt (w : World) (b : Nat) (k : ByteArray) (r : Int) (v : Value) (p n : Option Nat) : Prop :=
  w.heap[b]? = some (.cells #[.string k, .int .i64 r, v, ptr p, ptr n] 67 (0, 0))
/-- Block b is a cache with these cells besides the list's head and tail. -/
def CacheAt (w : World) (b : Nat) (x0 x1 : Value) (hd tl : Option Nat) (x4 x5 x6 : Value) : Prop :=
  w.heap[b]? = some (.cells #[x0, x1, ptr hd, ptr tl, x4, x5, x6] 60 (0, 0))
theorem info67 : (Try.prog.info? 67).map (fun i => (i.zero, i.size, i.bytes)) = some (some (.agg #[.string ⟨#[]⟩, .int .i64 0, .slice none 0 0, .pointer none, .pointer none]), 5, 64) := by kernel_rfl
/-- Nothing but the blocks with D has turned; nothing was made. -/
theorem ptr_same (n : Nat) (w : World) : (binOp .eql 56 (.pointer (some ⟨n, 0, none⟩)) (.pointer (some ⟨n, 0, none⟩))).run Try.prog w = .ok (.bool true) w := by
  obtain ⟨i0, hi, _⟩ := info_parts info67
  exact run_eql_ptr_same _ _ Try.underlying56 hi
theorem ptr_diff {a b : Nat} {w : World} (hne : a ≠ b) {ca cb : Array Value} (ha : w.heap[a]? = some (.cells ca 67 (0, 0))) (hb : w.heap[b]? = some (.cells cb 67 (0, 0))) :
    (binOp .eql 56 (.pointer (some ⟨a, 0, none⟩)) (.pointer (some ⟨b, 0, none⟩))).run Try.prog w = .ok (.bool false) w := by
  obtain ⟨i0, hi, _, hs, _⟩ := info_parts info67
  exact run_eql_ptr_other w Try.underlying56 hi (by omega) (fun e => hne (by cases e; rfl)) ha hb
theorem ptr_nil (n : Nat) (w : World) : (binOp .eql 56 (.pointer none) (.pointer (some ⟨n, 0, none⟩))).run Try.prog w = .ok (.bool false) w := by
  obtain ⟨i0, hi, _⟩ := info_parts info67
  have h : ∀ d : Nat, (Op.equalIn (d + 1) 56 (.pointer none) (.pointer (some ⟨n, 0, none⟩))).run Try.prog w = .ok false w := fun d => by
    simp [Op.equalIn, run_underlying Try.underlying56, sizeOf, typeInfo]
  simp only [binOp]
  simp [Op.equal, Op.maxDepth, h 9999]
theorem ptr_form (x : Option Nat) : ∃ a, ptr x = .pointer a := by cases x <;> exact ⟨_, rfl⟩
/-- a list's end, other than n: nil or another node -/
def Other (w : World) (n : Nat) (x : Option Nat) : Prop := ∀ h, x = some h → h ≠ n ∧ ∃ ca, w.heap[h]? = some (.cells ca 67 (0, 0))
theorem Other.eql {w : World} {n : Nat} {x : Option Nat} (h : Other w n x) {cb : Array Value} (hb : w.heap[n]? = some (.cells cb 67 (0, 0))) :
    (binOp .eql 56 (ptr x) (.pointer (some ⟨n, 0, none⟩))).run Try.prog w = .ok (.bool false) w := by
  cases x with
  | none => exact ptr_nil n w
  | some a =>
    obtain ⟨h1, ca, h2⟩ := h a rfl
    exact ptr_diff h1 h2 hb
structure Only (D : Nat → Prop) (w w' : World) : Prop where
  os : w'.os = w.os
  tape : w'.tape = w.tape
  output : w'.output = w.output
  size : w'.heap.size = w.heap.size
  block : ∀ k, ¬ D k → w'.heap[k]? = w.heap[k]?
theorem Only.refl (D : Nat → Prop) (w : World) : Only D w w := ⟨rfl, rfl, rfl, rfl, fun _ _ => rfl⟩
theorem Only.trans {D : Nat → Prop} {w w1 w2 : World} (h : Only D w w1) (h2 : Only D w1 w2) : Only D w w2 :=
  ⟨h2.os.trans h.os, h2.tape.trans h.tape, h2.output.trans h.output, h2.size.trans h.size, fun k hk => (h2.block k hk).trans (h.block k hk)⟩
theorem Only.wide {D E : Nat → Prop} {w w1 : World} (h : Only D w w1) (he : ∀ k, D k → E k) : Only E w w1 :=
  ⟨h.os, h.tape, h.output, h.size, fun k hk => h.block k fun hd => hk (he k hd)⟩
theorem Only.setCell {D : Nat → Prop} {w w1 : World} (h : Only D w w1) {b : Nat} (hb : D b) (i : Nat) (u : Value) : Only D w (w1.setCell ⟨b, i, none⟩ u) :=
  ⟨h.os, h.tape, h.output, by rw [heap_setCell_size]; exact h.size, fun k hk => (Below.heap_setCell _ _ _ _ (fun e => hk (by rw [e]; exact hb))).trans (h.block k hk)⟩
theorem Only.drew {D : Nat → Prop} {w w1 : World} (h : Only D w w1) : Only D w w1.drew := ⟨h.os, h.tape, h.output, h.size, h.block⟩
theorem NodeAt.far {w : World} {b : Nat} {k : ByteArray} {r : Int} {v : Value} {p n : Option Nat} (h : NodeAt w b k r v p n) {a : Nat} (hne : b ≠ a) (i : Nat) (u : Value) : NodeAt (w.setCell ⟨a, i, none⟩ u) b k r v p n :=
  (Below.heap_setCell _ _ _ _ hne).trans h
theorem NodeAt.prev {w : World} {b : Nat} {k : ByteArray} {r : Int} {v : Value} {p n : Option Nat} (h : NodeAt w b k r v p n) (p' : Option Nat) : NodeAt (w.setCell ⟨b, 3, none⟩ (ptr p')) b k r v p' n :=
  (setCell_row 3 (ptr p') h).trans rfl
theorem NodeAt.next {w : World} {b : Nat} {k : ByteArray} {r : Int} {v : Value} {p n : Option Nat} (h : NodeAt w b k r v p n) (n' : Option Nat) : NodeAt (w.setCell ⟨b, 4, none⟩ (ptr n')) b k r v p n' :=
  (setCell_row 4 (ptr n') h).trans rfl
theorem CacheAt.far {w : World} {b : Nat} {x0 x1 x4 x5 x6 : Value} {hd tl : Option Nat} (h : CacheAt w b x0 x1 hd tl x4 x5 x6) {a : Nat} (hne : b ≠ a) (i : Nat) (u : Value) : CacheAt (w.setCell ⟨a, i, none⟩ u) b x0 x1 hd tl x4 x5 x6 :=
  (Below.heap_setCell _ _ _ _ hne).trans h
theorem CacheAt.head {w : World} {b : Nat} {x0 x1 x4 x5 x6 : Value} {hd tl : Option Nat} (h : CacheAt w b x0 x1 hd tl x4 x5 x6) (hd' : Option Nat) : CacheAt (w.setCell ⟨b, 2, none⟩ (ptr hd')) b x0 x1 hd' tl x4 x5 x6 :=
  (setCell_row 2 (ptr hd') h).trans rfl
theorem CacheAt.tail {w : World} {b : Nat} {x0 x1 x4 x5 x6 : Value} {hd tl : Option Nat} (h : CacheAt w b x0 x1 hd tl x4 x5 x6) (tl' : Option Nat) : CacheAt (w.setCell ⟨b, 3, none⟩ (ptr tl')) b x0 x1 hd tl' x4 x5 x6 :=
  (setCell_row 3 (ptr tl') h).trans rfl

set_option maxHeartbeats 1600000 in
theorem remove_qs (c n q s : Nat) (k : ByteArray) (r : Int) (v : Value) (x0 x1 x4 x5 x6 : Value) (kq : ByteArray) (rq : Int) (vq : Value) (pq : Option Nat) (ks : ByteArray) (rs : Int) (vs : Value) (ns : Option Nat) (hd : Option Nat) (tl : Option Nat) (w : World) (hn : NodeAt w n k r v (some q) (some s)) (hc : CacheAt w c x0 x1 hd tl x4 x5 x6) (hcn : c ≠ n) (hq : NodeAt w q kq rq vq pq (some n)) (hnq : n ≠ q) (hcq : c ≠ q) (hs : NodeAt w s ks rs vs (some n) ns) (hns : n ≠ s) (hcs : c ≠ s) (hqs : q ≠ s) :
    Calls Try.prog 30 #[.pointer (some ⟨c, 2, none⟩), .pointer (some ⟨n, 0, none⟩)] w fun e w' => e = .returned (.tuple #[]) ∧ NodeAt w' n k r v none none ∧ CacheAt w' c x0 x1 hd tl x4 x5 x6 ∧ NodeAt w' q kq rq vq pq (some s) ∧ NodeAt w' s ks rs vs (some q) ns ∧ Only (fun b => b = n ∨ b = c ∨ b = q ∨ b = s) w w' := by
  have n3 : w.cell? ⟨n, 3, none⟩ = some (.pointer (some ⟨q, 0, none⟩)) := (cell_of_row w n 3 _ _ _ hn).trans rfl
  have n4 : w.cell? ⟨n, 4, none⟩ = some (.pointer (some ⟨s, 0, none⟩)) := (cell_of_row w n 4 _ _ _ hn).trans rfl
  have fn3 := frozen_of_row w n 3 _ _ hn
  have fn4 := frozen_of_row w n 4 _ _ hn
  have fc2 := frozen_of_row w c 2 _ _ hc
  have fc3 := frozen_of_row w c 3 _ _ hc
  have q4 : w.cell? ⟨q, 4, none⟩ = some (.pointer (some ⟨n, 0, none⟩)) := (cell_of_row w q 4 _ _ _ hq).trans rfl
  have fq4 := frozen_of_row w q 4 _ _ hq
  have HQ := Lib.hid hq
  have s3 : w.cell? ⟨s, 3, none⟩ = some (.pointer (some ⟨n, 0, none⟩)) := (cell_of_row w s 3 _ _ _ hs).trans rfl
  have fs3 := frozen_of_row w s 3 _ _ hs
  have HS := Lib.hid hs
  have HN := Lib.hid hn
  have HC := Lib.hid hc
  clear hn hc hq hs
  go_enter Try.func30, Try.ntmps30
  go_wp2
  go_region
  go_wp2
  go_region
  go_wp2
  go_end0
  exact ⟨rfl, ((((HN.out.far hnq _ _).far hns _ _).prev none).next none), ((((HC.out.far hcq _ _).far hcs _ _).far hcn _ _).far hcn _ _), ((((HQ.out.next (some s)).far hqs _ _).far hnq.symm _ _).far hnq.symm _ _), ((((HS.out.far hqs.symm _ _).prev (some q)).far hns.symm _ _).far hns.symm _ _), (((((Only.refl _ w).setCell (b := q) (by simp) _ _).setCell (b := s) (by simp) _ _).setCell (b := n) (by simp) _ _).setCell (b := n) (by simp) _ _).drew.drew⟩

set_option maxHeartbeats 1600000 in
theorem remove_q0 (c n q : Nat) (k : ByteArray) (r : Int) (v : Value) (x0 x1 x4 x5 x6 : Value) (kq : ByteArray) (rq : Int) (vq : Value) (pq : Option Nat) (hd : Option Nat) (w : World) (hn : NodeAt w n k r v (some q) none) (hc : CacheAt w c x0 x1 hd (some n) x4 x5 x6) (hcn : c ≠ n) (hq : NodeAt w q kq rq vq pq (some n)) (hnq : n ≠ q) (hcq : c ≠ q) :
    Calls Try.prog 30 #[.pointer (some ⟨c, 2, none⟩), .pointer (some ⟨n, 0, none⟩)] w fun e w' => e = .returned (.tuple #[]) ∧ NodeAt w' n k r v none none ∧ CacheAt w' c x0 x1 hd (some q) x4 x5 x6 ∧ NodeAt w' q kq rq vq pq none ∧ Only (fun b => b = n ∨ b = c ∨ b = q) w w' := by
  have n3 : w.cell? ⟨n, 3, none⟩ = some (.pointer (some ⟨q, 0, none⟩)) := (cell_of_row w n 3 _ _ _ hn).trans rfl
  have n4 : w.cell? ⟨n, 4, none⟩ = some (.pointer none) := (cell_of_row w n 4 _ _ _ hn).trans rfl
  have fn3 := frozen_of_row w n 3 _ _ hn
  have fn4 := frozen_of_row w n 4 _ _ hn
  have fc2 := frozen_of_row w c 2 _ _ hc
  have fc3 := frozen_of_row w c 3 _ _ hc
  have q4 : w.cell? ⟨q, 4, none⟩ = some (.pointer (some ⟨n, 0, none⟩)) := (cell_of_row w q 4 _ _ _ hq).trans rfl
  have fq4 := frozen_of_row w q 4 _ _ hq
  have HQ := Lib.hid hq
  have c3 : w.cell? ⟨c, 3, none⟩ = some (.pointer (some ⟨n, 0, none⟩)) := (cell_of_row w c 3 _ _ _ hc).trans rfl
  have hsame : ∀ w : World, (binOp .eql 56 (.pointer (some ⟨n, 0, none⟩)) (.pointer (some ⟨n, 0, none⟩))).run Try.prog w = .ok (.bool true) w := fun w => ptr_same n w
  have HN := Lib.hid hn
  have HC := Lib.hid hc
  clear hn hc hq
  go_enter Try.func30, Try.ntmps30
  go_wp2
  go_region
  go_wp2
  go_end0
  exact ⟨rfl, ((((HN.out.far hnq _ _).far hcn.symm _ _).prev none).next none), ((((HC.out.far hcq _ _).tail (some q)).far hcn _ _).far hcn _ _), ((((HQ.out.next none).far hcq.symm _ _).far hnq.symm _ _).far hnq.symm _ _), (((((Only.refl _ w).setCell (b := q) (by simp) _ _).setCell (b := c) (by simp) _ _).setCell (b := n) (by simp) _ _).setCell (b := n) (by simp) _ _).drew⟩

set_option maxHeartbeats 1600000 in
theorem remove_0s (c n s : Nat) (k : ByteArray) (r : Int) (v : Value) (x0 x1 x4 x5 x6 : Value) (ks : ByteArray) (rs : Int) (vs : Value) (ns : Option Nat) (tl : Option Nat) (w : World) (hn : NodeAt w n k r v none (some s)) (hc : CacheAt w c x0 x1 (some n) tl x4 x5 x6) (hcn : c ≠ n) (hs : NodeAt w s ks rs vs (some n) ns) (hns : n ≠ s) (hcs : c ≠ s) :
    Calls Try.prog 30 #[.pointer (some ⟨c, 2, none⟩), .pointer (some ⟨n, 0, none⟩)] w fun e w' => e = .returned (.tuple #[]) ∧ NodeAt w' n k r v none none ∧ CacheAt w' c x0 x1 (some s) tl x4 x5 x6 ∧ NodeAt w' s ks rs vs none ns ∧ Only (fun b => b = n ∨ b = c ∨ b = s) w w' := by
  have n3 : w.cell? ⟨n, 3, none⟩ = some (.pointer none) := (cell_of_row w n 3 _ _ _ hn).trans rfl
  have n4 : w.cell? ⟨n, 4, none⟩ = some (.pointer (some ⟨s, 0, none⟩)) := (cell_of_row w n 4 _ _ _ hn).trans rfl
  have fn3 := frozen_of_row w n 3 _ _ hn
  have fn4 := frozen_of_row w n 4 _ _ hn
  have fc2 := frozen_of_row w c 2 _ _ hc
  have fc3 := frozen_of_row w c 3 _ _ hc
  have c2 : w.cell? ⟨c, 2, none⟩ = some (.pointer (some ⟨n, 0, none⟩)) := (cell_of_row w c 2 _ _ _ hc).trans rfl
  have s3 : w.cell? ⟨s, 3, none⟩ = some (.pointer (some ⟨n, 0, none⟩)) := (cell_of_row w s 3 _ _ _ hs).trans rfl
  have fs3 := frozen_of_row w s 3 _ _ hs
  have HS := Lib.hid hs
  have hsame : ∀ w : World, (binOp .eql 56 (.pointer (some ⟨n, 0, none⟩)) (.pointer (some ⟨n, 0, none⟩))).run Try.prog w = .ok (.bool true) w := fun w => ptr_same n w
  have HN := Lib.hid hn
  have HC := Lib.hid hc
  clear hn hc hs
  go_enter Try.func30, Try.ntmps30
  go_wp2
  go_region
  go_wp2
  go_end0
  exact ⟨rfl, ((((HN.out.far hcn.symm _ _).far hns _ _).prev none).next none), ((((HC.out.head (some s)).far hcs _ _).far hcn _ _).far hcn _ _), ((((HS.out.far hcs.symm _ _).prev none).far hns.symm _ _).far hns.symm _ _), (((((Only.refl _ w).setCell (b := c) (by simp) _ _).setCell (b := s) (by simp) _ _).setCell (b := n) (by simp) _ _).setCell (b := n) (by simp) _ _).drew⟩

set_option maxHeartbeats 1600000 in
theorem remove_00 (c n : Nat) (k : ByteArray) (r : Int) (v : Value) (x0 x1 x4 x5 x6 : Value) (w : World) (hn : NodeAt w n k r v none none) (hc : CacheAt w c x0 x1 (some n) (some n) x4 x5 x6) (hcn : c ≠ n) :
    Calls Try.prog 30 #[.pointer (some ⟨c, 2, none⟩), .pointer (some ⟨n, 0, none⟩)] w fun e w' => e = .returned (.tuple #[]) ∧ NodeAt w' n k r v none none ∧ CacheAt w' c x0 x1 none none x4 x5 x6 ∧ Only (fun b => b = n ∨ b = c) w w' := by
  have n3 : w.cell? ⟨n, 3, none⟩ = some (.pointer none) := (cell_of_row w n 3 _ _ _ hn).trans rfl
  have n4 : w.cell? ⟨n, 4, none⟩ = some (.pointer none) := (cell_of_row w n 4 _ _ _ hn).trans rfl
  have fn3 := frozen_of_row w n 3 _ _ hn
  have fn4 := frozen_of_row w n 4 _ _ hn
  have fc2 := frozen_of_row w c 2 _ _ hc
  have fc3 := frozen_of_row w c 3 _ _ hc
  have c2 : w.cell? ⟨c, 2, none⟩ = some (.pointer (some ⟨n, 0, none⟩)) := (cell_of_row w c 2 _ _ _ hc).trans rfl
  have c3 : w.cell? ⟨c, 3, none⟩ = some (.pointer (some ⟨n, 0, none⟩)) := (cell_of_row w c 3 _ _ _ hc).trans rfl
  have hsame : ∀ w : World, (binOp .eql 56 (.pointer (some ⟨n, 0, none⟩)) (.pointer (some ⟨n, 0, none⟩))).run Try.prog w = .ok (.bool true) w := fun w => ptr_same n w
  have HN := Lib.hid hn
  have HC := Lib.hid hc
  clear hn hc
  go_enter Try.func30, Try.ntmps30
  go_wp2
  go_end0
  exact ⟨rfl, ((((HN.out.far hcn.symm _ _).far hcn.symm _ _).prev none).next none), ((((HC.out.head none).tail none).far hcn _ _).far hcn _ _), (((((Only.refl _ w).setCell (b := c) (by simp) _ _).setCell (b := c) (by simp) _ _).setCell (b := n) (by simp) _ _).setCell (b := n) (by simp) _ _)⟩

set_option maxHeartbeats 1600000 in
theorem remove_iso (c n : Nat) (k : ByteArray) (r : Int) (v : Value) (x0 x1 x4 x5 x6 : Value) (hd tl : Option Nat) (w : World) (hn : NodeAt w n k r v none none) (hc : CacheAt w c x0 x1 hd tl x4 x5 x6) (hcn : c ≠ n) (hhd : Other w n hd) (htl : Other w n tl) :
    Calls Try.prog 30 #[.pointer (some ⟨c, 2, none⟩), .pointer (some ⟨n, 0, none⟩)] w fun e w' => e = .returned (.tuple #[]) ∧ NodeAt w' n k r v none none ∧ CacheAt w' c x0 x1 hd tl x4 x5 x6 ∧ Only (fun b => b = n ∨ b = c) w w' := by
  have n3 : w.cell? ⟨n, 3, none⟩ = some (.pointer none) := (cell_of_row w n 3 _ _ _ hn).trans rfl
  have n4 : w.cell? ⟨n, 4, none⟩ = some (.pointer none) := (cell_of_row w n 4 _ _ _ hn).trans rfl
  have fn3 := frozen_of_row w n 3 _ _ hn
  have fn4 := frozen_of_row w n 4 _ _ hn
  have fc2 := frozen_of_row w c 2 _ _ hc
  have fc3 := frozen_of_row w c 3 _ _ hc
  have c2 : w.cell? ⟨c, 2, none⟩ = some (ptr hd) := (cell_of_row w c 2 _ _ _ hc).trans rfl
  have c3 : w.cell? ⟨c, 3, none⟩ = some (ptr tl) := (cell_of_row w c 3 _ _ _ hc).trans rfl
  have HN := Lib.hid hn
  have HC := Lib.hid hc
  clear hn hc
  have e1 := hhd.eql HN.out
  have e2 := htl.eql HN.out
  clear hhd htl
  obtain ⟨vh, hvh⟩ := ptr_form hd
  obtain ⟨vt, hvt⟩ := ptr_form tl
  rw [hvh] at c2 e1
  rw [hvt] at c3 e2
  clear hvh hvt
  go_enter Try.func30, Try.ntmps30
  go_wp2
  go_end0
  exact ⟨rfl, ((HN.out.prev none).next none), ((HC.out.far hcn _ _).far hcn _ _), (((Only.refl _ w).setCell (b := n) (by simp) _ _).setCell (b := n) (by simp) _ _)⟩

end Go.Proofs.Ytdljffplooplcaa
