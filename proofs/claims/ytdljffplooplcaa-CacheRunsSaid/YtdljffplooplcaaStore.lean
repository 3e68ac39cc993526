/- The cache's invariant. -/
import Derived.Test.YtdljffplooplcaaNew
namespace Go.Proofs.Ytdljffplooplcaa
open Go.RowKit
set_option linter.unusedVariables false

/-- Block c is a cache, block mb its map; ns are its nodes, the last used first; val their entries, tm the terms that these read as, whose cells lie in blocks with P. -/
structure StoreAt (w : World) (c mb : Nat) (cap h m r : Int) (val : Nat → Ent) (ns : List Nat) (mm : List (ByteArray × Value)) (tm : Nat → T) (P : Nat → Prop) : Prop where
  ring : Ring w c (.int .i64 cap) (.map (some mb)) (.int .i64 h) (.int .i64 m) (.int .i64 r) val ns
  map : Mp.MapAt w mb Value.string mm
  get : ∀ k, Mp.get k mm = (ns.find? fun n => decide ((val n).key = k)).map fun n => ptr (some n)
  len : mm.length = ns.length
  keys : (ns.map fun n => (val n).key).Nodup
  rule : ∀ n, n ∈ ns → (val n).rule = (tm n).rule
  args : ∀ n, n ∈ ns → ArgsAt w P (val n).args (tm n).args
  small : ∀ n, n ∈ ns → tsize (tm n) ≤ 1000
  own : ∀ k, P k → k < w.heap.size ∧ k ≠ c ∧ k ≠ mb ∧ k ∉ ns
  mbc : mb ≠ c ∧ mb ∉ ns
  pos : 1 ≤ cap ∧ cap ≤ 4096
  mnd : (mm.map (·.1)).Nodup

/-- Behind whatever leaves the cache's blocks as they were, the cache is the same. -/
theorem StoreAt.near {w w' : World} {c mb : Nat} {cap h m r : Int} {val : Nat → Ent} {ns : List Nat} {mm : List (ByteArray × Value)} {tm : Nat → T} {P D : Nat → Prop}
    (s : StoreAt w c mb cap h m r val ns mm tm P) (hn : Near D w w') (hd : ∀ k, D k → k ≠ c ∧ k ≠ mb ∧ k ∉ ns ∧ ¬ P k) : StoreAt w' c mb cap h m r val ns mm tm P := by
  have hc : c < w.heap.size := (Array.getElem?_eq_some_iff.1 s.ring.cache).1
  have hm : mb < w.heap.size := s.map.lt
  have hns : ∀ n, n ∈ ns → n < w.heap.size := fun n hn => by
    obtain ⟨ca, hca⟩ := s.ring.seg.node n hn
    exact (Array.getElem?_eq_some_iff.1 hca).1
  refine ⟨⟨(hn.block c hc fun d => (hd c d).1 rfl).trans s.ring.cache, s.ring.seg.kept fun b hb => hn.block b (hns b hb) fun d => (hd b d).2.2.1 hb, s.ring.nodup, s.ring.apart⟩,
    s.map.block (hn.block mb hm fun d => (hd mb d).2.1 rfl), s.get, s.len, s.keys, s.rule, fun n hnn => (s.args n hnn).kept fun k hk => hn.block k (s.own k hk).1 fun d => (hd k d).2.2.2 hk, s.small,
    fun k hk => ⟨Nat.lt_of_lt_of_le (s.own k hk).1 hn.size, (s.own k hk).2⟩, s.mbc, s.pos, s.mnd⟩
theorem StoreAt.below {w w' : World} {c mb : Nat} {cap h m r : Int} {val : Nat → Ent} {ns : List Nat} {mm : List (ByteArray × Value)} {tm : Nat → T} {P : Nat → Prop}
    (s : StoreAt w c mb cap h m r val ns mm tm P) (hb : Below w.heap.size w w') : StoreAt w' c mb cap h m r val ns mm tm P :=
  s.near (D := fun _ => False) (Below.near hb) fun _ d => d.elim
/-- New's cache. -/
theorem NewPost.store {cap : Int} {w w' : World} {e : Ending} (h1 : 1 ≤ cap) (h2 : cap ≤ 4096) (h : NewPost cap w e w') :
    ∃ c mb, e = .returned (.tuple #[.pointer (some ⟨c, 0, none⟩), .int .i64 0]) ∧ w.heap.size ≤ c ∧ w.heap.size ≤ mb ∧ Below w.heap.size w w' ∧
      StoreAt w' c mb cap 0 0 0 (fun _ => ⟨⟨#[]⟩, 0, undef⟩) [] [] (fun _ => default) (fun _ => False) := by
  obtain ⟨c, mb, he, hc, hcm, hmb, hcache, hmap, hb⟩ := h
  exact ⟨c, mb, he, hc, by omega, hb, ⟨hcache, trivial, List.nodup_nil, by simp⟩, hmap, fun k => rfl, rfl, List.nodup_nil, fun n hn => by simp at hn, fun n hn => by simp at hn, fun n hn => by simp at hn, fun k hk => hk.elim,
    ⟨by omega, by simp⟩, ⟨h1, h2⟩, List.nodup_nil⟩
end Go.Proofs.Ytdljffplooplcaa
