/- Put of a key that is not there: the plain part. -/
import Derived.Test.YtdljffplooplcaaTurn
namespace Go.Proofs.Ytdljffplooplcaa
open Go.RowKit
set_option linter.unusedVariables false

namespace Mp
variable {κ : Type} [DecidableEq κ]
theorem getI_of_get_none {x : κ} {m : List (κ × Value)} (h : get x m = none) (i : Nat) : getI x m i = none := by
  have := get_getI x m i
  rw [h] at this
  cases hg : getI x m i with
  | none => rfl
  | some p => rw [hg] at this; cases this
theorem upd_none {x : κ} {m : List (κ × Value)} (h : get x m = none) (v : Value) : upd x v m = m ++ [(x, v)] := (getI_none (getI_of_get_none h 0)).2 v
theorem get_snoc (k x : κ) (v : Value) : ∀ m : List (κ × Value), get k (m ++ [(x, v)]) = (get k m).or (if k = x then some v else none)
  | [] => by simp [get]
  | p :: r => by
    rw [List.cons_append]
    unfold get
    split
    · rfl
    · exact get_snoc k x v r
theorem get_mem {k : κ} : ∀ {m : List (κ × Value)}, k ∉ m.map (·.1) → get k m = none
  | [], _ => rfl
  | p :: r, h => by
    rw [List.map_cons, List.mem_cons, not_or] at h
    unfold get
    rw [if_neg h.1]
    exact get_mem h.2
theorem get_del (k x : κ) : ∀ {m : List (κ × Value)}, (m.map (·.1)).Nodup → get k (del x m) = if k = x then none else get k m
  | [], _ => by simp [del, get]
  | p :: r, h => by
    rw [List.map_cons, List.nodup_cons] at h
    unfold del
    by_cases hx : x = p.1
    · rw [if_pos hx]
      by_cases hk : k = x
      · rw [if_pos hk, hk, hx]
        exact get_mem h.1
      · rw [if_neg hk]
        conv => rhs; unfold get
        rw [if_neg (fun e => hk (e.trans hx.symm))]
    · rw [if_neg hx]
      unfold get
      rw [get_del k x h.2]
      by_cases hk : k = p.1
      · rw [if_pos hk, if_pos hk, if_neg (fun e => hx (e.symm.trans hk))]
      · rw [if_neg hk, if_neg hk]
theorem del_sub (x : κ) : ∀ m : List (κ × Value), (del x m).Sublist m
  | [] => by simp [del]
  | p :: r => by
    unfold del
    split
    · exact List.sublist_cons_self _ _
    · exact (del_sub x r).cons_cons p
theorem del_len (x : κ) : ∀ {m : List (κ × Value)} {v : Value}, get x m = some v → (del x m).length + 1 = m.length
  | [], v, h => by simp [get] at h
  | p :: r, v, h => by
    unfold get at h
    unfold del
    by_cases hx : x = p.1
    · rw [if_pos hx]; rfl
    · rw [if_neg hx] at h ⊢
      rw [List.length_cons, List.length_cons, del_len x h]
theorem snoc_nodup {x : κ} {v : Value} {m : List (κ × Value)} (h : (m.map (·.1)).Nodup) (hx : get x m = none) : ((m ++ [(x, v)]).map (·.1)).Nodup := by
  rw [List.map_append, List.nodup_append]
  refine ⟨h, by simp, ?_⟩
  intro a ha b hb e
  simp at hb
  subst hb
  subst e
  obtain ⟨p, hp, rfl⟩ := List.mem_map.1 ha
  clear ha h
  induction m with
  | nil => simp at hp
  | cons q r ih =>
    unfold get at hx
    split at hx
    · cases hx
    · rename_i hne
      rcases List.mem_cons.1 hp with rfl | hp
      · exact hne rfl
      · exact ih hp hx
end Mp

theorem find_congr {p q : Nat → Bool} : ∀ {l : List Nat}, (∀ b, b ∈ l → p b = q b) → l.find? p = l.find? q
  | [], _ => rfl
  | a :: l, h => by rw [List.find?_cons, List.find?_cons, h a (by simp), find_congr fun b hb => h b (by simp [hb])]
theorem CacheAt.removals {w : World} {b : Nat} {x0 x1 x4 x5 x6 : Value} {hd tl : Option Nat} (h : CacheAt w b x0 x1 hd tl x4 x5 x6) (u : Value) : CacheAt (w.setCell ⟨b, 6, none⟩ u) b x0 x1 hd tl x4 x5 u :=
  (setCell_row 6 u h).trans rfl

/-- The list's last has been taken away. -/
theorem StoreAt.dropped {w w1 w2 : World} {c mb : Nat} {cap h m r : Int} {val : Nat → Ent} {zs : List Nat} {q : Nat} {mm : List (ByteArray × Value)} {tm : Nat → T} {P : Nat → Prop}
    (s : StoreAt w c mb cap h m r val (zs ++ [q]) mm tm P) (hr : Ring w1 c (.int .i64 cap) (.map (some mb)) (.int .i64 h) (.int .i64 m) (.int .i64 r) val zs) (ho : Only (fun b => b = c ∨ b ∈ zs ++ [q]) w w1)
    (hm : Mp.MapAt w2 mb Value.string (Mp.del (val q).key mm)) (hg : Only (fun b => b = mb) w1 w2) : StoreAt w2 c mb cap h m r val zs (Mp.del (val q).key mm) tm P := by
  have hmem : ∀ n, n ∈ zs → n ∈ zs ++ [q] := fun n hn => by simp [hn]
  have hkeys := s.keys
  rw [List.map_append, List.nodup_append] at hkeys
  have hfq : (zs ++ [q]).find? (fun n => decide ((val n).key = (val q).key)) = some q := find_key s.keys (by simp) rfl
  refine ⟨⟨(hg.block c fun e => s.mbc.1 e.symm).trans hr.cache, hr.seg.kept fun b hb => hg.block b fun e => s.mbc.2 (e ▸ hmem b hb), hr.nodup, hr.apart⟩, hm, fun k => ?_, ?_, hkeys.1, fun n hn => s.rule n (hmem n hn),
    fun n hn => (s.args n (hmem n hn)).kept fun k hk => ?_, fun n hn => s.small n (hmem n hn), fun k hk => ?_, ⟨s.mbc.1, fun e => s.mbc.2 (hmem _ e)⟩, s.pos, s.mnd.sublist ((Mp.del_sub _ _).map _)⟩
  · rw [Mp.get_del k _ s.mnd]
    by_cases e : k = (val q).key
    · rw [if_pos e]
      have : zs.find? (fun n => decide ((val n).key = k)) = none := find_no.2 fun n hn he => by
        refine hkeys.2.2 (val n).key (List.mem_map.2 ⟨n, hn, rfl⟩) (val q).key (by simp) (he.trans e)
      rw [this]; rfl
    · rw [if_neg e, s.get k, List.find?_append]
      have : [q].find? (fun n => decide ((val n).key = k)) = none := find_no.2 fun n hn he => by
        simp at hn; subst hn; exact e he.symm
      rw [this, Option.or_none]
  · have h1 := s.get (val q).key
    rw [hfq] at h1
    have h2 := Mp.del_len _ h1
    have := s.len
    simp at this
    omega
  · have := s.own k hk
    exact (hg.block k fun e => this.2.2.1 e).trans (ho.block k fun d => by rcases d with d | d; exact this.2.1 d; exact this.2.2.2 d)
  · have := s.own k hk
    exact ⟨by rw [hg.size, ho.size]; exact this.1, this.2.1, this.2.2.1, fun e => this.2.2.2 (hmem _ e)⟩

/-- A node has been put in front. -/
theorem StoreAt.added {w w' : World} {c mb : Nat} {cap h m r : Int} {val : Nat → Ent} {ns : List Nat} {mm : List (ByteArray × Value)} {tm : Nat → T} {P Q : Nat → Prop}
    (s : StoreAt w c mb cap h m r val ns mm tm P) {n : Nat} (hn : w.heap.size ≤ n) {k : ByteArray} (hk : ns.find? (fun n => decide ((val n).key = k)) = none) {t : T} {v' : Value} (ha : ArgsAt w' Q v' t.args) (ht : tsize t ≤ 1000)
    (hQ : ∀ x, Q x → x < w'.heap.size ∧ x ≠ n ∧ x ≠ c ∧ x ≠ mb ∧ x ∉ ns) (hr : Ring w' c (.int .i64 cap) (.map (some mb)) (.int .i64 h) (.int .i64 m) (.int .i64 r) (updE val n ⟨k, t.rule, v'⟩) (n :: ns))
    (hm : Mp.MapAt w' mb Value.string (mm ++ [(k, ptr (some n))])) (hN : Near (fun b => b = c ∨ b = mb ∨ b ∈ ns) w w') :
    StoreAt w' c mb cap h m r (updE val n ⟨k, t.rule, v'⟩) (n :: ns) (mm ++ [(k, ptr (some n))]) (updE tm n t) (fun x => P x ∨ Q x) := by
  have hp := s.pre
  have hnn : n ∉ ns := fun e => by have := hp n (.inr (.inr (.inl e))); omega
  have hne : ∀ b, b ∈ ns → b ≠ n := fun b hb e => hnn (e ▸ hb)
  have hkey : ∀ b, b ∈ ns → (updE val n ⟨k, t.rule, v'⟩ b).key = (val b).key := fun b hb => by rw [updE_other _ _ (hne b hb)]
  have hgk : Mp.get k mm = none := by rw [s.get k, hk]; rfl
  have hmb := hp mb (.inr (.inl rfl))
  refine ⟨hr, hm, fun x => ?_, by rw [List.length_append, List.length_cons, s.len]; rfl, ?_, fun b hb => ?_, fun b hb => ?_, fun b hb => ?_, fun x hx => ?_, ⟨s.mbc.1, fun e => ?_⟩, s.pos, Mp.snoc_nodup s.mnd hgk⟩
  · rw [Mp.get_snoc, List.find?_cons, updE_same]
    by_cases e : k = x
    · subst e
      rw [hgk]
      simp
    · have e2 : ¬ x = k := fun h => e h.symm
      rw [if_neg e2, Option.or_none, s.get x]
      simp only [e, decide_false]
      congr 1
      exact find_congr fun b hb => by rw [hkey b hb]
  · rw [List.map_cons, List.nodup_cons, updE_same]
    have e : ns.map (fun b => (updE val n ⟨k, t.rule, v'⟩ b).key) = ns.map (fun b => (val b).key) := List.map_congr_left hkey
    rw [e]
    refine ⟨fun hmem => ?_, s.keys⟩
    obtain ⟨b, hb, hbk⟩ := List.mem_map.1 hmem
    exact find_no.1 hk b hb hbk
  · rcases List.mem_cons.1 hb with rfl | hb
    · rw [updE_same, updE_same]
    · rw [updE_other _ _ (hne b hb), updE_other _ _ (hne b hb)]; exact s.rule b hb
  · rcases List.mem_cons.1 hb with rfl | hb
    · rw [updE_same, updE_same]; exact ha.wide fun x hx => .inr hx
    · rw [updE_other _ _ (hne b hb), updE_other _ _ (hne b hb)]
      refine ((s.args b hb).kept fun x hx => ?_).wide fun x hx => .inl hx
      have ho := s.own x hx
      exact hN.block x ho.1 fun d => by rcases d with d | d | d; exact ho.2.1 d; exact ho.2.2.1 d; exact ho.2.2.2 d
  · rcases List.mem_cons.1 hb with rfl | hb
    · rw [updE_same]; exact ht
    · rw [updE_other _ _ (hne b hb)]; exact s.small b hb
  · have hc := hp c (.inl rfl)
    rcases hx with hx | hx
    · have ho := s.own x hx
      refine ⟨Nat.lt_of_lt_of_le ho.1 hN.size, ho.2.1, ho.2.2.1, fun e => ?_⟩
      rcases List.mem_cons.1 e with e | e
      · omega
      · exact ho.2.2.2 e
    · have ho := hQ x hx
      refine ⟨ho.1, ho.2.2.1, ho.2.2.2.1, fun e => ?_⟩
      rcases List.mem_cons.1 e with e | e
      · exact ho.2.1 e
      · exact ho.2.2.2.2 e
  · rcases List.mem_cons.1 e with e | e
    · omega
    · exact s.mbc.2 e

theorem Near.of_grown {w w' : World} {b : Nat} (h : w.grownBy w' (some b)) : Near (fun k => k = b) w w' :=
  ⟨h.os, h.tape, h.output, h.size, fun k hk hd => h.block k hk (fun e => hd (Option.some.inj e))⟩
theorem StoreAt.laid {w w5 : World} {c mb : Nat} {cap h m r : Int} {val : Nat → Ent} {ns : List Nat} {mm : List (ByteArray × Value)} {tm : Nat → T} {P : Nat → Prop} {k : ByteArray} {x : Int} {v' : Value}
    (s : StoreAt w c mb cap h m r val ns mm tm P) (hg : (w.alloc (.cells #[.string k, .int .i64 x, v', .pointer none, .pointer none] 67)).grownBy w5 (some mb)) :
    Ring w5 c (.int .i64 cap) (.map (some mb)) (.int .i64 h) (.int .i64 m) (.int .i64 r) (updE val w.heap.size ⟨k, x, v'⟩) ns ∧ NodeAt w5 w.heap.size k x v' none none ∧ w.heap.size ∉ ns ∧ c ≠ w.heap.size ∧ Near (fun b => b = mb) w w5 := by
  have hp := s.pre
  have hc := hp c (.inl rfl)
  have hmb := hp mb (.inr (.inl rfl))
  have hnn : w.heap.size ∉ ns := fun e => by have := hp _ (.inr (.inr (.inl e))); omega
  have hN : Near (fun b => b = mb) w w5 := (Below.near ((Below.refl _ _).alloc (Nat.le_refl _) _)).trans (Near.of_grown hg)
  refine ⟨⟨(hN.block c hc fun e => s.mbc.1 e.symm).trans s.ring.cache, ?_, s.ring.nodup, s.ring.apart⟩, ?_, hnn, by omega, hN⟩
  · refine (s.ring.seg.kept fun b hb => hN.block b (hp b (.inr (.inr (.inl hb)))) fun e => s.mbc.2 (e ▸ hb)).congr fun b hb => updE_other _ _ fun e => hnn (e ▸ hb)
  · exact (hg.block w.heap.size (by simp) (fun e => by have := Option.some.inj e; omega)).trans (heap_alloc_new _ _)

/-- delete(m, k) at the end of a region that draws its order -/
theorem step_del {w : World} {ops : Array Oper} {o : Oper} {a : Act} {K : Act → World → Prop} {Q : Exit → Act → World → Prop} {E : Prop} (hgd : o.guard = none) (mo x : Operand)
    (ho : o.op = .call { callee := .builtin .delete, args := #[mo, x], argTypes := #[55, 9] }) (b : Nat) (mm : List (ByteArray × Value)) (key : ByteArray) (hm : a.eval mo = .map (some b)) (h : Mp.MapAt w b Value.string mm) (hx : a.eval x = .string key)
    (hK : ∀ v w', Mp.MapAt w' b Value.string (Mp.del key mm) → w.grownBy w' (some b) → w'.heap.size = w.heap.size → K (a.put o.dst v) w') :
    if Region.wanted o (yielded ops a.tmps) = true then Oper.wp Try.prog o a w K Q else E := by
  have hw : Region.wanted o (yielded ops a.tmps) = true := by simp [Region.wanted, hgd]
  rw [if_pos hw]
  have hsz : ∀ {v w'}, (Builtin.delete_ #[55, 9] o.type #[.map (some b), .string key]).run Try.prog w = .ok v w' → True := fun _ => trivial
  obtain ⟨v', w', hr, h2, h3, h4⟩ := Mp.run_delete' (Mp.KeyLaw.string Try.underlying9) Try.underlying55 h key #[55, 9] rfl o.type
  unfold Oper.wp execOp
  simp only [ho, resolve, invoke, builtin, Sem.run_bind, Sem.run_pure, Result.andThen_ok, List.map_toArray, List.map_cons, List.map_nil, hm, hx, hr]
  exact hK v' w' h2 h3 h4
theorem run_len55 {w : World} {b : Nat} {mm : List (ByteArray × Value)} (h : Mp.MapAt w b Value.string mm) (ty : TypeId) : (Builtin.len_ #[55] ty #[.map (some b)]).run Try.prog w = .ok (.int .i64 mm.length) w := by
  obtain ⟨es, clock, hb, he⟩ := h
  have e1 : mm.length = es.size := by have := congrArg List.length he; simpa using this.symm
  rw [e1]
  simp [Builtin.len_, run_underlying Try.underlying55, MapKept.run_getObj_map hb, goInt, Result.andThen]
end Go.Proofs.Ytdljffplooplcaa
