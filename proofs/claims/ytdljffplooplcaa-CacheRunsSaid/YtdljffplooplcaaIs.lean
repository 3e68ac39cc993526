/- A cache as a list of keys and terms: the contracts. -/
import Derived.Test.YtdljffplooplcaaKeys
namespace Go.Proofs.Ytdljffplooplcaa
open Go.RowKit
set_option linter.unusedVariables false

/-- keys and their terms, the last used first -/
abbrev Es := List (ByteArray × T)
def lookE (k : ByteArray) (es : Es) : Option T := (es.find? fun p => decide (p.1 = k)).map (·.2)
def outE (k : ByteArray) (es : Es) : Es := es.filter fun p => decide (p.1 ≠ k)
def getE (k : ByteArray) (es : Es) : Es :=
  match lookE k es with
  | some t => (k, t) :: outE k es
  | none => es
def putE (cap : Int) (k : ByteArray) (t : T) (es : Es) : Es :=
  match lookE k es with
  | some _ => (k, t) :: outE k es
  | none => if (es.length : Int) = cap then (k, t) :: es.dropLast else (k, t) :: es
def one (b : Bool) : Int := if b then 1 else 0
/-- does a Put remove a key? -/
def fullE (cap : Int) (k : ByteArray) (es : Es) : Bool := (lookE k es).isNone && decide ((es.length : Int) = cap)
def keysE (es : Es) : List ByteArray := es.map (·.1)

/-- Block c is a cache with these keys and terms; its blocks have F. -/
def CacheIs (w : World) (F : Nat → Prop) (c : Nat) (cap h m r : Int) (es : Es) : Prop :=
  ∃ mb val ns mm tm P, StoreAt w c mb cap h m r val ns mm tm P ∧ (∀ k, k = c ∨ k = mb ∨ k ∈ ns ∨ P k → F k) ∧ Under F w.heap.size ∧ es = ns.map fun n => ((val n).key, tm n)

theorem Below.stepN {D : Nat → Prop} {w w1 w2 : World} (h : Below w.heap.size w w1) (hn : Near D w1 w2) (hd : ∀ k, D k → w.heap.size ≤ k) : Below w.heap.size w w2 :=
  h.trans ⟨hn.os, hn.tape, hn.output, hn.size, fun k hk => hn.block k (Nat.lt_of_lt_of_le hk h.size) fun e => by have := hd k e; omega⟩
theorem CacheIs.near {w w' : World} {F D : Nat → Prop} {c : Nat} {cap h m r : Int} {es : Es} (s : CacheIs w F c cap h m r es) (hn : Near D w w') (hd : ∀ k, D k → ¬ F k) : CacheIs w' F c cap h m r es := by
  obtain ⟨mb, val, ns, mm, tm, P, hs, hF, hU, he⟩ := s
  exact ⟨mb, val, ns, mm, tm, P, hs.near hn fun k hk => ⟨fun e => hd k hk (hF k (.inl e)), fun e => hd k hk (hF k (.inr (.inl e))), fun e => hd k hk (hF k (.inr (.inr (.inl e)))), fun e => hd k hk (hF k (.inr (.inr (.inr e))))⟩, hF, hU.le hn.size, he⟩
theorem CacheIs.below {w w' : World} {F : Nat → Prop} {c : Nat} {cap h m r : Int} {es : Es} (s : CacheIs w F c cap h m r es) (hb : Below w.heap.size w w') : CacheIs w' F c cap h m r es :=
  s.near (D := fun _ => False) (Below.near hb) fun _ d => d.elim
theorem CacheIs.wide {w : World} {F G : Nat → Prop} {c : Nat} {cap h m r : Int} {es : Es} (s : CacheIs w F c cap h m r es) (hG : ∀ k, F k → G k) (hU : Under G w.heap.size) : CacheIs w G c cap h m r es := by
  obtain ⟨mb, val, ns, mm, tm, P, hs, hF, _, he⟩ := s
  exact ⟨mb, val, ns, mm, tm, P, hs, fun k hk => hG k (hF k hk), hU, he⟩
theorem CacheIs.name {w : World} {F : Nat → Prop} {c : Nat} {cap h m r : Int} {es : Es} (s : CacheIs w F c cap h m r es) : ∃ G, CacheIs w G c cap h m r es ∧ ∀ x, G x → F x := ⟨F, s, fun _ h => h⟩
theorem CacheIs.nodup {w : World} {F : Nat → Prop} {c : Nat} {cap h m r : Int} {es : Es} (s : CacheIs w F c cap h m r es) : (keysE es).Nodup := by
  obtain ⟨mb, val, ns, mm, tm, P, hs, hF, hU, rfl⟩ := s
  unfold keysE
  rw [List.map_map]
  exact hs.keys
theorem CacheIs.small {w : World} {F : Nat → Prop} {c : Nat} {cap h m r : Int} {es : Es} (s : CacheIs w F c cap h m r es) : ∀ p, p ∈ es → tsize p.2 ≤ 1000 := by
  obtain ⟨mb, val, ns, mm, tm, P, hs, hF, hU, rfl⟩ := s
  intro p hp
  obtain ⟨n, hn, rfl⟩ := List.mem_map.1 hp
  exact hs.small n hn
theorem CacheIs.under {w : World} {F : Nat → Prop} {c : Nat} {cap h m r : Int} {es : Es} (s : CacheIs w F c cap h m r es) : Under F w.heap.size := by
  obtain ⟨mb, val, ns, mm, tm, P, hs, hF, hU, he⟩ := s
  exact hU
theorem CacheIs.pos {w : World} {F : Nat → Prop} {c : Nat} {cap h m r : Int} {es : Es} (s : CacheIs w F c cap h m r es) : 1 ≤ cap ∧ cap ≤ 4096 := by
  obtain ⟨mb, val, ns, mm, tm, P, hs, hF, hU, he⟩ := s
  exact hs.pos

theorem look_map {val : Nat → Ent} {tm : Nat → T} (k : ByteArray) (ns : List Nat) : lookE k (ns.map fun n => ((val n).key, tm n)) = (ns.find? fun n => decide ((val n).key = k)).map tm := by
  unfold lookE
  rw [List.find?_map, Option.map_map]
  rfl
theorem out_map {val : Nat → Ent} {tm : Nat → T} (k : ByteArray) (ns : List Nat) : outE k (ns.map fun n => ((val n).key, tm n)) = (ns.filter fun n => decide ((val n).key ≠ k)).map fun n => ((val n).key, tm n) := by
  unfold outE
  rw [List.filter_map]
  rfl
theorem filter_split {val : Nat → Ent} {k : ByteArray} {xs ys : List Nat} {n : Nat} (hnd : ((xs ++ n :: ys).map fun n => (val n).key).Nodup) (hk : (val n).key = k) : (xs ++ n :: ys).filter (fun n => decide ((val n).key ≠ k)) = xs ++ ys := by
  rw [List.map_append, List.map_cons, List.nodup_append, List.nodup_cons] at hnd
  obtain ⟨h1, ⟨h2, h3⟩, h4⟩ := hnd
  rw [List.filter_append, List.filter_cons]
  simp only [hk, ne_eq, not_true_eq_false, decide_false, Bool.false_eq_true, if_false]
  congr 1
  · rw [List.filter_eq_self]
    intro a ha
    simp only [decide_not, Bool.not_eq_true', decide_eq_false_iff_not]
    intro e
    exact h4 (val a).key (List.mem_map.2 ⟨a, ha, rfl⟩) (val n).key (by simp) (e.trans hk.symm)
  · rw [List.filter_eq_self]
    intro a ha
    simp only [decide_not, Bool.not_eq_true', decide_eq_false_iff_not]
    intro e
    exact h2 (List.mem_map.2 ⟨a, ha, e.trans hk.symm⟩)

/-- A term that is a copy, or the zero value; and whether it is there. -/
def GivesO (o : Option T) (w : World) (e : Ending) (w' : World) : Prop :=
  ∃ v', e = .returned (.tuple #[.agg #[.int .i64 (o.getD (.node 0 [])).rule, v'], .bool o.isSome]) ∧ ArgsAt w' (Span w.heap.size w'.heap.size) v' (o.getD (.node 0 [])).args ∧ Thaw w.heap.size v' w'

theorem peek_is {w : World} {F : Nat → Prop} {c : Nat} {cap h m r : Int} {es : Es} (s : CacheIs w F c cap h m r es) (k : ByteArray) :
    Calls Try.prog 17 #[.pointer (some ⟨c, 0, none⟩), .string k] w fun e w' => GivesO (lookE k es) w e w' ∧ Below w.heap.size w w' := by
  obtain ⟨mb, val, ns, mm, tm, P, hs, hF, hU, rfl⟩ := s
  rw [look_map]
  cases hk : ns.find? (fun n => decide ((val n).key = k)) with
  | none =>
    refine (peek_none hs k hk).mono ?_
    rintro e w' ⟨rfl, hb⟩
    exact ⟨⟨_, rfl, ArgsAt.nil _ _, Thaw.nil _ _⟩, hb⟩
  | some n =>
    refine (peek_some hs k n hk).mono ?_
    rintro e w' ⟨v', rfl, ha, hb, hth⟩
    exact ⟨⟨v', rfl, ha, hth⟩, hb⟩

theorem get_is {w : World} {F : Nat → Prop} {c : Nat} {cap h m r : Int} {es : Es} (s : CacheIs w F c cap h m r es) (k : ByteArray) (hh : 0 ≤ h ∧ h ≤ 1000) (hm : 0 ≤ m ∧ m ≤ 1000) :
    Calls Try.prog 14 #[.pointer (some ⟨c, 0, none⟩), .string k] w fun e w' => GivesO (lookE k es) w e w' ∧ CacheIs w' F c cap (h + one (lookE k es).isSome) (m + one (lookE k es).isNone) r (getE k es) ∧ Near F w w' := by
  obtain ⟨mb, val, ns, mm, tm, P, hs, hF, hU, rfl⟩ := s
  unfold getE
  rw [look_map]
  cases hk : ns.find? (fun n => decide ((val n).key = k)) with
  | none =>
    refine (get_none hs k hk hm.1 hm.2).mono ?_
    rintro e w' ⟨rfl, hs', hn⟩
    exact ⟨⟨_, rfl, ArgsAt.nil _ _, Thaw.nil _ _⟩, ⟨mb, val, ns, mm, tm, P, by simpa [one] using hs', hF, hU.le hn.size, rfl⟩, hn.wide fun x _ e => hF x (.inl e)⟩
  | some n =>
    obtain ⟨hn, hkn⟩ := find_yes hk
    obtain ⟨xs, ys, rfl⟩ := List.append_of_mem hn
    refine (get_some hs k hk hh.1 hh.2).mono ?_
    rintro e w' ⟨v', rfl, ha, hs', hN, hth⟩
    refine ⟨⟨v', rfl, ha, hth⟩, ⟨mb, val, n :: (xs ++ ys), mm, tm, P, by simpa [one] using hs', fun x hx => hF x ?_, hU.le hN.size, ?_⟩, hN.wide fun x _ e => hF x (by rcases e with e | e; exact .inl e; exact .inr (.inr (.inl e)))⟩
    · rcases hx with e | e | e | e
      · exact .inl e
      · exact .inr (.inl e)
      · exact .inr (.inr (.inl ((perm_front xs ys n).mem_iff.1 e)))
      · exact .inr (.inr (.inr e))
    · show (k, tm n) :: outE k _ = _
      rw [out_map, filter_split hs.keys hkn, List.map_cons, hkn]

theorem put_is {w : World} {F : Nat → Prop} {c : Nat} {cap h m r : Int} {es : Es} (s : CacheIs w F c cap h m r es) (k : ByteArray) (t : T) (v : Value) (R : Nat → Prop) (hv : ArgsAt w R v t.args) (hR : ∀ x, R x → x < w.heap.size ∧ ¬ F x) (ht : tsize t ≤ 1000) (hr : 0 ≤ r ∧ r ≤ 1000) :
    Calls Try.prog 12 #[.pointer (some ⟨c, 0, none⟩), .string k, .agg #[.int .i64 t.rule, v]] w fun e w' => e = .returned (.int .i64 0) ∧
      CacheIs w' (fun x => F x ∨ Span w.heap.size w'.heap.size x) c cap h m (r + one (fullE cap k es)) (putE cap k t es) ∧ Near F w w' := by
  obtain ⟨mb, val, ns, mm, tm, P, hs, hF, hU, rfl⟩ := s
  unfold putE fullE
  rw [look_map]
  cases hk : ns.find? (fun n => decide ((val n).key = k)) with
  | some n =>
    obtain ⟨hn, hkn⟩ := find_yes hk
    obtain ⟨xs, ys, rfl⟩ := List.append_of_mem hn
    refine (put_same hs k hk t v R hv (fun x hx => (hR x hx).1) ht).mono ?_
    rintro e w' ⟨rfl, ⟨v', Q, hs', hQ⟩, hN⟩
    refine ⟨rfl, ⟨mb, _, n :: (xs ++ ys), mm, _, _, by simpa [one] using hs', fun x hx => ?_, fun x hx => ?_, ?_⟩, hN.wide fun x _ e => hF x (by rcases e with e | e; exact .inl e; exact .inr (.inr (.inl e)))⟩
    · rcases hx with e | e | e | e | e
      · exact .inl (hF x (.inl e))
      · exact .inl (hF x (.inr (.inl e)))
      · exact .inl (hF x (.inr (.inr (.inl ((perm_front xs ys n).mem_iff.1 e)))))
      · exact .inl (hF x (.inr (.inr (.inr e))))
      · exact .inr ⟨hQ x e, (hs'.own x (.inr e)).1⟩
    · rcases hx with hx | hx
      · exact Nat.lt_of_lt_of_le (hU x hx) hN.size
      · exact hx.2
    · show (k, t) :: outE k _ = _
      rw [out_map, filter_split hs.keys hkn, List.map_cons, updE_same, updE_same]
      congr 1
      refine List.map_congr_left fun b hb => ?_
      have hbn : b ≠ n := by
        rintro rfl
        have := hs'.ring.nodup
        rw [List.nodup_cons] at this
        exact this.1 hb
      rw [updE_other _ _ hbn, updE_other _ _ hbn]
  | none =>
    have rest : ∀ (r' : Int) (zs : List Nat) (mm' : List (ByteArray × Value)) (D : Nat → Prop) (es' : Es) (hD : ∀ x, D x → F x) (hz : ∀ x, x ∈ zs → x ∈ ns) (hes : es' = (k, t) :: zs.map fun n => ((val n).key, tm n)) (e : Ending) (w' : World), PutNew c mb cap h m r' val zs mm' tm P k t D w e w' →
        e = .returned (.int .i64 0) ∧ CacheIs w' (fun x => F x ∨ Span w.heap.size w'.heap.size x) c cap h m r' es' ∧ Near F w w' := by
      rintro r' zs mm' D es' hD hz rfl e w' ⟨n, hn1, hn2, rfl, ⟨v', Q, hs', hQ⟩, hN⟩
      refine ⟨rfl, ⟨mb, _, n :: zs, mm' ++ [(k, ptr (some n))], _, _, hs', fun x hx => ?_, fun x hx => ?_, ?_⟩, hN.wide fun x _ e => hD x e⟩
      · rcases hx with e | e | e | e | e
        · exact .inl (hF x (.inl e))
        · exact .inl (hF x (.inr (.inl e)))
        · rcases List.mem_cons.1 e with e | e
          · subst e; exact .inr ⟨hn1, hn2⟩
          · exact .inl (hF x (.inr (.inr (.inl (hz x e)))))
        · exact .inl (hF x (.inr (.inr (.inr e))))
        · exact .inr ⟨hQ x e, (hs'.own x (.inr e)).1⟩
      · rcases hx with hx | hx
        · exact Nat.lt_of_lt_of_le (hU x hx) hN.size
        · exact hx.2
      · rw [List.map_cons, updE_same, updE_same]
        congr 1
        refine List.map_congr_left fun b hb => ?_
        have hbn : b ≠ n := by
          rintro rfl
          have := hs'.ring.nodup
          rw [List.nodup_cons] at this
          exact this.1 hb
        rw [updE_other _ _ hbn, updE_other _ _ hbn]
    by_cases hfull : (ns.length : Int) = cap
    · have hnil : ns ≠ [] := fun e => by subst e; have := hs.pos; simp at hfull; omega
      rcases snoc_or_nil ns with e | ⟨zs, q, rfl⟩
      · exact absurd e hnil
      · refine (put_full hs k hk hfull t v R hv (fun x hx => ⟨(hR x hx).1, fun e => (hR x hx).2 (hF x (.inl e)), fun e => (hR x hx).2 (hF x (.inr (.inl e))), fun e => (hR x hx).2 (hF x (.inr (.inr (.inl e))))⟩) hr.1 hr.2 ht).mono ?_
        intro e w' hp
        refine rest _ zs _ _ _ (fun x hx => ?_) (fun x hx => by simp [hx]) ?_ e w' (by
          have e1 : one ((none.map tm).isNone && decide (((((zs ++ [q]).map fun n => ((val n).key, tm n)).length : Nat) : Int) = cap)) = 1 := by
            rw [List.length_map, hfull]; simp [one]
          rw [e1]
          exact hp)
        · rcases hx with hx | hx | hx
          · exact hF x (.inl hx)
          · exact hF x (.inr (.inl hx))
          · exact hF x (.inr (.inr (.inl hx)))
        · show (if _ then _ else _) = _
          rw [if_pos (by rw [List.length_map]; exact hfull)]
          simp
    · refine (put_new hs k hk hfull t v R hv (fun x hx => (hR x hx).1) ht).mono ?_
      intro e w' hp
      refine rest _ ns _ _ _ (fun x hx => ?_) (fun x hx => hx) ?_ e w' (by simpa [one, hfull] using hp)
      · rcases hx with hx | hx | hx
        · exact hF x (.inl hx)
        · exact hF x (.inr (.inl hx))
        · exact hF x (.inr (.inr (.inl hx)))
      · show (if _ then _ else _) = _
        rw [if_neg (by rw [List.length_map]; exact hfull)]

theorem keys_is {w : World} {F : Nat → Prop} {c : Nat} {cap h m r : Int} {es : Es} (s : CacheIs w F c cap h m r es) (hlen : es.length ≤ 1000000) :
    Calls Try.prog 22 #[.pointer (some ⟨c, 0, none⟩)] w fun e w' => ∃ v, e = .returned v ∧ w'.ownsRow w.heap.size 9 1 v (keysE es).length (strs (keysE es)) ∧ Below w.heap.size w w' := by
  obtain ⟨mb, val, ns, mm, tm, P, hs, hF, hU, rfl⟩ := s
  unfold keysE
  rw [List.map_map, List.length_map]
  exact keys_yes hs (by simpa using hlen)
theorem stats_is {w : World} {F : Nat → Prop} {c : Nat} {cap h m r : Int} {es : Es} (s : CacheIs w F c cap h m r es) :
    Calls Try.prog 23 #[.pointer (some ⟨c, 0, none⟩)] w fun e w' => e = .returned (.tuple #[.int .i64 h, .int .i64 m, .int .i64 r]) ∧ Below w.heap.size w w' := by
  obtain ⟨mb, val, ns, mm, tm, P, hs, hF, hU, rfl⟩ := s
  exact stats_yes hs.ring.cache (by have := hs.pos; omega)
theorem clear_is {w : World} {F : Nat → Prop} {c : Nat} {cap h m r : Int} {es : Es} (s : CacheIs w F c cap h m r es) :
    Calls Try.prog 19 #[.pointer (some ⟨c, 0, none⟩)] w fun e w' => e = .returned (.tuple #[]) ∧ CacheIs w' (fun x => F x ∨ Span w.heap.size w'.heap.size x) c cap h m r [] ∧ Near F w w' := by
  obtain ⟨mb, val, ns, mm, tm, P, hs, hF, hU, rfl⟩ := s
  refine (clear_yes hs.ring.cache (by have := hs.pos; omega)).mono ?_
  rintro e w' ⟨rfl, hc, hm, hN⟩
  have hcw := hs.pre c (.inl rfl)
  refine ⟨rfl, ⟨w.heap.size, fun _ => ⟨⟨#[]⟩, 0, undef⟩, [], [], fun _ => default, fun _ => False, ⟨⟨hc, trivial, List.nodup_nil, by simp⟩, hm, fun k => rfl, rfl, List.nodup_nil, fun n hn => by simp at hn, fun n hn => by simp at hn, fun n hn => by simp at hn, fun k hk => hk.elim, ⟨by omega, by simp⟩, hs.pos, List.nodup_nil⟩, ?_, ?_, rfl⟩, hN.wide fun x _ e => hF x (.inl e)⟩
  · intro x hx
    rcases hx with e | e | e | e
    · exact .inl (hF x (.inl e))
    · subst e; exact .inr ⟨Nat.le_refl _, hm.lt⟩
    · simp at e
    · exact e.elim
  · intro x hx
    rcases hx with hx | hx
    · exact Nat.lt_of_lt_of_le (hU x hx) hN.size
    · exact hx.2
theorem new_is {cap : Int} (h1 : 1 ≤ cap) (h2 : cap ≤ 4096) (w : World) :
    Calls Try.prog 10 #[.int .i64 cap] w fun e w' => ∃ c, e = .returned (.tuple #[.pointer (some ⟨c, 0, none⟩), .int .i64 0]) ∧ w.heap.size ≤ c ∧ CacheIs w' (Span w.heap.size w'.heap.size) c cap 0 0 0 [] ∧ Below w.heap.size w w' := by
  refine (new_yes cap h1 h2 w).mono ?_
  intro e w' hp
  obtain ⟨c, mb, rfl, hc, hmb, hb, hs⟩ := hp.store h1 h2
  refine ⟨c, rfl, hc, ⟨mb, _, [], [], _, _, hs, fun x hx => ?_, fun x hx => hx.2, rfl⟩, hb⟩
  rcases hx with e | e | e | e
  · subst e; exact ⟨hc, hs.pre _ (.inl rfl)⟩
  · subst e; exact ⟨hmb, hs.map.lt⟩
  · simp at e
  · exact e.elim
end Go.Proofs.Ytdljffplooplcaa
