/- alive: the walk. -/
import Derived.Test.YtamidopeojipkaaLit
import Derived.Test.YtamidopeojipkaaPropP
namespace Go.Proofs.Ytamidopeojipkaa
open Go.RowKit
set_option linter.unusedVariables false

theorem run_pushR2 (w : World) (ty : TypeId) (base : Nat) (P : Nat → Prop) (v : Value) (rs : List Rel) (r : Rel) (u1 u2 : Value) (hown : OwnR w base P v rs) (h1 : IntsAt w P u1 r.vars) (h2 : ListsAt w P u2 r.allowed)
    (hP : ∀ k, P k → k < w.heap.size ∧ v.ownBlock ≠ some k) (hlen : rs.length ≤ 1000000) (hbase : base ≤ w.heap.size) :
    ∃ v' w', (Builtin.append_ #[23, 23] ty #[v, .slice (some ⟨w.heap.size, 0, none⟩) 1 1]).run Try.prog (w.alloc (.cells #[u1, u2] 46)) = .ok v' w' ∧ OwnR w' base P v' (rs ++ [r]) ∧ w.grownBy w' v.ownBlock ∧ (v'.ownBlock = v.ownBlock ∨ v'.ownBlock = some (w.heap.size + 1)) := by
  obtain ⟨v', w', hr, ho, hg⟩ := run_pushR w ty base P v rs r u1 u2 hown h1 h2 hP hlen hbase
  refine ⟨v', w', hr, ho, hg, ?_⟩
  obtain ⟨i0, hi, hz0, hz1, hz2⟩ := info_parts info46
  obtain ⟨us, hul, hrow, hsub⟩ := hown
  have ho1 : u1.oneCell' = true := by obtain ⟨a, l, c, rfl⟩ := h1.slice; rfl
  have ho2 : u2.oneCell' = true := by obtain ⟨a, l, c, rfl⟩ := h2.slice; rfl
  obtain ⟨v2, w2, hr2, _, _, _, hat⟩ := run_append_own_at (P := Try.prog) (w.alloc (.cells #[u1, u2] 46)) base 23 ty 46 i0 (.agg #[.slice none 0 0, .slice none 0 0]) 2 48 und23 hi hz0 hz1 hz2 rfl (by decide) v rs.length (rowR us) (hrow.alloc _)
    ⟨w.heap.size, 0, none⟩ 1 1 [u1, u2] rfl (by
      intro j t hj
      match j, hj with
      | 0, hj => simp at hj; subst hj; simp [Addr.add, World.cell?_alloc_at]
      | 1, hj => simp at hj; subst hj; simp [Addr.add, World.cell?_alloc_at]) (by
      intro t ht
      simp at ht
      rcases ht with rfl | rfl
      · exact ho1
      · exact ho2) (by unfold maxLen; omega) (by omega) (by simp; omega)
  rw [hr] at hr2
  have e : v' = v2 := by injection hr2
  rw [e]
  rwa [World.size_alloc] at hat
theorem wpList_pushR2 {w : World} {ops : Array Oper} {rest : List Oper} {o : Oper} {a : Act} {Q : Exit → Act → World → Prop} (hgd : o.guard = none) (s x : Operand)
    (ho : o.op = .call { callee := .builtin .append, args := #[s, x], argTypes := #[23, 23] })
    (base : Nat) (P : Nat → Prop) (v : Value) (rs : List Rel) (r : Rel) (u1 u2 : Value) (hs : a.eval s = v) (hown : OwnR w base P v rs) (h1 : IntsAt w P u1 r.vars) (h2 : ListsAt w P u2 r.allowed)
    (hP : ∀ k, P k → k < w.heap.size ∧ v.ownBlock ≠ some k) (b : Nat) (hb : b = w.heap.size)
    (hx : a.eval x = .slice (some ⟨b, 0, none⟩) 1 1) (hlen : rs.length ≤ 1000000) (hbase : base ≤ w.heap.size)
    (h : ∀ v' w', OwnR w' base P v' (rs ++ [r]) → w.grownBy w' v.ownBlock → (v'.ownBlock = v.ownBlock ∨ v'.ownBlock = some (w.heap.size + 1)) → wpList Try.prog ops Q rest (a.put o.dst v') w') :
    wpList Try.prog ops Q (o :: rest) a (w.alloc (.cells #[u1, u2] 46)) := by
  subst hb
  refine wpList_plain hgd fun K hK => ?_
  obtain ⟨v', w', hr, h2, h3, h4⟩ := run_pushR2 w o.type base P v rs r u1 u2 hown h1 h2 hP hlen hbase
  unfold Oper.wp execOp
  simp only [ho, resolve, invoke, builtin, Sem.run_bind, Sem.run_pure, Result.andThen_ok, List.map_toArray, List.map_cons, List.map_nil, hs, hx, hr]
  exact hK _ _ (h v' w' h2 h3 h4)
theorem hat_of {v v' : Value} {n : Nat} (h : v'.ownBlock = v.ownBlock ∨ v'.ownBlock = some (n + 1)) : ∀ k, v'.ownBlock = some k → v.ownBlock = some k ∨ n ≤ k := fun k hk => by
  rcases h with e | e
  · exact .inl (by rw [← e]; exact hk)
  · rw [hk] at e
    have := Option.some.inj e
    exact .inr (by omega)
theorem tab_form {w : World} {base : Nat} {v : Value} {bs : Nat → Nat} {f : Nat → Nat → Bool} (h : TabAt w base v bs 2 (fun _ => 2) f) : ∃ g cap, v = .slice (some ⟨g, 0, none⟩) 2 cap ∧ 2 ≤ cap ∧ cap ≤ 9223372036854775807 := by
  rcases h.shape with ⟨_, h0⟩ | ⟨g, cap, h1, h2, h3, _⟩
  · omega
  · exact ⟨g, cap, h1, h2, h3⟩
theorem ints_lit_call {W : World} {base : Nat} {v : Value} {xs ys : List Int} (h : OwnI W base v xs) (hl : ys.length ≤ 1000) :
    Calls Try.prog 20 #[v, .slice (some ⟨W.heap.size, 0, none⟩) ys.length ys.length] (W.alloc (.cells (ys.map (Value.int .i64)).toArray 3)) (OneB (decide (xs = ys)) (W.alloc (.cells (ys.map (Value.int .i64)).toArray 3))) := by
  have hb := (Below.refl W.heap.size W).alloc (Nat.le_refl _) (.cells (ys.map (Value.int .i64)).toArray 3)
  have hu : Under (fun k => v.ownBlock = some k) W.heap.size := fun k hk => (h.lt hk).2
  exact ints_any (P := fun k => v.ownBlock = some k) (Q := fun k => k = W.heap.size) (h.ints.kept (Below.keptB hb hu)) (ints_lit (heap_alloc_new _ _) rfl hl) (hu.le hb.size) (fun k hk => by rw [hk, World.size_alloc]; omega)
theorem tab_flags {w : World} {base : Nat} {v : Value} {bs : Nat → Nat} {f : Nat → Nat → Bool} (h : TabAt w base v bs 2 (fun _ => 2) f) (hf : f 0 0 = false ∧ f 0 1 = true ∧ f 1 0 = true ∧ f 1 1 = false) :
    w.cell? ⟨bs 0, 0, none⟩ = some (.bool false) ∧ w.cell? ⟨bs 0, 1, none⟩ = some (.bool true) ∧ w.cell? ⟨bs 1, 0, none⟩ = some (.bool true) ∧ w.cell? ⟨bs 1, 1, none⟩ = some (.bool false) := by
  have g1 := (h.flag (i := 0) (j := 0) (by omega) (by omega)).1
  have g2 := (h.flag (i := 0) (j := 1) (by omega) (by omega)).1
  have g3 := (h.flag (i := 1) (j := 0) (by omega) (by omega)).1
  have g4 := (h.flag (i := 1) (j := 1) (by omega) (by omega)).1
  rw [hf.1] at g1
  rw [hf.2.1] at g2
  rw [hf.2.2.1] at g3
  rw [hf.2.2.2] at g4
  exact ⟨g1, g2, g3, g4⟩
theorem keep_size {w2 w5 : World} {n : Nat} {row : Option Nat} (hl : (laid w2 (objB w2.heap.size)).heap.size = w2.heap.size + n) (hg : (laid w2 (objB w2.heap.size)).grownBy w5 row) (p : Addr) (u : Value) : w2.heap.size ≤ (w5.setCell p u).heap.size := by
  rw [heap_setCell_size]
  have := hg.size
  omega
theorem keep_old {w w2 w5 : World} {n : Nat} (hl : (laid w2 (objB w2.heap.size)).heap.size = w2.heap.size + n) (hg : (laid w2 (objB w2.heap.size)).grownBy w5 (Value.slice (some ⟨w.heap.size + 5, 0, none⟩) 1 1).ownBlock) (u : Value) :
    ∀ k, w.heap.size + 7 ≤ k → k < w2.heap.size → (w5.setCell ⟨w.heap.size + 6, 1, none⟩ u).heap[k]? = w2.heap[k]? := fun k h1 h2 =>
  (Below.heap_setCell _ _ _ _ (by show k ≠ w.heap.size + 6; omega)).trans ((hg.block k (by omega) (fun e => by
    have : k = w.heap.size + 5 := by simpa [Value.ownBlock] using e
    omega)).trans ((laid_below (objB w2.heap.size) w2 _ (Nat.le_refl _)).block k h2))
theorem AlA.row {w W W' : World} {P : Nat → Prop} {rv : Value} {rs : List Rel} (h : AlA w W P rv rs) (hg : W.grownBy W' rv.ownBlock) : W'.heap[w.heap.size + 6]? = some (.cells #[.slice (some ⟨w.heap.size, 0, none⟩) 2 2, rv] 25 (0, 0)) :=
  (hg.block _ h.lt fun e => h.hr e.symm).trans h.box

set_option maxRecDepth 20000 in
set_option maxHeartbeats 1000000 in
theorem alive_any (w : World) : Calls Try.prog 11 #[] w (OneB true w) := by
  have HA := Lib.hid (AlA.start w)
  have hcnt : ∀ W P rv, AlA w W P rv [relA] → Calls Try.prog 18 #[.agg #[.slice (some ⟨w.heap.size, 0, none⟩) 2 2, rv]] W fun e w' => e = .returned (.tuple #[.int .i64 2, .int .i64 0]) ∧ Below W.heap.size W w' := fun W P rv h => by
    have := count_any (p := prA) h.sz h.own.rels h.u
    rw [countA.1, countA.2] at this
    exact this
  have hslv : ∀ W P rv, AlA w W P rv [relA] → Calls Try.prog 16 #[.agg #[.slice (some ⟨w.heap.size, 0, none⟩) 2 2, rv]] W fun e w' => ∃ v, e = .returned (.tuple #[v, .int .i64 0]) ∧ OwnI w' W.heap.size v [0, 1] ∧ Below W.heap.size W w' := fun W P rv h => by
    have := solve_any (p := prA) h.sz h.own.rels h.u
    unfold SolvePost at this
    rw [solveA.1, solveA.2] at this
    exact this
  have hprp : ∀ W P rv, AlA w W P rv [relA, relB] → Calls Try.prog 14 #[.agg #[.slice (some ⟨w.heap.size, 0, none⟩) 2 2, rv]] W fun e w' => ∃ v bs f, e = .returned (.tuple #[v, .int .i64 0]) ∧ TabAt w' W.heap.size v bs 2 (fun _ => 2) f ∧ (f 0 0 = false ∧ f 0 1 = true ∧ f 1 0 = true ∧ f 1 1 = false) ∧ Below W.heap.size W w' := fun W P rv h => by
    refine (propP_yes (p := prB) h.sz h.own.rels h.u prB_ok).mono fun e w' ⟨v, bs, f, h1, h2, h3, h4⟩ => ⟨v, bs, f, h1, h2.msz fun i hi => ?_, ?_, h4⟩
    · have hi' : i < 2 := hi
      match i, hi' with
      | 0, _ => rfl
      | 1, _ => rfl
    · obtain ⟨g1, g2, g3, g4⟩ := gacB
      exact ⟨(h3 0 0 (by decide) (by decide)).trans g1, (h3 0 1 (by decide) (by decide)).trans g2, (h3 1 0 (by decide) (by decide)).trans g3, (h3 1 1 (by decide) (by decide)).trans g4⟩
  have hcor : ∀ W : World, Calls Try.prog 25 #[.agg #[.slice (some ⟨W.heap.size, 0, none⟩) 1 1, .slice (some ⟨W.heap.size + 11, 0, none⟩) 3 3]] (laid W (objC W.heap.size)) fun e w' => ∃ v, e = .returned (.tuple #[v, .int .i64 0]) ∧ OwnI w' (laid W (objC W.heap.size)).heap.size v [0, 2] ∧ Below (laid W (objC W.heap.size)).heap.size (laid W (objC W.heap.size)) w' := fun W => by
    have := coreQ_any (p := prC) (objC_ok W).1 (objC_ok W).2 (Here.under _)
    unfold CoreAll at this
    rw [coreA.1, coreA.2] at this
    exact this
  have hce : ∀ W : World, Calls Try.prog 18 #[.agg #[.slice none 0 0, .slice none 0 0]] W fun e w' => e = .returned (.tuple #[.int .i64 1, .int .i64 0]) ∧ Below W.heap.size W w' := fun W => by
    have := count_any (w := W) (P := Here W) (p := prE) (IntsAt.nil _ _) (rels_nil _ _) (Here.under _)
    rw [countE0.1, countE0.2] at this
    exact this
  have HCNT := Lib.hid hcnt
  have HSLV := Lib.hid hslv
  have HPRP := Lib.hid hprp
  have HCOR := Lib.hid hcor
  have HCE := Lib.hid hce
  clear hcnt hslv hprp hcor hce
  go_enter Try.func11, Try.ntmps11
  go_wp2_with (first
    | (go_at_call 18; refine (HCNT.out (laid w (objA w.heap.size)) _ _ HA.out).mono ?_; rintro e w1 ⟨rfl, hb1⟩; have HA1 := Lib.hid (HA.out.next hb1); have s1 := HA1.out.s; have r1 := HA1.out.r; clear hb1)
    | (go_at_call 16; refine (HSLV.out _ _ _ HA1.out).mono ?_; rintro e w2 ⟨va, rfl, hoa, hb2⟩; obtain ⟨aa, al, ac, rfl⟩ := hoa.ints.slice; have HA2 := Lib.hid (HA1.out.next hb2); have HOA := Lib.hid hoa; have HB2 := Lib.hid HA1.out.lt; have HSZ1 := Lib.hid hb2.size; have s2 := HA2.out.s; have r2 := HA2.out.r; have HM := Lib.hid HA2.out.more; have HLS := Lib.hid (laid_size w2 (objB w2.heap.size)); clear hb2 hoa)
    | ((with_reducible show wpList _ _ _ (⟨some 38, .call _, _, _, _, _⟩ :: _) _ _); refine wpList_pushR2 rfl (.tmp 32) (.tmp 37) rfl w.heap.size _ (.slice (some ⟨w.heap.size + 5, 0, none⟩) 1 1) [relA] relB _ _ rfl HM.out.1.own HM.out.2.1 HM.out.2.2 (fun k hk => ⟨(HM.out.1.hp k hk).2.1, (HM.out.1.hp k hk).2.2.2⟩) (w2.heap.size + 1 + 1 + 1) (by simp) rfl (by decide) HM.out.1.bel.size ?_; intro v5 w5 ho5 hg5 ha5; obtain ⟨xa, xl, xc, rfl⟩ := ho5.slice; have k5 := (cell_row' _ _ 1 _ _ (HM.out.1.row hg5)).trans rfl; have q5 := frozen_row' _ _ 1 _ _ (HM.out.1.row hg5); have HA5 := Lib.hid (HM.out.1.push hg5 ho5 (hat_of ha5)); have s5 := HA5.out.s; have r5 := HA5.out.r; have HKA : Hid (∀ k, w.heap.size + 7 ≤ k → k < w2.heap.size → (w5.setCell ⟨w.heap.size + 6, 1, none⟩ (.slice xa xl xc)).heap[k]? = w2.heap[k]?) := Lib.hid (keep_old HLS.out hg5 _); have HS5 : Hid (w2.heap.size ≤ (w5.setCell ⟨w.heap.size + 6, 1, none⟩ (.slice xa xl xc)).heap.size) := Lib.hid (keep_size HLS.out hg5 _ _); clear ho5 hg5 ha5)
    | (go_at_call 14; refine (HPRP.out _ _ _ HA5.out).mono ?_; rintro e w6 ⟨vk, bs, f, rfl, htab, hfl, hb6⟩; obtain ⟨kg, kc, rfl, hk2, hkm⟩ := tab_form htab; have HTAB := Lib.hid htab; have HFL := Lib.hid hfl; have HA6 := Lib.hid (HA5.out.next hb6); have HB56 := Lib.hid hb6; clear htab hfl hb6)
    | (go_at_call 25; refine Hid.out ?_)
    )
  refine Lib.hid ?_
  refine (HCOR.out w6).mono ?_
  rintro e w7 ⟨vc, rfl, hoc, hb7⟩
  obtain ⟨ca, cl, cc, rfl⟩ := hoc.ints.slice
  have HOC := Lib.hid hoc
  have HB7 := Lib.hid ((laid_below (objC w6.heap.size) w6 _ (Nat.le_refl _)).trans (hb7.mono (by rw [laid_size]; omega)))
  clear hb7 hoc s1 s2 r1 r2 k5 q5 s5 r5
  go_wp2_with (first
    | (go_at_call 18; refine (HCE.out _).mono ?_; rintro e w8 ⟨rfl, hb8⟩; have HB8 := Lib.hid (Below.next HB7.out hb8); have HT8 := Lib.hid (HTAB.out.below HB8.out); obtain ⟨fl1, fl2, fl3, fl4⟩ := HFL.out; have t0 := HT8.out.at (show 0 < 2 by omega); have t1 := HT8.out.at (show 1 < 2 by omega); have HB88 := Lib.hid hb8; have HI1 := Lib.hid (ints_lit_call (W := w8) (ys := [0, 1]) (HOA.out.block fun k hk => ((Below.next HB56.out HB8.out).block k (Nat.lt_of_lt_of_le (HOA.out.lt hk).2 HS5.out)).trans (HKA.out k (by have := (HOA.out.lt hk).1; have := HB2.out; omega) (HOA.out.lt hk).2)) (by decide)); clear hb8)
    | (go_at_call 20; refine Hid.out ?_)
    )
  refine Lib.hid ?_
  have hi1 : Calls Try.prog 20 #[.slice aa al ac, .slice (some ⟨w8.heap.size, 0, none⟩) 2 2] (w8.alloc (.cells #[.int .i64 0, .int .i64 1] 3)) (OneB true (w8.alloc (.cells #[.int .i64 0, .int .i64 1] 3))) := HI1.out
  refine hi1.mono ?_
  rintro e w10 ⟨rfl, hb10⟩
  clear hi1
  have HB10 := Lib.hid (((Below.refl _ w8).alloc (Nat.le_refl _) (.cells #[.int .i64 0, .int .i64 1] 3)).trans (hb10.mono (by rw [World.size_alloc]; omega)))
  have HT10 := Lib.hid (HT8.out.below HB10.out)
  obtain ⟨g1, g2, g3, g4⟩ := tab_flags HT10.out HFL.out
  have u0 := HT10.out.at (show 0 < 2 by omega)
  have u1 := HT10.out.at (show 1 < 2 by omega)
  have hi2 : Calls Try.prog 20 #[.slice ca cl cc, .slice (some ⟨w10.heap.size, 0, none⟩) 2 2] (w10.alloc (.cells #[.int .i64 0, .int .i64 2] 3)) (OneB true (w10.alloc (.cells #[.int .i64 0, .int .i64 2] 3))) := ints_lit_call (W := w10) (ys := [0, 2]) (HOC.out.block fun k hk => (Below.next HB88.out HB10.out).block k (HOC.out.lt hk).2) (by decide)
  have HI2 := Lib.hid hi2
  have HFIN : Hid (Below w.heap.size w w10) := Lib.hid (Below.next HA6.out.bel (Below.next HB8.out HB10.out))
  clear hb10 hi2 t0 t1 fl1 fl2 fl3 fl4
  go_wp2_with (first
    | (go_at_call 20; refine Hid.out ?_)
    )
  refine Lib.hid ?_
  refine HI2.out.mono ?_
  rintro e w12 ⟨rfl, hb12⟩
  have HF2 : Hid (Below w.heap.size w w12) := Lib.hid (Below.next HFIN.out (((Below.refl _ w10).alloc (Nat.le_refl _) (.cells #[.int .i64 0, .int .i64 2] 3)).trans (hb12.mono (by rw [World.size_alloc]; omega))))
  clear hb12 g1 g2 g3 g4 u0 u1
  go_wp2
  go_ret
  exact ⟨rfl, HF2.out⟩
end Go.Proofs.Ytamidopeojipkaa
