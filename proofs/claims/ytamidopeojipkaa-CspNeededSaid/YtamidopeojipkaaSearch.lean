/- search: the walk. -/
import Derived.Test.YtamidopeojipkaaStep
namespace Go.Proofs.Ytamidopeojipkaa
open Go.RowKit
set_option linter.unusedVariables false

/-- what the search comes to -/
def SearchPost (base sb : Nat) (P : Nat → Prop) (p : Prob) (sv rv : Value) (given : List Int) (most : Nat) (keep : Bool) (many : Nat) (found : List (List Int)) (L : List (List Int)) (w : World) (e : Ending) (w' : World) : Prop :=
  ∃ gv fv vs, e = .returned (.tuple #[]) ∧ SolAt w' base sb P p sv rv gv given most keep (cntTo many most L) fv vs (fndTo keep found many most L) ∧ Below base w w'

theorem SolAt.drew {w : World} {base sb : Nat} {P : Nat → Prop} {p : Prob} {sv rv gv : Value} {given : List Int} {most : Nat} {keep : Bool} {many : Nat} {fv : Value} {vs : List Value} {found : List (List Int)} (h : SolAt w base sb P p sv rv gv given most keep many fv vs found) : SolAt w.drew base sb P p sv rv gv given most keep many fv vs found := h.below (Below.refl _ w).drew
theorem SolAt.drewN {w : World} {base sb : Nat} {P : Nat → Prop} {p : Prob} {sv rv gv : Value} {given : List Int} {most : Nat} {keep : Bool} {many : Nat} {fv : Value} {vs : List Value} {found : List (List Int)} (h : SolAt w base sb P p sv rv gv given most keep many fv vs found) (n : Nat) : SolAt (w.drewN n) base sb P p sv rv gv given most keep many fv vs found := h.below (below_drewN (Below.refl _ w) n)
theorem SolAt.form {w : World} {base sb : Nat} {P : Nat → Prop} {p : Prob} {sv rv gv : Value} {given : List Int} {most : Nat} {keep : Bool} {many : Nat} {fv : Value} {vs : List Value} {found : List (List Int)} (h : SolAt w base sb P p sv rv gv given most keep many fv vs found) :
    (∃ a c, gv = .slice a given.length c ∧ c ≤ 9223372036854775807 ∧ given.length ≤ c) ∧ (∃ a c, sv = .slice a p.sizes.length c ∧ c ≤ 9223372036854775807 ∧ p.sizes.length ≤ c) := by
  obtain ⟨a, c, b, o, h1, h2⟩ := h.giv.ints
  obtain ⟨a2, c2, b2, o2, h3, h4⟩ := h.sizes
  refine ⟨⟨a, c, h1, ?_, h2.hcap⟩, ⟨a2, c2, h3, ?_, h4.hcap⟩⟩
  · have := h2.hmax; unfold maxLen at this; omega
  · have := h4.hmax; unfold maxLen at this; omega
theorem row_slice {w : World} {base e size n : Nat} {v : Value} {xs : List Value} (h : w.ownsRow base e size v n xs) : ∃ a l c, v = .slice a l c := by
  rcases h.2 with ⟨h2, _⟩ | ⟨g, cap, cur, h2, _⟩
  · exact ⟨_, _, _, h2⟩
  · exact ⟨_, _, _, h2⟩
theorem below_row {w w5 w6 : World} {base : Nat} {row : Option Nat} (h : Below base w w5) (hg : w5.grownBy w6 row) (hr : ∀ k, row = some k → base ≤ k) (hB : base ≤ w5.heap.size) : Below base w w6 :=
  ⟨hg.os.trans h.os, hg.tape.trans h.tape, hg.output.trans h.output, Nat.le_trans h.size hg.size, fun k hk => by
    exact (hg.block k (by omega) fun e => by have := hr k e.symm; omega).trans (h.block k hk)⟩
theorem SolAt.pushed {w : World} {base sb : Nat} {P : Nat → Prop} {p : Prob} {sv rv gv : Value} {given : List Int} {most : Nat} {keep : Bool} {many : Nat} {fv : Value} {vs : List Value} {found : List (List Int)} (h : SolAt w base sb P p sv rv gv given most keep many fv vs found) {w0 : World} {gv' : Value} {x : Int}
    (ho : w0.ownsRow base 3 1 gv' (given.length + 1) (given.map (Value.int .i64) ++ [.int .i64 x])) (hg : w.grownBy w0 gv.ownBlock) (hat : gv'.ownBlock = gv.ownBlock ∨ gv'.ownBlock = some (w.heap.size + 1)) :
    SolAt (w0.setCell ⟨sb, 2, none⟩ gv') base sb P p sv rv gv' (given ++ [x]) most keep many fv vs found := by
  refine h.setGiven hg ?_ fun k hk => ?_
  · unfold OwnI
    rw [List.length_append, List.map_append]
    exact ho
  · rcases hat with e | e
    · exact .inl (by rw [← e]; exact hk)
    · rw [hk] at e
      have := Option.some.inj e
      exact .inr (by omega)
theorem SolAt.popped {w : World} {base sb : Nat} {P : Nat → Prop} {p : Prob} {sv rv : Value} {given : List Int} {x : Int} {most : Nat} {keep : Bool} {many : Nat} {fv : Value} {vs : List Value} {found : List (List Int)} {g l c : Nat} (h : SolAt w base sb P p sv rv (.slice (some ⟨g, 0, none⟩) (l + 1) c) (given ++ [x]) most keep many fv vs found) (hl : given.length = l) :
    SolAt (w.setCell ⟨sb, 2, none⟩ (.slice (some ⟨g, 0, none⟩) l c)) base sb P p sv rv (.slice (some ⟨g, 0, none⟩) l c) given most keep many fv vs found := by
  refine h.setGiven (World.grownBy.refl _ _) ?_ fun k hk => .inl hk
  have hown := h.giv
  unfold OwnI at hown ⊢
  rw [List.length_append, List.map_append] at hown
  rw [hl] at hown ⊢
  exact ownsRow_pop (by simp [hl]) hown
theorem SolAt.shape {w : World} {base sb : Nat} {P : Nat → Prop} {p : Prob} {sv rv gv : Value} {given : List Int} {x : Int} {most : Nat} {keep : Bool} {many : Nat} {fv : Value} {vs : List Value} {found : List (List Int)} (h : SolAt w base sb P p sv rv gv (given ++ [x]) most keep many fv vs found) {l : Nat} (hl : given.length = l) :
    ∃ g c, gv = .slice (some ⟨g, 0, none⟩) (l + 1) c ∧ l + 1 ≤ c ∧ c ≤ 9223372036854775807 := by
  have hlen : (given ++ [x]).length = l + 1 := by rw [List.length_append, hl]; rfl
  rcases h.giv.2 with ⟨_, h0⟩ | ⟨g, cap, cur, h1, h2, h3, h4, h5, _⟩
  · omega
  · rw [hlen] at h1 h4
    exact ⟨g, cap, h1, h4, by unfold maxLen at h5; omega⟩
theorem setFound_row {w0 w1 : World} {base sb : Nat} {P : Nat → Prop} {p : Prob} {sv rv gv : Value} {given : List Int} {most : Nat} {keep : Bool} {many : Nat} {fv : Value} {vs : List Value} {found : List (List Int)} (h0 : SolAt w0 base sb P p sv rv gv given most keep many fv vs found) (hg : w0.grownBy w1 fv.ownBlock) :
    w1.heap[sb]? = some (.cells #[sv, rv, gv, .int .i64 most, .bool keep, .int .i64 many, fv] 56 (0, 0)) := (hg.block sb h0.lt fun e => h0.fne (.inl e.symm)).trans h0.row
theorem setGiven_row {w0 w1 : World} {base sb : Nat} {P : Nat → Prop} {p : Prob} {sv rv gv : Value} {given : List Int} {most : Nat} {keep : Bool} {many : Nat} {fv : Value} {vs : List Value} {found : List (List Int)} (h0 : SolAt w0 base sb P p sv rv gv given most keep many fv vs found) (hg : w0.grownBy w1 gv.ownBlock) :
    w1.heap[sb]? = some (.cells #[sv, rv, gv, .int .i64 most, .bool keep, .int .i64 many, fv] 56 (0, 0)) := (hg.block sb h0.lt fun e => h0.gne e.symm).trans h0.row

set_option maxRecDepth 20000 in
set_option maxHeartbeats 1600000 in
theorem search_no {w : World} {base sb : Nat} {P : Nat → Prop} {p : Prob} {sv rv gv : Value} {given : List Int} {most : Nat} {keep : Bool} {many : Nat} {fv : Value} {vs : List Value} {found : List (List Int)} (hsol : SolAt w base sb P p sv rv gv given most keep many fv vs found)
    (hgood : Good p) (hgl : given.length ≤ p.sizes.length) (hf : ¬ fits p.rels given) :
    Calls Try.prog 37 #[.pointer (some ⟨sb, 0, none⟩)] w (SearchPost base sb P p sv rv given most keep many found (sols p given) w) := by
  have HC := Lib.hid ((fits_any hsol hgood hgl).mono (fun e w' h => show e = .returned (.bool false) ∧ Below w.heap.size w w' by
    obtain ⟨b, h1, h2, h3⟩ := h
    cases b
    · exact ⟨h1, h3⟩
    · exact absurd (h2.1 rfl) hf))
  have HSOL := Lib.hid hsol
  rw [sols_none hf]
  have HNF := Lib.hid hf
  clear hsol hgood hf
  go_enter Try.func37, Try.ntmps37
  go_wp2_with (first | (go_at_call 43; refine HC.out.mono ?_; rintro e w1 ⟨rfl, hbel⟩))
  go_end0
  exact ⟨gv, fv, vs, rfl, by rw [cntTo_nil, fndTo_nil]; exact HSOL.out.below hbel, hbel.mono (Nat.le_trans HSOL.out.hb (Nat.le_of_lt HSOL.out.lt))⟩

set_option maxRecDepth 20000 in
set_option maxHeartbeats 1600000 in
theorem search_full {w : World} {base sb : Nat} {P : Nat → Prop} {p : Prob} {sv rv gv : Value} {given : List Int} {most : Nat} {keep : Bool} {many : Nat} {fv : Value} {vs : List Value} {found : List (List Int)} (hsol : SolAt w base sb P p sv rv gv given most keep many fv vs found)
    (hgood : Good p) (hgl : given.length = p.sizes.length) (hf : fits p.rels given) (hmm : many < most) (hmost : most ≤ 2000000) (hfl : found.length ≤ many) :
    Calls Try.prog 37 #[.pointer (some ⟨sb, 0, none⟩)] w (SearchPost base sb P p sv rv given most keep many found (sols p given) w) := by
  have HC := Lib.hid ((fits_any hsol hgood (Nat.le_of_eq hgl)).mono (fun e w' h => show e = .returned (.bool true) ∧ Below w.heap.size w w' by
    obtain ⟨b, h1, h2, h3⟩ := h
    cases b
    · exact absurd (h2.2 hf) (by simp)
    · exact ⟨h1, h3⟩))
  have HSOL := Lib.hid hsol
  rw [sols_one hgl hgood.fine hf]
  have hl16 := hgood.len
  obtain ⟨⟨ga, gc, rfl, hgc, hgc2⟩, ⟨sa, sc, rfl, hsc, hsc2⟩⟩ := hsol.form
  have HGL := Lib.hid hgl
  have hbs := Nat.le_trans hsol.hb (Nat.le_of_lt hsol.lt)
  have hbsb := hsol.hb
  obtain ⟨n, hn⟩ : ∃ n, p.sizes.length = n := ⟨_, rfl⟩
  rw [hn] at hgl
  rw [hn] at HSOL hsc2 hl16 ⊢
  rw [hgl] at HSOL hgc2
  have HN := Lib.hid hn
  clear hsol hgood hf hgl hn
  go_enter Try.func37, Try.ntmps37
  go_wp2_with (first | (go_at_call 43; refine HC.out.mono ?_; rintro e w1 ⟨rfl, hbel⟩; have HS1 := Lib.hid (HSOL.out.below hbel); have HBEL := Lib.hid (hbel.mono hbs); clear hbel))
  obtain ⟨c0, c1, c2, c3, c4, c5, c6⟩ := HS1.out.cells
  have q5 := HS1.out.frozen 5
  have hmw : (many : Int) + 1 ≤ 9223372036854775807 := by omega
  cases keep with
  | false =>
    go_quiet (fail)
    go_wp2
    go_end0
    exact ⟨_, fv, vs, rfl, by
      have h3 := (HS1.out.drewN nq).setMany (many + 1)
      have e1 : cntTo many most [given] = many + 1 := by unfold cntTo; simp; omega
      have e2 : fndTo false found many most [given] = found := by simp [fndTo]
      rw [e1, e2]; exact h3, (below_drewN HBEL.out nq).setCell hbsb _⟩
  | true =>
    go_quiet (fail)
    go_wp2
    have hs3 : SolAt ((w1.drewN nq).setCell ⟨sb, 5, none⟩ (.int .i64 ((many : Int) + 1))) base sb P p (.slice sa n sc) rv (.slice ga n gc) given most true (many + 1) fv vs found := (HS1.out.drewN nq).setMany (many + 1)
    have hb3 : Below base w ((w1.drewN nq).setCell ⟨sb, 5, none⟩ (.int .i64 ((many : Int) + 1))) := (below_drewN HBEL.out nq).setCell hbsb _
    generalize (w1.drewN nq).setCell ⟨sb, 5, none⟩ (.int .i64 ((many : Int) + 1)) = W3 at *
    have HS3 := Lib.hid hs3.drew
    have HB3 := Lib.hid hb3.drew
    obtain ⟨d0, d1, d2, d3, d4, d5, d6⟩ := hs3.drew.cells
    have HCL := Lib.hid (clone_any hs3.drew.giv (by rw [HGL.out, HN.out]; omega))
    obtain ⟨fa, fl, fc, rfl⟩ := HS3.out.fnd.lists.slice
    have hlf : found.length ≤ 2000000 := by omega
    clear hs3 hb3 c0 c1 c2 c3 c4 c5 c6 q5
    have ghs : base ≤ W3.drew.heap.size := Nat.le_trans hbsb (Nat.le_of_lt HS3.out.lt)
    have HGHS := Lib.hid ghs
    go_region_law (first
      | (refine step_pushV und39 info22 rfl (by omega) rfl (.tmp 33) (.tmp 39) rfl base _ found.length vs _ rfl rfl hs5.fnd.2.1 rfl hlf (by have := hb5.size; have := HGHS.out; omega) ?_; intro v6 w6 hown6 hg6 _; obtain ⟨va, vl, vc, rfl⟩ := row_slice hown6; have hs6 := HS3.out.setFound hb5 hou hg6 hown6; have k6 := (cell_row' _ _ 6 _ _ (setFound_row hs5 hg6)).trans rfl; have k7 := frozen_row' _ _ 6 _ _ (setFound_row hs5 hg6))
      | (go_simp; go_at_call 44; refine HCL.out.mono ?_; rintro e w5 ⟨uv, rfl, hou, hb5⟩; obtain ⟨ua, ul, uc, rfl⟩ := hou.ints.slice; have hs5 := HS3.out.below hb5; obtain ⟨e0, e1, e2, e3, e4, e5, e6⟩ := hs5.cells; obtain ⟨b0, b1, b2, b3, b4, b5, b6⟩ := (hs5.below ((Below.refl _ w5).alloc (Nat.le_refl _) (.cells #[.slice ua ul uc] 22))).cells))
    all_goals
      have hbf : Below base w (w6.setCell ⟨sb, 6, none⟩ (.slice va vl vc)) := (below_row (HB3.out.trans (hb5.mono HGHS.out)) hg6 (fun k hk => hs5.fnd.base k (.inl hk)) (Nat.le_trans HGHS.out hb5.size)).setCell hbsb _
      have e1 : cntTo many most [given] = many + 1 := by unfold cntTo; simp; omega
      have e2 : fndTo true found many most [given] = found ++ [given] := by
        unfold fndTo
        rw [if_pos rfl, List.take_of_length_le (by simp; omega)]
      try go_wp2
      go_end0
      exact ⟨_, _, _, rfl, by rw [e1, e2]; exact hs6, hbf⟩

theorem len_to {keep : Bool} {many most : Nat} {found L : List (List Int)} (h : found.length ≤ many) : (fndTo keep found many most L).length ≤ cntTo many most L := by
  unfold fndTo cntTo
  cases keep
  · simp; omega
  · simp; omega
set_option maxRecDepth 20000 in
set_option maxHeartbeats 1600000 in
theorem search_step {w : World} {base sb : Nat} {P : Nat → Prop} {p : Prob} {sv rv gv : Value} {given : List Int} {most : Nat} {keep : Bool} {many : Nat} {fv : Value} {vs : List Value} {found : List (List Int)} (hsol : SolAt w base sb P p sv rv gv given most keep many fv vs found)
    (hgood : Good p) (hgl : given.length < p.sizes.length) (hf : fits p.rels given) (hmm : many < most) (hmost : most ≤ 2000000) (hfl : found.length ≤ many)
    (ih : ∀ (w : World) (gv : Value) (x : Nat) (many : Nat) (fv : Value) (vs : List Value) (found : List (List Int)), SolAt w base sb P p sv rv gv (given ++ [(x : Int)]) most keep many fv vs found → many < most → found.length ≤ many →
      Calls Try.prog 37 #[.pointer (some ⟨sb, 0, none⟩)] w (SearchPost base sb P p sv rv (given ++ [(x : Int)]) most keep many found (sols p (given ++ [(x : Int)])) w)) :
    Calls Try.prog 37 #[.pointer (some ⟨sb, 0, none⟩)] w (SearchPost base sb P p sv rv given most keep many found (sols p given) w) := by
  have HC := Lib.hid ((fits_any hsol hgood (Nat.le_of_lt hgl)).mono (fun e w' h => show e = .returned (.bool true) ∧ Below w.heap.size w w' by
    obtain ⟨b, h1, h2, h3⟩ := h
    cases b
    · exact absurd (h2.2 hf) (by simp)
    · exact ⟨h1, h3⟩))
  have HSOL := Lib.hid hsol
  have HIH := Lib.hid ih
  rw [sols_step hgl]
  have hsz := hgood.size _ hgl
  have hl16 := hgood.len
  obtain ⟨m, hm⟩ : ∃ m : Nat, szs p.sizes given.length = m := ⟨_, rfl⟩
  have hsx : p.sizes.getD given.length 0 = (m : Int) := by unfold szs at hm; omega
  rw [hm]
  obtain ⟨⟨ga, gc, rfl, hgc, hgc2⟩, ⟨sa, sc, hsv, hsc, hsc2⟩⟩ := hsol.form
  obtain ⟨sa2, sc2, sb2, so2, hsv2, hsr⟩ := hsol.sizes
  rw [hsv2] at hsv
  have hsae : sa2 = sa ∧ sc2 = sc := by
    have := hsv
    simp at this
    exact ⟨this.1, this.2⟩
  obtain ⟨rfl, rfl⟩ := hsae
  subst hsv2
  clear hsv
  have HSR := Lib.hid hsr
  have HP := Lib.hid hsol.hP
  have hbs := Nat.le_trans hsol.hb (Nat.le_of_lt hsol.lt)
  have hbsb := hsol.hb
  obtain ⟨n, hn⟩ : ∃ n, p.sizes.length = n := ⟨_, rfl⟩
  obtain ⟨l, hl⟩ : ∃ l, given.length = l := ⟨_, rfl⟩
  rw [hn] at HSOL HSR HIH hsc2 hl16 hgl ⊢
  rw [hl] at HSOL hgc2 hgl hsx
  have HN := Lib.hid hn
  have HL := Lib.hid hl
  have HSX := Lib.hid hsx
  have hm64 : m ≤ 64 := by rw [hl] at hsz; omega
  clear hsol hgood hf hn hl hsr ih hm hsz hsx
  go_enter Try.func37, Try.ntmps37
  go_wp2_with (first | (go_at_call 43; refine HC.out.mono ?_; rintro e w1 ⟨rfl, hbel⟩; have HS1 := Lib.hid (HSOL.out.below hbel); have HBEL := Lib.hid (hbel.mono hbs); have HB0 := Lib.hid hbel; clear hbel))
  obtain ⟨c0, c1, c2, c3, c4, c5, c6⟩ := HS1.out.cells
  go_quiet (fail)
  obtain ⟨rfl, hps⟩ := HSR.out.ha (by omega)
  have d1 := (HSR.out.kept (Below.keptB HB0.out HP.out)).hc l (by omega)
  rw [HSX.out] at d1
  go_wp2
  go_quiet (fail)
  go_wp2
  have hb0 : ((l : Int) == (n : Int)) = false := by
    rw [beq_eq_false_iff_ne]; omega
  rw [hb0]
  clear hb0
  clear c0 c1 c2 c3 c4 c5 c6 d1
  go_loopg [55] m (fun g55 i wr => ∃ (x : Nat) (gv : Value) (fv : Value) (vs : List Value), x + g55 = m ∧ i = .int .i64 x ∧ SolAt wr base sb P p (.slice (some ⟨sb2, so2, none⟩) n sc2) rv gv given most keep (cntTo many most (solsTo p given x)) fv vs (fndTo keep found many most (solsTo p given x)) ∧ Below base w wr)
  case atStart => exact ⟨0, _, _, _, by omega, rfl, by rw [solsTo_zero, cntTo_nil, fndTo_nil]; exact (HS1.out.drewN _).drewN _, below_drewN (below_drewN HBEL.out _) _⟩
  case round =>
    obtain ⟨x, gv, fv, vs, hx, rfl, hsol, hbel⟩ := hrel
    have HS5 := Lib.hid hsol
    have HB5 := Lib.hid hbel
    clear hbel HS1 HBEL
    cases gk with
    | zero =>
      have hkl : ¬ (x : Int) < m := by omega
      have hx' : x = m := by omega
      subst hx'
      clear hsol
      go_wp2
      go_end0
      exact ⟨_, _, _, rfl, HS5.out, HB5.out⟩
    | succ gk2 =>
      have hxl : x < m := by omega
      obtain ⟨c0, c1, c2, c3, c4, c5, c6⟩ := hsol.cells
      have hlen := len_to (keep := keep) (many := many) (most := most) (found := found) (L := solsTo p given x) hfl
      have HLEN := Lib.hid hlen
      by_cases hfull : most ≤ cntTo many most (solsTo p given x)
      · have hres : cntTo many most (solsTo p given m) = cntTo many most (solsTo p given x) ∧ fndTo keep found many most (solsTo p given m) = fndTo keep found many most (solsTo p given x) := by
          obtain ⟨r, hr⟩ := solsTo_split p given (Nat.le_of_lt hxl)
          rw [hr]
          exact ⟨cntTo_full hfull, fndTo_full hfull⟩
        have HRES := Lib.hid hres
        have hfi : (most : Int) ≤ (cntTo many most (solsTo p given x) : Int) := by omega
        clear hres hsol hlen
        generalize cntTo many most (solsTo p given x) = mx at *
        go_wp2
        go_quiet (fail)
        go_wp2
        go_end0
        refine ⟨gv, fv, vs, rfl, ?_, below_drewN HB5.out _⟩
        show SolAt _ base sb P p _ rv _ given most keep (cntTo many most (solsTo p given m)) _ _ (fndTo keep found many most (solsTo p given m))
        rw [HRES.out.1, HRES.out.2]
        exact HS5.out.drewN _
      · have hfi : ¬ (most : Int) ≤ (cntTo many most (solsTo p given x) : Int) := by omega
        have hml : cntTo many most (solsTo p given x) < most := by omega
        clear hsol hlen
        obtain ⟨mx, hmx⟩ : ∃ mx, cntTo many most (solsTo p given x) = mx := ⟨_, rfl⟩
        obtain ⟨fx, hfx⟩ : ∃ fx, fndTo keep found many most (solsTo p given x) = fx := ⟨_, rfl⟩
        rw [hmx] at HS5 HLEN hfi hml c5
        rw [hfx] at HS5 HLEN
        have HMX := Lib.hid hmx
        have HFX := Lib.hid hfx
        clear hmx hfx hfull
        obtain ⟨⟨ga2, gc2, rfl, hg21, hg22⟩, _⟩ := HS5.out.form
        rw [HL.out] at HS5 c2
        go_wp2
        go_quiet (fail)
        have HS6 := Lib.hid (HS5.out.drewN nq)
        have HB6 := Lib.hid (below_drewN HB5.out nq)
        generalize wr.drewN nq = W6 at *
        clear c0 c1 c2 c3 c4 c5 c6 HS5 HB5
        obtain ⟨c0, c1, c2, c3, c4, c5, c6⟩ := HS6.out.cells
        have hgs : base ≤ W6.heap.size := Nat.le_trans hbsb (Nat.le_of_lt HS6.out.lt)
        have hl20 : l ≤ 2000000 := by omega
        have hown6 := HS6.out.giv
        unfold OwnI at hown6
        rw [HL.out] at hown6
        have HOWN6 := Lib.hid hown6
        have HHL := Lib.hid hl20
        have HGS := Lib.hid hgs
        clear hown6 hl20
        go_wp2_with (first
          | (refine wpList_pushV und22 info3 rfl (by omega) rfl (.tmp 71) (.tmp 73) rfl base _ l _ _ rfl rfl HOWN6.out rfl HHL.out HGS.out ?_; intro v7 w7 ho7 hg7 ha7; obtain ⟨va, vl, vc, rfl⟩ := row_slice ho7; have k2 := (cell_row' _ _ 2 _ _ (setGiven_row HS6.out hg7)).trans rfl; have q2 := frozen_row' _ _ 2 _ _ (setGiven_row HS6.out hg7); have HS7 := Lib.hid (HS6.out.pushed (by rw [HL.out]; exact ho7) hg7 ha7); have HB7 := Lib.hid ((below_row HB6.out hg7 (fun k hk => (HS6.out.giv.lt hk).1) HGS.out).setCell (show base ≤ (⟨sb, 2, none⟩ : Addr).block from hbsb) (.slice va vl vc)); clear ho7 hg7 ha7)
          | (go_at_call 37; refine (HIH.out _ _ x mx _ _ _ HS7.out hml HLEN.out).mono ?_; rintro e w8 ⟨gv8, fv8, vs8, rfl, hs8, hb8⟩; obtain ⟨g8, c8, rfl, hgc8, hgm8⟩ := hs8.shape HL.out; have HS8 := Lib.hid hs8.drew; have HS80 := Lib.hid hs8; have HB8 := Lib.hid (HB7.out.trans hb8); clear hs8 hb8; obtain ⟨e0, e1, e2, e3, e4, e5, e6⟩ := HS8.out.cells; have q8 := HS8.out.frozen 2))
        have hl16b : (l : Int) ≤ 16 := by omega
        have hlc8 : (l : Int) ≤ c8 := by omega
        go_region
        go_wp2
        go_roundg gk2
        case measure => omega
        case rel =>
          have hfin := (HS80.out.popped HL.out).drew
          rw [← HMX.out, ← HFX.out, cntTo_app, fndTo_app, ← solsTo_succ] at hfin
          exact ⟨x + 1, _, _, _, by omega, by go_num, hfin, (HB8.out.setCell (show base ≤ (⟨sb, 2, none⟩ : Addr).block from hbsb) (.slice (some ⟨g8, 0, none⟩) l c8)).drew⟩

theorem search_any {base sb : Nat} {P : Nat → Prop} {p : Prob} {sv rv : Value} {most : Nat} {keep : Bool} (hgood : Good p) (hmost : most ≤ 2000000) : ∀ (d : Nat) (w : World) (gv : Value) (given : List Int) (many : Nat) (fv : Value) (vs : List Value) (found : List (List Int)),
    given.length + d = p.sizes.length → SolAt w base sb P p sv rv gv given most keep many fv vs found → many < most → found.length ≤ many →
    Calls Try.prog 37 #[.pointer (some ⟨sb, 0, none⟩)] w (SearchPost base sb P p sv rv given most keep many found (sols p given) w) := by
  intro d
  induction d with
  | zero =>
    intro w gv given many fv vs found hd hsol hmm hfl
    by_cases hf : fits p.rels given
    · exact search_full hsol hgood (by omega) hf hmm hmost hfl
    · exact search_no hsol hgood (by omega) hf
  | succ d ih =>
    intro w gv given many fv vs found hd hsol hmm hfl
    by_cases hf : fits p.rels given
    · exact search_step hsol hgood (by omega) hf hmm hmost hfl fun w gv x many fv vs found h1 h2 h3 => ih w gv _ many fv vs found (by rw [List.length_append]; simp; omega) h1 h2 h3
    · exact search_no hsol hgood (by omega) hf
end Go.Proofs.Ytamidopeojipkaa
