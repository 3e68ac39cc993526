/- Get of the reference. -/
import Derived.Test.YtdljffplooplcaaPutR
namespace Go.Proofs.Ytdljffplooplcaa
open Go.RowKit
set_option linter.unusedVariables false

/-- What Get of the reference comes to. -/
def GotR (P : Nat → Prop) (cap h m r : Int) (es : Es) (o : Option T) (w : World) (e : Ending) (w' : World) : Prop :=
  ∃ ka kl kc ta tl tc v', e = .returned (.tuple #[.agg #[.int .i64 cap, .slice ka kl kc, .slice ta tl tc, .int .i64 h, .int .i64 m, .int .i64 r], .agg #[.int .i64 (o.getD (.node 0 [])).rule, v'], .bool o.isSome]) ∧
    StAt w' (fun x => P x ∨ Span w.heap.size w'.heap.size x) ka kl kc ta tl tc es ∧ ArgsAt w' P v' (o.getD (.node 0 [])).args ∧ Below w.heap.size w w'
structure GeAt (w : World) (x0 x1 x2 x3 x4 x5 : Value) (W : World) : Prop where
  bel : Below w.heap.size w W
  sz : w.heap.size + 3 ≤ W.heap.size
  r0 : W.heap[w.heap.size]? = some (.cells #[x0, x1, x2, x3, x4, x5] 32 (0, 0))
  r1 : W.heap[w.heap.size + 1]? = some (.cells #[.int .i64 0, .slice none 0 0, .slice none 0 0, .int .i64 0, .int .i64 0, .int .i64 0] 32 (0, 0))
  r2 : W.heap[w.heap.size + 1 + 1]? = some (.cells #[.int .i64 0, .slice none 0 0] 36 (0, 0))
theorem GeAt.next {w W W' : World} {x0 x1 x2 x3 x4 x5 : Value} (s : GeAt w x0 x1 x2 x3 x4 x5 W) (hb : Below W.heap.size W W') : GeAt w x0 x1 x2 x3 x4 x5 W' := by
  have hs := s.sz
  have hz := hb.size
  exact ⟨Below.next s.bel hb, by omega, (hb.block _ (by omega)).trans s.r0, (hb.block _ (by omega)).trans s.r1, (hb.block _ (by omega)).trans s.r2⟩
theorem GeAt.turn {w W W' : World} {x0 x1 x2 x3 x4 x5 y0 y1 y2 y3 y4 y5 : Value} (s : GeAt w x0 x1 x2 x3 x4 x5 W) (hr : W'.heap[w.heap.size]? = some (.cells #[y0, y1, y2, y3, y4, y5] 32 (0, 0))) (ho : Only (fun k => k = w.heap.size) W W') : GeAt w y0 y1 y2 y3 y4 y5 W' := by
  have hs := s.sz
  have hz := ho.size
  exact ⟨Below.stepN s.bel ho.near (fun x hx => by omega), by omega, hr, (ho.block _ (by omega)).trans s.r1, (ho.block _ (by omega)).trans s.r2⟩
theorem wpList_store_t2 {ops : Array Oper} {rest : List Oper} {o : Oper} {a : Act} {w : World} {Q : Exit → Act → World → Prop} (hgd : o.guard = none) (x y : Operand) (ho : o.op = .store 36 x y)
    (B : Nat) (x0 x1 : Value) (hx : a.eval x = .pointer (some ⟨B, 0, none⟩)) (hy : a.eval y = .agg #[x0, x1]) {u0 u1 : Value}
    (hg : w.heap[B]? = some (.cells #[u0, u1] 36 (0, 0))) (h1 : (#[x0, x1] : Array Value).all (·.oneCell') = true)
    (h : ∀ w', w'.heap[B]? = some (.cells #[x0, x1] 36 (0, 0)) → Only (fun k => k = B) w w' → wpList Try.prog ops Q rest (a.put o.dst undef) w') : wpList Try.prog ops Q (o :: rest) a w := by
  refine wpList_store_row hgd 36 x y ho B #[x0, x1] hx hy 36 _ hg (by kernel_rfl) rfl h1 (h _ ?_ ⟨rfl, rfl, rfl, by simp, fun k hk => setRow_other w B k _ (fun e => hk e)⟩)
  exact setRow_heap w B _ _ 36 _ hg

set_option maxRecDepth 20000 in
set_option maxHeartbeats 800000 in
theorem getR_any {w : World} {P : Nat → Prop} {ka ta : Option Addr} {kl kc tl tc : Nat} {es : Es} (s : StAt w P ka kl kc ta tl tc es) (hU : Under P w.heap.size) (cap hq m r : Int) (k : ByteArray) (hlen : es.length ≤ 900) (hn : (keysE es).Nodup) (hh : 0 ≤ hq ∧ hq ≤ 1000) (hm : 0 ≤ m ∧ m ≤ 1000) :
    Calls Try.prog 15 #[.agg #[.int .i64 cap, .slice ka kl kc, .slice ta tl tc, .int .i64 hq, .int .i64 m, .int .i64 r], .string k] w (GotR P cap (hq + one (lookE k es).isSome) (m + one (lookE k es).isNone) r (getE k es) (lookE k es) w) := by
  obtain ⟨hl1, hl2⟩ := s.lens
  have hnew : GeAt w (.int .i64 cap) (.slice ka kl kc) (.slice ta tl tc) (.int .i64 hq) (.int .i64 m) (.int .i64 r) (((w.alloc (.cells #[.int .i64 cap, .slice ka kl kc, .slice ta tl tc, .int .i64 hq, .int .i64 m, .int .i64 r] 32)).alloc (.cells #[.int .i64 0, .slice none 0 0, .slice none 0 0, .int .i64 0, .int .i64 0, .int .i64 0] 32)).alloc (.cells #[.int .i64 0, .slice none 0 0] 36)) := by
    refine ⟨(((Below.refl _ w).alloc (Nat.le_refl _) _).alloc (by simp) _).alloc (by simp; omega) _, by simp, (Below.heap_alloc _ _ _ (by simp; omega)).trans ((Below.heap_alloc _ _ _ (by simp)).trans (heap_alloc_new _ _)), ?_, ?_⟩
    · refine (Below.heap_alloc _ _ _ (by simp)).trans ?_
      have := heap_alloc_new (w.alloc (.cells #[.int .i64 cap, .slice ka kl kc, .slice ta tl tc, .int .i64 hq, .int .i64 m, .int .i64 r] 32)) (.cells #[.int .i64 0, .slice none 0 0, .slice none 0 0, .int .i64 0, .int .i64 0, .int .i64 0] 32)
      rw [World.size_alloc] at this
      exact this
    · have := heap_alloc_new ((w.alloc (.cells #[.int .i64 cap, .slice ka kl kc, .slice ta tl tc, .int .i64 hq, .int .i64 m, .int .i64 r] 32)).alloc (.cells #[.int .i64 0, .slice none 0 0, .slice none 0 0, .int .i64 0, .int .i64 0, .int .i64 0] 32)) (.cells #[.int .i64 0, .slice none 0 0] 36)
      rw [World.size_alloc, World.size_alloc] at this
      exact this
  have HNEW := Lib.hid hnew
  have hsW : StAt (((w.alloc (.cells #[.int .i64 cap, .slice ka kl kc, .slice ta tl tc, .int .i64 hq, .int .i64 m, .int .i64 r] 32)).alloc (.cells #[.int .i64 0, .slice none 0 0, .slice none 0 0, .int .i64 0, .int .i64 0, .int .i64 0] 32)).alloc (.cells #[.int .i64 0, .slice none 0 0] 36)) P ka kl kc ta tl tc es := s.kept (Below.keptB hnew.bel hU)
  have HPL := Lib.hid (place_any hsW (hU.le hnew.bel.size) cap hq m r k (by omega))
  have HU := Lib.hid hU
  have HS := Lib.hid s
  have HN := Lib.hid hn
  have hlk := posN_look (k := k) (es := es)
  obtain ⟨OO, hOO⟩ : ∃ OO, lookE k es = OO := ⟨_, rfl⟩
  obtain ⟨ES, hES⟩ : ∃ ES, getE k es = ES := ⟨_, rfl⟩
  rw [hOO, hES]
  unfold getE at hES
  rw [hOO] at hlk hES
  have HES := Lib.hid hES
  have HLK := Lib.hid hlk
  clear hnew hsW hU s hn hlk hOO hES
  go_enter Try.func15, Try.ntmps15
  go_wp2_with fail
  refine HPL.out.mono ?_
  generalize (((w.alloc (.cells #[.int .i64 cap, .slice ka kl kc, .slice ta tl tc, .int .i64 hq, .int .i64 m, .int .i64 r] 32)).alloc (.cells #[.int .i64 0, .slice none 0 0, .slice none 0 0, .int .i64 0, .int .i64 0, .int .i64 0] 32)).alloc (.cells #[.int .i64 0, .slice none 0 0] 36)) = W at *
  rintro e w1 ⟨rfl, hb1⟩
  have hge1 := HNEW.out.next hb1
  have hs1 : StAt w1 P ka kl kc ta tl tc es := HS.out.kept (Below.keptB hge1.bel HU.out)
  have hU1 : Under P w1.heap.size := HU.out.le hge1.bel.size
  have a0 : w1.cell? ⟨w.heap.size, 0, none⟩ = some (.int .i64 cap) := (cell_of_row _ _ 0 _ _ _ hge1.r0).trans rfl
  have a1 : w1.cell? ⟨w.heap.size, 1, none⟩ = some (.slice ka kl kc) := (cell_of_row _ _ 1 _ _ _ hge1.r0).trans rfl
  have a2 : w1.cell? ⟨w.heap.size, 2, none⟩ = some (.slice ta tl tc) := (cell_of_row _ _ 2 _ _ _ hge1.r0).trans rfl
  have a3 : w1.cell? ⟨w.heap.size, 3, none⟩ = some (.int .i64 hq) := (cell_of_row _ _ 3 _ _ _ hge1.r0).trans rfl
  have a4 : w1.cell? ⟨w.heap.size, 4, none⟩ = some (.int .i64 m) := (cell_of_row _ _ 4 _ _ _ hge1.r0).trans rfl
  have a5 : w1.cell? ⟨w.heap.size, 5, none⟩ = some (.int .i64 r) := (cell_of_row _ _ 5 _ _ _ hge1.r0).trans rfl
  have f4 := frozen_of_row w1 w.heap.size 4 _ _ hge1.r0
  have HGE1 := Lib.hid hge1
  have HS1 := Lib.hid hs1
  have HU1 := Lib.hid hU1
  clear hb1 hge1 hs1 hU1
  unfold posE
  cases hpos : posN k es with
  | none =>
    have hE := HES.out
    have hO := HLK.out
    rw [hpos, Option.map_none] at hO
    subst hO
    simp only at hE
    subst hE
    clear hpos
    simp only [Option.isSome_none, Option.isNone_none, one, Bool.false_eq_true, if_false, if_true, Int.add_zero] at *
    have hg2 : GeAt w (.int .i64 cap) (.slice ka kl kc) (.slice ta tl tc) (.int .i64 hq) (.int .i64 (m + 1)) (.int .i64 r) (w1.setCell ⟨w.heap.size, 4, none⟩ (.int .i64 (m + 1))) :=
      HGE1.out.turn ((setCell_row 4 (.int .i64 (m + 1)) HGE1.out.r0).trans rfl) ((Only.refl (fun x => x = w.heap.size) w1).setCell (b := w.heap.size) rfl 4 _)
    have HG2 := Lib.hid hg2
    clear hg2
    go_wp2_with (first
      | ((with_reducible show wpList _ _ _ (⟨_, .store 32 _ _, _, _, _, _⟩ :: _) _ _); refine wpList_store_st rfl (.tmp 4) (.tmp 18) rfl (w.heap.size + 1) (.int .i64 cap) (.slice ka kl kc) (.slice ta tl tc) (.int .i64 hq) (.int .i64 (m + 1)) (.int .i64 r) rfl rfl HG2.out.r1 (by simp [Value.oneCell']) ?_; intro w3 hr3 ho3; have HR3 := Lib.hid hr3; have HO3 := Lib.hid ho3; clear hr3 ho3)
      | ((with_reducible show wpList _ _ _ (⟨_, .store 36 _ _, _, _, _, _⟩ :: _) _ _); refine wpList_store_t2 rfl (.tmp 5) (.tmp 19) rfl (w.heap.size + 1 + 1) (.int .i64 0) (.slice none 0 0) rfl rfl ((HO3.out.block _ (by omega)).trans HG2.out.r2) (by simp [Value.oneCell']) ?_; intro w4 hq5 ho4; have hq4 := (ho4.block (w.heap.size + 1) (by omega)).trans HR3.out; have HO4 := Lib.hid ho4; clear ho4))
    generalize w1.setCell ⟨w.heap.size, 4, none⟩ (.int .i64 (m + 1)) = w2 at *
    have z0 : w4.cell? ⟨w.heap.size + 1, 0, none⟩ = some (.int .i64 cap) := (cell_of_row _ _ 0 _ _ _ hq4).trans rfl
    have z1 : w4.cell? ⟨w.heap.size + 1, 1, none⟩ = some (.slice ka kl kc) := (cell_of_row _ _ 1 _ _ _ hq4).trans rfl
    have z2 : w4.cell? ⟨w.heap.size + 1, 2, none⟩ = some (.slice ta tl tc) := (cell_of_row _ _ 2 _ _ _ hq4).trans rfl
    have z3 : w4.cell? ⟨w.heap.size + 1, 3, none⟩ = some (.int .i64 hq) := (cell_of_row _ _ 3 _ _ _ hq4).trans rfl
    have z4 : w4.cell? ⟨w.heap.size + 1, 4, none⟩ = some (.int .i64 (m + 1)) := (cell_of_row _ _ 4 _ _ _ hq4).trans rfl
    have z5 : w4.cell? ⟨w.heap.size + 1, 5, none⟩ = some (.int .i64 r) := (cell_of_row _ _ 5 _ _ _ hq4).trans rfl
    have y0 : w4.cell? ⟨w.heap.size + 1 + 1, 0, none⟩ = some (.int .i64 0) := (cell_of_row _ _ 0 _ _ _ hq5).trans rfl
    have y1 : w4.cell? ⟨w.heap.size + 1 + 1, 1, none⟩ = some (.slice none 0 0) := (cell_of_row _ _ 1 _ _ _ hq5).trans rfl
    refine bodyPost_ret (v := .tuple #[.agg #[.int .i64 cap, .slice ka kl kc, .slice ta tl tc, .int .i64 hq, .int .i64 (m + 1), .int .i64 r], .agg #[.int .i64 0, .slice none 0 0], .bool false]) (by simp [results, Try.results15, go_sem, z0, z1, z2, z3, z4, z5, y0, y1]; try rfl) rfl ?_
    have hsz2 := HG2.out.sz
    have hn4 : Near (fun x => x = w.heap.size + 1 ∨ x = w.heap.size + 1 + 1) w2 w4 := (HO3.out.wide (fun x hx => .inl hx)).trans (HO4.out.wide (fun x hx => .inr hx)) |>.near
    have hb4 : Below w.heap.size w w4 := Below.stepN HG2.out.bel hn4 (fun x hx => by rcases hx with hx | hx <;> omega)
    refine ⟨_, _, _, _, _, _, _, rfl, ((HS.out.kept (Below.keptB hb4 HU.out)).wide fun x hx => .inl hx), ArgsAt.nil _ _, hb4⟩
  | some i =>
    have hi := posN_lt hpos
    have HER := Lib.hid (posN_erase HN.out hpos)
    have hE := HES.out
    have hO := HLK.out
    rw [hpos, Option.map_some] at hO
    subst hO
    simp only at hE
    subst hE
    clear hpos
    obtain ⟨tb, to, vs, htt⟩ := HS.out.terms.terms
    obtain ⟨rfl, htb⟩ := htt.ha (by omega)
    have hk1 := htt.kept (Below.keptB HGE1.out.bel HU.out)
    have t0 := hk1.hr i (by omega)
    have t1 := hk1.hv i (by omega)
    have ts := htt.hs i (by omega)
    have hrd : (es.map (·.2)).getD i default = (es.getD i (⟨#[]⟩, .node 0 [])).2 := by simp [List.getD, hi]
    have hsm : tsize (es.getD i (⟨#[]⟩, .node 0 [])).2 ≤ 1000 := by
      have e : es.getD i (⟨#[]⟩, .node 0 []) = es[i] := by simp [List.getD, hi]
      rw [e]
      exact HS.out.small _ (List.getElem_mem _)
    rw [hrd] at t0 ts
    have htc := htt.hcap
    have htm : tc ≤ 9223372036854775807 := by have := htt.hmax; unfold maxLen at this; omega
    have hit : i < tl := by omega
    obtain ⟨va, vl, vc, hva⟩ := ts.slice
    rw [hva] at t1 ts
    have HTS := Lib.hid ts
    have HSM := Lib.hid hsm
    generalize (es.getD i (⟨#[]⟩, .node 0 [])).2 = u at *
    simp only [Option.isSome_some, Option.isNone_some, one, Bool.false_eq_true, if_false, if_true, Int.add_zero] at *
    clear htt hk1 ts hrd hva hsm
    have hal : Below w1.heap.size w1 (w1.alloc (.cells #[.int .i64 u.rule, .slice va vl vc] 36)) := (Below.refl _ _).alloc (Nat.le_refl _) _
    have hge2 := HGE1.out.next hal
    have HR8 := Lib.hid (heap_alloc_new w1 (.cells #[.int .i64 u.rule, .slice va vl vc] 36))
    have HGE2 := Lib.hid hge2
    have hws2 : (w1.alloc (.cells #[.int .i64 u.rule, .slice va vl vc] 36)).heap.size = w1.heap.size + 1 := by simp
    have HWS2 := Lib.hid hws2
    have S2 := Lib.hid (HS1.out.kept (Below.keptB hal HU1.out))
    clear hal hge2 hws2
    go_wp2_with fail
    generalize w1.alloc (.cells #[.int .i64 u.rule, .slice va vl vc] 36) = w2 at *
    have b0 : w2.cell? ⟨w.heap.size, 0, none⟩ = some (.int .i64 cap) := (cell_of_row _ _ 0 _ _ _ HGE2.out.r0).trans rfl
    have b1 : w2.cell? ⟨w.heap.size, 1, none⟩ = some (.slice ka kl kc) := (cell_of_row _ _ 1 _ _ _ HGE2.out.r0).trans rfl
    have b2 : w2.cell? ⟨w.heap.size, 2, none⟩ = some (.slice (some ⟨tb, to, none⟩) tl tc) := (cell_of_row _ _ 2 _ _ _ HGE2.out.r0).trans rfl
    have b3 : w2.cell? ⟨w.heap.size, 3, none⟩ = some (.int .i64 hq) := (cell_of_row _ _ 3 _ _ _ HGE2.out.r0).trans rfl
    have b4 : w2.cell? ⟨w.heap.size, 4, none⟩ = some (.int .i64 m) := (cell_of_row _ _ 4 _ _ _ HGE2.out.r0).trans rfl
    have b5 : w2.cell? ⟨w.heap.size, 5, none⟩ = some (.int .i64 r) := (cell_of_row _ _ 5 _ _ _ HGE2.out.r0).trans rfl
    have e0 : w2.cell? ⟨w1.heap.size, 0, none⟩ = some (.int .i64 u.rule) := (cell_of_row _ _ 0 _ _ _ HR8.out).trans rfl
    have e1 : w2.cell? ⟨w1.heap.size, 1, none⟩ = some (.slice va vl vc) := (cell_of_row _ _ 1 _ _ _ HR8.out).trans rfl
    have HU2 := Lib.hid (show Under P w2.heap.size from HU.out.le HGE2.out.bel.size)
    have HW33 := Lib.hid (without_any (w := w2.drew) (P := P) (S2.out.kept fun _ _ => rfl) HU2.out cap hq m r i hi (by omega))
    clear a0 a1 a2 a3 a4 a5 f4 t0 t1
    go_region_with (first
      | (go_at_call 33; refine HW33.out.mono ?_; rintro e w3 ⟨ka2, kl2, kc2, ta2, tl2, tc2, rfl, s3, hb3⟩; have hge3 := HGE2.out.next (Below.next (Below.refl _ _).drew hb3); have hr83 := (hb3.block w1.heap.size (by have := HWS2.out; show w1.heap.size < w2.heap.size; omega)).trans HR8.out; have h30 : w3.cell? ⟨w1.heap.size, 0, none⟩ = some (.int .i64 u.rule) := (cell_of_row _ _ 0 _ _ _ hr83).trans rfl; have h31 : w3.cell? ⟨w1.heap.size, 1, none⟩ = some (.slice va vl vc) := (cell_of_row _ _ 1 _ _ _ hr83).trans rfl)
      | (go_at_call 32; refine (first_any s3 (by { intro x hx; rcases hx with e | e; exact HU.out.le hge3.bel.size x e; exact e.2 }) cap hq m r k u (.slice va vl vc) ((HTS.out.kept (Below.keptB hge3.bel HU.out)).wide fun x hx => .inl hx) HSM.out (by rw [List.length_eraseIdx]; split <;> omega)).mono ?_; rintro e w4 ⟨ka3, kl3, kc3, ta3, tl3, tc3, rfl, s4, hb4⟩; have hge4 := hge3.next hb4; have hr84 := (hb4.block w1.heap.size (Array.getElem?_eq_some_iff.1 hr83).1).trans hr83; have d0 : w4.cell? ⟨w.heap.size, 0, none⟩ = some (.int .i64 cap) := (cell_of_row _ _ 0 _ _ _ hge4.r0).trans rfl; have d1 : w4.cell? ⟨w.heap.size, 1, none⟩ = some (.slice ka kl kc) := (cell_of_row _ _ 1 _ _ _ hge4.r0).trans rfl; have d2 : w4.cell? ⟨w.heap.size, 2, none⟩ = some (.slice (some ⟨tb, to, none⟩) tl tc) := (cell_of_row _ _ 2 _ _ _ hge4.r0).trans rfl; have d3 : w4.cell? ⟨w.heap.size, 3, none⟩ = some (.int .i64 hq) := (cell_of_row _ _ 3 _ _ _ hge4.r0).trans rfl; have d4 : w4.cell? ⟨w.heap.size, 4, none⟩ = some (.int .i64 m) := (cell_of_row _ _ 4 _ _ _ hge4.r0).trans rfl; have d5 : w4.cell? ⟨w.heap.size, 5, none⟩ = some (.int .i64 r) := (cell_of_row _ _ 5 _ _ _ hge4.r0).trans rfl; have g0 := frozen_of_row w4 (w.heap.size) 0 _ _ hge4.r0; have g1 := frozen_of_row w4 (w.heap.size) 1 _ _ hge4.r0; have g2 := frozen_of_row w4 (w.heap.size) 2 _ _ hge4.r0; have g3 := frozen_of_row w4 (w.heap.size) 3 _ _ hge4.r0; have g4 := frozen_of_row w4 (w.heap.size) 4 _ _ hge4.r0; have g5 := frozen_of_row w4 (w.heap.size) 5 _ _ hge4.r0))
    all_goals (
      have hge5 := hge4.turn (st_store hge4.r0 (.int .i64 cap) (.slice ka3 kl3 kc3) (.slice ta3 tl3 tc3) (.int .i64 hq) (.int .i64 m) (.int .i64 r)) (st_only w4 w.heap.size (.int .i64 cap) (.slice ka3 kl3 kc3) (.slice ta3 tl3 tc3) (.int .i64 hq) (.int .i64 m) (.int .i64 r))
      have hon5 := st_only w4 w.heap.size (.int .i64 cap) (.slice ka3 kl3 kc3) (.slice ta3 tl3 tc3) (.int .i64 hq) (.int .i64 m) (.int .i64 r)
      generalize (((((w4.setCell ⟨w.heap.size, 0, none⟩ (.int .i64 cap)).setCell ⟨w.heap.size, 1, none⟩ (.slice ka3 kl3 kc3)).setCell ⟨w.heap.size, 2, none⟩ (.slice ta3 tl3 tc3)).setCell ⟨w.heap.size, 3, none⟩ (.int .i64 hq)).setCell ⟨w.heap.size, 4, none⟩ (.int .i64 m)).setCell ⟨w.heap.size, 5, none⟩ (.int .i64 r) = w5 at *
      have hz4 := hge4.sz
      have hz1 := HGE1.out.sz
      have hr85 := (hon5.block w1.heap.size (by omega)).trans hr84
      have s5 := s4.kept (w' := w5) fun x hx => hon5.block x (by
        rcases hx with (e | e) | e
        · have := HU.out x e; omega
        · have := e.1; have := HGE2.out.sz; have z : w2.drew.heap.size = w2.heap.size := rfl; omega
        · have := e.1; have := hge3.sz; omega)
      have c3 : w5.cell? ⟨w.heap.size, 3, none⟩ = some (.int .i64 hq) := (cell_of_row _ _ 3 _ _ _ hge5.r0).trans rfl
      have f3 := frozen_of_row w5 w.heap.size 3 _ _ hge5.r0
      have hge6 := hge5.turn ((setCell_row 3 (.int .i64 (hq + 1)) hge5.r0).trans rfl) ((Only.refl (fun x => x = w.heap.size) w5).setCell (b := w.heap.size) rfl 3 (.int .i64 (hq + 1)))
      have hon6 : Only (fun x => x = w.heap.size) w5 (w5.setCell ⟨w.heap.size, 3, none⟩ (.int .i64 (hq + 1))) := (Only.refl (fun x => x = w.heap.size) w5).setCell (b := w.heap.size) rfl 3 (.int .i64 (hq + 1))
      have S5 := Lib.hid s5
      have HR85 := Lib.hid hr85
      have HGE6 := Lib.hid hge6
      have HON6 := Lib.hid hon6
      have HP5 := Lib.hid (show ∀ x, ((P x ∨ Span w2.drew.heap.size w3.heap.size x) ∨ Span w3.heap.size w4.heap.size x) → P x ∨ Span (w.heap.size + 3) w5.heap.size x from fun x hx => by
        have y1 := hon5.size
        have y2 := HGE2.out.sz
        have y3 := hge3.sz
        have y4 := hb4.size
        have z : w2.drew.heap.size = w2.heap.size := rfl
        rcases hx with (e | e) | e
        · exact .inl e
        · exact .inr ⟨by have := e.1; omega, by have := e.2; omega⟩
        · exact .inr ⟨by have := e.1; omega, by have := e.2; omega⟩)
      clear hge4 hge3 s3 s4 s5 hb3 hb4 hr83 hr84 hr85 h30 h31 d0 d1 d2 d3 d4 d5 g0 g1 g2 g3 g4 g5 b0 b1 b2 b3 b4 b5 e0 e1 hon5 hge6 hon6 hge5
      go_wp2_with fail
      generalize w5.setCell ⟨w.heap.size, 3, none⟩ (.int .i64 (hq + 1)) = w6 at *
      have hr86 := (HON6.out.block w1.heap.size (by omega)).trans HR85.out
      have k0 : w6.cell? ⟨w.heap.size, 0, none⟩ = some (.int .i64 cap) := (cell_of_row _ _ 0 _ _ _ HGE6.out.r0).trans rfl
      have k1 : w6.cell? ⟨w.heap.size, 1, none⟩ = some (.slice ka3 kl3 kc3) := (cell_of_row _ _ 1 _ _ _ HGE6.out.r0).trans rfl
      have k2 : w6.cell? ⟨w.heap.size, 2, none⟩ = some (.slice ta3 tl3 tc3) := (cell_of_row _ _ 2 _ _ _ HGE6.out.r0).trans rfl
      have k3 : w6.cell? ⟨w.heap.size, 3, none⟩ = some (.int .i64 (hq + 1)) := (cell_of_row _ _ 3 _ _ _ HGE6.out.r0).trans rfl
      have k4 : w6.cell? ⟨w.heap.size, 4, none⟩ = some (.int .i64 m) := (cell_of_row _ _ 4 _ _ _ HGE6.out.r0).trans rfl
      have k5 : w6.cell? ⟨w.heap.size, 5, none⟩ = some (.int .i64 r) := (cell_of_row _ _ 5 _ _ _ HGE6.out.r0).trans rfl
      have l0 : w6.cell? ⟨w1.heap.size, 0, none⟩ = some (.int .i64 u.rule) := (cell_of_row _ _ 0 _ _ _ hr86).trans rfl
      have l1 : w6.cell? ⟨w1.heap.size, 1, none⟩ = some (.slice va vl vc) := (cell_of_row _ _ 1 _ _ _ hr86).trans rfl
      have m0 : w6.cell? ⟨w.heap.size + 1, 0, none⟩ = some (.int .i64 0) := (cell_of_row _ _ 0 _ _ _ HGE6.out.r1).trans rfl
      have m1 : w6.cell? ⟨w.heap.size + 1, 1, none⟩ = some (.slice none 0 0) := (cell_of_row _ _ 1 _ _ _ HGE6.out.r1).trans rfl
      have m2 : w6.cell? ⟨w.heap.size + 1, 2, none⟩ = some (.slice none 0 0) := (cell_of_row _ _ 2 _ _ _ HGE6.out.r1).trans rfl
      have m3 : w6.cell? ⟨w.heap.size + 1, 3, none⟩ = some (.int .i64 0) := (cell_of_row _ _ 3 _ _ _ HGE6.out.r1).trans rfl
      have m4 : w6.cell? ⟨w.heap.size + 1, 4, none⟩ = some (.int .i64 0) := (cell_of_row _ _ 4 _ _ _ HGE6.out.r1).trans rfl
      have m5 : w6.cell? ⟨w.heap.size + 1, 5, none⟩ = some (.int .i64 0) := (cell_of_row _ _ 5 _ _ _ HGE6.out.r1).trans rfl
      have n0 := frozen_of_row w6 (w.heap.size + 1) 0 _ _ HGE6.out.r1
      have n1 := frozen_of_row w6 (w.heap.size + 1) 1 _ _ HGE6.out.r1
      have n2 := frozen_of_row w6 (w.heap.size + 1) 2 _ _ HGE6.out.r1
      have n3 := frozen_of_row w6 (w.heap.size + 1) 3 _ _ HGE6.out.r1
      have n4 := frozen_of_row w6 (w.heap.size + 1) 4 _ _ HGE6.out.r1
      have n5 := frozen_of_row w6 (w.heap.size + 1) 5 _ _ HGE6.out.r1
      have o0 : w6.cell? ⟨w.heap.size + 1 + 1, 0, none⟩ = some (.int .i64 0) := (cell_of_row _ _ 0 _ _ _ HGE6.out.r2).trans rfl
      have o1 : w6.cell? ⟨w.heap.size + 1 + 1, 1, none⟩ = some (.slice none 0 0) := (cell_of_row _ _ 1 _ _ _ HGE6.out.r2).trans rfl
      have p0 := frozen_of_row w6 (w.heap.size + 1 + 1) 0 _ _ HGE6.out.r2
      have p1 := frozen_of_row w6 (w.heap.size + 1 + 1) 1 _ _ HGE6.out.r2
      have hx1 : ¬ w1.heap.size = w.heap.size := by omega
      have hx2 : ¬ w1.heap.size = w.heap.size + 1 := by omega
      have hx3 : ¬ w1.heap.size = w.heap.size + 1 + 1 := by omega
      clear hr86 c3 f3
      go_region
      have hA := st_store (B := w.heap.size + 1) HGE6.out.r1 (.int .i64 cap) (.slice ka3 kl3 kc3) (.slice ta3 tl3 tc3) (.int .i64 (hq + 1)) (.int .i64 m) (.int .i64 r)
      have hA2 := st_only w6 (w.heap.size + 1) (.int .i64 cap) (.slice ka3 kl3 kc3) (.slice ta3 tl3 tc3) (.int .i64 (hq + 1)) (.int .i64 m) (.int .i64 r)
      clear m0 m1 m2 m3 m4 m5 n0 n1 n2 n3 n4 n5 o0 o1 p0 p1 k0 k1 k2 k3 k4 k5 l0 l1
      generalize (((((w6.setCell ⟨w.heap.size + 1, 0, none⟩ (.int .i64 cap)).setCell ⟨w.heap.size + 1, 1, none⟩ (.slice ka3 kl3 kc3)).setCell ⟨w.heap.size + 1, 2, none⟩ (.slice ta3 tl3 tc3)).setCell ⟨w.heap.size + 1, 3, none⟩ (.int .i64 (hq + 1))).setCell ⟨w.heap.size + 1, 4, none⟩ (.int .i64 m)).setCell ⟨w.heap.size + 1, 5, none⟩ (.int .i64 r) = w7 at *
      have hz6 := HGE6.out.sz
      have hq5 : ((w7.setCell ⟨w.heap.size + 1 + 1, 0, none⟩ (.int .i64 u.rule)).setCell ⟨w.heap.size + 1 + 1, 1, none⟩ (.slice va vl vc)).drew.heap[w.heap.size + 1 + 1]? = some (.cells #[.int .i64 u.rule, .slice va vl vc] 36 (0, 0)) :=
        (setCell_row 1 (.slice va vl vc) (setCell_row 0 (.int .i64 u.rule) ((hA2.block (w.heap.size + 1 + 1) (by omega)).trans HGE6.out.r2))).trans rfl
      have hB2 : Only (fun x => x = w.heap.size + 1 + 1) w7 ((w7.setCell ⟨w.heap.size + 1 + 1, 0, none⟩ (.int .i64 u.rule)).setCell ⟨w.heap.size + 1 + 1, 1, none⟩ (.slice va vl vc)).drew :=
        (((Only.refl (fun x => x = w.heap.size + 1 + 1) w7).setCell (b := w.heap.size + 1 + 1) rfl 0 _).setCell (b := w.heap.size + 1 + 1) rfl 1 _).drew
      generalize ((w7.setCell ⟨w.heap.size + 1 + 1, 0, none⟩ (.int .i64 u.rule)).setCell ⟨w.heap.size + 1 + 1, 1, none⟩ (.slice va vl vc)).drew = w8 at *
      have hq4 := (hB2.block (w.heap.size + 1) (by omega)).trans hA
      have HA2 := Lib.hid hA2
      have HB2 := Lib.hid hB2
      have HQ4 := Lib.hid hq4
      have HQ5 := Lib.hid hq5
      clear hA hA2 hB2 hq4 hq5
      go_wp2
      have hq4 := HQ4.out
      have hq5 := HQ5.out
      have z0 : w8.cell? ⟨w.heap.size + 1, 0, none⟩ = some (.int .i64 cap) := (cell_of_row _ _ 0 _ _ _ hq4).trans rfl
      have z1 : w8.cell? ⟨w.heap.size + 1, 1, none⟩ = some (.slice ka3 kl3 kc3) := (cell_of_row _ _ 1 _ _ _ hq4).trans rfl
      have z2 : w8.cell? ⟨w.heap.size + 1, 2, none⟩ = some (.slice ta3 tl3 tc3) := (cell_of_row _ _ 2 _ _ _ hq4).trans rfl
      have z3 : w8.cell? ⟨w.heap.size + 1, 3, none⟩ = some (.int .i64 (hq + 1)) := (cell_of_row _ _ 3 _ _ _ hq4).trans rfl
      have z4 : w8.cell? ⟨w.heap.size + 1, 4, none⟩ = some (.int .i64 m) := (cell_of_row _ _ 4 _ _ _ hq4).trans rfl
      have z5 : w8.cell? ⟨w.heap.size + 1, 5, none⟩ = some (.int .i64 r) := (cell_of_row _ _ 5 _ _ _ hq4).trans rfl
      have y0 : w8.cell? ⟨w.heap.size + 1 + 1, 0, none⟩ = some (.int .i64 u.rule) := (cell_of_row _ _ 0 _ _ _ hq5).trans rfl
      have y1 : w8.cell? ⟨w.heap.size + 1 + 1, 1, none⟩ = some (.slice va vl vc) := (cell_of_row _ _ 1 _ _ _ hq5).trans rfl
      refine bodyPost_ret (v := .tuple #[.agg #[.int .i64 cap, .slice ka3 kl3 kc3, .slice ta3 tl3 tc3, .int .i64 (hq + 1), .int .i64 m, .int .i64 r], .agg #[.int .i64 u.rule, .slice va vl vc], .bool true]) (by simp [results, Try.results15, go_sem, z0, z1, z2, z3, z4, z5, y0, y1]; try rfl) rfl ?_
      have hn8 : Near (fun x => x = w.heap.size ∨ x = w.heap.size + 1 ∨ x = w.heap.size + 1 + 1) w5 w8 := (((HON6.out.wide (fun x hx => .inl hx)).trans (HA2.out.wide (fun x hx => .inr (.inl hx)))).trans (HB2.out.wide (fun x hx => .inr (.inr hx)))).near
      have hn6 : Near (fun x => x = w.heap.size + 1 ∨ x = w.heap.size + 1 + 1) w6 w8 := ((HA2.out.wide (fun x hx => .inl hx)).trans (HB2.out.wide (fun x hx => .inr hx))).near
      have hb8 : Below w.heap.size w w8 := Below.stepN HGE6.out.bel hn6 (fun x hx => by rcases hx with hx | hx <;> omega)
      have hz8 := hn8.size
      refine ⟨_, _, _, _, _, _, _, rfl, ?_, HTS.out.kept (Below.keptB hb8 HU.out), hb8⟩
      have S8 := S5.out
      rw [HER.out] at S8
      have hlt5 : ∀ x, (P x ∨ Span (w.heap.size + 3) w5.heap.size x) → x < w5.heap.size := fun x hx => by
        rcases hx with e | e
        · have := HU.out x e; have := HON6.out.size; omega
        · exact e.2
      refine (S8.kept fun x hx => hn8.block x (hlt5 x (HP5.out x hx)) ?_).wide fun x hx => ?_
      · rcases HP5.out x hx with e | e
        · have := HU.out x e
          rintro (h1 | h1 | h1) <;> omega
        · have := e.1
          rintro (h1 | h1 | h1) <;> omega
      · rcases HP5.out x hx with e | e
        · exact .inl e
        · exact .inr ⟨by have := e.1; omega, by have := e.2; omega⟩)
end Go.Proofs.Ytdljffplooplcaa
