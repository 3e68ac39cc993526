/- Put of the reference. -/
import Derived.Test.YtdljffplooplcaaRef
import Derived.Deep.RegionWith
namespace Go.Proofs.Ytdljffplooplcaa
open Go.RowKit
set_option linter.unusedVariables false

theorem FiAt.next {w W W' : World} {cap h m r : Int} {kv tv : Value} {x : Int} {y : Value} (s : FiAt w cap h m r kv tv x y W) (hb : Below W.heap.size W W') : FiAt w cap h m r kv tv x y W' := by
  have hs := s.sz
  have hz := hb.size
  exact ⟨Below.next s.bel hb, by omega, (hb.block _ (by omega)).trans s.r0, (hb.block _ (by omega)).trans s.r1, (hb.block _ (by omega)).trans s.r2⟩
theorem FiAt.drew {w W : World} {cap h m r : Int} {kv tv : Value} {x : Int} {y : Value} (s : FiAt w cap h m r kv tv x y W) : FiAt w cap h m r kv tv x y W.drew := s.next (Below.refl _ _).drew

/-- A state stored whole: the world behind it is a letter. -/
theorem wpList_store_st {ops : Array Oper} {rest : List Oper} {o : Oper} {a : Act} {w : World} {Q : Exit → Act → World → Prop} (hgd : o.guard = none) (x y : Operand) (ho : o.op = .store 32 x y)
    (B : Nat) (x0 x1 x2 x3 x4 x5 : Value) (hx : a.eval x = .pointer (some ⟨B, 0, none⟩)) (hy : a.eval y = .agg #[x0, x1, x2, x3, x4, x5]) {u0 u1 u2 u3 u4 u5 : Value}
    (hg : w.heap[B]? = some (.cells #[u0, u1, u2, u3, u4, u5] 32 (0, 0))) (h1 : (#[x0, x1, x2, x3, x4, x5] : Array Value).all (·.oneCell') = true)
    (h : ∀ w', w'.heap[B]? = some (.cells #[x0, x1, x2, x3, x4, x5] 32 (0, 0)) → Only (fun k => k = B) w w' → wpList Try.prog ops Q rest (a.put o.dst undef) w') : wpList Try.prog ops Q (o :: rest) a w := by
  refine wpList_store_row hgd 32 x y ho B #[x0, x1, x2, x3, x4, x5] hx hy 32 _ hg (by kernel_rfl) rfl h1 (h _ ?_ ⟨rfl, rfl, rfl, by simp, fun k hk => setRow_other w B k _ (fun e => hk e)⟩)
  exact setRow_heap w B _ _ 32 _ hg

set_option maxRecDepth 20000 in
set_option maxHeartbeats 800000 in
theorem putR_any {w : World} {P : Nat → Prop} {ka ta : Option Addr} {kl kc tl tc : Nat} {es : Es} (s : StAt w P ka kl kc ta tl tc es) (hU : Under P w.heap.size) (cap hq m r : Int) (k : ByteArray) (t : T) (v : Value) (hv : ArgsAt w P v t.args) (hts : tsize t ≤ 1000) (hlen : es.length ≤ 900) (hn : (keysE es).Nodup) (hcap : 1 ≤ cap) (hr : 0 ≤ r ∧ r ≤ 1000) :
    Calls Try.prog 13 #[.agg #[.int .i64 cap, .slice ka kl kc, .slice ta tl tc, .int .i64 hq, .int .i64 m, .int .i64 r], .string k, .agg #[.int .i64 t.rule, v]] w (StPost P cap hq m (r + one (fullE cap k es)) (putE cap k t es) w) := by
  obtain ⟨va, vl, vc, rfl⟩ := hv.slice
  obtain ⟨hl1, hl2⟩ := s.lens
  have hnew : FiAt w cap hq m r (.slice ka kl kc) (.slice ta tl tc) t.rule (.slice va vl vc) (((w.alloc (.cells #[.int .i64 cap, .slice ka kl kc, .slice ta tl tc, .int .i64 hq, .int .i64 m, .int .i64 r] 32)).alloc (.cells #[.int .i64 t.rule, .slice va vl vc] 36)).alloc (.cells #[.int .i64 0, .slice none 0 0, .slice none 0 0, .int .i64 0, .int .i64 0, .int .i64 0] 32)) := by
    refine ⟨(((Below.refl _ w).alloc (Nat.le_refl _) _).alloc (by simp) _).alloc (by simp; omega) _, by simp, (Below.heap_alloc _ _ _ (by simp; omega)).trans ((Below.heap_alloc _ _ _ (by simp)).trans (heap_alloc_new _ _)), ?_, ?_⟩
    · refine (Below.heap_alloc _ _ _ (by simp)).trans ?_
      have := heap_alloc_new (w.alloc (.cells #[.int .i64 cap, .slice ka kl kc, .slice ta tl tc, .int .i64 hq, .int .i64 m, .int .i64 r] 32)) (.cells #[.int .i64 t.rule, .slice va vl vc] 36)
      rw [World.size_alloc] at this
      exact this
    · have := heap_alloc_new ((w.alloc (.cells #[.int .i64 cap, .slice ka kl kc, .slice ta tl tc, .int .i64 hq, .int .i64 m, .int .i64 r] 32)).alloc (.cells #[.int .i64 t.rule, .slice va vl vc] 36)) (.cells #[.int .i64 0, .slice none 0 0, .slice none 0 0, .int .i64 0, .int .i64 0, .int .i64 0] 32)
      rw [World.size_alloc, World.size_alloc] at this
      exact this
  have HNEW := Lib.hid hnew
  have hsW : StAt (((w.alloc (.cells #[.int .i64 cap, .slice ka kl kc, .slice ta tl tc, .int .i64 hq, .int .i64 m, .int .i64 r] 32)).alloc (.cells #[.int .i64 t.rule, .slice va vl vc] 36)).alloc (.cells #[.int .i64 0, .slice none 0 0, .slice none 0 0, .int .i64 0, .int .i64 0, .int .i64 0] 32)) P ka kl kc ta tl tc es := s.kept (Below.keptB hnew.bel hU)
  have HPL := Lib.hid (place_any hsW (hU.le hnew.bel.size) cap hq m r k (by omega))
  have HU := Lib.hid hU
  have HS := Lib.hid s
  have HV := Lib.hid hv
  have HN := Lib.hid hn
  have hlk := posN_look (k := k) (es := es)
  obtain ⟨ES, hES⟩ : ∃ ES, putE cap k t es = ES := ⟨_, rfl⟩
  obtain ⟨RR, hRR⟩ : ∃ RR, r + one (fullE cap k es) = RR := ⟨_, rfl⟩
  rw [hES, hRR]
  unfold putE at hES
  unfold fullE at hRR
  rw [← hlk] at hES hRR
  have HES := Lib.hid hES
  have HRR := Lib.hid hRR
  clear hnew hsW hU s hv hn hlk hES hRR
  go_enter Try.func13, Try.ntmps13
  go_wp2_with fail
  refine HPL.out.mono ?_
  generalize (((w.alloc (.cells #[.int .i64 cap, .slice ka kl kc, .slice ta tl tc, .int .i64 hq, .int .i64 m, .int .i64 r] 32)).alloc (.cells #[.int .i64 t.rule, .slice va vl vc] 36)).alloc (.cells #[.int .i64 0, .slice none 0 0, .slice none 0 0, .int .i64 0, .int .i64 0, .int .i64 0] 32)) = W at *
  rintro e w1 ⟨rfl, hb1⟩
  have hfi1 := HNEW.out.next hb1
  have hs1 : StAt w1 P ka kl kc ta tl tc es := HS.out.kept (Below.keptB hfi1.bel HU.out)
  have hU1 : Under P w1.heap.size := HU.out.le hfi1.bel.size
  have a0 : w1.cell? ⟨w.heap.size, 0, none⟩ = some (.int .i64 cap) := (cell_of_row _ _ 0 _ _ _ hfi1.r0).trans rfl
  have a1 : w1.cell? ⟨w.heap.size, 1, none⟩ = some (.slice ka kl kc) := (cell_of_row _ _ 1 _ _ _ hfi1.r0).trans rfl
  have a2 : w1.cell? ⟨w.heap.size, 2, none⟩ = some (.slice ta tl tc) := (cell_of_row _ _ 2 _ _ _ hfi1.r0).trans rfl
  have a3 : w1.cell? ⟨w.heap.size, 3, none⟩ = some (.int .i64 hq) := (cell_of_row _ _ 3 _ _ _ hfi1.r0).trans rfl
  have a4 : w1.cell? ⟨w.heap.size, 4, none⟩ = some (.int .i64 m) := (cell_of_row _ _ 4 _ _ _ hfi1.r0).trans rfl
  have a5 : w1.cell? ⟨w.heap.size, 5, none⟩ = some (.int .i64 r) := (cell_of_row _ _ 5 _ _ _ hfi1.r0).trans rfl
  have t0 : w1.cell? ⟨w.heap.size + 1, 0, none⟩ = some (.int .i64 t.rule) := (cell_of_row _ _ 0 _ _ _ hfi1.r1).trans rfl
  have t1 : w1.cell? ⟨w.heap.size + 1, 1, none⟩ = some (.slice va vl vc) := (cell_of_row _ _ 1 _ _ _ hfi1.r1).trans rfl
  have HFI1 := Lib.hid hfi1
  have HS1 := Lib.hid hs1
  have HU1 := Lib.hid hU1
  have HF32 := Lib.hid (fun (P2 : Nat → Prop) (es2 : Es) (w2 : World) (ka2 : Option Addr) (kl2 kc2 : Nat) (ta2 : Option Addr) (tl2 tc2 : Nat) (r2 : Int) (s2 : StAt w2 P2 ka2 kl2 kc2 ta2 tl2 tc2 es2) (hu2 : Under P2 w2.heap.size) (hp2 : ∀ x, P x → P2 x) (hb2 : Below w.heap.size w w2) (hl2 : es2.length ≤ 1000) =>
    first_any s2 hu2 cap hq m r2 k t (.slice va vl vc) ((HV.out.kept (Below.keptB hb2 HU.out)).wide hp2) hts hl2)
  clear hb1 hfi1 hs1 hU1
  unfold posE
  cases hpos : posN k es with
  | some i =>
    have hi := posN_lt hpos
    have HER := Lib.hid (posN_erase HN.out hpos)
    have hE := HES.out
    have hR := HRR.out
    rw [hpos] at hE hR
    simp only [Option.map_some, Option.isNone_some, Bool.false_and, one, Bool.false_eq_true, if_false, Int.add_zero] at hE hR
    subst hE
    subst hR
    have HW33 := Lib.hid (without_any (w := w1.drew) (P := P) (HS1.out.kept fun _ _ => rfl) HU1.out cap hq m r i hi (by omega))
    clear hpos
    go_wp2_with fail
    go_region_with (first
      | (go_at_call 33; refine HW33.out.mono ?_; rintro e w2 ⟨ka2, kl2, kc2, ta2, tl2, tc2, rfl, s2, hb2⟩; have hfi2 := HFI1.out.drew.next hb2; have t0 : w2.cell? ⟨w.heap.size + 1, 0, none⟩ = some (.int .i64 t.rule) := (cell_of_row _ _ 0 _ _ _ hfi2.r1).trans rfl; have t1 : w2.cell? ⟨w.heap.size + 1, 1, none⟩ = some (.slice va vl vc) := (cell_of_row _ _ 1 _ _ _ hfi2.r1).trans rfl)
      | (go_at_call 32; refine (HF32.out _ _ w2 ka2 kl2 kc2 ta2 tl2 tc2 r s2 (fun x hx => by { rcases hx with e | e; exact HU.out.le hfi2.bel.size x e; exact e.2 }) (fun x hx => .inl hx) hfi2.bel (by rw [List.length_eraseIdx]; split <;> omega)).mono ?_; rintro e w3 ⟨ka3, kl3, kc3, ta3, tl3, tc3, rfl, s3, hb3⟩; have hfi3 := hfi2.next hb3; have q0 : w3.cell? ⟨w.heap.size + 1 + 1, 0, none⟩ = some (.int .i64 0) := (cell_of_row _ _ 0 _ _ _ hfi3.r2).trans rfl; have q1 : w3.cell? ⟨w.heap.size + 1 + 1, 1, none⟩ = some (.slice none 0 0) := (cell_of_row _ _ 1 _ _ _ hfi3.r2).trans rfl; have q2 : w3.cell? ⟨w.heap.size + 1 + 1, 2, none⟩ = some (.slice none 0 0) := (cell_of_row _ _ 2 _ _ _ hfi3.r2).trans rfl; have q3 : w3.cell? ⟨w.heap.size + 1 + 1, 3, none⟩ = some (.int .i64 0) := (cell_of_row _ _ 3 _ _ _ hfi3.r2).trans rfl; have q4 : w3.cell? ⟨w.heap.size + 1 + 1, 4, none⟩ = some (.int .i64 0) := (cell_of_row _ _ 4 _ _ _ hfi3.r2).trans rfl; have q5 : w3.cell? ⟨w.heap.size + 1 + 1, 5, none⟩ = some (.int .i64 0) := (cell_of_row _ _ 5 _ _ _ hfi3.r2).trans rfl; have p0 := frozen_of_row w3 (w.heap.size + 1 + 1) 0 _ _ hfi3.r2; have p1 := frozen_of_row w3 (w.heap.size + 1 + 1) 1 _ _ hfi3.r2; have p2 := frozen_of_row w3 (w.heap.size + 1 + 1) 2 _ _ hfi3.r2; have p3 := frozen_of_row w3 (w.heap.size + 1 + 1) 3 _ _ hfi3.r2; have p4 := frozen_of_row w3 (w.heap.size + 1 + 1) 4 _ _ hfi3.r2; have p5 := frozen_of_row w3 (w.heap.size + 1 + 1) 5 _ _ hfi3.r2))
    all_goals (
      have HFI3 := Lib.hid hfi3
      have S3 := Lib.hid s3
      have P3 := Lib.hid (show ∀ x, ((P x ∨ Span w1.drew.heap.size w2.heap.size x) ∨ Span w2.heap.size w3.heap.size x) → P x ∨ Span (w.heap.size + 3) w3.heap.size x from fun x hx => by
        have z1 := HFI1.out.sz
        have z2 := hfi2.sz
        have z3 := hb2.size
        have z4 := hb3.size
        have z5 : w1.drew.heap.size = w1.heap.size := rfl
        rcases hx with (e | e) | e
        · exact .inl e
        · exact .inr ⟨by have := e.1; omega, by have := e.2; omega⟩
        · exact .inr ⟨by have := e.1; omega, by have := e.2; omega⟩)
      rw [HER.out] at S3
      clear hfi2 hfi3 s2 s3 hb2 hb3
      go_wp2
      have hrow := st_store (B := w.heap.size + 1 + 1) HFI3.out.r2 (.int .i64 cap) (.slice ka3 kl3 kc3) (.slice ta3 tl3 tc3) (.int .i64 hq) (.int .i64 m) (.int .i64 r)
      have hon := st_only w3 (w.heap.size + 1 + 1) (.int .i64 cap) (.slice ka3 kl3 kc3) (.slice ta3 tl3 tc3) (.int .i64 hq) (.int .i64 m) (.int .i64 r)
      generalize (((((w3.setCell ⟨w.heap.size + 1 + 1, 0, none⟩ (.int .i64 cap)).setCell ⟨w.heap.size + 1 + 1, 1, none⟩ (.slice ka3 kl3 kc3)).setCell ⟨w.heap.size + 1 + 1, 2, none⟩ (.slice ta3 tl3 tc3)).setCell ⟨w.heap.size + 1 + 1, 3, none⟩ (.int .i64 hq)).setCell ⟨w.heap.size + 1 + 1, 4, none⟩ (.int .i64 m)).setCell ⟨w.heap.size + 1 + 1, 5, none⟩ (.int .i64 r) = W5 at *
      refine bodyPost_ret (v := .agg #[.int .i64 cap, .slice ka3 kl3 kc3, .slice ta3 tl3 tc3, .int .i64 hq, .int .i64 m, .int .i64 r]) (results_cell_row rfl _ _ (w.heap.size + 1 + 1) 32 #[.int .i64 cap, .slice ka3 kl3 kc3, .slice ta3 tl3 tc3, .int .i64 hq, .int .i64 m, .int .i64 r] (0, 0) _ rfl hrow Try.underlying32 rfl (by kernel_rfl)) rfl ?_
      have hsz5 : w3.heap.size = W5.heap.size := hon.size.symm
      have hb5 : Below w.heap.size w W5 := Below.stepN HFI3.out.bel hon.near (fun x hx => by omega)
      refine ⟨_, _, _, _, _, _, rfl, (S3.out.kept fun x hx => hon.block x ?_).wide fun x hx => ?_, hb5⟩
      · have := P3.out x hx
        rcases this with e | e
        · have := HU.out x e; omega
        · have := e.1; omega
      · rcases P3.out x hx with e | e
        · exact .inl e
        · exact .inr ⟨by have := e.1; omega, by have := e.2; omega⟩)
  | none =>
    have hE := HES.out
    have hR := HRR.out
    rw [hpos] at hE hR
    simp only [Option.map_none, Option.isNone_none, Bool.true_and, hl1] at hE hR
    clear hpos
    by_cases hfull : (kl : Int) = cap
    · rw [if_pos hfull] at hE
      have hd : decide ((kl : Int) = cap) = true := by simp [hfull]
      rw [hd] at hR
      simp only [one, if_true] at hR
      subst hE
      subst hR
      have hkl1 : ((kl : Int) - 1) = ((kl - 1 : Nat) : Int) := by omega
      have hdl : es.eraseIdx (kl - 1) = es.dropLast := by rw [← hl1, List.eraseIdx_length_sub_one]
      have HW33 := without_any HS1.out HU1.out cap hq m r (kl - 1) (by omega) (by omega)
      rw [← hkl1, hdl, hfull] at HW33
      have HW33 := Lib.hid HW33
      have hklb : kl ≤ 900 := by omega
      have hklp : 1 ≤ kl := by omega
      have hklq : (0 : Int) ≤ (kl : Int) - 1 := by omega
      clear hd hkl1 hdl
      go_wp2_with fail
      refine HW33.out.mono ?_
      rintro e w2 ⟨ka2, kl2, kc2, ta2, tl2, tc2, rfl, s2, hb2⟩
      have hfi2 := HFI1.out.next hb2
      have hls := s2.lens
      have HFI2 := Lib.hid hfi2
      have S2 := Lib.hid s2
      have HB2 := Lib.hid hb2
      clear hfi2 s2 hb2
      rename_i K aK
      refine aK _ _ ?_
      refine wpList_store_st rfl (.tmp 3) (.tmp 30) rfl w.heap.size (.int .i64 cap) (.slice ka2 kl2 kc2) (.slice ta2 tl2 tc2) (.int .i64 hq) (.int .i64 m) (.int .i64 r) rfl rfl HFI2.out.r0 (by simp [Value.oneCell']) ?_
      intro w4 hr4 ho4
      have c5 : w4.cell? ⟨w.heap.size, 5, none⟩ = some (.int .i64 r) := (cell_of_row _ _ 5 _ _ _ hr4).trans rfl
      have c0 : w4.cell? ⟨w.heap.size, 0, none⟩ = some (.int .i64 cap) := (cell_of_row _ _ 0 _ _ _ hr4).trans rfl
      have c1 : w4.cell? ⟨w.heap.size, 1, none⟩ = some (.slice ka2 kl2 kc2) := (cell_of_row _ _ 1 _ _ _ hr4).trans rfl
      have c2 : w4.cell? ⟨w.heap.size, 2, none⟩ = some (.slice ta2 tl2 tc2) := (cell_of_row _ _ 2 _ _ _ hr4).trans rfl
      have c3 : w4.cell? ⟨w.heap.size, 3, none⟩ = some (.int .i64 hq) := (cell_of_row _ _ 3 _ _ _ hr4).trans rfl
      have c4 : w4.cell? ⟨w.heap.size, 4, none⟩ = some (.int .i64 m) := (cell_of_row _ _ 4 _ _ _ hr4).trans rfl
      have f5 := frozen_of_row w4 w.heap.size 5 _ _ hr4
      have d0 : w4.cell? ⟨w.heap.size + 1, 0, none⟩ = some (.int .i64 t.rule) := (cell_of_row _ _ 0 _ _ _ ((ho4.block _ (by omega)).trans HFI2.out.r1)).trans rfl
      have d1 : w4.cell? ⟨w.heap.size + 1, 1, none⟩ = some (.slice va vl vc) := (cell_of_row _ _ 1 _ _ _ ((ho4.block _ (by omega)).trans HFI2.out.r1)).trans rfl
      have HR4 := Lib.hid hr4
      have HO4 := Lib.hid ho4
      clear hr4 ho4 a0 a1 a2 a3 a4 a5 t0 t1
      go_wp2_with fail
      have hon5 : Only (fun x => x = w.heap.size) w2 (w4.setCell ⟨w.heap.size, 5, none⟩ (.int .i64 (r + 1))) := HO4.out.setCell (b := w.heap.size) rfl 5 (.int .i64 (r + 1))
      have hr5 : (w4.setCell ⟨w.heap.size, 5, none⟩ (.int .i64 (r + 1))).heap[w.heap.size]? = some (.cells #[.int .i64 cap, .slice ka2 kl2 kc2, .slice ta2 tl2 tc2, .int .i64 hq, .int .i64 m, .int .i64 (r + 1)] 32 (0, 0)) := (setCell_row 5 (.int .i64 (r + 1)) HR4.out).trans rfl
      generalize w4.setCell ⟨w.heap.size, 5, none⟩ (.int .i64 (r + 1)) = w5 at *
      have hz2 := HFI2.out.sz
      have hz5 := hon5.size
      have hfi5 : FiAt w cap hq m (r + 1) (.slice ka2 kl2 kc2) (.slice ta2 tl2 tc2) t.rule (.slice va vl vc) w5 :=
        ⟨Below.stepN HFI2.out.bel hon5.near (fun x hx => by omega), by omega, hr5, (hon5.block _ (by omega)).trans HFI2.out.r1, (hon5.block _ (by omega)).trans HFI2.out.r2⟩
      have hz1 := HFI1.out.sz
      have s5 := S2.out.kept (w' := w5) fun x hx => hon5.block x (by
        rcases hx with e | e
        · have := HU.out x e; omega
        · have := e.1; omega)
      have HF := Lib.hid (HF32.out _ _ w5 ka2 kl2 kc2 ta2 tl2 tc2 (r + 1) s5 (fun x hx => by
        rcases hx with e | e
        · exact HU.out.le hfi5.bel.size x e
        · have := e.2; omega) (fun x hx => .inl hx) hfi5.bel (by rw [List.length_dropLast]; omega))
      have HFI5 := Lib.hid hfi5
      clear hon5 hr5 hfi5 s5 c0 c1 c2 c3 c4 c5 f5 d0 d1
      refine HF.out.mono ?_
      rintro e w3 ⟨ka3, kl3, kc3, ta3, tl3, tc3, rfl, s3, hb3⟩
      have hfi3 := HFI5.out.next hb3
      have q0 : w3.cell? ⟨w.heap.size + 1 + 1, 0, none⟩ = some (.int .i64 0) := (cell_of_row _ _ 0 _ _ _ hfi3.r2).trans rfl
      have q1 : w3.cell? ⟨w.heap.size + 1 + 1, 1, none⟩ = some (.slice none 0 0) := (cell_of_row _ _ 1 _ _ _ hfi3.r2).trans rfl
      have q2 : w3.cell? ⟨w.heap.size + 1 + 1, 2, none⟩ = some (.slice none 0 0) := (cell_of_row _ _ 2 _ _ _ hfi3.r2).trans rfl
      have q3 : w3.cell? ⟨w.heap.size + 1 + 1, 3, none⟩ = some (.int .i64 0) := (cell_of_row _ _ 3 _ _ _ hfi3.r2).trans rfl
      have q4 : w3.cell? ⟨w.heap.size + 1 + 1, 4, none⟩ = some (.int .i64 0) := (cell_of_row _ _ 4 _ _ _ hfi3.r2).trans rfl
      have q5 : w3.cell? ⟨w.heap.size + 1 + 1, 5, none⟩ = some (.int .i64 0) := (cell_of_row _ _ 5 _ _ _ hfi3.r2).trans rfl
      have p0 := frozen_of_row w3 (w.heap.size + 1 + 1) 0 _ _ hfi3.r2
      have p1 := frozen_of_row w3 (w.heap.size + 1 + 1) 1 _ _ hfi3.r2
      have p2 := frozen_of_row w3 (w.heap.size + 1 + 1) 2 _ _ hfi3.r2
      have p3 := frozen_of_row w3 (w.heap.size + 1 + 1) 3 _ _ hfi3.r2
      have p4 := frozen_of_row w3 (w.heap.size + 1 + 1) 4 _ _ hfi3.r2
      have p5 := frozen_of_row w3 (w.heap.size + 1 + 1) 5 _ _ hfi3.r2
      have HFI3 := Lib.hid hfi3
      have S3 := Lib.hid s3
      have P3 := Lib.hid (show ∀ x, ((P x ∨ Span w1.heap.size w2.heap.size x) ∨ Span w5.heap.size w3.heap.size x) → P x ∨ Span (w.heap.size + 3) w3.heap.size x from fun x hx => by
        have z4 := hb3.size
        rcases hx with (e | e) | e
        · exact .inl e
        · exact .inr ⟨by have := e.1; omega, by have := e.2; omega⟩
        · exact .inr ⟨by have := e.1; omega, by have := e.2; omega⟩)
      clear hfi3 s3 hb3 hz1 hz2 hz5
      go_wp2
      have hrow := st_store (B := w.heap.size + 1 + 1) HFI3.out.r2 (.int .i64 cap) (.slice ka3 kl3 kc3) (.slice ta3 tl3 tc3) (.int .i64 hq) (.int .i64 m) (.int .i64 (r + 1))
      have hon := st_only w3 (w.heap.size + 1 + 1) (.int .i64 cap) (.slice ka3 kl3 kc3) (.slice ta3 tl3 tc3) (.int .i64 hq) (.int .i64 m) (.int .i64 (r + 1))
      generalize (((((w3.setCell ⟨w.heap.size + 1 + 1, 0, none⟩ (.int .i64 cap)).setCell ⟨w.heap.size + 1 + 1, 1, none⟩ (.slice ka3 kl3 kc3)).setCell ⟨w.heap.size + 1 + 1, 2, none⟩ (.slice ta3 tl3 tc3)).setCell ⟨w.heap.size + 1 + 1, 3, none⟩ (.int .i64 hq)).setCell ⟨w.heap.size + 1 + 1, 4, none⟩ (.int .i64 m)).setCell ⟨w.heap.size + 1 + 1, 5, none⟩ (.int .i64 (r + 1)) = W5 at *
      refine bodyPost_ret (v := .agg #[.int .i64 cap, .slice ka3 kl3 kc3, .slice ta3 tl3 tc3, .int .i64 hq, .int .i64 m, .int .i64 (r + 1)]) (results_cell_row rfl _ _ (w.heap.size + 1 + 1) 32 #[.int .i64 cap, .slice ka3 kl3 kc3, .slice ta3 tl3 tc3, .int .i64 hq, .int .i64 m, .int .i64 (r + 1)] (0, 0) _ rfl hrow Try.underlying32 rfl (by kernel_rfl)) rfl ?_
      have hsz5 : w3.heap.size = W5.heap.size := hon.size.symm
      have hb5 : Below w.heap.size w W5 := Below.stepN HFI3.out.bel hon.near (fun x hx => by omega)
      refine ⟨_, _, _, _, _, _, rfl, (S3.out.kept fun x hx => hon.block x ?_).wide fun x hx => ?_, hb5⟩
      · have := P3.out x hx
        rcases this with e | e
        · have := HU.out x e; omega
        · have := e.1; omega
      · rcases P3.out x hx with e | e
        · exact .inl e
        · exact .inr ⟨by have := e.1; omega, by have := e.2; omega⟩
    · rw [if_neg hfull] at hE
      have hd : decide ((kl : Int) = cap) = false := by simp [hfull]
      rw [hd] at hR
      simp only [one, Bool.false_eq_true, if_false, Int.add_zero] at hR
      subst hE
      subst hR
      have HF := Lib.hid (HF32.out P es w1 ka kl kc ta tl tc r HS1.out HU1.out (fun x hx => hx) HFI1.out.bel (by omega))
      clear hd
      go_wp2_with fail
      refine HF.out.mono ?_
      rintro e w3 ⟨ka3, kl3, kc3, ta3, tl3, tc3, rfl, s3, hb3⟩
      have hfi3 := HFI1.out.next hb3
      have q0 : w3.cell? ⟨w.heap.size + 1 + 1, 0, none⟩ = some (.int .i64 0) := (cell_of_row _ _ 0 _ _ _ hfi3.r2).trans rfl
      have q1 : w3.cell? ⟨w.heap.size + 1 + 1, 1, none⟩ = some (.slice none 0 0) := (cell_of_row _ _ 1 _ _ _ hfi3.r2).trans rfl
      have q2 : w3.cell? ⟨w.heap.size + 1 + 1, 2, none⟩ = some (.slice none 0 0) := (cell_of_row _ _ 2 _ _ _ hfi3.r2).trans rfl
      have q3 : w3.cell? ⟨w.heap.size + 1 + 1, 3, none⟩ = some (.int .i64 0) := (cell_of_row _ _ 3 _ _ _ hfi3.r2).trans rfl
      have q4 : w3.cell? ⟨w.heap.size + 1 + 1, 4, none⟩ = some (.int .i64 0) := (cell_of_row _ _ 4 _ _ _ hfi3.r2).trans rfl
      have q5 : w3.cell? ⟨w.heap.size + 1 + 1, 5, none⟩ = some (.int .i64 0) := (cell_of_row _ _ 5 _ _ _ hfi3.r2).trans rfl
      have p0 := frozen_of_row w3 (w.heap.size + 1 + 1) 0 _ _ hfi3.r2
      have p1 := frozen_of_row w3 (w.heap.size + 1 + 1) 1 _ _ hfi3.r2
      have p2 := frozen_of_row w3 (w.heap.size + 1 + 1) 2 _ _ hfi3.r2
      have p3 := frozen_of_row w3 (w.heap.size + 1 + 1) 3 _ _ hfi3.r2
      have p4 := frozen_of_row w3 (w.heap.size + 1 + 1) 4 _ _ hfi3.r2
      have p5 := frozen_of_row w3 (w.heap.size + 1 + 1) 5 _ _ hfi3.r2
      have HFI3 := Lib.hid hfi3
      have S3 := Lib.hid s3
      have P3 := Lib.hid (show ∀ x, (P x ∨ Span w1.heap.size w3.heap.size x) → P x ∨ Span (w.heap.size + 3) w3.heap.size x from fun x hx => by
        have z1 := HFI1.out.sz
        rcases hx with e | e
        · exact .inl e
        · exact .inr ⟨by have := e.1; omega, by have := e.2; omega⟩)
      clear hfi3 s3 hb3
      go_wp2
      have hrow := st_store (B := w.heap.size + 1 + 1) HFI3.out.r2 (.int .i64 cap) (.slice ka3 kl3 kc3) (.slice ta3 tl3 tc3) (.int .i64 hq) (.int .i64 m) (.int .i64 r)
      have hon := st_only w3 (w.heap.size + 1 + 1) (.int .i64 cap) (.slice ka3 kl3 kc3) (.slice ta3 tl3 tc3) (.int .i64 hq) (.int .i64 m) (.int .i64 r)
      generalize (((((w3.setCell ⟨w.heap.size + 1 + 1, 0, none⟩ (.int .i64 cap)).setCell ⟨w.heap.size + 1 + 1, 1, none⟩ (.slice ka3 kl3 kc3)).setCell ⟨w.heap.size + 1 + 1, 2, none⟩ (.slice ta3 tl3 tc3)).setCell ⟨w.heap.size + 1 + 1, 3, none⟩ (.int .i64 hq)).setCell ⟨w.heap.size + 1 + 1, 4, none⟩ (.int .i64 m)).setCell ⟨w.heap.size + 1 + 1, 5, none⟩ (.int .i64 r) = W5 at *
      refine bodyPost_ret (v := .agg #[.int .i64 cap, .slice ka3 kl3 kc3, .slice ta3 tl3 tc3, .int .i64 hq, .int .i64 m, .int .i64 r]) (results_cell_row rfl _ _ (w.heap.size + 1 + 1) 32 #[.int .i64 cap, .slice ka3 kl3 kc3, .slice ta3 tl3 tc3, .int .i64 hq, .int .i64 m, .int .i64 r] (0, 0) _ rfl hrow Try.underlying32 rfl (by kernel_rfl)) rfl ?_
      have hsz5 : w3.heap.size = W5.heap.size := hon.size.symm
      have hb5 : Below w.heap.size w W5 := Below.stepN HFI3.out.bel hon.near (fun x hx => by omega)
      refine ⟨_, _, _, _, _, _, rfl, (S3.out.kept fun x hx => hon.block x ?_).wide fun x hx => ?_, hb5⟩
      · have := P3.out x hx
        rcases this with e | e
        · have := HU.out x e; omega
        · have := e.1; omega
      · rcases P3.out x hx with e | e
        · exact .inl e
        · exact .inr ⟨by have := e.1; omega, by have := e.2; omega⟩
end Go.Proofs.Ytdljffplooplcaa
