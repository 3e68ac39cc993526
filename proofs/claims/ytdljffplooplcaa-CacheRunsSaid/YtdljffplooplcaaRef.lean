/- place, Clear, New and Peek of the reference. -/
import Derived.Test.YtdljffplooplcaaFirst
import Derived.Handy
namespace Go.Proofs.Ytdljffplooplcaa
open Go.RowKit
set_option linter.unusedVariables false

/-- a key's position -/
def posN (k : ByteArray) : Es → Option Nat
  | [] => none
  | p :: r => if p.1 = k then some 0 else (posN k r).map (· + 1)
def posE (k : ByteArray) (es : Es) : Int := match posN k es with | some i => i | none => -1
theorem posN_found {k : ByteArray} : ∀ {es : Es} {j : Nat}, j < es.length → (keysE es).getD j ⟨#[]⟩ = k → (∀ x, x < j → (keysE es).getD x ⟨#[]⟩ ≠ k) → posN k es = some j
  | [], j, hj, _, _ => by simp at hj
  | p :: r, 0, _, he, _ => by
    have : p.1 = k := he
    simp [posN, this]
  | p :: r, j + 1, hj, he, hno => by
    have h0 : p.1 ≠ k := hno 0 (by omega)
    have h1 := posN_found (es := r) (j := j) (by simpa using hj) he (fun x hx => hno (x + 1) (by omega))
    unfold posN
    rw [if_neg h0, h1]
    rfl
theorem posN_none {k : ByteArray} : ∀ {es : Es}, (∀ x, x < es.length → (keysE es).getD x ⟨#[]⟩ ≠ k) → posN k es = none
  | [], _ => rfl
  | p :: r, hno => by
    have h0 : p.1 ≠ k := hno 0 (by simp)
    have h1 := posN_none (es := r) (fun x hx => hno (x + 1) (by simpa using hx))
    unfold posN
    rw [if_neg h0, h1]
    rfl
theorem posN_look {k : ByteArray} : ∀ {es : Es}, (posN k es).map (fun i => (es.getD i (⟨#[]⟩, .node 0 [])).2) = lookE k es
  | [] => rfl
  | p :: r => by
    rw [look_cons]
    unfold posN
    by_cases h : p.1 = k
    · rw [if_pos h, if_pos h]; rfl
    · rw [if_neg h, if_neg h, ← posN_look (es := r), Option.map_map]
      rfl
theorem posN_lt {k : ByteArray} : ∀ {es : Es} {i : Nat}, posN k es = some i → i < es.length
  | [], i, h => by simp [posN] at h
  | p :: r, i, h => by
    unfold posN at h
    by_cases e : p.1 = k
    · rw [if_pos e] at h; cases h; simp
    · rw [if_neg e] at h
      cases hp : posN k r with
      | none => rw [hp] at h; cases h
      | some j =>
        rw [hp] at h
        cases h
        have := posN_lt hp
        simpa using this
theorem posN_erase {k : ByteArray} : ∀ {es : Es} {i : Nat}, (keysE es).Nodup → posN k es = some i → es.eraseIdx i = outE k es
  | [], i, _, h => by simp [posN] at h
  | p :: r, i, hn, h => by
    have hn2 : p.1 ∉ keysE r ∧ (keysE r).Nodup := by simpa [keysE] using hn
    unfold posN at h
    by_cases e : p.1 = k
    · rw [if_pos e] at h
      cases h
      have : outE k (p :: r) = outE k r := by simp [outE, e]
      rw [this, out_none (e ▸ hn2.1)]
      rfl
    · rw [if_neg e] at h
      cases hp : posN k r with
      | none => rw [hp] at h; cases h
      | some j =>
        rw [hp] at h
        cases h
        have : outE k (p :: r) = p :: outE k r := by simp [outE, e]
        rw [this, ← posN_erase hn2.2 hp]
        rfl

set_option maxHeartbeats 1000000 in
theorem place_any {w : World} {P : Nat → Prop} {ka ta : Option Addr} {kl kc tl tc : Nat} {es : Es} (s : StAt w P ka kl kc ta tl tc es) (hU : Under P w.heap.size) (cap h m r : Int) (k : ByteArray) (hlen : es.length ≤ 1000) :
    Calls Try.prog 31 #[.agg #[.int .i64 cap, .slice ka kl kc, .slice ta tl tc, .int .i64 h, .int .i64 m, .int .i64 r], .string k] w (OneI (posE k es) w) := by
  obtain ⟨hl1, hl2⟩ := s.lens
  obtain ⟨⟨kb, ko, hk⟩, ht, htn, hsm⟩ := s
  have hkc := hk.hcap
  have hkm : kc ≤ 9223372036854775807 := by have := hk.hmax; unfold maxLen at this; omega
  have hlk : kl ≤ 1000 := by omega
  have HK := Lib.hid hk
  have HU := Lib.hid hU
  have hr0 := heap_alloc_new w (.cells #[.int .i64 cap, .slice ka kl kc, .slice ta tl tc, .int .i64 h, .int .i64 m, .int .i64 r] 32)
  have hal : Below w.heap.size w (w.alloc (.cells #[.int .i64 cap, .slice ka kl kc, .slice ta tl tc, .int .i64 h, .int .i64 m, .int .i64 r] 32)) := (Below.refl _ _).alloc (Nat.le_refl _) _
  have HR0 := Lib.hid hr0
  have HAL := Lib.hid hal
  clear hk ht htn hsm hU hr0 hal
  go_enter Try.func31, Try.ntmps31
  go_wp2
  go_loopw [5] (fun i wr => ∃ j : Nat, j ≤ kl ∧ i = .int .i64 j ∧ Below w.heap.size w wr ∧ wr.heap[w.heap.size]? = some (.cells #[.int .i64 cap, .slice ka kl kc, .slice ta tl tc, .int .i64 h, .int .i64 m, .int .i64 r] 32 (0, 0)) ∧ ∀ x, x < j → (keysE es).getD x ⟨#[]⟩ ≠ k) (fun i _ => kl - (intOf i).toNat)
  case atStart => exact ⟨0, by omega, rfl, HAL.out, HR0.out, fun x hx => by omega⟩
  case round =>
    obtain ⟨j, hj, rfl, hbel, hrow, hno⟩ := hrel
    have c1 : wr.cell? ⟨w.heap.size, 1, none⟩ = some (.slice ka kl kc) := (cell_of_row _ _ 1 _ _ _ hrow).trans rfl
    have HROW := Lib.hid hrow
    have HBEL := Lib.hid hbel
    have HNO := Lib.hid hno
    by_cases hjl : j < kl
    · obtain ⟨rfl, hkb⟩ := HK.out.ha (by omega)
      have d1 : wr.cell? ⟨kb, ko + j, none⟩ = some (.string ((keysE es).getD j ⟨#[]⟩)) := ((HK.out.kept (Below.keptB hbel HU.out)).hc j hjl)
      clear hrow hbel hno
      by_cases he : (keysE es).getD j ⟨#[]⟩ = k
      · have hst : (((keysE es).getD j ⟨#[]⟩).toList == k.toList) = true := by rw [str_beq]; exact decide_eq_true he
        have hpos : posE k es = j := by
          unfold posE
          rw [posN_found (by omega) he HNO.out]
        have HPOS := Lib.hid hpos
        clear hpos
        generalize (keysE es).getD j ⟨#[]⟩ = s1 at *
        go_wp2
        go_ret
        exact ⟨by rw [HPOS.out]; rfl, HBEL.out⟩
      · have hst : (((keysE es).getD j ⟨#[]⟩).toList == k.toList) = false := by rw [str_beq]; exact decide_eq_false he
        have hno2 : ∀ x, x < j + 1 → (keysE es).getD x ⟨#[]⟩ ≠ k := fun x hx => by
          by_cases e : x = j
          · subst e; exact he
          · exact HNO.out x (by omega)
        have HNO2 := Lib.hid hno2
        clear hno2
        generalize (keysE es).getD j ⟨#[]⟩ = s1 at *
        go_wp2
        go_roundw
        case rel => exact ⟨j + 1, by omega, by go_num, HBEL.out, HROW.out, HNO2.out⟩
        case measure => simp [intOf]; omega
    · have hj' : j = kl := by omega
      have hkl : ¬ (j : Int) < kl := by omega
      have hpos : posE k es = -1 := by
        unfold posE
        rw [posN_none fun x hx => HNO.out x (by omega)]
      have HPOS := Lib.hid hpos
      clear hrow hbel hno hpos
      go_wp2
      go_ret
      exact ⟨by rw [HPOS.out]; rfl, HBEL.out⟩

theorem clearR_any {w : World} {P : Nat → Prop} {ka ta : Option Addr} {kl kc tl tc : Nat} {es : Es} (cap h m r : Int) :
    Calls Try.prog 20 #[.agg #[.int .i64 cap, .slice ka kl kc, .slice ta tl tc, .int .i64 h, .int .i64 m, .int .i64 r]] w (StPost P cap h m r [] w) := by
  go_enter Try.func20, Try.ntmps20
  go_wp2
  have hrow := heap_alloc_new (w.alloc (.cells #[.int .i64 cap, .slice none 0 0, .slice none 0 0, .int .i64 h, .int .i64 m, .int .i64 r] 32)) (.cells #[.int .i64 cap, .slice none 0 0, .slice none 0 0, .int .i64 h, .int .i64 m, .int .i64 r] 32)
  rw [World.size_alloc] at hrow
  refine bodyPost_ret (v := .agg #[.int .i64 cap, .slice none 0 0, .slice none 0 0, .int .i64 h, .int .i64 m, .int .i64 r]) (results_cell_row rfl _ _ (w.heap.size + 1) 32 #[.int .i64 cap, .slice none 0 0, .slice none 0 0, .int .i64 h, .int .i64 m, .int .i64 r] (0, 0) _ rfl hrow Try.underlying32 rfl (by kernel_rfl)) rfl ?_
  exact ⟨_, _, _, _, _, _, rfl, ⟨⟨0, 0, rfl, Nat.le_refl _, by unfold maxLen; omega, fun _ => rfl, fun h => by omega, fun i h => by omega⟩, ArgsAt.nil _ _, fun _ => rfl, fun p hp => by simp at hp⟩, ((Below.refl _ _).alloc (Nat.le_refl _) _).alloc (by simp) _⟩
theorem newR_yes (cap : Int) (h1 : 1 ≤ cap) (h2 : cap ≤ 4096) (w : World) : Calls Try.prog 11 #[.int .i64 cap] w fun e w' => e = .returned (.tuple #[.agg #[.int .i64 cap, .slice none 0 0, .slice none 0 0, .int .i64 0, .int .i64 0, .int .i64 0], .int .i64 0]) ∧ Below w.heap.size w w' := by
  go_enter Try.func11, Try.ntmps11
  go_wp2
  go_returns
  exact ⟨rfl, (Below.refl _ _).alloc (Nat.le_refl _) _⟩
theorem newR_no (cap : Int) (h : cap < 1 ∨ 4096 < cap) (w : World) : Calls Try.prog 11 #[.int .i64 cap] w fun e w' => e = .returned (.tuple #[.agg #[.int .i64 0, .slice none 0 0, .slice none 0 0, .int .i64 0, .int .i64 0, .int .i64 0], .int .i64 1]) ∧ Below w.heap.size w w' := by
  rcases h with h | h
  · go_enter Try.func11, Try.ntmps11
    go_wp2
    go_returns
    exact ⟨rfl, (Below.refl _ _).alloc (Nat.le_refl _) _⟩
  · have h2 : ¬ cap < 1 := by omega
    go_enter Try.func11, Try.ntmps11
    go_wp2
    go_returns
    exact ⟨rfl, (Below.refl _ _).alloc (Nat.le_refl _) _⟩

/-- A term of the reference's, and whether it is there. -/
def GivesR (P : Nat → Prop) (o : Option T) (w : World) (e : Ending) (w' : World) : Prop :=
  ∃ v', e = .returned (.tuple #[.agg #[.int .i64 (o.getD (.node 0 [])).rule, v'], .bool o.isSome]) ∧ ArgsAt w' P v' (o.getD (.node 0 [])).args ∧ Below w.heap.size w w'

set_option maxHeartbeats 1000000 in
theorem peekR_any {w : World} {P : Nat → Prop} {ka ta : Option Addr} {kl kc tl tc : Nat} {es : Es} (s : StAt w P ka kl kc ta tl tc es) (hU : Under P w.heap.size) (cap h m r : Int) (k : ByteArray) (hlen : es.length ≤ 1000) :
    Calls Try.prog 18 #[.agg #[.int .i64 cap, .slice ka kl kc, .slice ta tl tc, .int .i64 h, .int .i64 m, .int .i64 r], .string k] w (GivesR P (lookE k es) w) := by
  obtain ⟨hl1, hl2⟩ := s.lens
  have hal : Below w.heap.size w ((w.alloc (.cells #[.int .i64 cap, .slice ka kl kc, .slice ta tl tc, .int .i64 h, .int .i64 m, .int .i64 r] 32)).alloc (.cells #[.int .i64 0, .slice none 0 0] 36)) := ((Below.refl _ _).alloc (Nat.le_refl _) _).alloc (by simp) _
  have hr0 : ((w.alloc (.cells #[.int .i64 cap, .slice ka kl kc, .slice ta tl tc, .int .i64 h, .int .i64 m, .int .i64 r] 32)).alloc (.cells #[.int .i64 0, .slice none 0 0] 36)).heap[w.heap.size]? = some (.cells #[.int .i64 cap, .slice ka kl kc, .slice ta tl tc, .int .i64 h, .int .i64 m, .int .i64 r] 32 (0, 0)) := (Below.heap_alloc _ _ _ (by simp)).trans (heap_alloc_new _ _)
  have hr1 : ((w.alloc (.cells #[.int .i64 cap, .slice ka kl kc, .slice ta tl tc, .int .i64 h, .int .i64 m, .int .i64 r] 32)).alloc (.cells #[.int .i64 0, .slice none 0 0] 36)).heap[w.heap.size + 1]? = some (.cells #[.int .i64 0, .slice none 0 0] 36 (0, 0)) := by
    have := heap_alloc_new (w.alloc (.cells #[.int .i64 cap, .slice ka kl kc, .slice ta tl tc, .int .i64 h, .int .i64 m, .int .i64 r] 32)) (.cells #[.int .i64 0, .slice none 0 0] 36)
    rwa [World.size_alloc] at this
  have HP := Lib.hid (place_any (s.kept (Below.keptB hal hU)) (hU.le hal.size) cap h m r k hlen)
  have S := Lib.hid s
  have HU := Lib.hid hU
  have HAL := Lib.hid hal
  have HR0 := Lib.hid hr0
  have HR1 := Lib.hid hr1
  unfold GivesR
  clear s hU hal hr0 hr1
  go_enter Try.func18, Try.ntmps18
  go_wp2_with fail
  refine HP.out.mono ?_
  generalize (w.alloc (.cells #[.int .i64 cap, .slice ka kl kc, .slice ta tl tc, .int .i64 h, .int .i64 m, .int .i64 r] 32)).alloc (.cells #[.int .i64 0, .slice none 0 0] 36) = W at *
  rintro e w1 ⟨rfl, hb1⟩
  have hlt1 := (Array.getElem?_eq_some_iff.1 HR1.out).1
  have hr0 := (hb1.block w.heap.size (by omega)).trans HR0.out
  have hr1 := (hb1.block (w.heap.size + 1) hlt1).trans HR1.out
  have HB := Lib.hid (Below.next HAL.out hb1)
  have c2 : w1.cell? ⟨w.heap.size, 2, none⟩ = some (.slice ta tl tc) := (cell_of_row _ _ 2 _ _ _ hr0).trans rfl
  have q0 : w1.cell? ⟨w.heap.size + 1, 0, none⟩ = some (.int .i64 0) := (cell_of_row _ _ 0 _ _ _ hr1).trans rfl
  have q1 : w1.cell? ⟨w.heap.size + 1, 1, none⟩ = some (.slice none 0 0) := (cell_of_row _ _ 1 _ _ _ hr1).trans rfl
  have p0 := frozen_of_row w1 (w.heap.size + 1) 0 _ _ hr1
  have p1 := frozen_of_row w1 (w.heap.size + 1) 1 _ _ hr1
  have HR1' := Lib.hid hr1
  have hlk := posN_look (k := k) (es := es)
  clear hb1 hr0 hr1 hlt1
  unfold posE
  cases hpos : posN k es with
  | none =>
    rw [hpos] at hlk
    have HLK := Lib.hid hlk
    clear hlk hpos
    simp only
    go_wp2
    have g0 : (w1.setCell ⟨w.heap.size + 1, 0, none⟩ (.int .i64 0)).cell? ⟨w.heap.size + 1, 0, none⟩ = some (.int .i64 0) := World.cell?_setCell_same _ _ _ q0
    have g1 : ((w1.setCell ⟨w.heap.size + 1, 0, none⟩ (.int .i64 0)).setCell ⟨w.heap.size + 1, 1, none⟩ (.slice none 0 0)).cell? ⟨w.heap.size + 1, 1, none⟩ = some (.slice none 0 0) :=
      World.cell?_setCell_same _ _ _ ((World.cell?_setCell_other _ _ _ _ (by simp)).trans q1)
    refine bodyPost_ret (v := .tuple #[.agg #[.int .i64 0, .slice none 0 0], .bool false]) (by simp [results, Try.results18, go_sem, g0, g1]; try rfl) rfl ?_
    have hbf : Below w.heap.size w ((w1.setCell ⟨w.heap.size + 1, 0, none⟩ (.int .i64 0)).setCell ⟨w.heap.size + 1, 1, none⟩ (.slice none 0 0)) := (HB.out.setCell (by show w.heap.size ≤ w.heap.size + 1; omega) _).setCell (by show w.heap.size ≤ w.heap.size + 1; omega) _
    rw [← HLK.out]
    exact ⟨_, rfl, ArgsAt.nil _ _, hbf⟩
  | some i =>
    have hi := posN_lt hpos
    rw [hpos, Option.map_some] at hlk
    obtain ⟨tb, to, vs, htt⟩ := S.out.terms.terms
    obtain ⟨rfl, htb⟩ := htt.ha (by omega)
    have hk1 := htt.kept (Below.keptB HB.out HU.out)
    have t0 := hk1.hr i (by omega)
    have t1 := hk1.hv i (by omega)
    have ts := hk1.hs i (by omega)
    have hrd : (es.map (·.2)).getD i default = (es.getD i (⟨#[]⟩, .node 0 [])).2 := by simp [List.getD, hi]
    rw [hrd] at t0 ts
    have htc := htt.hcap
    have htm : tc ≤ 9223372036854775807 := by have := htt.hmax; unfold maxLen at this; omega
    have hit : i < tl := by omega
    obtain ⟨va, vl, vc, hva⟩ := ts.slice
    rw [hva] at t1 ts
    have HLK := Lib.hid hlk
    have HTS := Lib.hid ts
    generalize (es.getD i (⟨#[]⟩, .node 0 [])).2 = u at *
    clear hlk hpos htt hk1 ts hrd hva
    simp only
    go_wp2
    have g0 : (w1.setCell ⟨w.heap.size + 1, 0, none⟩ (.int .i64 u.rule)).cell? ⟨w.heap.size + 1, 0, none⟩ = some (.int .i64 u.rule) := World.cell?_setCell_same _ _ _ q0
    have g1 : ((w1.setCell ⟨w.heap.size + 1, 0, none⟩ (.int .i64 u.rule)).setCell ⟨w.heap.size + 1, 1, none⟩ (.slice va vl vc)).cell? ⟨w.heap.size + 1, 1, none⟩ = some (.slice va vl vc) :=
      World.cell?_setCell_same _ _ _ ((World.cell?_setCell_other _ _ _ _ (by simp)).trans q1)
    refine bodyPost_ret (v := .tuple #[.agg #[.int .i64 u.rule, .slice va vl vc], .bool true]) (by simp [results, Try.results18, go_sem, g0, g1]; try rfl) rfl ?_
    have hbf : Below w.heap.size w ((w1.setCell ⟨w.heap.size + 1, 0, none⟩ (.int .i64 u.rule)).setCell ⟨w.heap.size + 1, 1, none⟩ (.slice va vl vc)) := (HB.out.setCell (by show w.heap.size ≤ w.heap.size + 1; omega) _).setCell (by show w.heap.size ≤ w.heap.size + 1; omega) _
    rw [← HLK.out]
    refine ⟨_, rfl, HTS.out.kept fun x hx => ?_, hbf⟩
    have := HU.out x hx
    rw [Below.heap_setCell _ _ _ _ (by show x ≠ w.heap.size + 1; omega), Below.heap_setCell _ _ _ _ (by show x ≠ w.heap.size + 1; omega)]
end Go.Proofs.Ytdljffplooplcaa
