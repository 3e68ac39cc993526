/- Compare and SameTerm of the reference, for equal terms. -/
import Derived.Test.YtdljffplooplcaaSize
import Derived.Deep.RegionWith
namespace Go.Proofs.Ytdljffplooplcaa
open Go.RowKit
set_option linter.unusedVariables false

theorem order_eq (n : Int) (w : World) : Calls Try.prog 37 #[.int .i64 n, .int .i64 n] w fun e w' => e = .returned (.int .i64 0) ∧ w = w' := by
  go_enter Try.func37, Try.ntmps37
  go_wp2
  go_ret
  exact ⟨rfl, rfl⟩

set_option maxHeartbeats 400000 in
theorem cmpInts_eq (a b : Option Addr) (l ca cb : Nat) (xs : List Int) (w : World) (hA : Sl w a l ca xs) (hB : Sl w b l cb xs) :
    Calls Try.prog 39 #[.slice a l ca, .slice b l cb] w (OneI 0 w) := by
  have hm1 := hA.hcap
  have hm2 := hA.hmax
  unfold maxLen at hm2
  obtain ⟨b1, o1, ha0, hac⟩ := hA.cell
  obtain ⟨b2, o2, hb0, hbc⟩ := hB.cell
  clear hA hB
  go_enter Try.func39, Try.ntmps39
  go_wp2
  go_loopw [5] (fun i wr => ∃ k : Nat, k ≤ l ∧ i = .int .i64 k ∧ Below w.heap.size w wr) (fun i _ => l - (intOf i).toNat)
  case atStart => exact ⟨0, by omega, rfl, Below.refl _ _⟩
  case round =>
    obtain ⟨k, hk, rfl, hbel⟩ := hrel
    by_cases hlt : k < l
    · obtain ⟨rfl, hb1⟩ := ha0 (by omega)
      obtain ⟨rfl, hb2⟩ := hb0 (by omega)
      have c1 : wr.cell? ⟨b1, o1 + k, none⟩ = some (.int .i64 (xs.getD k 0)) := (hbel.cell hb1).trans (hac k hlt)
      have c2 : wr.cell? ⟨b2, o2 + k, none⟩ = some (.int .i64 (xs.getD k 0)) := (hbel.cell hb2).trans (hbc k hlt)
      clear hac hbc ha0 hb0
      generalize hx : xs.getD k 0 = x at c1 c2
      clear hx
      go_wp2
      go_quiet (fail)
      generalize hW : wr.drewN _ = W1
      have hbel1 : Below w.heap.size w W1 := hW ▸ below_drewN hbel _
      have c1' : W1.cell? ⟨b1, o1 + k, none⟩ = some (.int .i64 x) := hW ▸ c1
      have c2' : W1.cell? ⟨b2, o2 + k, none⟩ = some (.int .i64 x) := hW ▸ c2
      clear hW c1 c2 hbel
      go_wp2
      go_quiet (fail)
      go_wp2
      exact ⟨⟨k + 1, by omega, by go_num, below_drewN hbel1 _⟩, by simp [intOf]; omega⟩
    · have hkl : ¬ (k : Int) < l := by omega
      go_wp2_with fail
      refine (order_eq _ _).mono ?_
      rintro e w2 ⟨rfl, rfl⟩
      go_wp2
      go_ret
      exact ⟨rfl, hbel⟩
/-- the two parameters' boxes -/
structure Box2 (w : World) (r : Int) (v1 v2 : Value) (wr : World) : Prop where
  bel : Below w.heap.size w wr
  sz : w.heap.size + 1 < wr.heap.size
  a0 : wr.cell? ⟨w.heap.size, 0, none⟩ = some (.int .i64 r)
  a1 : wr.cell? ⟨w.heap.size, 1, none⟩ = some v1
  b0 : wr.cell? ⟨w.heap.size + 1, 0, none⟩ = some (.int .i64 r)
  b1 : wr.cell? ⟨w.heap.size + 1, 1, none⟩ = some v2
theorem Box2.next {w wr w2 : World} {r : Int} {v1 v2 : Value} (h : Box2 w r v1 v2 wr) (hb : Below wr.heap.size wr w2) : Box2 w r v1 v2 w2 := by
  have h1 := h.sz
  exact ⟨Below.next h.bel hb, Nat.lt_of_lt_of_le h.sz hb.size, (hb.cell (by show w.heap.size < _; omega)).trans h.a0, (hb.cell (by show w.heap.size < _; omega)).trans h.a1,
    (hb.cell (by show w.heap.size + 1 < _; omega)).trans h.b0, (hb.cell (by show w.heap.size + 1 < _; omega)).trans h.b1⟩
theorem Box2.drew {w wr : World} {r : Int} {v1 v2 : Value} (h : Box2 w r v1 v2 wr) : Box2 w r v1 v2 wr.drew := ⟨h.bel.drew, h.sz, h.a0, h.a1, h.b0, h.b1⟩
theorem Box2.start (w : World) (r : Int) (v1 v2 : Value) : Box2 w r v1 v2 ((w.alloc (.cells #[.int .i64 r, v1] 36)).alloc (.cells #[.int .i64 r, v2] 36)) := by
  have hp : ∀ i, ((w.alloc (.cells #[.int .i64 r, v1] 36)).alloc (.cells #[.int .i64 r, v2] 36)).cell? ⟨w.heap.size, i, none⟩ = (#[.int .i64 r, v1] : Array Value)[i]? := fun i =>
    (World.cell?_alloc_past (w := w.alloc (.cells #[.int .i64 r, v1] 36)) _ _ _ (by simp)).trans (World.cell?_alloc_at _ _ _ _ rfl)
  have hq : ∀ i, ((w.alloc (.cells #[.int .i64 r, v1] 36)).alloc (.cells #[.int .i64 r, v2] 36)).cell? ⟨w.heap.size + 1, i, none⟩ = (#[.int .i64 r, v2] : Array Value)[i]? := fun i =>
    World.cell?_alloc_at _ _ _ _ (by simp)
  exact ⟨((Below.refl _ _).alloc (Nat.le_refl _) _).alloc (by simp) _, by simp, hp 0, hp 1, hq 0, hq 1⟩


theorem Sl.drew {w : World} {a : Option Addr} {l c : Nat} {xs : List Int} (h : Sl w a l c xs) : Sl w.drew a l c xs := ⟨h.hlen, h.hcap, h.hmax, h.hat⟩

set_option maxHeartbeats 3200000 in
theorem compare_eq (t : T) (v1 v2 : Value) (P1 P2 : Nat → Prop) (w : World) (hn : tsize t ≤ 1000) (hh1 : Under P1 w.heap.size) (hh2 : Under P2 w.heap.size) (hA : ArgsAt w P1 v1 t.args) (hB : ArgsAt w P2 v2 t.args) :
    Calls Try.prog 34 #[.agg #[.int .i64 t.rule, v1], .agg #[.int .i64 t.rule, v2]] w (OneI 0 w) := by
  have HA := Lib.hid (fun (wr : World) (hb : Below w.heap.size w wr) => hA.kept (Below.keptB hb hh1))
  have HB := Lib.hid (fun (wr : World) (hb : Below w.heap.size w wr) => hB.kept (Below.keptB hb hh2))
  clear hA hB
  have hS : ∀ (v : Value) (P : Nat → Prop) (wr : World), Under P wr.heap.size → ArgsAt wr P v t.args → Calls Try.prog 38 #[.agg #[.int .i64 t.rule, v]] wr (OneI (tsize t) wr) := fun v P wr hh h => size_any _ t v P wr (Nat.le_refl _) hn hh h
  have hR : ∀ (v : Value) (P : Nat → Prop) (wr : World), Under P wr.heap.size → ArgsAt wr P v t.args → Calls Try.prog 40 #[.agg #[.int .i64 t.rule, v]] wr (Gives (rulesL t) wr) := fun v P wr hh h => rules_any _ t v P wr (Nat.le_refl _) hn hh h
  have hT : ∀ (v : Value) (P : Nat → Prop) (wr : World), Under P wr.heap.size → ArgsAt wr P v t.args → Calls Try.prog 41 #[.agg #[.int .i64 t.rule, v]] wr (Gives (aritsL t) wr) := fun v P wr hh h => arits_any _ t v P wr (Nat.le_refl _) hn hh h
  have hS1 : ∀ wr, Box2 w t.rule v1 v2 wr → Calls Try.prog 38 #[.agg #[.int .i64 t.rule, v1]] wr fun e w' => e = .returned (.int .i64 (tsize t)) ∧ Box2 w t.rule v1 v2 w' := fun wr h =>
    (hS v1 P1 wr (hh1.le h.bel.size) (HA.out _ h.bel)).mono fun e w' ⟨he, hb⟩ => ⟨he, h.next hb⟩
  have hS2 : ∀ wr, Box2 w t.rule v1 v2 wr → Calls Try.prog 38 #[.agg #[.int .i64 t.rule, v2]] wr fun e w' => e = .returned (.int .i64 (tsize t)) ∧ Box2 w t.rule v1 v2 w' := fun wr h =>
    (hS v2 P2 wr (hh2.le h.bel.size) (HB.out _ h.bel)).mono fun e w' ⟨he, hb⟩ => ⟨he, h.next hb⟩
  have hR1 : ∀ wr, Box2 w t.rule v1 v2 wr → Calls Try.prog 40 #[.agg #[.int .i64 t.rule, v1]] wr fun e w' => ∃ a c, e = .returned (.slice a (rulesL t).length c) ∧ Sl w' a (rulesL t).length c (rulesL t) ∧ Box2 w t.rule v1 v2 w' := fun wr h =>
    (hR v1 P1 wr (hh1.le h.bel.size) (HA.out _ h.bel)).mono fun e w' ⟨v, he, ho, hb⟩ => by obtain ⟨a, c, rfl, hs⟩ := ho.sl; exact ⟨a, c, he, hs, h.next hb⟩
  have hR2 : ∀ wr a c, Sl wr a (rulesL t).length c (rulesL t) → Box2 w t.rule v1 v2 wr → Calls Try.prog 40 #[.agg #[.int .i64 t.rule, v2]] wr fun e w' => ∃ a2 c2, e = .returned (.slice a2 (rulesL t).length c2) ∧ Sl w' a2 (rulesL t).length c2 (rulesL t) ∧ Sl w' a (rulesL t).length c (rulesL t) ∧ Box2 w t.rule v1 v2 w' := fun wr a0 c0 h0 h =>
    (hR v2 P2 wr (hh2.le h.bel.size) (HB.out _ h.bel)).mono fun e w' ⟨v, he, ho, hb⟩ => by obtain ⟨a, c, rfl, hs⟩ := ho.sl; exact ⟨a, c, he, hs, h0.below hb, h.next hb⟩
  have hT1 : ∀ wr, Box2 w t.rule v1 v2 wr → Calls Try.prog 41 #[.agg #[.int .i64 t.rule, v1]] wr fun e w' => ∃ a c, e = .returned (.slice a (aritsL t).length c) ∧ Sl w' a (aritsL t).length c (aritsL t) ∧ Box2 w t.rule v1 v2 w' := fun wr h =>
    (hT v1 P1 wr (hh1.le h.bel.size) (HA.out _ h.bel)).mono fun e w' ⟨v, he, ho, hb⟩ => by obtain ⟨a, c, rfl, hs⟩ := ho.sl; exact ⟨a, c, he, hs, h.next hb⟩
  have hT2 : ∀ wr a c, Sl wr a (aritsL t).length c (aritsL t) → Box2 w t.rule v1 v2 wr → Calls Try.prog 41 #[.agg #[.int .i64 t.rule, v2]] wr fun e w' => ∃ a2 c2, e = .returned (.slice a2 (aritsL t).length c2) ∧ Sl w' a2 (aritsL t).length c2 (aritsL t) ∧ Sl w' a (aritsL t).length c (aritsL t) ∧ Box2 w t.rule v1 v2 w' := fun wr a0 c0 h0 h =>
    (hT v2 P2 wr (hh2.le h.bel.size) (HB.out _ h.bel)).mono fun e w' ⟨v, he, ho, hb⟩ => by obtain ⟨a, c, rfl, hs⟩ := ho.sl; exact ⟨a, c, he, hs, h0.below hb, h.next hb⟩
  have HC : ∀ (a b : Option Addr) (xs : List Int) (ca cb : Nat) (wr : World), Sl wr a xs.length ca xs → Sl wr b xs.length cb xs → Box2 w t.rule v1 v2 wr → Calls Try.prog 39 #[.slice a xs.length ca, .slice b xs.length cb] wr fun e w' => e = .returned (.int .i64 0) ∧ Box2 w t.rule v1 v2 w' := fun a b xs ca cb wr h1 h2 h =>
    (cmpInts_eq a b xs.length ca cb xs wr h1 h2).mono fun e w' ⟨he, hb⟩ => ⟨he, h.next hb⟩
  have HS1 := Lib.hid hS1
  have HS2 := Lib.hid hS2
  have HR1 := Lib.hid hR1
  have HR2 := Lib.hid hR2
  have HT1 := Lib.hid hT1
  have HT2 := Lib.hid hT2
  have HCC := Lib.hid HC
  clear hS hR hT hS1 hS2 hR1 hR2 hT1 hT2 HC HA HB hn
  generalize t.rule = r at *
  generalize (tsize t : Int) = N at HS1 HS2
  generalize rulesL t = RL at HR1 HR2
  generalize aritsL t = TL at HT1 HT2
  have hbox := Box2.start w r v1 v2
  go_enter Try.func34, Try.ntmps34
  go_wp2
  generalize ((w.alloc (.cells #[.int .i64 r, v1] 36)).alloc (.cells #[.int .i64 r, v2] 36)) = W0 at hbox ⊢
  have a0 := hbox.a0
  have a1 := hbox.a1
  have b0 := hbox.b0
  have b1 := hbox.b1
  rename_i K1 aK1 K0 aK0
  have hK1 : ∀ W, Box2 w r v1 v2 W → K1 ⟨#[.agg #[.int .i64 r, v1], .agg #[.int .i64 r, v2], .pointer (some ⟨w.heap.size, 0, none⟩), .pointer (some ⟨w.heap.size + 1, 0, none⟩), .int .i64 0, .int .i64 0, undef, .agg #[.int .i64 r, v1], .int .i64 N, .agg #[.int .i64 r, v2], .int .i64 N, .int .i64 0, .int .i64 0, .bool false, undef, undef, undef, undef, undef, undef, undef, undef, undef, undef, undef, undef, undef, undef], []⟩ W := by
    clear a0 a1 b0 b1 hbox
    intro W hbox
    have a0 := hbox.a0
    have a1 := hbox.a1
    have b0 := hbox.b0
    have b1 := hbox.b1
    refine aK1 _ _ ?_
    clear aK0 aK1 K0 K1
    go_wp2
    rename_i K2 aK2 K3 aK3
    have hK2 : ∀ W a c a2 c2, Box2 w r v1 v2 W → K2 ⟨#[.agg #[.int .i64 r, v1], .agg #[.int .i64 r, v2], .pointer (some ⟨w.heap.size, 0, none⟩), .pointer (some ⟨w.heap.size + 1, 0, none⟩), .int .i64 0, .int .i64 0, .int .i64 0, .agg #[.int .i64 r, v1], .int .i64 N, .agg #[.int .i64 r, v2], .int .i64 N, .int .i64 0, .int .i64 0, .bool false, undef, .agg #[.int .i64 r, v1], .slice a RL.length c, .agg #[.int .i64 r, v2], .slice a2 RL.length c2, .int .i64 0, .int .i64 0, .bool false, undef, undef, undef, undef, undef, undef], []⟩ W := by
      clear a0 a1 b0 b1 hbox
      intro W a c a2 c2 hbox
      have a0 := hbox.a0
      have a1 := hbox.a1
      have b0 := hbox.b0
      have b1 := hbox.b1
      refine aK2 _ _ ?_
      clear aK2 aK3 K2 K3
      go_wp2
      go_region_with (first
      | (go_at_call_of 41 v1; refine (HT1.out _ (by (first | assumption | (refine Box2.drew ?_; assumption) | (refine Box2.drew (Box2.drew ?_); assumption)))).mono ?_; rintro e w1 ⟨a, c, rfl, hs1, hx1⟩; have d0 := hx1.b0; have d1 := hx1.b1)
      | (go_at_call_of 41 v2; refine (HT2.out _ _ _ (by (first | assumption | (refine Sl.drew ?_; assumption) | (refine Sl.drew (Sl.drew ?_); assumption))) (by (first | assumption | (refine Box2.drew ?_; assumption) | (refine Box2.drew (Box2.drew ?_); assumption)))).mono ?_; rintro e w2 ⟨a2, c2, rfl, hs2, hs1', hx2⟩)
      | (go_at_call 39; refine (HCC.out _ _ TL _ _ _ (by (first | assumption | (refine Sl.drew ?_; assumption) | (refine Sl.drew (Sl.drew ?_); assumption))) (by (first | assumption | (refine Sl.drew ?_; assumption) | (refine Sl.drew (Sl.drew ?_); assumption))) (by (first | assumption | (refine Box2.drew ?_; assumption) | (refine Box2.drew (Box2.drew ?_); assumption)))).mono ?_; rintro e w3 ⟨rfl, hx3⟩))
      all_goals (go_wp2; go_ret; exact ⟨rfl, hx3.bel⟩)
    have HK2 := Lib.hid hK2
    clear aK2 hK2
    go_region_with (first
      | (go_at_call_of 40 v1; refine (HR1.out _ (by (first | assumption | (refine Box2.drew ?_; assumption) | (refine Box2.drew (Box2.drew ?_); assumption)))).mono ?_; rintro e w1 ⟨a, c, rfl, hs1, hx1⟩; have d0 := hx1.b0; have d1 := hx1.b1)
      | (go_at_call_of 40 v2; refine (HR2.out _ _ _ (by (first | assumption | (refine Sl.drew ?_; assumption) | (refine Sl.drew (Sl.drew ?_); assumption))) (by (first | assumption | (refine Box2.drew ?_; assumption) | (refine Box2.drew (Box2.drew ?_); assumption)))).mono ?_; rintro e w2 ⟨a2, c2, rfl, hs2, hs1', hx2⟩)
      | (go_at_call 39; refine (HCC.out _ _ RL _ _ _ (by (first | assumption | (refine Sl.drew ?_; assumption) | (refine Sl.drew (Sl.drew ?_); assumption))) (by (first | assumption | (refine Sl.drew ?_; assumption) | (refine Sl.drew (Sl.drew ?_); assumption))) (by (first | assumption | (refine Box2.drew ?_; assumption) | (refine Box2.drew (Box2.drew ?_); assumption)))).mono ?_; rintro e w3 ⟨rfl, hx3⟩))
    all_goals (go_wp2; exact HK2.out _ _ _ _ _ hx3)
  have HK1 := Lib.hid hK1
  clear aK1 hK1
  go_region_with (first
    | (go_at_call_of 38 v1; refine (HS1.out _ (by (first | assumption | (refine Box2.drew ?_; assumption) | (refine Box2.drew (Box2.drew ?_); assumption)))).mono ?_; rintro e w1 ⟨rfl, hx1⟩; have d0 := hx1.b0; have d1 := hx1.b1)
    | (go_at_call_of 38 v2; refine (HS2.out _ (by (first | assumption | (refine Box2.drew ?_; assumption) | (refine Box2.drew (Box2.drew ?_); assumption)))).mono ?_; rintro e w2 ⟨rfl, hx2⟩)
    | (go_at_call 37; refine (order_eq _ _).mono ?_; rintro e w3 ⟨rfl, rfl⟩))
  all_goals (go_wp2; exact HK1.out _ (by (first | assumption | (refine Box2.drew ?_; assumption) | (refine Box2.drew (Box2.drew ?_); assumption))))

theorem same_eq (t : T) (v1 v2 : Value) (P1 P2 : Nat → Prop) (w : World) (hn : tsize t ≤ 1000) (hh1 : Under P1 w.heap.size) (hh2 : Under P2 w.heap.size) (hA : ArgsAt w P1 v1 t.args) (hB : ArgsAt w P2 v2 t.args) :
    Calls Try.prog 16 #[.agg #[.int .i64 t.rule, v1], .agg #[.int .i64 t.rule, v2]] w (OneB true w) := by
  have HC : ∀ wr, Box2 w t.rule v1 v2 wr → Calls Try.prog 34 #[.agg #[.int .i64 t.rule, v1], .agg #[.int .i64 t.rule, v2]] wr (OneI 0 wr) := fun wr h =>
    compare_eq t v1 v2 P1 P2 wr hn (hh1.le h.bel.size) (hh2.le h.bel.size) (hA.kept (Below.keptB h.bel hh1)) (hB.kept (Below.keptB h.bel hh2))
  have HCC := Lib.hid HC
  clear HC hA hB hn
  generalize t.rule = r at *
  have hbox := Box2.start w r v1 v2
  go_enter Try.func16, Try.ntmps16
  go_wp2_with fail
  refine (HCC.out _ hbox).mono ?_
  rintro e w2 ⟨rfl, hb⟩
  go_wp2
  go_ret
  exact ⟨rfl, (hbox.next hb).bel⟩
end Go.Proofs.Ytdljffplooplcaa
