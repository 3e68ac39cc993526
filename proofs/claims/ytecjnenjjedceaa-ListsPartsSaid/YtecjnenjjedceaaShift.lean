/- Shift, Scale and their references. -/
import Derived.Test.YtecjnenjjedceaaMapped
namespace Go.Proofs.Ytecjnenjjedceaa
open Go.RowKit
set_option linter.unusedVariables false

theorem bd_shift (x n : Int) (h1 : -1000000 ≤ x ∧ x ≤ 1000000) (h2 : -1000000 ≤ n ∧ n ≤ 1000000) : -1000000000000 ≤ x + n ∧ x + n ≤ 1000000000000 := by omega
theorem bd_scale (x n : Int) (h1 : -1000000 ≤ x ∧ x ≤ 1000000) (h2 : -1000000 ≤ n ∧ n ≤ 1000000) : -1000000000000 ≤ x * n ∧ x * n ≤ 1000000000000 := by
  have h3 : (x * n).natAbs ≤ 1000000 * 1000000 := by rw [Int.natAbs_mul]; exact Nat.mul_le_mul (by omega) (by omega)
  omega

theorem shift1 (x n : Int) (p : Nat) (w : World) (hc : w.cell? ⟨p, 0, none⟩ = some (.int .i64 n)) (hx : permB x = true) (hn : permB n = true) :
    Calls Try.prog 62 #[.int .i64 x, .pointer (some ⟨p, 0, none⟩)] w fun e w' => e = .returned (.int .i64 (x + n)) ∧ w = w' := by
  have h1 := permB_true hx
  have h2 := permB_true hn
  have h3 := bd_shift x n h1 h2
  clear hx hn
  go_enter Try.func62, Try.ntmps62
  go_wp2
  go_ret
  exact ⟨rfl, rfl⟩

theorem hcf62 : ∀ args w1, (callFunc 62 args).run Try.prog w1 = .ok (.enter 62 args) w1 := fun _ _ => by kernel_rfl

theorem shift_any (a : Option Addr) (l c : Nat) (xs : List Int) (n : Int) (w : World) (hA : Sl w a l c xs) (hl : l ≤ 1000) :
    Calls Try.prog 34 #[.slice a l c, .int .i64 n] w (GivesE (mapZ (fun x => x + n) n xs) (mapErr (fun x => x + n) n xs) w) := by
  have hbl : Below w.heap.size w (w.alloc (.cells #[.int .i64 n] 2)) := (Below.refl _ _).alloc (Nat.le_refl _) _
  have h1 := mapped_any (fun x => x + n) 62 w.heap.size a l c xs n w (w.alloc (.cells #[.int .i64 n] 2)) hA hl hbl (by rw [World.cell?_alloc_at _ _ _ _ rfl]; rfl) (by simp) hcf62
    (fun x w1 hx hn hc => shift1 x n w.heap.size w1 hc hx hn)
  have H1 := Lib.hid h1
  clear h1 hA hbl
  go_enter Try.func34, Try.ntmps34
  go_wp2_with fail
  refine H1.out.mono ?_
  rintro e w' ⟨v, rfl, hown, hb⟩
  go_wp2
  go_ret2
  exact ⟨v, rfl, hown, hb⟩

set_option maxHeartbeats 800000 in
theorem refShift_any (a : Option Addr) (l c : Nat) (xs : List Int) (n : Int) (w : World) (hA : Sl w a l c xs) (hl : l ≤ 1000) :
    Calls Try.prog 35 #[.slice a l c, .int .i64 n] w (GivesE (mapZ (fun x => x + n) n xs) (mapErr (fun x => x + n) n xs) w) := by
  obtain ⟨f, hf⟩ : ∃ f : Int → Int, f = fun x => x + n := ⟨_, rfl⟩
  have hfx : ∀ x, f x = x + n := fun x => by rw [hf]
  rw [← hf]
  have HF := Lib.hid hfx
  clear hf hfx
  have hcall := Lib.hid (refAll_any a l c xs w hA hl)
  obtain ⟨b1, o1, ha0, hac⟩ := hA.cell
  have hxl := Lib.hid hA.hlen
  clear hA
  go_enter Try.func35, Try.ntmps35
  go_wp2_with fail
  refine (refPermitted_any _ _).mono ?_
  rintro e w1 ⟨rfl, rfl⟩
  cases hpn : permB n with
  | false =>
    obtain ⟨e1, e2⟩ := map_bad (f := f) (n := n) (xs := xs) (by rw [hpn]; rfl)
    have E1 := Lib.hid e1
    have E2 := Lib.hid e2
    clear hpn e1 e2 hac
    go_wp2
    go_ret2
    rw [E1.out, E2.out]
    exact ⟨_, rfl, Own.nil _ _, Below.refl _ _⟩
  | true =>
    have HN := Lib.hid hpn
    have hnb := permB_true hpn
    clear hpn
    go_wp2_with fail
    refine hcall.out.mono ?_
    rintro e w1 ⟨rfl, rfl⟩
    cases hall : xs.all permB with
    | false =>
      have e0 : errAll xs = 1 := by unfold errAll; rw [hall]; rfl
      rw [e0]
      obtain ⟨e1, e2⟩ := map_bad (f := f) (n := n) (xs := xs) (by rw [HN.out, hall]; rfl)
      have E1 := Lib.hid e1
      have E2 := Lib.hid e2
      clear hall e1 e2 e0 hac
      go_wp2
      go_ret2
      rw [E1.out, E2.out]
      exact ⟨_, rfl, Own.nil _ _, Below.refl _ _⟩
    | true =>
      have e0 : errAll xs = 0 := by unfold errAll; rw [hall]; rfl
      rw [e0]
      have HALL := Lib.hid hall
      clear hall e0 hcall
      go_wp2
      go_loopw [6, 7] (fun v i wr => ∃ k : Nat, i = .int .i64 k ∧ RefRel ((xs.take k).map f) w k l v wr) (fun _ i _ => l - (intOf i).toNat)
      case atStart => exact ⟨0, rfl, by omega, Own.nil _ _, Below.refl _ _⟩
      case round =>
        obtain ⟨k, rfl, hk, hown, hbel⟩ := hrel
        by_cases hlt : k < l
        · obtain ⟨rfl, hb1⟩ := ha0 (by omega)
          have c1 : wr.cell? ⟨b1, o1 + k, none⟩ = some (.int .i64 (xs.getD k 0)) := (hbel.cell hb1).trans (hac k hlt)
          have hxp : permB (xs.getD k 0) = true := by
            cases hq : permB (xs.getD k 0) with
            | true => rfl
            | false => have := all_at_false permB xs k _ (by rw [hxl.out]; exact hlt) rfl hq; rw [HALL.out] at this; cases this
          generalize hx : xs.getD k 0 = x at c1 hxp
          have hxb := permB_true hxp
          have hmb := bd_shift x n hxb hnb
          have hst := Lib.hid (take_snoc xs k x (by rw [hxl.out]; exact hlt) hx)
          have hpl : ((xs.take k).map f).length ≤ 1000 := by
            rw [List.length_map]
            have := List.length_take_le k xs
            omega
          have hs := hbel.size
          have hn : ∀ k, u6.ownBlock = some k → w.heap.size ≤ k := fun k hk => (hown.lt k hk).1
          clear hx hac ha0 hxp
          go_wp2_with (at_builtin; refine wpList_push rfl (.tmp 23) (.tmp 30) rfl w.heap.size _ _ _ rfl hown rfl (by omega) hs ?_; intro v' w3 hown3 hg3)
          go_roundw
          case rel =>
            refine ⟨k + 1, by go_num, by omega, ?_, hbel.grown hg3 hs hn⟩
            rw [hst.out, List.map_append, List.map_singleton, HF.out x]
            exact hown3
          case measure => simp [intOf]; omega
        · have hk' := Lib.hid (show xs.take k = xs from List.take_of_length_le (by rw [hxl.out]; omega))
          rw [hk'.out] at hown
          obtain ⟨ao, co, rfl, hso⟩ := hown.sl
          have hlm : (xs.map f).length = l := by rw [List.length_map, hxl.out]
          have hcall2 := Lib.hid (refAll_any ao (xs.map f).length co (xs.map f) wr hso (by rw [hlm]; exact hl))
          rw [hlm] at hcall2 hown ⊢
          have HO := Lib.hid hown
          have HLM := Lib.hid hlm
          clear hso hac ha0 hown hlm
          go_wp2_with fail
          refine hcall2.out.mono ?_
          rintro e w4 ⟨rfl, rfl⟩
          cases hall2 : (xs.map f).all permB with
          | false =>
            have e0 : errAll (xs.map f) = 1 := by unfold errAll; rw [hall2]; rfl
            rw [e0]
            obtain ⟨e1, e2⟩ := map_bad (f := f) (n := n) (xs := xs) (by rw [HN.out, HALL.out, hall2]; rfl)
            have E1 := Lib.hid e1
            have E2 := Lib.hid e2
            clear hall2 e1 e2 e0
            go_wp2
            go_ret2
            rw [E1.out, E2.out]
            exact ⟨_, rfl, Own.nil _ _, hbel⟩
          | true =>
            have e0 : errAll (xs.map f) = 0 := by unfold errAll; rw [hall2]; rfl
            rw [e0]
            obtain ⟨e1, e2⟩ := map_good (f := f) (n := n) (xs := xs) (by rw [HN.out, HALL.out, hall2]; rfl)
            have E1 := Lib.hid e1
            have E2 := Lib.hid e2
            clear hall2 e1 e2 e0
            go_wp2
            go_ret2
            rw [E1.out, E2.out]
            exact ⟨_, rfl, HO.out, hbel⟩

theorem scale1 (x n : Int) (p : Nat) (w : World) (hc : w.cell? ⟨p, 0, none⟩ = some (.int .i64 n)) (hx : permB x = true) (hn : permB n = true) :
    Calls Try.prog 63 #[.int .i64 x, .pointer (some ⟨p, 0, none⟩)] w fun e w' => e = .returned (.int .i64 (x * n)) ∧ w = w' := by
  have h1 := permB_true hx
  have h2 := permB_true hn
  have h3 := bd_scale x n h1 h2
  clear hx hn
  go_enter Try.func63, Try.ntmps63
  go_wp2
  go_ret
  exact ⟨rfl, rfl⟩

theorem hcf63 : ∀ args w1, (callFunc 63 args).run Try.prog w1 = .ok (.enter 63 args) w1 := fun _ _ => by kernel_rfl

theorem scale_any (a : Option Addr) (l c : Nat) (xs : List Int) (n : Int) (w : World) (hA : Sl w a l c xs) (hl : l ≤ 1000) :
    Calls Try.prog 36 #[.slice a l c, .int .i64 n] w (GivesE (mapZ (fun x => x * n) n xs) (mapErr (fun x => x * n) n xs) w) := by
  have hbl : Below w.heap.size w (w.alloc (.cells #[.int .i64 n] 2)) := (Below.refl _ _).alloc (Nat.le_refl _) _
  have h1 := mapped_any (fun x => x * n) 63 w.heap.size a l c xs n w (w.alloc (.cells #[.int .i64 n] 2)) hA hl hbl (by rw [World.cell?_alloc_at _ _ _ _ rfl]; rfl) (by simp) hcf63
    (fun x w1 hx hn hc => scale1 x n w.heap.size w1 hc hx hn)
  have H1 := Lib.hid h1
  clear h1 hA hbl
  go_enter Try.func36, Try.ntmps36
  go_wp2_with fail
  refine H1.out.mono ?_
  rintro e w' ⟨v, rfl, hown, hb⟩
  go_wp2
  go_ret2
  exact ⟨v, rfl, hown, hb⟩

set_option maxHeartbeats 800000 in
theorem refScale_any (a : Option Addr) (l c : Nat) (xs : List Int) (n : Int) (w : World) (hA : Sl w a l c xs) (hl : l ≤ 1000) :
    Calls Try.prog 37 #[.slice a l c, .int .i64 n] w (GivesE (mapZ (fun x => x * n) n xs) (mapErr (fun x => x * n) n xs) w) := by
  obtain ⟨f, hf⟩ : ∃ f : Int → Int, f = fun x => x * n := ⟨_, rfl⟩
  have hfx : ∀ x, f x = x * n := fun x => by rw [hf]
  rw [← hf]
  have HF := Lib.hid hfx
  clear hf hfx
  have hcall := Lib.hid (refAll_any a l c xs w hA hl)
  obtain ⟨b1, o1, ha0, hac⟩ := hA.cell
  have hxl := Lib.hid hA.hlen
  clear hA
  go_enter Try.func37, Try.ntmps37
  go_wp2_with fail
  refine (refPermitted_any _ _).mono ?_
  rintro e w1 ⟨rfl, rfl⟩
  cases hpn : permB n with
  | false =>
    obtain ⟨e1, e2⟩ := map_bad (f := f) (n := n) (xs := xs) (by rw [hpn]; rfl)
    have E1 := Lib.hid e1
    have E2 := Lib.hid e2
    clear hpn e1 e2 hac
    go_wp2
    go_ret2
    rw [E1.out, E2.out]
    exact ⟨_, rfl, Own.nil _ _, Below.refl _ _⟩
  | true =>
    have HN := Lib.hid hpn
    have hnb := permB_true hpn
    clear hpn
    go_wp2_with fail
    refine hcall.out.mono ?_
    rintro e w1 ⟨rfl, rfl⟩
    cases hall : xs.all permB with
    | false =>
      have e0 : errAll xs = 1 := by unfold errAll; rw [hall]; rfl
      rw [e0]
      obtain ⟨e1, e2⟩ := map_bad (f := f) (n := n) (xs := xs) (by rw [HN.out, hall]; rfl)
      have E1 := Lib.hid e1
      have E2 := Lib.hid e2
      clear hall e1 e2 e0 hac
      go_wp2
      go_ret2
      rw [E1.out, E2.out]
      exact ⟨_, rfl, Own.nil _ _, Below.refl _ _⟩
    | true =>
      have e0 : errAll xs = 0 := by unfold errAll; rw [hall]; rfl
      rw [e0]
      have HALL := Lib.hid hall
      clear hall e0 hcall
      go_wp2
      go_loopw [6, 7] (fun v i wr => ∃ k : Nat, i = .int .i64 k ∧ RefRel ((xs.take k).map f) w k l v wr) (fun _ i _ => l - (intOf i).toNat)
      case atStart => exact ⟨0, rfl, by omega, Own.nil _ _, Below.refl _ _⟩
      case round =>
        obtain ⟨k, rfl, hk, hown, hbel⟩ := hrel
        by_cases hlt : k < l
        · obtain ⟨rfl, hb1⟩ := ha0 (by omega)
          have c1 : wr.cell? ⟨b1, o1 + k, none⟩ = some (.int .i64 (xs.getD k 0)) := (hbel.cell hb1).trans (hac k hlt)
          have hxp : permB (xs.getD k 0) = true := by
            cases hq : permB (xs.getD k 0) with
            | true => rfl
            | false => have := all_at_false permB xs k _ (by rw [hxl.out]; exact hlt) rfl hq; rw [HALL.out] at this; cases this
          generalize hx : xs.getD k 0 = x at c1 hxp
          have hxb := permB_true hxp
          have hmb := bd_scale x n hxb hnb
          have hst := Lib.hid (take_snoc xs k x (by rw [hxl.out]; exact hlt) hx)
          have hpl : ((xs.take k).map f).length ≤ 1000 := by
            rw [List.length_map]
            have := List.length_take_le k xs
            omega
          have hs := hbel.size
          have hn : ∀ k, u6.ownBlock = some k → w.heap.size ≤ k := fun k hk => (hown.lt k hk).1
          clear hx hac ha0 hxp
          go_wp2_with (at_builtin; refine wpList_push rfl (.tmp 23) (.tmp 30) rfl w.heap.size _ _ _ rfl hown rfl (by omega) hs ?_; intro v' w3 hown3 hg3)
          go_roundw
          case rel =>
            refine ⟨k + 1, by go_num, by omega, ?_, hbel.grown hg3 hs hn⟩
            rw [hst.out, List.map_append, List.map_singleton, HF.out x]
            exact hown3
          case measure => simp [intOf]; omega
        · have hk' := Lib.hid (show xs.take k = xs from List.take_of_length_le (by rw [hxl.out]; omega))
          rw [hk'.out] at hown
          obtain ⟨ao, co, rfl, hso⟩ := hown.sl
          have hlm : (xs.map f).length = l := by rw [List.length_map, hxl.out]
          have hcall2 := Lib.hid (refAll_any ao (xs.map f).length co (xs.map f) wr hso (by rw [hlm]; exact hl))
          rw [hlm] at hcall2 hown ⊢
          have HO := Lib.hid hown
          have HLM := Lib.hid hlm
          clear hso hac ha0 hown hlm
          go_wp2_with fail
          refine hcall2.out.mono ?_
          rintro e w4 ⟨rfl, rfl⟩
          cases hall2 : (xs.map f).all permB with
          | false =>
            have e0 : errAll (xs.map f) = 1 := by unfold errAll; rw [hall2]; rfl
            rw [e0]
            obtain ⟨e1, e2⟩ := map_bad (f := f) (n := n) (xs := xs) (by rw [HN.out, HALL.out, hall2]; rfl)
            have E1 := Lib.hid e1
            have E2 := Lib.hid e2
            clear hall2 e1 e2 e0
            go_wp2
            go_ret2
            rw [E1.out, E2.out]
            exact ⟨_, rfl, Own.nil _ _, hbel⟩
          | true =>
            have e0 : errAll (xs.map f) = 0 := by unfold errAll; rw [hall2]; rfl
            rw [e0]
            obtain ⟨e1, e2⟩ := map_good (f := f) (n := n) (xs := xs) (by rw [HN.out, HALL.out, hall2]; rfl)
            have E1 := Lib.hid e1
            have E2 := Lib.hid e2
            clear hall2 e1 e2 e0
            go_wp2
            go_ret2
            rw [E1.out, E2.out]
            exact ⟨_, rfl, HO.out, hbel⟩
end Go.Proofs.Ytecjnenjjedceaa
