/- mapped, Shift, Scale and their references. -/
import Derived.Test.YtecjnenjjedceaaRunning
import Derived.Test.YtecjnenjjedceaaSort
namespace Go.Proofs.Ytecjnenjjedceaa
open Go.RowKit
set_option linter.unusedVariables false

/-- the list's images, and the error's number -/
def mapZ (f : Int → Int) (n : Int) (xs : List Int) : List Int := if permB n && xs.all permB && (xs.map f).all permB then xs.map f else []
def mapErr (f : Int → Int) (n : Int) (xs : List Int) : Int := if permB n && xs.all permB && (xs.map f).all permB then 0 else 1

theorem map_bad {f : Int → Int} {n : Int} {xs : List Int} (h : (permB n && xs.all permB && (xs.map f).all permB) = false) : mapZ f n xs = [] ∧ mapErr f n xs = 1 := by
  unfold mapZ mapErr; rw [h]; exact ⟨rfl, rfl⟩
theorem map_good {f : Int → Int} {n : Int} {xs : List Int} (h : (permB n && xs.all permB && (xs.map f).all permB) = true) : mapZ f n xs = xs.map f ∧ mapErr f n xs = 0 := by
  unfold mapZ mapErr; rw [h]; exact ⟨rfl, rfl⟩

/-- the list whose first k elements are images already -/
def part (f : Int → Int) (xs : List Int) (k : Nat) : List Int := (xs.take k).map f ++ xs.drop k

theorem part_length (f : Int → Int) (xs : List Int) (k : Nat) : (part f xs k).length = xs.length := by simp [part]; omega
theorem part_at (f : Int → Int) (xs : List Int) (k : Nat) (hk : k < xs.length) : (part f xs k).getD k 0 = xs.getD k 0 := by
  simp [part, List.getD, List.getElem?_append, hk, show min k xs.length = k by omega]
theorem part_succ (f : Int → Int) (xs : List Int) (k : Nat) (hk : k < xs.length) (x : Int) (hx : xs.getD k 0 = x) : part f xs (k + 1) = (part f xs k).set k (f x) := by
  have e : xs.drop k = x :: xs.drop (k + 1) := by
    rw [List.drop_eq_getElem_cons hk]
    congr 1
    simpa [List.getD, hk] using hx
  unfold part
  rw [take_snoc xs k x hk hx, e, List.map_append, List.set_append]
  simp [show min k xs.length = k by omega]
theorem part_end (f : Int → Int) (xs : List Int) (k : Nat) (hk : xs.length ≤ k) : part f xs k = xs.map f := by
  simp [part, List.take_of_length_le hk, List.drop_of_length_le hk]

set_option maxHeartbeats 800000 in
theorem mapped_any (f : Int → Int) (fn : Nat) (p : Nat) (a : Option Addr) (l c : Nat) (xs : List Int) (n : Int) (W w : World)
    (hA : Sl W a l c xs) (hl : l ≤ 1000) (hW : Below W.heap.size W w) (hp : w.cell? ⟨p, 0, none⟩ = some (.int .i64 n)) (hpl : p < w.heap.size)
    (hcf : ∀ args w1, (callFunc fn args).run Try.prog w1 = .ok (.enter fn args) w1)
    (hcl : ∀ x w1, permB x = true → permB n = true → w1.cell? ⟨p, 0, none⟩ = some (.int .i64 n) → Calls Try.prog fn #[.int .i64 x, .pointer (some ⟨p, 0, none⟩)] w1 fun e w2 => e = .returned (.int .i64 (f x)) ∧ w1 = w2) :
    Calls Try.prog 61 #[.slice a l c, .int .i64 n, .func (.func fn) #[] #[.pointer (some ⟨p, 0, none⟩)]] w (GivesE (mapZ f n xs) (mapErr f n xs) W) := by
  have hxl := Lib.hid hA.hlen
  have hWs := hW.size
  have hA' := Lib.hid (hA.below hW)
  have HC := Lib.hid hcl
  clear hcl hA
  go_enter Try.func61, Try.ntmps61
  go_wp2_with fail
  refine (permitted_any _ _).mono ?_
  rintro e w1 ⟨rfl, rfl⟩
  cases hpn : permB n with
  | false =>
    obtain ⟨e1, e2⟩ := map_bad (f := f) (n := n) (xs := xs) (by rw [hpn]; rfl)
    have E1 := Lib.hid e1
    have E2 := Lib.hid e2
    clear hpn e1 e2
    go_wp2
    go_ret2
    rw [E1.out, E2.out]
    exact ⟨_, rfl, Own.nil _ _, hW⟩
  | true =>
    have HN := Lib.hid hpn
    clear hpn
    go_wp2_with fail
    refine (allowed_any a l c xs _ hA'.out hl).mono ?_
    rintro e w1 ⟨rfl, rfl⟩
    cases hall : xs.all permB with
    | false =>
      obtain ⟨e1, e2⟩ := map_bad (f := f) (n := n) (xs := xs) (by rw [HN.out, hall]; rfl)
      have E1 := Lib.hid e1
      have E2 := Lib.hid e2
      clear hall e1 e2
      go_wp2
      go_ret2
      rw [E1.out, E2.out]
      exact ⟨_, rfl, Own.nil _ _, hW⟩
    | true =>
      have HALL := Lib.hid hall
      clear hall
      go_wp2_with fail
      refine (copied_any a l c xs _ hA'.out hl).mono ?_
      rintro e w2 ⟨v, rfl, hown, hb⟩
      have hp2 : w2.cell? ⟨p, 0, none⟩ = some (.int .i64 n) := (hb.cell hpl).trans hp
      obtain ⟨ao, co, rfl, hso⟩ := hown.sl
      rw [hxl.out] at hso ⊢
      have HO := Lib.hid hown
      rw [hxl.out] at HO
      clear hown hso
      go_wp2
      go_loopw [23] (fun i wr => ∃ k : Nat, i = .int .i64 k ∧ k ≤ l ∧ Hid (Own wr w.heap.size (.slice ao l co) (part f xs k)) ∧ wr.cell? ⟨p, 0, none⟩ = some (.int .i64 n) ∧ Below w.heap.size w wr) (fun i _ => l - (intOf i).toNat)
      case atStart => exact ⟨0, rfl, by omega, HO.out, hp2, hb⟩
      case round =>
        obtain ⟨k, rfl, hk, hown, hpr, hbel⟩ := hrel
        by_cases hlt : k < l
        · obtain ⟨g, cap, hv, hg, hgs⟩ := hown.out.at (by rw [part_length, hxl.out]; omega)
          simp only [Value.slice.injEq] at hv
          obtain ⟨rfl, -, rfl⟩ := hv
          obtain ⟨c1, f1⟩ := hown.out.cell k (by rw [part_length, hxl.out]; omega)
          rw [part_at f xs k (by rw [hxl.out]; exact hlt)] at c1
          have hxp : permB (xs.getD k 0) = true := by
            cases hq : permB (xs.getD k 0) with
            | true => rfl
            | false => have := all_at_false permB xs k _ (by rw [hxl.out]; exact hlt) rfl hq; rw [HALL.out] at this; cases this
          generalize hx : xs.getD k 0 = x at c1 hxp
          have hst := Lib.hid (part_succ f xs k (by rw [hxl.out]; exact hlt) x hx)
          have HXP := Lib.hid hxp
          have hpg : p ≠ g := by omega
          clear hx hxp
          go_wp2_with fail
          refine (HC.out x _ HXP.out HN.out hpr).mono ?_
          rintro e w3 ⟨rfl, rfl⟩
          go_wp2
          go_roundw
          case rel =>
            refine ⟨k + 1, by go_num, by omega, ?_, ?_, hbel.setCell hg _⟩
            · show Own _ _ _ _
              rw [hst.out]; exact hown.out.stored k (f x)
            · rw [World.cell?_setCell_other _ _ _ _ (by simp)]; exact hpr
          case measure => simp [intOf]; omega
        · have hpe := Lib.hid (part_end f xs k (by rw [hxl.out]; omega))
          obtain ⟨ao2, co2, hv, hso⟩ := hown.out.sl
          rw [part_length, hxl.out] at hso
          simp only [Value.slice.injEq] at hv
          obtain ⟨rfl, -, rfl⟩ := hv
          have HSO := Lib.hid hso
          clear hso
          go_wp2_with fail
          refine (allowed_any _ l _ _ _ HSO.out hl).mono ?_
          rintro e w4 ⟨rfl, rfl⟩
          rw [hpe.out]
          cases hall2 : (xs.map f).all permB with
          | false =>
            obtain ⟨e1, e2⟩ := map_bad (f := f) (n := n) (xs := xs) (by rw [HN.out, HALL.out, hall2]; rfl)
            have E1 := Lib.hid e1
            have E2 := Lib.hid e2
            clear hall2 e1 e2
            go_wp2
            go_ret2
            rw [E1.out, E2.out]
            exact ⟨_, rfl, Own.nil _ _, bnext hW hbel⟩
          | true =>
            obtain ⟨e1, e2⟩ := map_good (f := f) (n := n) (xs := xs) (by rw [HN.out, HALL.out, hall2]; rfl)
            have E1 := Lib.hid e1
            have E2 := Lib.hid e2
            clear hall2 e1 e2
            go_wp2
            go_ret2
            rw [E1.out, E2.out, ← hpe.out]
            exact ⟨_, rfl, hown.out.mono hWs, bnext hW hbel⟩
end Go.Proofs.Ytecjnenjjedceaa
