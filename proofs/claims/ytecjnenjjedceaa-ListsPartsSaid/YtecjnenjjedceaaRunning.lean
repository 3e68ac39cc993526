/- Running and its reference. -/
import Derived.Test.YtecjnenjjedceaaSums
namespace Go.Proofs.Ytecjnenjjedceaa
open Go.RowKit
set_option linter.unusedVariables false

/-- the sums of the beginnings, from s on; none where a number or a sum is not permitted -/
def runs : Int → List Int → Option (List Int)
  | _, [] => some []
  | s, x :: xs => if permB x && permB (s + x) then (runs (s + x) xs).map ((s + x) :: ·) else none

theorem runs_snoc (x : Int) : ∀ (xs : List Int) (s : Int), runs s (xs ++ [x]) = (runs s xs).bind fun zs => if permB x && permB (s + xs.sum + x) then some (zs ++ [s + xs.sum + x]) else none
  | [], s => by simp [runs]
  | y :: ys, s => by
    have e : s + y + ys.sum = s + (y :: ys).sum := by rw [List.sum_cons]; omega
    simp only [List.cons_append, runs, runs_snoc x ys (s + y), e]
    by_cases h : (permB y && permB (s + y)) = true
    · rw [if_pos h, if_pos h]
      cases runs (s + y) ys with
      | none => rfl
      | some zs =>
        simp only [Option.bind_some, Option.map_some]
        by_cases hq : (permB x && permB (s + (y :: ys).sum + x)) = true
        · rw [if_pos hq, if_pos hq]; rfl
        · rw [if_neg hq, if_neg hq]; rfl
    · rw [if_neg h, if_neg h]; rfl

theorem runs_none (ys : List Int) : ∀ (xs : List Int) (s : Int), runs s xs = none → runs s (xs ++ ys) = none
  | [], s, h => by simp [runs] at h
  | x :: xs, s, h => by
    simp only [List.cons_append, runs] at h ⊢
    split
    · rename_i hc
      rw [if_pos hc] at h
      have h2 : runs (s + x) xs = none := by simpa using h
      rw [runs_none ys xs _ h2]; rfl
    · rfl

theorem runs_length : ∀ (xs : List Int) (s : Int) {zs : List Int}, runs s xs = some zs → zs.length = xs.length
  | [], s, zs, h => by simp [runs] at h; rw [← h]
  | x :: xs, s, zs, h => by
    simp only [runs] at h
    split at h
    · obtain ⟨ys, h1, rfl⟩ := Option.map_eq_some_iff.1 h
      simp [runs_length xs _ h1]
    · cases h

theorem runs_all : ∀ (xs : List Int) (s : Int) {zs : List Int}, runs s xs = some zs → xs.all permB = true
  | [], s, zs, h => rfl
  | x :: xs, s, zs, h => by
    simp only [runs] at h
    split at h
    · rename_i hc
      obtain ⟨ys, h1, rfl⟩ := Option.map_eq_some_iff.1 h
      simp only [Bool.and_eq_true] at hc
      simp only [List.all_cons, hc.1, runs_all xs _ h1, Bool.and_self]
    · cases h

theorem runs_take {xs : List Int} {k : Nat} {x : Int} {zs : List Int} (hk : k < xs.length) (hx : xs.getD k 0 = x) (h : runs 0 (xs.take k) = some zs) :
    runs 0 (xs.take (k + 1)) = if permB x && permB ((xs.take k).sum + x) then some (zs ++ [(xs.take k).sum + x]) else none := by
  rw [take_snoc xs k x hk hx, runs_snoc, h]
  simp

theorem runs_bad {xs : List Int} {k : Nat} (h : runs 0 (xs.take k) = none) : runs 0 xs = none := by
  have := runs_none (xs.drop k) (xs.take k) 0 h
  rwa [List.take_append_drop] at this

def runZ (xs : List Int) : List Int := (runs 0 xs).getD []
def runErr (xs : List Int) : Int := if (runs 0 xs).isSome then 0 else 1

/-- A call that hands back a slice of its own with the numbers zs, and an error's number. -/
def GivesE (zs : List Int) (er : Int) (w : World) (e : Ending) (w' : World) : Prop :=
  ∃ v, e = .returned (.tuple #[v, .int .i64 er]) ∧ Own w' w.heap.size v zs ∧ Below w.heap.size w w'

theorem givesE_mk {zs zs' : List Int} {er er' : Int} {w w' : World} {v : Value} (h1 : zs' = zs) (h2 : er' = er) (hown : Own w' w.heap.size v zs') (hb : Below w.heap.size w w') :
    GivesE zs er w (.returned (.tuple #[v, .int .i64 er'])) w' := by subst h1 h2; exact ⟨v, rfl, hown, hb⟩

def RunRel (xs : List Int) (w : World) (l k : Nat) (v s : Value) (wr : World) : Prop :=
  k ≤ l ∧ ∃ zs, runs 0 (xs.take k) = some zs ∧ s = .int .i64 (xs.take k).sum ∧ permB (xs.take k).sum = true ∧ Own wr w.heap.size v zs ∧ Below w.heap.size w wr

set_option maxHeartbeats 800000 in
theorem running_any (a : Option Addr) (l c : Nat) (xs : List Int) (w : World) (hA : Sl w a l c xs) (hl : l ≤ 1000) :
    Calls Try.prog 32 #[.slice a l c] w (GivesE (runZ xs) (runErr xs) w) := by
  obtain ⟨b1, o1, ha0, hac⟩ := hA.cell
  have hxl := Lib.hid hA.hlen
  clear hA
  go_enter Try.func32, Try.ntmps32
  go_wp2
  go_loopw [4, 5, 10] (fun v s i wr => ∃ k : Nat, i = .int .i64 k ∧ RunRel xs w l k v s wr) (fun _ _ i _ => l - (intOf i).toNat)
  case atStart => exact ⟨0, rfl, by omega, [], rfl, rfl, rfl, Own.nil _ _, Below.refl _ _⟩
  case round =>
    obtain ⟨k, rfl, hk, zs, hr, rfl, hps, hown, hbel⟩ := hrel
    by_cases hlt : k < l
    · obtain ⟨rfl, hb1⟩ := ha0 (by omega)
      have c1 : wr.cell? ⟨b1, o1 + k, none⟩ = some (.int .i64 (xs.getD k 0)) := (hbel.cell hb1).trans (hac k hlt)
      generalize hx : xs.getD k 0 = x at c1
      have hst := Lib.hid (runs_take (by rw [hxl.out]; exact hlt) hx hr)
      have hsum := Lib.hid (sum_take_succ xs k x (by rw [hxl.out]; exact hlt) hx)
      have hzl : zs.length ≤ 1000 := by have := runs_length _ _ hr; have := List.length_take_le k xs; omega
      have hqb := permB_true hps
      generalize hq : (xs.take k).sum = q at hst hsum hps hqb
      have hs := hbel.size
      have hn : ∀ k, u4.ownBlock = some k → w.heap.size ≤ k := fun k hk => (hown.lt k hk).1
      clear hx hac ha0 hq hr hps
      go_wp2_with fail
      refine (permitted_any _ _).mono ?_
      rintro e w2 ⟨rfl, rfl⟩
      cases hp : permB x with
      | false =>
        have hbad := Lib.hid (runs_bad (xs := xs) (k := k + 1) (by rw [hst.out, hp]; rfl))
        clear hp
        go_wp2
        go_ret2
        exact givesE_mk (by unfold runZ; rw [hbad.out]; rfl) (by unfold runErr; rw [hbad.out]; rfl) (Own.nil _ _) hbel
      | true =>
        have HP := Lib.hid hp
        have := permB_true hp
        clear hp
        go_wp2_with fail
        refine (permitted_any _ _).mono ?_
        rintro e w2 ⟨rfl, rfl⟩
        cases hp2 : permB (q + x) with
        | false =>
          have hbad := Lib.hid (runs_bad (xs := xs) (k := k + 1) (by rw [hst.out, hp2, HP.out]; rfl))
          clear hp2
          go_wp2
          go_ret2
          exact givesE_mk (by unfold runZ; rw [hbad.out]; rfl) (by unfold runErr; rw [hbad.out]; rfl) (Own.nil _ _) hbel
        | true =>
          have HP2 := Lib.hid hp2
          clear hp2
          go_wp2_with (at_builtin; refine wpList_push rfl (.tmp 27) (.tmp 29) rfl w.heap.size _ _ _ rfl hown rfl (by omega) hs ?_; intro v' w3 hown3 hg3)
          go_roundw
          case rel => exact ⟨k + 1, by go_num, by omega, _, by rw [hst.out, HP2.out, HP.out]; rfl, by rw [hsum.out], by rw [hsum.out, HP2.out], hown3, hbel.grown hg3 hs hn⟩
          case measure => simp [intOf]; omega
    · have hk' : k = l := by omega
      rw [hk', List.take_of_length_le (by rw [hxl.out]; exact Nat.le_refl _)] at hr
      have HR := Lib.hid hr
      clear hr hac ha0 hps
      go_wp2
      go_ret2
      exact givesE_mk (by unfold runZ; rw [HR.out]; rfl) (by unfold runErr; rw [HR.out]; rfl) hown hbel

set_option maxHeartbeats 800000 in
theorem refRunning_any (a : Option Addr) (l c : Nat) (xs : List Int) (w : World) (hA : Sl w a l c xs) (hl : l ≤ 1000) :
    Calls Try.prog 33 #[.slice a l c] w (GivesE (runZ xs) (runErr xs) w) := by
  have hcall := Lib.hid (refAll_any a l c xs w hA hl)
  obtain ⟨b1, o1, ha0, hac⟩ := hA.cell
  have hxl := Lib.hid hA.hlen
  clear hA
  go_enter Try.func33, Try.ntmps33
  go_wp2_with fail
  refine hcall.out.mono ?_
  rintro e w' ⟨rfl, rfl⟩
  cases hall : xs.all permB with
  | false =>
    have e1 : errAll xs = 1 := by unfold errAll; rw [hall]; rfl
    rw [e1]
    have hbad : runs 0 xs = none := by
      cases hr : runs 0 xs with
      | none => rfl
      | some zs => have := runs_all _ _ hr; rw [hall] at this; cases this
    have HA := Lib.hid hbad
    clear hall e1 hac hbad
    go_wp2
    go_ret2
    exact givesE_mk (by unfold runZ; rw [HA.out]; rfl) (by unfold runErr; rw [HA.out]; rfl) (Own.nil _ _) (Below.refl _ _)
  | true =>
    have e1 : errAll xs = 0 := by unfold errAll; rw [hall]; rfl
    rw [e1]
    have HA := Lib.hid hall
    clear hall e1 hcall
    go_wp2
    go_loopw [5, 6, 7] (fun v s i wr => ∃ k : Nat, i = .int .i64 k ∧ RunRel xs w l k v s wr) (fun _ _ i _ => l - (intOf i).toNat)
    case atStart => exact ⟨0, rfl, by omega, [], rfl, rfl, rfl, Own.nil _ _, Below.refl _ _⟩
    case round =>
      obtain ⟨k, rfl, hk, zs, hr, rfl, hps, hown, hbel⟩ := hrel
      by_cases hlt : k < l
      · obtain ⟨rfl, hb1⟩ := ha0 (by omega)
        have c1 : wr.cell? ⟨b1, o1 + k, none⟩ = some (.int .i64 (xs.getD k 0)) := (hbel.cell hb1).trans (hac k hlt)
        generalize hx : xs.getD k 0 = x at c1
        have hxp : permB x = true := by
          cases hq : permB x with
          | true => rfl
          | false => have := all_at_false permB xs k x (by rw [hxl.out]; exact hlt) hx hq; rw [HA.out] at this; cases this
        have HP := Lib.hid hxp
        have := permB_true hxp
        have hst := Lib.hid (runs_take (by rw [hxl.out]; exact hlt) hx hr)
        have hsum := Lib.hid (sum_take_succ xs k x (by rw [hxl.out]; exact hlt) hx)
        have hzl : zs.length ≤ 1000 := by have := runs_length _ _ hr; have := List.length_take_le k xs; omega
        have hqb := permB_true hps
        generalize hq : (xs.take k).sum = q at hst hsum hps hqb
        have hs := hbel.size
        have hn : ∀ k, u5.ownBlock = some k → w.heap.size ≤ k := fun k hk => (hown.lt k hk).1
        clear hx hac ha0 hq hr hps hxp
        go_wp2_with fail
        refine (refPermitted_any _ _).mono ?_
        rintro e w2 ⟨rfl, rfl⟩
        cases hp2 : permB (q + x) with
        | false =>
          have hbad := Lib.hid (runs_bad (xs := xs) (k := k + 1) (by rw [hst.out, hp2, HP.out]; rfl))
          clear hp2
          go_wp2
          go_ret2
          exact givesE_mk (by unfold runZ; rw [hbad.out]; rfl) (by unfold runErr; rw [hbad.out]; rfl) (Own.nil _ _) hbel
        | true =>
          have HP2 := Lib.hid hp2
          clear hp2
          go_wp2_with (at_builtin; refine wpList_push rfl (.tmp 28) (.tmp 30) rfl w.heap.size _ _ _ rfl hown rfl (by omega) hs ?_; intro v' w3 hown3 hg3)
          go_roundw
          case rel => exact ⟨k + 1, by go_num, by omega, _, by rw [hst.out, HP2.out, HP.out]; rfl, by rw [hsum.out], by rw [hsum.out, HP2.out], hown3, hbel.grown hg3 hs hn⟩
          case measure => simp [intOf]; omega
      · have hk' : k = l := by omega
        rw [hk', List.take_of_length_le (by rw [hxl.out]; exact Nat.le_refl _)] at hr
        have HR := Lib.hid hr
        clear hr hac ha0 hps
        go_wp2
        go_ret2
        exact givesE_mk (by unfold runZ; rw [HR.out]; rfl) (by unfold runErr; rw [HR.out]; rfl) hown hbel
end Go.Proofs.Ytecjnenjjedceaa
