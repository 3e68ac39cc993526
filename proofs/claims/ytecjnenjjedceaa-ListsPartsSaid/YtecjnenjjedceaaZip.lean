/- Zip and its reference. -/
import Derived.Test.YtecjnenjjedceaaShift
import Derived.StillTailTactics
namespace Go.Proofs.Ytecjnenjjedceaa
open Go.RowKit
set_option linter.unusedVariables false

def zipS (xs ys : List Int) : List Int := List.zipWith (· + ·) xs ys
def zipOk (xs ys : List Int) : Bool := xs.all permB && ys.all permB && (zipS xs ys).all permB
def zipZ (xs ys : List Int) : List Int := if zipOk xs ys then zipS xs ys else []
def zipErr (xs ys : List Int) : Int := if zipOk xs ys then 0 else 1

theorem zip_bad {xs ys : List Int} (h : zipOk xs ys = false) : zipZ xs ys = [] ∧ zipErr xs ys = 1 := by
  unfold zipZ zipErr; rw [h]; exact ⟨rfl, rfl⟩
theorem zip_good {xs ys : List Int} (h : zipOk xs ys = true) : zipZ xs ys = zipS xs ys ∧ zipErr xs ys = 0 := by
  unfold zipZ zipErr; rw [h]; exact ⟨rfl, rfl⟩

theorem zipS_comm (xs ys : List Int) : zipS xs ys = zipS ys xs := by
  unfold zipS
  rw [List.zipWith_comm]
  congr 1
  funext a b
  omega
theorem zip_comm (xs ys : List Int) : zipZ xs ys = zipZ ys xs ∧ zipErr xs ys = zipErr ys xs := by
  have e : zipOk xs ys = zipOk ys xs := by unfold zipOk; rw [zipS_comm, Bool.and_comm (xs.all permB)]
  unfold zipZ zipErr
  rw [e, zipS_comm]
  exact ⟨rfl, rfl⟩

theorem zipS_take (xs ys : List Int) : zipS (xs.take (min xs.length ys.length)) ys = zipS xs ys := by
  apply List.ext_getElem?
  intro i
  unfold zipS
  simp only [List.getElem?_zipWith, List.getElem?_take]
  by_cases h : i < min xs.length ys.length
  · rw [if_pos h]
  · rw [if_neg h]
    by_cases h2 : i < xs.length
    · have : ys[i]? = none := List.getElem?_eq_none (by omega)
      rw [this]; cases xs[i]? <;> rfl
    · have : xs[i]? = none := List.getElem?_eq_none (by omega)
      rw [this]

/-- the first k places added already -/
def zpart (xs ys : List Int) (k : Nat) : List Int := zipS (xs.take k) (ys.take k) ++ xs.drop k
theorem zpart_length (xs ys : List Int) (k : Nat) (h : xs.length ≤ ys.length) : (zpart xs ys k).length = xs.length := by
  simp [zpart, zipS]; omega
theorem zpart_at (xs ys : List Int) (k : Nat) (hk : k < xs.length) (h : xs.length ≤ ys.length) : (zpart xs ys k).getD k 0 = xs.getD k 0 := by
  have e : (zipS (xs.take k) (ys.take k)).length = k := by simp [zipS]; omega
  simp [zpart, List.getD, List.getElem?_append, hk, e]
theorem zpart_succ (xs ys : List Int) (k : Nat) (hk : k < xs.length) (h : xs.length ≤ ys.length) (x y : Int) (hx : xs.getD k 0 = x) (hy : ys.getD k 0 = y) :
    zpart xs ys (k + 1) = (zpart xs ys k).set k (x + y) := by
  have e : xs.drop k = x :: xs.drop (k + 1) := by
    rw [List.drop_eq_getElem_cons hk]
    congr 1
    simpa [List.getD, hk] using hx
  have el : (zipS (xs.take k) (ys.take k)).length = k := by simp [zipS]; omega
  have ez : zipS (xs.take (k + 1)) (ys.take (k + 1)) = zipS (xs.take k) (ys.take k) ++ [x + y] := by
    rw [take_snoc xs k x hk hx, take_snoc ys k y (by omega) hy]
    unfold zipS
    rw [List.zipWith_append (by simp; omega)]
    rfl
  unfold zpart
  rw [ez, e, List.set_append, if_neg (by rw [el]; omega), el]
  simp
theorem zpart_end (xs ys : List Int) (k : Nat) (hk : xs.length ≤ k) (h : xs.length ≤ ys.length) : zpart xs ys k = zipS xs ys := by
  have := zipS_take xs ys
  unfold zpart
  rw [List.take_of_length_le hk, List.drop_of_length_le hk, List.append_nil]
  have e2 := zipS_take ys xs
  rw [zipS_comm, zipS_comm xs ys]
  by_cases hh : ys.length ≤ k
  · rw [List.take_of_length_le hh]
  · apply List.ext_getElem?
    intro i
    unfold zipS
    simp only [List.getElem?_zipWith, List.getElem?_take]
    by_cases h1 : i < k
    · rw [if_pos h1]
    · rw [if_neg h1]
      have : xs[i]? = none := List.getElem?_eq_none (by omega)
      rw [this]; cases ys[i]? <;> rfl

set_option maxHeartbeats 800000 in
theorem zip_any (a b : Option Addr) (la lb ca cb : Nat) (xs ys : List Int) (w : World) (hA : Sl w a la ca xs) (hB : Sl w b lb cb ys) (hla : la ≤ 1000) (hlb : lb ≤ 1000) :
    Calls Try.prog 38 #[.slice a la ca, .slice b lb cb] w (GivesE (zipZ xs ys) (zipErr xs ys) w) := by
  have hac := hA.hcap
  have hxl := Lib.hid hA.hlen
  have hyl := Lib.hid hB.hlen
  have HA := Lib.hid hA
  have HB := Lib.hid hB
  clear hA hB
  go_enter Try.func38, Try.ntmps38
  go_wp2_with fail
  refine (allowed_any a la ca xs w HA.out hla).mono ?_
  rintro e w1 ⟨rfl, rfl⟩
  cases h1 : xs.all permB with
  | false =>
    obtain ⟨e1, e2⟩ := zip_bad (xs := xs) (ys := ys) (by unfold zipOk; rw [h1]; rfl)
    have E1 := Lib.hid e1
    have E2 := Lib.hid e2
    clear h1 e1 e2
    go_wp2
    go_ret2
    rw [E1.out, E2.out]
    exact ⟨_, rfl, Own.nil _ _, Below.refl _ _⟩
  | true =>
    have H1 := Lib.hid h1
    clear h1
    go_wp2_with fail
    refine (allowed_any b lb cb ys w HB.out hlb).mono ?_
    rintro e w1 ⟨rfl, rfl⟩
    cases h2 : ys.all permB with
    | false =>
      obtain ⟨e1, e2⟩ := zip_bad (xs := xs) (ys := ys) (by unfold zipOk; rw [H1.out, h2]; rfl)
      have E1 := Lib.hid e1
      have E2 := Lib.hid e2
      clear h2 e1 e2
      go_wp2
      go_ret2
      rw [E1.out, E2.out]
      exact ⟨_, rfl, Own.nil _ _, Below.refl _ _⟩
    | true =>
      have H2 := Lib.hid h2
      clear h2
      obtain ⟨m, hm⟩ : ∃ m, m = min la lb := ⟨_, rfl⟩
      obtain ⟨A, hAd⟩ : ∃ A, A = xs.take m := ⟨_, rfl⟩
      have hz := Lib.hid (show zipS A ys = zipS xs ys by rw [hAd, hm, ← hxl.out, ← hyl.out]; exact zipS_take xs ys)
      have hSA : Sl w a m ca A := by rw [hAd]; exact HA.out.take (by omega)
      have hAp : A.all permB = true := by rw [hAd]; exact List.all_eq_true.2 fun x hx => List.all_eq_true.1 H1.out x (List.mem_of_mem_take hx)
      have HAP := Lib.hid hAp
      have hql : A.length ≤ lb := by rw [hSA.hlen]; omega
      clear hAd hAp
      obtain ⟨b2, o2, hb0, hbc⟩ := HB.out.cell
      have hcase : (m = la ∧ la ≤ lb) ∨ (m = lb ∧ lb < la) := by omega
      clear hm
      rcases hcase with ⟨rfl, hle⟩ | ⟨rfl, hle⟩
      all_goals
        have HSA := Lib.hid hSA
        have hAl := hSA.hlen
        clear hSA
        go_wp2_with fail
        refine (copied_any a _ ca A w HSA.out (by omega)).mono ?_
        rintro e w2 ⟨v, rfl, hown, hb⟩
        obtain ⟨ao, co, rfl, hso⟩ := hown.sl
        have hqy := Lib.hid (show A.length ≤ ys.length by rw [hyl.out]; exact hql)
        have HO := Lib.hid hown
        obtain ⟨q, hq⟩ : ∃ q, q = A.length := ⟨_, rfl⟩
        rw [← hq] at HO hql ⊢
        have HQ := Lib.hid hq
        clear hown hso hAl hq
        go_wp2
        go_loopw [26] (fun i wr => ∃ k : Nat, i = .int .i64 k ∧ k ≤ q ∧ Hid (Own wr w.heap.size (.slice ao q co) (zpart A ys k)) ∧ Below w.heap.size w wr) (fun i _ => q - (intOf i).toNat)
        case atStart => exact ⟨0, rfl, by omega, HO.out, hb⟩
        case round =>
          obtain ⟨k, rfl, hk, hown, hbel⟩ := hrel
          by_cases hlt : k < q
          · obtain ⟨g, cap, hv, hg, hgs⟩ := hown.out.at (by rw [zpart_length _ _ _ hqy.out, ← HQ.out]; omega)
            simp only [Value.slice.injEq] at hv
            obtain ⟨rfl, -, rfl⟩ := hv
            obtain ⟨rfl, hbl⟩ := hb0 (by omega)
            obtain ⟨c1, f1⟩ := hown.out.cell k (by rw [zpart_length _ _ _ hqy.out, ← HQ.out]; omega)
            rw [zpart_at A ys k (by rw [← HQ.out]; exact hlt) hqy.out] at c1
            have c2 : wr.cell? ⟨b2, o2 + k, none⟩ = some (.int .i64 (ys.getD k 0)) := (hbel.cell hbl).trans (hbc k (by omega))
            have hxp : permB (A.getD k 0) = true := by
              cases hq : permB (A.getD k 0) with
              | true => rfl
              | false => have := all_at_false permB A k _ (by rw [← HQ.out]; exact hlt) rfl hq; rw [HAP.out] at this; cases this
            have hyp : permB (ys.getD k 0) = true := by
              cases hq : permB (ys.getD k 0) with
              | true => rfl
              | false => have := all_at_false permB ys k _ (by rw [hyl.out]; omega) rfl hq; rw [H2.out] at this; cases this
            generalize hx : A.getD k 0 = x at c1 hxp
            generalize hy : ys.getD k 0 = y at c2 hyp
            have hst := Lib.hid (zpart_succ A ys k (by rw [← HQ.out]; exact hlt) hqy.out x y hx hy)
            have hxb := permB_true hxp
            have hyb := permB_true hyp
            have hwr : IntKind.i64.wrap (x + y) = x + y := IntWalk.i64_in _ (by omega)
            have hne : b2 ≠ g := by omega
            have hkb := Nat.lt_of_lt_of_le hlt hql
            clear hx hxp hy hyp hbc hb0
            go_wp2
            go_region
            clear hwr
            go_wp2
            go_roundw
            case rel =>
              refine ⟨k + 1, by go_num, by omega, ?_, (hbel.setCell hg _).drew⟩
              show Own _ _ _ _
              rw [hst.out]
              exact World.ownsRow.drew (hown.out.stored k (x + y))
            case measure => simp [intOf]; omega
          · have hpe := Lib.hid (zpart_end A ys k (by rw [← HQ.out]; omega) hqy.out)
            obtain ⟨ao2, co2, hv, hso⟩ := hown.out.sl
            rw [zpart_length _ _ _ hqy.out, ← HQ.out] at hso
            simp only [Value.slice.injEq] at hv
            obtain ⟨rfl, -, rfl⟩ := hv
            have HSO := Lib.hid hso
            have hq1000 : q ≤ 1000 := by omega
            clear hso hbc hb0
            go_wp2_with fail
            refine (allowed_any _ q _ _ _ HSO.out hq1000).mono ?_
            rintro e w4 ⟨rfl, rfl⟩
            rw [hpe.out]
            cases h3 : (zipS A ys).all permB with
            | false =>
              obtain ⟨e1, e2⟩ := zip_bad (xs := xs) (ys := ys) (by unfold zipOk; rw [H1.out, H2.out, ← hz.out, h3]; rfl)
              have E1 := Lib.hid e1
              have E2 := Lib.hid e2
              clear h3 e1 e2
              go_wp2
              go_ret2
              rw [E1.out, E2.out]
              exact ⟨_, rfl, Own.nil _ _, hbel⟩
            | true =>
              obtain ⟨e1, e2⟩ := zip_good (xs := xs) (ys := ys) (by unfold zipOk; rw [H1.out, H2.out, ← hz.out, h3]; rfl)
              have E1 := Lib.hid e1
              have E2 := Lib.hid e2
              clear h3 e1 e2
              go_wp2
              go_ret2
              rw [E1.out, E2.out, ← hz.out, ← hpe.out]
              exact ⟨_, rfl, hown.out, hbel⟩
end Go.Proofs.Ytecjnenjjedceaa
