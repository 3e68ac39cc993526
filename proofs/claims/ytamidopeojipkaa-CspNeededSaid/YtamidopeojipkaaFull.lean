/- full: the walk. -/
import Derived.Test.YtamidopeojipkaaTab
namespace Go.Proofs.Ytamidopeojipkaa
open Go.RowKit
set_option linter.unusedVariables false

/-- how many values the variables have -/
def szs (sizes : List Int) : Nat → Nat := fun i => (sizes.getD i 0).toNat

set_option maxRecDepth 20000 in
set_option maxHeartbeats 1600000 in
theorem full_any {w : World} {P : Nat → Prop} {sv : Value} {sizes : List Int} (hs : IntsAt w P sv sizes) (hP : Under P w.heap.size) (hn : sizes.length ≤ 1000) (hsm : ∀ n, n < sizes.length → 1 ≤ sizes.getD n 0 ∧ sizes.getD n 0 ≤ 1000) :
    Calls Try.prog 32 #[sv] w fun e w' => ∃ v bs, e = .returned v ∧ TabAt w' w.heap.size v bs sizes.length (szs sizes) (fun _ _ => true) ∧ Below w.heap.size w w' := by
  obtain ⟨sa, scap, sb, so, rfl, hsr⟩ := hs
  have HS := Lib.hid hsr
  have HP := Lib.hid hP
  have HSM := Lib.hid hsm
  have hsc := hsr.hcap
  have hsm1 : scap ≤ 9223372036854775807 := by have := hsr.hmax; unfold maxLen at this; omega
  obtain ⟨ls, hls⟩ : ∃ ls, sizes.length = ls := ⟨_, rfl⟩
  rw [hls] at HS HSM hsc hn ⊢
  clear hsr hP hsm
  go_enter Try.func32, Try.ntmps32
  go_wp2
  go_loopw [3, 10] (fun v i wr => ∃ (k : Nat) (bs : Nat → Nat) (m : Nat → Nat) (f : Nat → Nat → Bool), k ≤ ls ∧ i = .int .i64 k ∧ TabAt wr w.heap.size v bs k m f ∧ Below w.heap.size w wr ∧ (∀ i, i < k → m i = szs sizes i) ∧ ∀ i j, i < k → j < m i → f i j = true) (fun _ i _ => ls - (intOf i).toNat)
  case atStart => exact ⟨0, fun _ => 0, fun _ => 0, fun _ _ => true, by omega, rfl, TabAt.nil _ _ _ _ _, Below.refl _ _, fun i hi => by omega, fun i j hi => by omega⟩
  case round =>
    obtain ⟨k, bs, m, f, hk, rfl, htab, hbel, hm, hf⟩ := hrel
    have HT := Lib.hid htab
    have HB := Lib.hid hbel
    have HM := Lib.hid hm
    have HF := Lib.hid hf
    clear hm hf
    by_cases hlt : k < ls
    · obtain ⟨rfl, hp1⟩ := HS.out.ha (by omega)
      have d1 := (HS.out.kept (Below.keptB hbel HP.out)).hc k (by omega)
      have hx := HSM.out k hlt
      have hsz : szs sizes k = (sizes.getD k 0).toNat := rfl
      obtain ⟨x, hxe⟩ : ∃ x : Nat, sizes.getD k 0 = x := ⟨(sizes.getD k 0).toNat, by omega⟩
      rw [hxe] at hsz d1 hx
      rw [Int.toNat_natCast] at hsz
      have HSZ := Lib.hid hsz
      clear htab hbel hxe hsz
      generalize wr = WO at *
      have HNEW := Lib.hid (heap_alloc_new WO (.cells (rowB (fun _ => false) x) 4))
      have HBW : Hid (Below WO.heap.size WO (WO.alloc (.cells (rowB (fun _ => false) x) 4))) := Lib.hid ((Below.refl _ WO).alloc (Nat.le_refl _) _)
      go_wp2_with (refine wpList_mkB rfl _ _ rfl x rfl rfl (by omega) ?_)
      generalize WO.alloc (.cells (rowB (fun _ => false) x) 4) = W at *
      go_loopw [18] (fun i wr => ∃ q : Nat, q ≤ x ∧ i = .int .i64 q ∧ wr.heap[WO.heap.size]? = some (.cells (rowB (fun j => decide (j < q)) x) 4 (0, 0)) ∧ Below WO.heap.size WO wr) (fun i _ => x - (intOf i).toNat)
      case atStart => exact ⟨0, by omega, rfl, by rw [HNEW.out]; simp, HBW.out⟩
      case round =>
        obtain ⟨q, hq, rfl, hrow, hb2⟩ := hrel
        have HROW := Lib.hid hrow
        have HB2 := Lib.hid hb2
        by_cases hql : q < x
        · have g1 : wr.cell? ⟨WO.heap.size, q, none⟩ = some (.bool (decide (q < q))) := (cell_row' _ _ q _ _ hrow).trans (rowB_at _ hql)
          have g2 := frozen_row' wr WO.heap.size q _ _ hrow
          have hrow2 := setCell_row q (.bool true) hrow
          rw [rowB_set] at hrow2
          have hon := (Only.refl (fun b => b = WO.heap.size) wr).setCell (b := WO.heap.size) rfl q (.bool true)
          have HON := Lib.hid hon
          have HROW2 := Lib.hid hrow2
          clear hrow hb2 hon hrow2
          go_wp2
          go_roundw
          case rel => exact ⟨q + 1, by omega, by go_num, HROW2.out.trans (by
            congr 2
            refine rowB_congr fun j hj => ?_
            by_cases e : j = q
            · simp [e]
            · simp [e]; omega), HB2.out.trans ((show Below WO.heap.size wr _ from ⟨HON.out.os, HON.out.tape, HON.out.output, Nat.le_of_eq HON.out.size.symm, fun k hk => HON.out.block k (by omega)⟩))⟩
          case measure => simp [intOf]; omega
        · have hql2 : ¬ (q : Int) < x := by omega
          have hq' : q = x := by omega
          subst hq'
          have htw := HT.out.below hb2
          have HTW := Lib.hid htw
          have hsz := (Array.getElem?_eq_some_iff.1 hrow).1
          have hfin := Below.next HB.out hb2
          have HFIN := Lib.hid hfin
          have hbase := hfin.size
          have hbas2 := HB.out.size
          clear hrow hb2 htw hfin
          go_wp2_with (refine wpList_pushV und30 info33 rfl (by omega) rfl (.tmp 25) (.tmp 27) rfl w.heap.size _ k _ _ rfl rfl HTW.out.own rfl (by omega) hbase ?_; intro v5 w5 ho5 hg5 ha5)
          go_roundw
          case rel => exact ⟨k + 1, _, _, _, by omega, by go_num, HTW.out.push HROW.out hbas2 (fun e => by have := HT.out.lt _ e; omega) ho5 hg5 ha5, grown_below HFIN.out hg5 HTW.out.own, fun i hi => by
            by_cases e : i = k
            · simp only [if_pos e]; rw [e, HSZ.out]
            · simp only [if_neg e]; exact HM.out i (by omega), fun i j hi hj => by
            by_cases e : i = k
            · simp only [if_pos e]; simp only [if_pos e] at hj; simpa using hj
            · simp only [if_neg e] at hj ⊢; exact HF.out i j (by omega) hj⟩
          case measure => simp [intOf]; omega
    · have hkl : ¬ (k : Int) < ls := by omega
      have hk' : k = ls := by omega
      subst hk'
      clear htab hbel
      go_wp2
      go_ret
      exact ⟨_, rfl, ⟨bs, (HT.out.congr (g := fun _ _ => true) (fun i j hi hj => HF.out i j hi hj)).msz (fun i hi => HM.out i hi)⟩, HB.out⟩
end Go.Proofs.Ytamidopeojipkaa
