/- BitvecAlgebra's walk. -/
import Derived.Test.YtakbmmmoalfedaaWRing
import Derived.Laws.RangeString
namespace Go.Proofs.Ytakbmmmoalfedaa
open Go.RowKit
set_option linter.unusedVariables false

theorem and_toI (x y : BitVec 8) : andZ (toI x) (toI y) = toI (x &&& y) := by unfold andZ; rw [both_toI]; unfold toI; rw [BitVec.toNat_and]; rfl
theorem or_toI (x y : BitVec 8) : orZ (toI x) (toI y) = toI (x ||| y) := by unfold orZ; rw [both_toI]; unfold toI; rw [BitVec.toNat_or]; rfl
theorem xor_toI (x y : BitVec 8) : xorZ (toI x) (toI y) = toI (x ^^^ y) := by unfold xorZ; rw [both_toI]; unfold toI; rw [BitVec.toNat_xor]; rfl
theorem not_toI (x : BitVec 8) : notZ (toI x) = toI (~~~x) := by
  unfold notZ; rw [V_toI, if_pos rfl]; unfold toI; rw [BitVec.toNat_not]; have := x.isLt; omega
theorem bv_morgan (x y : BitVec 8) : ~~~x ||| ~~~y = ~~~(x &&& y) := by
  apply BitVec.eq_of_getLsbD_eq; intro i hi; simp [hi]
theorem bv_notnot (x : BitVec 8) : ~~~(~~~x) = x := by
  apply BitVec.eq_of_getLsbD_eq; intro i hi; simp
theorem bv_over (x y z : BitVec 8) : (x &&& y) ||| (x &&& z) = x &&& (y ||| z) := by
  apply BitVec.eq_of_getLsbD_eq; intro i hi; simp only [BitVec.getLsbD_or, BitVec.getLsbD_and]
  cases x.getLsbD i <;> cases y.getLsbD i <;> cases z.getLsbD i <;> rfl
theorem bv_absorb (x y : BitVec 8) : x ||| (x &&& y) = x := by
  apply BitVec.eq_of_getLsbD_eq; intro i hi; simp only [BitVec.getLsbD_or, BitVec.getLsbD_and]
  cases x.getLsbD i <;> cases y.getLsbD i <;> rfl
theorem bv_none (x : BitVec 8) : x &&& ~~~x = 0#8 := by
  apply BitVec.eq_of_getLsbD_eq; intro i hi; simp [hi]
theorem bv_all (x : BitVec 8) : x ||| ~~~x = 255#8 := by
  have : (255#8) = BitVec.allOnes 8 := by decide
  rw [this]
  apply BitVec.eq_of_getLsbD_eq; intro i hi; simp [hi]
theorem bv_undo (x y : BitVec 8) : x ^^^ y ^^^ y = x := by
  apply BitVec.eq_of_getLsbD_eq; intro i hi; simp only [BitVec.getLsbD_xor]
  cases x.getLsbD i <;> cases y.getLsbD i <;> rfl
theorem textS_size (a : Int) : (textS a).size = 8 := by simp [textS, digL, ByteArray.size]
theorem textS_at (a : Int) (k : Nat) (h : k < (textS a).size) : (((textS a)[k]'h).toNat : Int) = 48 + dig a k := by
  have h8 : k < 8 := by rw [textS_size] at h; exact h
  have e : (textS a)[k]'h = UInt8.ofNat (48 + dig a k).toNat := by
    exact (List.getElem_toArray (xs := digL a) (i := k) (by simpa [digL] using h8)).trans (by unfold digL; rw [List.getElem_ofFn])
  rw [e]
  rcases dig_01 a k with h | h <;> simp [h]
theorem textS_small (a : Int) (k : Nat) (h : k < (textS a).size) : ((textS a)[k]'h).toNat < 128 := by
  have := textS_at a k h
  have := dig_01 a k
  omega
/-- how far the walk over a text has to go -/
def iterLeft (w wr : World) : Nat := match wr.heap[w.heap.size]? with | some (.stringIter s p) => s.size - p | _ => 0
theorem alg_facts (a b c : Int) (ha : V a = true) (hb : V b = true) (hc : V c = true) : ∃ ab nab na nb bc d ac xb : Int,
    andZ a b = ab ∧
    notZ ab = nab ∧
    notZ a = na ∧
    notZ b = nb ∧
    orZ na nb = nab ∧
    notZ a = na ∧
    notZ na = a ∧
    orZ b c = bc ∧
    andZ a bc = d ∧
    andZ a b = ab ∧
    andZ a c = ac ∧
    orZ ab ac = d ∧
    andZ a b = ab ∧
    orZ a ab = a ∧
    notZ a = na ∧
    andZ a na = 0 ∧
    notZ a = na ∧
    orZ a na = 255 ∧
    xorZ a b = xb ∧
    xorZ xb b = a := by
  obtain ⟨x, rfl⟩ := toI_of ha
  obtain ⟨y, rfl⟩ := toI_of hb
  obtain ⟨z, rfl⟩ := toI_of hc
  exact ⟨toI (x &&& y), toI (~~~(x &&& y)), toI (~~~x), toI (~~~y), toI (y ||| z), toI (x &&& (y ||| z)), toI (x &&& z), toI (x ^^^ y),
    and_toI _ _,
    not_toI _,
    not_toI _,
    not_toI _,
    (or_toI _ _).trans (congrArg toI (bv_morgan x y)),
    not_toI _,
    (not_toI _).trans (congrArg toI (bv_notnot x)),
    or_toI _ _,
    and_toI _ _,
    and_toI _ _,
    and_toI _ _,
    (or_toI _ _).trans (congrArg toI (bv_over x y z)),
    and_toI _ _,
    (or_toI _ _).trans (congrArg toI (bv_absorb x y)),
    not_toI _,
    (and_toI _ _).trans (congrArg toI (bv_none x)),
    not_toI _,
    (or_toI _ _).trans (congrArg toI (bv_all x)),
    xor_toI _ _,
    (xor_toI _ _).trans (congrArg toI (bv_undo x y))⟩
theorem iterLeft_at (w : World) (a : Int) (k : Nat) : iterLeft w (w.iter (textS a) k) = 8 - k := by
  unfold iterLeft World.iter
  have : (w.alloc (.stringIter (textS a) k)).heap[w.heap.size]? = some (.stringIter (textS a) k) := heap_alloc_new _ _
  rw [this]
  simp only [textS_size]
set_option maxHeartbeats 1600000 in
theorem alg_walk (a b c : Int) (w : World) (ha : V a = true) (hb : V b = true) (hc : V c = true) : Calls Try.prog 9 #[.int .u8 a, .int .u8 b, .int .u8 c] w (OneB true w) := by
  obtain ⟨ab, nab, na, nb, bc, d, ac, xb, g0, g1, g2, g3, g4, g5, g6, g7, g8, g9, g10, g11, g12, g13, g14, g15, g16, g17, g18, g19⟩ := alg_facts a b c ha hb hc
  have f0 := Lib.hid g0
  have f1 := Lib.hid g1
  have f2 := Lib.hid g2
  have f3 := Lib.hid g3
  have f4 := Lib.hid g4
  have f5 := Lib.hid g5
  have f6 := Lib.hid g6
  have f7 := Lib.hid g7
  have f8 := Lib.hid g8
  have f9 := Lib.hid g9
  have f10 := Lib.hid g10
  have f11 := Lib.hid g11
  have f12 := Lib.hid g12
  have f13 := Lib.hid g13
  have f14 := Lib.hid g14
  have f15 := Lib.hid g15
  have f16 := Lib.hid g16
  have f17 := Lib.hid g17
  have f18 := Lib.hid g18
  have f19 := Lib.hid g19
  clear g0 g1 g2 g3 g4 g5 g6 g7 g8 g9 g10 g11 g12 g13 g14 g15 g16 g17 g18 g19
  have htz := Lib.hid (show textZ a = textS a from if_pos ha)
  have hoz := Lib.hid (show onesZ a = onesN a 8 from if_pos ha)
  have ha := V_true ha
  have hb := V_true hb
  have hc := V_true hc
  go_enter Try.func9, Try.ntmps9
  go_wp2_with fail
  refine (and_any _ _ _).mono ?_
  rintro e w1 ⟨rfl, hb1⟩
  rw [f0.out]
  go_wp2_with fail
  refine (not_any _ _).mono ?_
  rintro e w2 ⟨rfl, hb2⟩
  rw [f1.out]
  go_wp2_with fail
  refine (not_any _ _).mono ?_
  rintro e w3 ⟨rfl, hb3⟩
  rw [f2.out]
  go_wp2_with fail
  refine (not_any _ _).mono ?_
  rintro e w4 ⟨rfl, hb4⟩
  rw [f3.out]
  go_wp2_with fail
  refine (or_any _ _ _).mono ?_
  rintro e w5 ⟨rfl, hb5⟩
  rw [f4.out]
  go_wp2_with fail
  refine (not_any _ _).mono ?_
  rintro e w6 ⟨rfl, hb6⟩
  rw [f5.out]
  go_wp2_with fail
  refine (not_any _ _).mono ?_
  rintro e w7 ⟨rfl, hb7⟩
  rw [f6.out]
  go_wp2_with fail
  refine (or_any _ _ _).mono ?_
  rintro e w8 ⟨rfl, hb8⟩
  rw [f7.out]
  go_wp2_with fail
  refine (and_any _ _ _).mono ?_
  rintro e w9 ⟨rfl, hb9⟩
  rw [f8.out]
  go_wp2_with fail
  refine (and_any _ _ _).mono ?_
  rintro e w10 ⟨rfl, hb10⟩
  rw [f9.out]
  go_wp2_with fail
  refine (and_any _ _ _).mono ?_
  rintro e w11 ⟨rfl, hb11⟩
  rw [f10.out]
  go_wp2_with fail
  refine (or_any _ _ _).mono ?_
  rintro e w12 ⟨rfl, hb12⟩
  rw [f11.out]
  go_wp2_with fail
  refine (and_any _ _ _).mono ?_
  rintro e w13 ⟨rfl, hb13⟩
  rw [f12.out]
  go_wp2_with fail
  refine (or_any _ _ _).mono ?_
  rintro e w14 ⟨rfl, hb14⟩
  rw [f13.out]
  go_wp2_with fail
  refine (not_any _ _).mono ?_
  rintro e w15 ⟨rfl, hb15⟩
  rw [f14.out]
  go_wp2_with fail
  refine (and_any _ _ _).mono ?_
  rintro e w16 ⟨rfl, hb16⟩
  rw [f15.out]
  go_wp2_with fail
  refine (not_any _ _).mono ?_
  rintro e w17 ⟨rfl, hb17⟩
  rw [f16.out]
  go_wp2_with fail
  refine (or_any _ _ _).mono ?_
  rintro e w18 ⟨rfl, hb18⟩
  rw [f17.out]
  have HB := (Below.next (Below.next (Below.next (Below.next (Below.next (Below.next (Below.next (Below.next (Below.next (Below.next (Below.next (Below.next (Below.next (Below.next (Below.next (Below.next (Below.next hb1 hb2) hb3) hb4) hb5) hb6) hb7) hb8) hb9) hb10) hb11) hb12) hb13) hb14) hb15) hb16) hb17) hb18)
  clear hb1 hb2 hb3 hb4 hb5 hb6 hb7 hb8 hb9 hb10 hb11 hb12 hb13 hb14 hb15 hb16 hb17 hb18
  go_wp2_with fail
  refine (text_any _ _).mono ?_
  rintro e w19 ⟨rfl, hb19⟩
  rw [htz.out]
  have HB := Below.next HB hb19
  clear hb19
  have hsz := textS_size a
  go_wp2
  go_loopw [13] (fun n wr => ∃ k : Nat, k ≤ 8 ∧ n = .int .i64 (onesN a k) ∧ wr = w19.iter (textS a) k) (fun _ wr => iterLeft w19 wr)
  case atStart => exact ⟨0, by omega, rfl, rfl⟩
  case round =>
    obtain ⟨k, hk, rfl, rfl⟩ := hrel
    have hbd := onesN_bd a k
    by_cases hlt : k < 8
    · have hnext : ∀ ty, (Instr.next (.pointer (some ⟨w19.heap.size, 0, none⟩)) true ty).run Try.prog (w19.iter (textS a) k) = .ok (.tuple #[.bool true, .int .i64 k, .int .i32 (48 + dig a k)]) (w19.iter (textS a) (k + 1)) := fun ty => by
        have h := run_next_ascii (P := Try.prog) w19 (textS a) k ty (by omega) (textS_small a k (by omega))
        rw [textS_at a k (by omega)] at h
        exact h
      have hs := Lib.hid (show onesN a (k + 1) = onesN a k + dig a k from rfl)
      have h01 := dig_01 a k
      generalize onesN a k = m at hbd hs
      generalize dig a k = d at hnext h01 hs
      clear hsz
      rcases h01 with rfl | rfl
      · go_wp2
        exact ⟨⟨k + 1, by omega, by rw [hs.out]; congr 1; omega, rfl⟩, by rw [iterLeft_at, iterLeft_at]; omega⟩
      · go_wp2
        exact ⟨⟨k + 1, by omega, by rw [hs.out], rfl⟩, by rw [iterLeft_at, iterLeft_at]; omega⟩
    · have hk' : k = 8 := by omega
      have hnext : ∀ ty, (Instr.next (.pointer (some ⟨w19.heap.size, 0, none⟩)) true ty).run Try.prog (w19.iter (textS a) k) = .ok (.tuple #[.bool false]) (w19.iter (textS a) k) := fun ty => run_next_end (P := Try.prog) w19 (textS a) k ty (by omega)
      have HK := Lib.hid hk'
      clear hk' hsz hbd
      have HB2 : ∀ k, Below w.heap.size w (w19.iter (textS a) k) := fun k => HB.alloc HB.size _
      go_wp2_with fail
      refine (xor_any _ _ _).mono ?_
      rintro e w20 ⟨rfl, hb20⟩
      rw [f18.out]
      go_wp2_with fail
      refine (xor_any _ _ _).mono ?_
      rintro e w21 ⟨rfl, hb21⟩
      rw [f19.out]
      go_wp2_with fail
      refine (ones_any _ _).mono ?_
      rintro e w22 ⟨rfl, hb22⟩
      rw [hoz.out, HK.out]
      go_wp2_with fail
      refine (alive_any _).mono ?_
      rintro e w23 ⟨rfl, hb23⟩
      go_wp2
      go_ret
      exact ⟨rfl, Below.next (Below.next (Below.next (Below.next (HB2 _) hb20) hb21) hb22) hb23⟩
end Go.Proofs.Ytakbmmmoalfedaa
