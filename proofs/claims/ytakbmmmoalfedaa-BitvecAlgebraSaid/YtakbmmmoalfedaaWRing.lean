/- BitvecRing's walk. -/
import Derived.Test.YtakbmmmoalfedaaAlive
import Derived.OpenShut
namespace Go.Proofs.Ytakbmmmoalfedaa
open Go.RowKit
set_option linter.unusedVariables false

theorem V_u8 {a : Int} (h : (Lit.int .u8 a).wf = true) : V a = true := by
  have := Go.bounds_u8 h
  exact V_mk this.1 (by omega)
def toI (x : BitVec 8) : Int := (x.toNat : Int)
theorem toI_of {a : Int} (h : V a = true) : ∃ x, a = toI x := by
  have h := V_true h
  exact ⟨BitVec.ofNat 8 a.toNat, by unfold toI; rw [BitVec.toNat_ofNat]; omega⟩
theorem V_toI (x : BitVec 8) : V (toI x) = true := V_mk (by unfold toI; omega) (by unfold toI; have := x.isLt; omega)
theorem both_toI (x y : BitVec 8) (v : Int) : both (toI x) (toI y) v = v := by unfold both; rw [V_toI, V_toI]; rfl
theorem add_toI (x y : BitVec 8) : addZ (toI x) (toI y) = toI (x + y) := by
  unfold addZ; rw [both_toI]; unfold toI; rw [BitVec.toNat_add]; omega
theorem mul_toI (x y : BitVec 8) : mulZ (toI x) (toI y) = toI (x * y) := by
  unfold mulZ; rw [both_toI]; unfold toI; rw [BitVec.toNat_mul]; simp
theorem sub_toI (x y : BitVec 8) : subZ (toI x) (toI y) = toI (x - y) := by
  unfold subZ; rw [both_toI]; unfold toI; rw [BitVec.toNat_sub]; have := y.isLt; omega
theorem left_toI (x : BitVec 8) : leftZ (toI x) 1 = toI (x + x) := by
  unfold leftZ; rw [V_toI, if_pos rfl, show distZ 1 = 1 from rfl]; unfold toI; rw [BitVec.toNat_add]; omega
theorem add0_toI (x : BitVec 8) : addZ (toI x) 0 = toI x := by
  have := add_toI x 0#8; rw [BitVec.add_zero] at this; exact this
theorem mul1_toI (x : BitVec 8) : mulZ (toI x) 1 = toI x := by
  have := mul_toI x 1#8; rw [BitVec.mul_one] at this; exact this
theorem ring_facts (a b c : Int) (ha : V a = true) (hb : V b = true) (hc : V c = true) : ∃ ab abc bc pab pabc pbc d pac aa : Int,
    addZ a b = ab ∧
    addZ ab c = abc ∧
    addZ b c = bc ∧
    addZ a bc = abc ∧
    addZ a b = ab ∧
    addZ b a = ab ∧
    addZ a 0 = a ∧
    mulZ a b = pab ∧
    mulZ pab c = pabc ∧
    mulZ b c = pbc ∧
    mulZ a pbc = pabc ∧
    mulZ a b = pab ∧
    mulZ b a = pab ∧
    mulZ a 1 = a ∧
    addZ b c = bc ∧
    mulZ a bc = d ∧
    mulZ a b = pab ∧
    mulZ a c = pac ∧
    addZ pab pac = d ∧
    addZ a b = ab ∧
    subZ ab b = a ∧
    leftZ a 1 = aa ∧
    addZ a a = aa := by
  obtain ⟨x, rfl⟩ := toI_of ha
  obtain ⟨y, rfl⟩ := toI_of hb
  obtain ⟨z, rfl⟩ := toI_of hc
  exact ⟨toI (x + y), toI (x + y + z), toI (y + z), toI (x * y), toI (x * y * z), toI (y * z), toI (x * (y + z)), toI (x * z), toI (x + x),
    add_toI _ _,
    add_toI _ _,
    add_toI _ _,
    (add_toI _ _).trans (congrArg toI (BitVec.add_assoc x y z |>.symm)),
    add_toI _ _,
    (add_toI _ _).trans (congrArg toI (BitVec.add_comm y x)),
    add0_toI x,
    mul_toI _ _,
    mul_toI _ _,
    mul_toI _ _,
    (mul_toI _ _).trans (congrArg toI (BitVec.mul_assoc x y z |>.symm)),
    mul_toI _ _,
    (mul_toI _ _).trans (congrArg toI (BitVec.mul_comm y x)),
    mul1_toI x,
    add_toI _ _,
    mul_toI _ _,
    mul_toI _ _,
    mul_toI _ _,
    (add_toI _ _).trans (congrArg toI (BitVec.mul_add.symm)),
    add_toI _ _,
    (sub_toI _ _).trans (congrArg toI (BitVec.add_sub_cancel x y)),
    left_toI x,
    add_toI _ _⟩
set_option maxHeartbeats 1600000 in
theorem ring_walk (a b c : Int) (w : World) (ha : V a = true) (hb : V b = true) (hc : V c = true) : Calls Try.prog 7 #[.int .u8 a, .int .u8 b, .int .u8 c] w (OneB true w) := by
  obtain ⟨ab, abc, bc, pab, pabc, pbc, d, pac, aa, g0, g1, g2, g3, g4, g5, g6, g7, g8, g9, g10, g11, g12, g13, g14, g15, g16, g17, g18, g19, g20, g21, g22⟩ := ring_facts a b c ha hb hc
  have f0 := Lib.hid g0
  have f1 := Lib.hid g1
  have f2 := Lib.hid g2
  have f3 := Lib.hid g3
  have f4 := Lib.hid g4
  have f5 := Lib.hid g5
  have f6 := Lib.hid g6
  have f7 := Lib.hid g7
  have f8 := Lib.hid g8
  have f9 := Lib.hid g9
  have f10 := Lib.hid g10
  have f11 := Lib.hid g11
  have f12 := Lib.hid g12
  have f13 := Lib.hid g13
  have f14 := Lib.hid g14
  have f15 := Lib.hid g15
  have f16 := Lib.hid g16
  have f17 := Lib.hid g17
  have f18 := Lib.hid g18
  have f19 := Lib.hid g19
  have f20 := Lib.hid g20
  have f21 := Lib.hid g21
  have f22 := Lib.hid g22
  clear g0 g1 g2 g3 g4 g5 g6 g7 g8 g9 g10 g11 g12 g13 g14 g15 g16 g17 g18 g19 g20 g21 g22
  have ha := V_true ha
  have hb := V_true hb
  have hc := V_true hc
  go_enter Try.func7, Try.ntmps7
  go_wp2_with fail
  refine (add_any _ _ _).mono ?_
  rintro e w1 ⟨rfl, hb1⟩
  rw [f0.out]
  go_wp2_with fail
  refine (add_any _ _ _).mono ?_
  rintro e w2 ⟨rfl, hb2⟩
  rw [f1.out]
  go_wp2_with fail
  refine (add_any _ _ _).mono ?_
  rintro e w3 ⟨rfl, hb3⟩
  rw [f2.out]
  go_wp2_with fail
  refine (add_any _ _ _).mono ?_
  rintro e w4 ⟨rfl, hb4⟩
  rw [f3.out]
  go_wp2_with fail
  refine (add_any _ _ _).mono ?_
  rintro e w5 ⟨rfl, hb5⟩
  rw [f4.out]
  go_wp2_with fail
  refine (add_any _ _ _).mono ?_
  rintro e w6 ⟨rfl, hb6⟩
  rw [f5.out]
  go_wp2_with fail
  refine (add_any _ _ _).mono ?_
  rintro e w7 ⟨rfl, hb7⟩
  rw [f6.out]
  go_wp2_with fail
  refine (mul_any _ _ _).mono ?_
  rintro e w8 ⟨rfl, hb8⟩
  rw [f7.out]
  go_wp2_with fail
  refine (mul_any _ _ _).mono ?_
  rintro e w9 ⟨rfl, hb9⟩
  rw [f8.out]
  go_wp2_with fail
  refine (mul_any _ _ _).mono ?_
  rintro e w10 ⟨rfl, hb10⟩
  rw [f9.out]
  go_wp2_with fail
  refine (mul_any _ _ _).mono ?_
  rintro e w11 ⟨rfl, hb11⟩
  rw [f10.out]
  go_wp2_with fail
  refine (mul_any _ _ _).mono ?_
  rintro e w12 ⟨rfl, hb12⟩
  rw [f11.out]
  go_wp2_with fail
  refine (mul_any _ _ _).mono ?_
  rintro e w13 ⟨rfl, hb13⟩
  rw [f12.out]
  go_wp2_with fail
  refine (mul_any _ _ _).mono ?_
  rintro e w14 ⟨rfl, hb14⟩
  rw [f13.out]
  go_wp2_with fail
  refine (add_any _ _ _).mono ?_
  rintro e w15 ⟨rfl, hb15⟩
  rw [f14.out]
  go_wp2_with fail
  refine (mul_any _ _ _).mono ?_
  rintro e w16 ⟨rfl, hb16⟩
  rw [f15.out]
  go_wp2_with fail
  refine (mul_any _ _ _).mono ?_
  rintro e w17 ⟨rfl, hb17⟩
  rw [f16.out]
  go_wp2_with fail
  refine (mul_any _ _ _).mono ?_
  rintro e w18 ⟨rfl, hb18⟩
  rw [f17.out]
  go_wp2_with fail
  refine (add_any _ _ _).mono ?_
  rintro e w19 ⟨rfl, hb19⟩
  rw [f18.out]
  go_wp2_with fail
  refine (add_any _ _ _).mono ?_
  rintro e w20 ⟨rfl, hb20⟩
  rw [f19.out]
  go_wp2_with fail
  refine (sub_any _ _ _).mono ?_
  rintro e w21 ⟨rfl, hb21⟩
  rw [f20.out]
  go_wp2_with fail
  refine (left_any _ _ _).mono ?_
  rintro e w22 ⟨rfl, hb22⟩
  rw [f21.out]
  go_wp2_with fail
  refine (add_any _ _ _).mono ?_
  rintro e w23 ⟨rfl, hb23⟩
  rw [f22.out]
  go_wp2_with fail
  refine (alive_any _).mono ?_
  rintro e w24 ⟨rfl, hb24⟩
  go_wp2
  go_ret
  exact ⟨rfl, (Below.next (Below.next (Below.next (Below.next (Below.next (Below.next (Below.next (Below.next (Below.next (Below.next (Below.next (Below.next (Below.next (Below.next (Below.next (Below.next (Below.next (Below.next (Below.next (Below.next (Below.next (Below.next (Below.next hb1 hb2) hb3) hb4) hb5) hb6) hb7) hb8) hb9) hb10) hb11) hb12) hb13) hb14) hb15) hb16) hb17) hb18) hb19) hb20) hb21) hb22) hb23) hb24)⟩
end Go.Proofs.Ytakbmmmoalfedaa
