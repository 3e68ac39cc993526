/- The plain law of bit vectors of 8 bits: what And, Or, Xor, Not, Add .. compute, and that the reference's sum over the bits is the same. -/
import Derived.Laws.BitsLemmas
namespace Go.Proofs.Ytakbmmmoalfedaa

/-- is it a bit vector -/
def V (a : Int) : Bool := decide (0 ≤ a ∧ a ≤ 255)
theorem V_true {a : Int} (h : V a = true) : 0 ≤ a ∧ a ≤ 255 := by simpa [V] using h
theorem V_mk {a : Int} (h0 : 0 ≤ a) (h1 : a ≤ 255) : V a = true := by simp [V, h0, h1]

/-- the bits' combination: kind 0 both, 1 one at least, 2 just one -/
def comb (kind s : Nat) : Bool := (kind == 0 && s == 2) || (kind == 1 && decide (0 < s)) || (kind == 2 && s == 1)
def bitN (a i : Nat) : Nat := a / 2 ^ i % 2
/-- the reference's sum over the first n bits -/
def S (kind a b : Nat) : Nat → Nat
  | 0 => 0
  | n + 1 => S kind a b n + if comb kind (bitN a n + bitN b n) then 2 ^ n else 0

theorem S_lt (kind a b : Nat) : ∀ n, S kind a b n < 2 ^ n
  | 0 => by simp [S]
  | n + 1 => by
    have := S_lt kind a b n
    simp only [S, Nat.pow_succ]
    split <;> omega

theorem bitN_succ (a i : Nat) : bitN a (i + 1) = bitN (a / 2) i := by
  unfold bitN
  rw [Nat.div_div_eq_div_mul, Nat.pow_succ, Nat.mul_comm]

theorem S_shift (kind a b : Nat) : ∀ n, S kind a b (n + 1) = (if comb kind (a % 2 + b % 2) then 1 else 0) + 2 * S kind (a / 2) (b / 2) n
  | 0 => by simp [S, bitN]
  | n + 1 => by
    have ih := S_shift kind a b n
    rw [S, ih]
    simp only [S, bitN_succ a n, bitN_succ b n, Nat.pow_succ]
    split <;> split <;> omega

theorem opN_lt {a n : Nat} (ha : a < 2 ^ (n + 1)) : a / 2 < 2 ^ n := by
  rw [Nat.pow_succ] at ha; omega

theorem S_and : ∀ n a b, a < 2 ^ n → b < 2 ^ n → S 0 a b n = a &&& b
  | 0, a, b, ha, hb => by
    have h1 : a = 0 := by simpa using ha
    have h2 : b = 0 := by simpa using hb
    subst h1 h2; rfl
  | n + 1, a, b, ha, hb => by
    rw [S_shift, S_and n _ _ (opN_lt ha) (opN_lt hb), ← Nat.and_div_two]
    have h := Nat.div_add_mod (a &&& b) 2
    have h3 : (a &&& b) % 2 = if comb 0 (a % 2 + b % 2) then 1 else 0 := by
      have h1 := @Nat.and_mod_two_eq_one a b
      have ha2 := Nat.mod_two_eq_zero_or_one a
      have hb2 := Nat.mod_two_eq_zero_or_one b
      have hc2 := Nat.mod_two_eq_zero_or_one (a &&& b)
      clear h
      generalize (a &&& b) % 2 = c at h1 hc2 ⊢
      generalize a % 2 = x at h1 ha2 ⊢
      generalize b % 2 = y at h1 hb2 ⊢
      rcases ha2 with rfl | rfl <;> rcases hb2 with rfl | rfl <;> simp [comb] at h1 ⊢ <;> omega
    omega

theorem S_or : ∀ n a b, a < 2 ^ n → b < 2 ^ n → S 1 a b n = a ||| b
  | 0, a, b, ha, hb => by
    have h1 : a = 0 := by simpa using ha
    have h2 : b = 0 := by simpa using hb
    subst h1 h2; rfl
  | n + 1, a, b, ha, hb => by
    rw [S_shift, S_or n _ _ (opN_lt ha) (opN_lt hb), ← Nat.or_div_two]
    have h := Nat.div_add_mod (a ||| b) 2
    have h3 : (a ||| b) % 2 = if comb 1 (a % 2 + b % 2) then 1 else 0 := by
      have h1 := @Nat.or_mod_two_eq_one a b
      have ha2 := Nat.mod_two_eq_zero_or_one a
      have hb2 := Nat.mod_two_eq_zero_or_one b
      have hc2 := Nat.mod_two_eq_zero_or_one (a ||| b)
      clear h
      generalize (a ||| b) % 2 = c at h1 hc2 ⊢
      generalize a % 2 = x at h1 ha2 ⊢
      generalize b % 2 = y at h1 hb2 ⊢
      rcases ha2 with rfl | rfl <;> rcases hb2 with rfl | rfl <;> simp [comb] at h1 ⊢ <;> omega
    omega

theorem S_xor : ∀ n a b, a < 2 ^ n → b < 2 ^ n → S 2 a b n = a ^^^ b
  | 0, a, b, ha, hb => by
    have h1 : a = 0 := by simpa using ha
    have h2 : b = 0 := by simpa using hb
    subst h1 h2; rfl
  | n + 1, a, b, ha, hb => by
    rw [S_shift, S_xor n _ _ (opN_lt ha) (opN_lt hb), ← Nat.xor_div_two]
    have h := Nat.div_add_mod (a ^^^ b) 2
    have h3 : (a ^^^ b) % 2 = if comb 2 (a % 2 + b % 2) then 1 else 0 := by
      have h1 := @Nat.xor_mod_two_eq_one a b
      have ha2 := Nat.mod_two_eq_zero_or_one a
      have hb2 := Nat.mod_two_eq_zero_or_one b
      have hc2 := Nat.mod_two_eq_zero_or_one (a ^^^ b)
      clear h
      generalize (a ^^^ b) % 2 = c at h1 hc2 ⊢
      generalize a % 2 = x at h1 ha2 ⊢
      generalize b % 2 = y at h1 hb2 ⊢
      rcases ha2 with rfl | rfl <;> rcases hb2 with rfl | rfl <;> simp [comb] at h1 ⊢ <;> omega
    omega

/-- what the operations answer -/
def both (a b v : Int) : Int := if V a && V b then v else 0
def andZ (a b : Int) : Int := both a b ((a.toNat &&& b.toNat : Nat) : Int)
def orZ (a b : Int) : Int := both a b ((a.toNat ||| b.toNat : Nat) : Int)
def xorZ (a b : Int) : Int := both a b ((a.toNat ^^^ b.toNat : Nat) : Int)
def notZ (a : Int) : Int := if V a then 255 - a else 0
def addZ (a b : Int) : Int := both a b ((a + b) % 256)
def subZ (a b : Int) : Int := both a b ((a - b) % 256)
def mulZ (a b : Int) : Int := both a b (a * b % 256)
/-- a distance: from 0 to 8 -/
def distZ (n : Int) : Nat := if n < 0 then 0 else if 8 < n then 8 else n.toNat
def leftZ (a n : Int) : Int := if V a then a * 2 ^ distZ n % 256 else 0
def rightZ (a n : Int) : Int := if V a then a / 2 ^ distZ n else 0
def arithZ (a n : Int) : Int := if V a then (if 127 < a then (a - 256) / 2 ^ distZ n % 256 else a / 2 ^ distZ n) else 0

theorem distZ_le (n : Int) : distZ n ≤ 8 := by unfold distZ; split; · omega
                                               · split <;> omega
theorem pow_le_256 {d : Nat} (h : d ≤ 8) : 1 ≤ 2 ^ d ∧ (2 : Int) ^ d ≤ 256 ∧ (1 : Int) ≤ 2 ^ d := by
  have : d = 0 ∨ d = 1 ∨ d = 2 ∨ d = 3 ∨ d = 4 ∨ d = 5 ∨ d = 6 ∨ d = 7 ∨ d = 8 := by omega
  rcases this with rfl | rfl | rfl | rfl | rfl | rfl | rfl | rfl | rfl <;> decide

theorem bitsZ_eq (kind : Nat) (a b : Int) (v : Nat → Nat → Nat) (hv : ∀ x y : Nat, x < 2 ^ 8 → y < 2 ^ 8 → S kind x y 8 = v x y) :
    (if V a && V b then ((S kind a.toNat b.toNat 8 : Nat) : Int) else 0) = both a b ((v a.toNat b.toNat : Nat) : Int) := by
  unfold both
  by_cases h : (V a && V b) = true
  · rw [if_pos h, if_pos h]
    simp only [Bool.and_eq_true] at h
    have h1 := V_true h.1
    have h2 := V_true h.2
    rw [hv _ _ (by omega) (by omega)]
  · rw [if_neg h, if_neg h]

theorem bits_low (n : Int) : bits .and .i64 n 255 = n % 256 := by
  show IntKind.i64.wrap ((BitVec.ofInt 64 n &&& BitVec.ofInt 64 255).toNat : Int) = _
  have h255 : (BitVec.ofInt 64 255).toNat = 2 ^ 8 - 1 := by decide
  rw [BitVec.toNat_and, h255, Nat.and_two_pow_sub_one_eq_mod, BitVec.toNat_ofInt]
  rw [IntKind.wrap_i64]
  omega

theorem bits_i64 (a b : Int) (ha : 0 ≤ a ∧ a ≤ 255) (hb : 0 ≤ b ∧ b ≤ 255) : bits .and .i64 a b = ((a.toNat &&& b.toNat : Nat) : Int) ∧ bits .or .i64 a b = ((a.toNat ||| b.toNat : Nat) : Int) ∧ bits .xor .i64 a b = ((a.toNat ^^^ b.toNat : Nat) : Int) := by
  obtain ⟨x, rfl⟩ := Int.eq_ofNat_of_zero_le ha.1
  obtain ⟨y, rfl⟩ := Int.eq_ofNat_of_zero_le hb.1
  have hk : ∀ n : Int, 0 ≤ n → n < 2 ^ 8 → IntKind.i64.wrap n = n := fun n h0 h1 => by rw [IntKind.wrap_i64]; omega
  have h := bits_nat .i64 8 (by decide) hk x y (by omega) (by omega)
  refine ⟨h.1, h.2, ?_⟩
  show IntKind.i64.wrap ((BitVec.ofInt 64 (x : Int) ^^^ BitVec.ofInt 64 (y : Int)).toNat : Int) = _
  have hx : x % 2 ^ 64 = x := Nat.mod_eq_of_lt (by omega)
  have hy : y % 2 ^ 64 = y := Nat.mod_eq_of_lt (by omega)
  simp only [BitVec.ofInt_natCast, BitVec.toNat_xor, BitVec.toNat_ofNat, hx, hy, Int.toNat_natCast]
  have hlt : x ^^^ y < 2 ^ 8 := Nat.xor_lt_two_pow (by omega) (by omega)
  exact hk _ (Int.natCast_nonneg _) (by exact_mod_cast hlt)

theorem bits_not (a : Int) (ha : 0 ≤ a ∧ a ≤ 255) : bits .xor .i64 (-1) a % 256 = 255 - a := by
  obtain ⟨x, rfl⟩ := Int.eq_ofNat_of_zero_le ha.1
  show IntKind.i64.wrap ((BitVec.ofInt 64 (-1) ^^^ BitVec.ofInt 64 (x : Int)).toNat : Int) % 256 = _
  have h1 : BitVec.ofInt 64 (-1) = BitVec.allOnes 64 := by decide
  have hx : x % 2 ^ 64 = x := Nat.mod_eq_of_lt (by omega)
  rw [h1, BitVec.allOnes_xor, BitVec.toNat_not, BitVec.ofInt_natCast, BitVec.toNat_ofNat, hx, IntKind.wrap_i64]
  omega
end Go.Proofs.Ytakbmmmoalfedaa
