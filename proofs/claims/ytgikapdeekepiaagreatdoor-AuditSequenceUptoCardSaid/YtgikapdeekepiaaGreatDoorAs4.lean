/- AuditSequence: rows of eight bits as numbers of eight bits. -/
import Derived.Test.YtgikapdeekepiaaGreatDoorAs3
namespace Go.Proofs.YtgikapdeekepiaaGreatDoor
open Go
set_option linter.unusedVariables false

def row8 (b0 b1 b2 b3 b4 b5 b6 b7 : Bool) : Nat :=
  b0.toNat + 2 * b1.toNat + 4 * b2.toNat + 8 * b3.toNat + 16 * b4.toNat + 32 * b5.toNat + 64 * b6.toNat + 128 * b7.toNat

/-- The number of a row. -/
def rowI (f : Nat → Bool) : Int := (row8 (f 0) (f 1) (f 2) (f 3) (f 4) (f 5) (f 6) (f 7) : Nat)

theorem row8_lt (b0 b1 b2 b3 b4 b5 b6 b7 : Bool) : row8 b0 b1 b2 b3 b4 b5 b6 b7 < 256 := by
  unfold row8
  cases b0 <;> cases b1 <;> cases b2 <;> cases b3 <;> cases b4 <;> cases b5 <;> cases b6 <;> cases b7 <;> decide

theorem row8_bit : ∀ (b0 b1 b2 b3 b4 b5 b6 b7 : Bool) (i : Fin 8), (row8 b0 b1 b2 b3 b4 b5 b6 b7).testBit i = [b0, b1, b2, b3, b4, b5, b6, b7].getD i false := by decide +kernel

theorem rowI_bit {f : Nat → Bool} {i : Nat} (h : i < 8) : (row8 (f 0) (f 1) (f 2) (f 3) (f 4) (f 5) (f 6) (f 7)).testBit i = f i := by
  rw [row8_bit _ _ _ _ _ _ _ _ ⟨i, h⟩]
  match i, h with
  | 0, _ => rfl
  | 1, _ => rfl
  | 2, _ => rfl
  | 3, _ => rfl
  | 4, _ => rfl
  | 5, _ => rfl
  | 6, _ => rfl
  | 7, _ => rfl

/-- Two numbers of eight bits that agree bit by bit. -/
theorem nat8_ext {x y : Nat} (hx : x < 256) (hy : y < 256) (h : ∀ i, i < 8 → x.testBit i = y.testBit i) : x = y := by
  apply Nat.eq_of_testBit_eq
  intro i
  rcases Nat.lt_or_ge i 8 with h' | h'
  · exact h i h'
  · have h2 : 256 ≤ 2 ^ i := by rw [show (256 : Nat) = 2 ^ 8 from rfl]; exact Nat.pow_le_pow_right (by decide) h'
    rw [Nat.testBit_lt_two_pow (by omega), Nat.testBit_lt_two_pow (by omega)]

theorem ofInt8 (x : Nat) : BitVec.ofInt 8 (x : Int) = BitVec.ofNat 8 x := by simp

theorem wrap8 {x : Nat} (h : x < 256) : IntKind.u8.wrap (x : Int) = x := IntWalk.u8_in _ (by omega)

theorem rowI_or (f g : Nat → Bool) : IntKind.u8.wrap ((BitVec.ofInt 8 (rowI f) ||| BitVec.ofInt 8 (rowI g)).toNat : Int) = rowI fun i => f i || g i := by
  have e : (BitVec.ofInt 8 (rowI f) ||| BitVec.ofInt 8 (rowI g)).toNat = row8 (f 0 || g 0) (f 1 || g 1) (f 2 || g 2) (f 3 || g 3) (f 4 || g 4) (f 5 || g 5) (f 6 || g 6) (f 7 || g 7) := by
    unfold rowI
    rw [ofInt8, ofInt8, BitVec.toNat_or, BitVec.toNat_ofNat, BitVec.toNat_ofNat, Nat.mod_eq_of_lt (row8_lt ..), Nat.mod_eq_of_lt (row8_lt ..)]
    have h1 := row8_lt (f 0) (f 1) (f 2) (f 3) (f 4) (f 5) (f 6) (f 7)
    have h2 := row8_lt (g 0) (g 1) (g 2) (g 3) (g 4) (g 5) (g 6) (g 7)
    refine nat8_ext (Nat.or_lt_two_pow (n := 8) h1 h2) (row8_lt ..) fun i hi => ?_
    rw [Nat.testBit_or, rowI_bit hi, rowI_bit hi, rowI_bit (f := fun i => f i || g i) hi]
  rw [e, wrap8 (row8_lt ..)]
  rfl

theorem rowI_and (f g : Nat → Bool) : IntKind.u8.wrap ((BitVec.ofInt 8 (rowI f) &&& BitVec.ofInt 8 (rowI g)).toNat : Int) = rowI fun i => f i && g i := by
  have e : (BitVec.ofInt 8 (rowI f) &&& BitVec.ofInt 8 (rowI g)).toNat = row8 (f 0 && g 0) (f 1 && g 1) (f 2 && g 2) (f 3 && g 3) (f 4 && g 4) (f 5 && g 5) (f 6 && g 6) (f 7 && g 7) := by
    unfold rowI
    rw [ofInt8, ofInt8, BitVec.toNat_and, BitVec.toNat_ofNat, BitVec.toNat_ofNat, Nat.mod_eq_of_lt (row8_lt ..), Nat.mod_eq_of_lt (row8_lt ..)]
    have h1 := row8_lt (f 0) (f 1) (f 2) (f 3) (f 4) (f 5) (f 6) (f 7)
    refine nat8_ext (Nat.lt_of_le_of_lt Nat.and_le_left h1) (row8_lt ..) fun i hi => ?_
    rw [Nat.testBit_and, rowI_bit hi, rowI_bit hi, rowI_bit (f := fun i => f i && g i) hi]
  rw [e, wrap8 (row8_lt ..)]
  rfl

theorem rowI_inj {f g : Nat → Bool} (h : rowI f = rowI g) : ∀ i, i < 8 → f i = g i := by
  intro i hi
  have h' : row8 (f 0) (f 1) (f 2) (f 3) (f 4) (f 5) (f 6) (f 7) = row8 (g 0) (g 1) (g 2) (g 3) (g 4) (g 5) (g 6) (g 7) := by
    unfold rowI at h; exact_mod_cast h
  rw [← rowI_bit (f := f) hi, ← rowI_bit (f := g) hi, h']

theorem rowI_congr {f g : Nat → Bool} (h : ∀ i, i < 8 → f i = g i) : rowI f = rowI g := by
  unfold rowI
  rw [h 0 (by decide), h 1 (by decide), h 2 (by decide), h 3 (by decide), h 4 (by decide), h 5 (by decide), h 6 (by decide), h 7 (by decide)]

/-- One bit, as the program asks for it. -/
theorem bit8 : ∀ (b0 b1 b2 b3 b4 b5 b6 b7 : Bool) (i : Fin 8), (IntKind.u8.wrap ((BitVec.ofInt 8 (Int.fdiv (row8 b0 b1 b2 b3 b4 b5 b6 b7 : Nat) (2 ^ (min ((i.1 : Int)).toNat 8))) &&& BitVec.ofInt 8 1).toNat : Int) == 1) = [b0, b1, b2, b3, b4, b5, b6, b7].getD i false := by
  decide +kernel

theorem rowI_shr {f : Nat → Bool} {i : Nat} (h : i < 8) : (IntKind.u8.wrap ((BitVec.ofInt 8 (Int.fdiv (rowI f) (2 ^ (min ((i : Int)).toNat 8))) &&& BitVec.ofInt 8 1).toNat : Int) == 1) = f i := by
  unfold rowI
  rw [bit8 _ _ _ _ _ _ _ _ ⟨i, h⟩]
  match i, h with
  | 0, _ => rfl
  | 1, _ => rfl
  | 2, _ => rfl
  | 3, _ => rfl
  | 4, _ => rfl
  | 5, _ => rfl
  | 6, _ => rfl
  | 7, _ => rfl

theorem bitN_t {f : Nat → Bool} {i : Nat} (h : i < 8) (hb : (IntKind.u8.wrap ((BitVec.ofInt IntKind.u8.bits (Int.fdiv (rowI f) (2 ^ (min ((i : Int)).toNat IntKind.u8.bits))) &&& BitVec.ofInt IntKind.u8.bits 1).toNat : Int) == 1) = true) : f i = true := by
  rw [← rowI_shr (f := f) h]; exact hb

theorem bitN_f {f : Nat → Bool} {i : Nat} (h : i < 8) (hb : (IntKind.u8.wrap ((BitVec.ofInt IntKind.u8.bits (Int.fdiv (rowI f) (2 ^ (min ((i : Int)).toNat IntKind.u8.bits))) &&& BitVec.ofInt IntKind.u8.bits 1).toNat : Int) == 1) = false) : f i = false := by
  rw [← rowI_shr (f := f) h]; exact hb

theorem bit_t {f : Nat → Bool} {b : Int} (h0 : 0 ≤ b) (h : b < 8) (hb : (IntKind.u8.wrap ((BitVec.ofInt IntKind.u8.bits (Int.fdiv (rowI f) (2 ^ (min b.toNat IntKind.u8.bits))) &&& BitVec.ofInt IntKind.u8.bits 1).toNat : Int) == 1) = true) : f b.toNat = true := by
  obtain ⟨i, rfl⟩ := Int.eq_ofNat_of_zero_le h0
  exact bitN_t (by omega) hb

theorem bit_f {f : Nat → Bool} {b : Int} (h0 : 0 ≤ b) (h : b < 8) (hb : (IntKind.u8.wrap ((BitVec.ofInt IntKind.u8.bits (Int.fdiv (rowI f) (2 ^ (min b.toNat IntKind.u8.bits))) &&& BitVec.ofInt IntKind.u8.bits 1).toNat : Int) == 1) = false) : f b.toNat = false := by
  obtain ⟨i, rfl⟩ := Int.eq_ofNat_of_zero_le h0
  exact bitN_f (by omega) hb

/-- 1 << i. -/
theorem one8 {i : Nat} (h : i < 8) : IntKind.u8.wrap ((1 : Int) * 2 ^ (min ((i : Int)).toNat 8)) = rowI fun j => j == i := by
  match i, h with
  | 0, _ => decide +kernel
  | 1, _ => decide +kernel
  | 2, _ => decide +kernel
  | 3, _ => decide +kernel
  | 4, _ => decide +kernel
  | 5, _ => decide +kernel
  | 6, _ => decide +kernel
  | 7, _ => decide +kernel

end Go.Proofs.YtgikapdeekepiaaGreatDoor
