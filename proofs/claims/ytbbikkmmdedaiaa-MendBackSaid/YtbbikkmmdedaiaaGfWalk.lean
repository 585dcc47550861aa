/- What gf.Mul, Inv, Div and the references' Mul, Inv, Div compute. -/
import Derived.Test.YtbbikkmmdedaiaaProg
import Derived.Test.YtbbikkmmdedaiaaGfPlain
import Derived.WalkKit
import Derived.WalkSpells
import Derived.WalkLawsBesides
import Derived.Outline
import Derived.Lib.Hide
import Derived.Below
import Derived.Deep.Light
import Derived.Laws.BitsAllLaws
set_option maxRecDepth 100000
namespace Go.Proofs.Ytbbikkmmdedaiaa.Gf
open Go.RowKit

theorem dbl_hi (A : Nat) (h : 128 ≤ A) : bits .xor .u8 ((A : Int) * 2 % 256) 29 = ((dbl A : Nat) : Int) := by
  have := u8_xor_nat (A * 2 % 256) 29 (by omega) (by omega)
  unfold dbl
  rw [if_pos h, ← this]
  congr 1
theorem dbl_lo (A : Nat) (h : ¬ 128 ≤ A) : ((A : Int) * 2 % 256) = ((dbl A : Nat) : Int) := by
  unfold dbl
  rw [if_neg h]; omega
theorem dbl_lo' (A : Nat) (h : ¬ 128 ≤ A) : ((A : Int) * 2) = ((dbl A : Nat) : Int) := by
  unfold dbl
  rw [if_neg h]; omega
theorem int_div2 (B : Nat) : ((B : Int) / 2) = ((B / 2 : Nat) : Int) := by omega
theorem and1 (B : Nat) (hB : B < 256) : bits .and .u8 (B : Int) 1 = ((B % 2 : Nat) : Int) := by
  have := u8_and_nat B 1 hB (by omega)
  rw [nat_mask1] at this
  exact this
theorem and128 (A : Nat) (hA : A < 256) : bits .and .u8 (A : Int) 128 = ((A / 128 * 128 : Nat) : Int) := by
  have := u8_and_nat A (2 ^ 7) hA (by omega)
  rw [nat_bit] at this
  rw [show A / 128 * 128 = A / 2 ^ 7 % 2 * 2 ^ 7 by omega]
  exact this
theorem mulF_odd {f A B P : Nat} (h : B % 2 = 1) : mulF f (dbl A) (B / 2) (P ^^^ A) = mulF (f + 1) A B P := by rw [mulF, if_pos h]
theorem mulF_even {f A B P : Nat} (h : ¬ B % 2 = 1) : mulF f (dbl A) (B / 2) P = mulF (f + 1) A B P := by rw [mulF, if_neg h]
theorem u8_eq {a b : Int} (h : a = b) : Value.int .u8 a = Value.int .u8 b := by rw [h]

theorem meas (B : Nat) (h : ¬ B = 0) : (intOf (Value.int .u8 ((B : Int) / 2))).toNat < (intOf (Value.int .u8 (B : Int))).toNat := by
  show ((B : Int) / 2).toNat < (B : Int).toNat
  omega

theorem mul_any (a b : Nat) (w : World) (ha : a < 256) (hb : b < 256) :
    Calls Try.prog 33 #[.int .u8 a, .int .u8 b] w fun e w' => e = .returned (.int .u8 (mul a b)) ∧ w = w' := by
  go_enter Try.func33, Try.ntmps33
  go_wp2_with fail
  go_loop [0, 1, 5] (fun x y p => ∃ f A B P : Nat, A < 256 ∧ B < 2 ^ f ∧ f ≤ 8 ∧ P < 256 ∧ x = .int .u8 A ∧ y = .int .u8 B ∧ p = .int .u8 P ∧ mulF f A B P = mul a b) (fun _ y _ => (intOf y).toNat)
  case atStart => exact ⟨8, a, b, 0, ha, by simpa using hb, by omega, by omega, rfl, rfl, rfl, rfl⟩
  case round =>
    obtain ⟨f, A, B, P, hA, hB, hf, hP, rfl, rfl, rfl, hm⟩ := hrel
    by_cases h0 : B = 0
    · subst h0
      rw [mulF_zero] at hm
      go_wp2
      go_ret
      exact ⟨rfl, rfl⟩
    · have hb8 : B < 256 := Nat.lt_of_lt_of_le hB (Nat.pow_le_pow_right (n := 2) (i := f) (j := 8) (by omega) hf)
      obtain ⟨g, rfl⟩ : ∃ g, f = g + 1 := by
        cases f with
        | zero => simp at hB; omega
        | succ g => exact ⟨g, rfl⟩
      have hn : (((B : Nat) : Int) == 0) = false := by simp; omega
      have hBg : B / 2 < 2 ^ g := by rw [Nat.pow_succ] at hB; omega
      have HM := Lib.hid hm
      clear hm hB
      have e1 := and1 B hb8
      clear hb8
      have e2 := and128 A hA
      by_cases h1 : B % 2 = 1 <;> by_cases h7 : 128 ≤ A
      · have e3 : bits .and .u8 (B : Int) 1 = 1 := by rw [e1, h1]; rfl
        have e4 : bits .and .u8 (A : Int) 128 = 128 := by rw [e2, show A / 128 = 1 by omega]; rfl
        clear e1 e2
        go_wp2
        exact ⟨⟨g, dbl A, B / 2, P ^^^ A, dbl_lt A, hBg, by omega, xlt hP hA, u8_eq (dbl_hi A h7), u8_eq (int_div2 B), u8_eq (u8_xor_nat P A hP hA), (mulF_odd h1).trans HM.out⟩, meas B h0⟩
      · have e3 : bits .and .u8 (B : Int) 1 = 1 := by rw [e1, h1]; rfl
        have e4 : bits .and .u8 (A : Int) 128 = 0 := by rw [e2, show A / 128 = 0 by omega]; rfl
        clear e1 e2
        go_wp2
        exact ⟨⟨g, dbl A, B / 2, P ^^^ A, dbl_lt A, hBg, by omega, xlt hP hA, u8_eq (dbl_lo' A h7), u8_eq (int_div2 B), u8_eq (u8_xor_nat P A hP hA), (mulF_odd h1).trans HM.out⟩, meas B h0⟩
      · have e3 : bits .and .u8 (B : Int) 1 = 0 := by rw [e1, show B % 2 = 0 by omega]; rfl
        have e4 : bits .and .u8 (A : Int) 128 = 128 := by rw [e2, show A / 128 = 1 by omega]; rfl
        clear e1 e2
        go_wp2
        exact ⟨⟨g, dbl A, B / 2, P, dbl_lt A, hBg, by omega, hP, u8_eq (dbl_hi A h7), u8_eq (int_div2 B), rfl, (mulF_even h1).trans HM.out⟩, meas B h0⟩
      · have e3 : bits .and .u8 (B : Int) 1 = 0 := by rw [e1, show B % 2 = 0 by omega]; rfl
        have e4 : bits .and .u8 (A : Int) 128 = 0 := by rw [e2, show A / 128 = 0 by omega]; rfl
        clear e1 e2
        go_wp2
        exact ⟨⟨g, dbl A, B / 2, P, dbl_lt A, hBg, by omega, hP, u8_eq (dbl_lo' A h7), u8_eq (int_div2 B), rfl, (mulF_even h1).trans HM.out⟩, meas B h0⟩

theorem add_any (a b : Nat) (w : World) (ha : a < 256) (hb : b < 256) :
    Calls Try.prog 32 #[.int .u8 a, .int .u8 b] w fun e w' => e = .returned (.int .u8 ((a ^^^ b : Nat) : Int)) ∧ w = w' := by
  go_enter Try.func32, Try.ntmps32
  go_wp2_with fail
  go_ret
  exact ⟨congrArg _ (u8_eq (u8_xor_nat a b ha hb)), rfl⟩
end Go.Proofs.Ytbbikkmmdedaiaa.Gf
