/- What varint.Zig and varint.Zag compute; conditions: the number is one of its kind. -/
import Derived.Test.YtfghllgkbdfedaaVarWalk2
namespace Go.Proofs.Ytfghllgkbdfedaa.Var
open Go.RowKit
set_option maxRecDepth 100000

def zig (n : Int) : Nat := if 0 ≤ n then (2 * n).toNat else (-2 * n - 1).toNat
def zag (n : Nat) : Int := if n % 2 = 0 then (n / 2 : Nat) else -((n / 2 : Nat) : Int) - 1
theorem zig_lt (n : Int) (h1 : -9223372036854775808 ≤ n) (h2 : n ≤ 9223372036854775807) : zig n < 18446744073709551616 := by unfold zig; split <;> omega
theorem zag_zig (n : Int) : zag (zig n) = n := by unfold zag zig; split <;> split <;> omega
theorem zig_zag (n : Nat) : zig (zag n) = n := by unfold zag zig; split <;> split <;> omega
theorem zag_in (n : Nat) (h : n < 18446744073709551616) : -9223372036854775808 ≤ zag n ∧ zag n ≤ 9223372036854775807 := by unfold zag; split <;> omega

theorem not64 (c : Nat) (h : c < 18446744073709551616) : c ^^^ 18446744073709551615 = 18446744073709551615 - c := by
  apply Nat.eq_of_testBit_eq
  intro i
  have h1 : (18446744073709551615 : Nat) = 2 ^ 64 - 1 := by decide
  have h2 : 18446744073709551615 - c = 2 ^ 64 - (c + 1) := by omega
  rw [h2, Nat.testBit_two_pow_sub_succ (by omega), h1, Nat.testBit_xor, Nat.testBit_two_pow_sub_one]
  by_cases hi : i < 64
  · simp [hi]
  · have : c.testBit i = false := Nat.testBit_lt_two_pow (Nat.lt_of_lt_of_le h (Nat.le_trans (show 18446744073709551616 ≤ 2 ^ 64 by decide) (Nat.pow_le_pow_right (by omega) (by omega))))
    simp [hi, this]

theorem zig_walk (n : Int) (h1 : -9223372036854775808 ≤ n) (h2 : n ≤ 9223372036854775807) :
    bits BinOp.xor IntKind.u64 (IntKind.u64.wrap (IntKind.u64.wrap n * 2)) (IntKind.u64.wrap (n / 9223372036854775808)) = (zig n : Int) := by
  have e : ∀ m : Int, IntKind.u64.wrap m = m % 18446744073709551616 := fun m => IntKind.wrap_u64 m
  simp only [e]
  unfold zig
  by_cases h : 0 ≤ n
  · rw [if_pos h]
    have a1 : n % 18446744073709551616 * 2 % 18446744073709551616 = (((2 * n).toNat : Nat) : Int) := by omega
    have a2 : n / 9223372036854775808 % 18446744073709551616 = ((0 : Nat) : Int) := by omega
    rw [a1, a2, u64_xor_nat _ _ (by omega) (by omega), Nat.xor_zero]
  · rw [if_neg h]
    have a1 : n % 18446744073709551616 * 2 % 18446744073709551616 = (((2 * n + 18446744073709551616).toNat : Nat) : Int) := by omega
    have a2 : n / 9223372036854775808 % 18446744073709551616 = ((18446744073709551615 : Nat) : Int) := by omega
    rw [a1, a2, u64_xor_nat _ _ (by omega) (by omega), not64 _ (by omega)]
    omega

theorem zig_any (n : Int) (w : World) (h1 : -9223372036854775808 ≤ n) (h2 : n ≤ 9223372036854775807) :
    Calls Try.prog 25 #[.int .i64 n] w fun en w' => en = .returned (.int .u64 (zig n : Nat)) ∧ w = w' := by
  go_enter Try.func25, Try.ntmps25
  go_wp2
  go_ret
  exact ⟨by rw [← zig_walk n h1 h2]; rfl, rfl⟩

theorem zag_walk (n : Nat) (h : n < 18446744073709551616) :
    bits BinOp.xor IntKind.i64 ((n : Int) / 2) (wrap64 (-wrap64 (bits BinOp.and IntKind.u64 (n : Int) 1))) = zag n := by
  have e1 : bits .and .u64 (n : Int) 1 = ((n % 2 : Nat) : Int) := by
    have := u64_and_nat n 1 h (by omega)
    rw [nat_mask1] at this
    exact this
  have e3 : ((n : Int) / 2) = ((n / 2 : Nat) : Int) := by omega
  rw [e1, e3, IntWalk.wrap64_in ((n % 2 : Nat) : Int) (by omega), IntWalk.wrap64_in _ (by omega)]
  unfold zag
  by_cases hp : n % 2 = 0
  · rw [if_pos hp, hp]
    show IntKind.i64.wrap ((BitVec.ofInt 64 ((n / 2 : Nat) : Int) ^^^ BitVec.ofInt 64 0).toNat : Int) = _
    rw [show BitVec.ofInt 64 0 = 0#64 by decide, BitVec.xor_zero, ofInt_u64 _ (by omega), IntKind.wrap_i64]
    omega
  · rw [if_neg hp, show n % 2 = 1 by omega]
    show IntKind.i64.wrap ((BitVec.ofInt 64 ((n / 2 : Nat) : Int) ^^^ BitVec.ofInt 64 (-1)).toNat : Int) = _
    rw [BitVec.toNat_xor, ofInt_u64 _ (by omega), show (BitVec.ofInt 64 (-1)).toNat = 18446744073709551615 by decide, not64 _ (by omega), IntKind.wrap_i64]
    omega

theorem zag_any (n : Nat) (w : World) (h2 : n < 18446744073709551616) :
    Calls Try.prog 26 #[.int .u64 n] w fun en w' => en = .returned (.int .i64 (zag n)) ∧ w = w' := by
  go_enter Try.func26, Try.ntmps26
  go_wp2
  go_ret
  exact ⟨by rw [← zag_walk n h2]; rfl, rfl⟩
end Go.Proofs.Ytfghllgkbdfedaa.Var
