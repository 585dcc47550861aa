/- What crc.step, crc.Add, crc.Sum and the references' Add, Sum compute, and that chapter 7's calls are awake. -/
import Derived.Test.YtfghllgkbdfedaaProg
import Derived.Test.YtfghllgkbdfedaaCrcPlain
import Derived.WalkKit
import Derived.WalkSpells
import Derived.WalkLawsBesides
import Derived.Outline
import Derived.Lib.Hide
import Derived.Below
import Derived.Deep.Light
import Derived.Laws.BitsAllLaws
namespace Go.Proofs.Ytfghllgkbdfedaa.Crc
open Go.RowKit

theorem bit_walk (C : Nat) (h : C < 4294967296) :
    bits .xor .u32 ((C : Int) / 2) (bits .and .u32 3988292384 (-bits .and .u32 (C : Int) 1 % 4294967296)) = (bit C : Int) := by
  have e1 : bits .and .u32 (C : Int) 1 = ((C % 2 : Nat) : Int) := by
    have := u32_and_nat C 1 h (by omega)
    rw [nat_mask1] at this
    exact this
  rw [e1]
  unfold bit
  have e3 : ((C : Int) / 2) = ((C / 2 : Nat) : Int) := by omega
  by_cases hp : C % 2 = 1
  · rw [if_pos hp, hp]
    have e2 : bits .and .u32 3988292384 (-((1 : Nat) : Int) % 4294967296) = ((3988292384 : Nat) : Int) := by decide +kernel
    rw [e2, e3, u32_xor_nat _ _ (by omega) (by omega)]
  · rw [if_neg hp, show C % 2 = 0 by omega]
    have e2 : bits .and .u32 3988292384 (-((0 : Nat) : Int) % 4294967296) = ((0 : Nat) : Int) := by decide +kernel
    rw [e2, e3, u32_xor_nat _ _ (by omega) (by omega), Nat.xor_zero]

theorem step_any (c x : Nat) (w : World) (hc : c < 4294967296) (hx : x < 256) :
    Calls Try.prog 46 #[.int .u32 c, .int .u8 x] w fun e w' => e = .returned (.int .u32 (step c x)) ∧ w = w' := by
  go_enter Try.func46, Try.ntmps46
  go_wp2
  go_loop [0, 10] (fun v i => ∃ k : Nat, k ≤ 8 ∧ i = .int .i64 k ∧ v = .int .u32 (iter k (c ^^^ x))) (fun _ i => 8 - (intOf i).toNat)
  case atStart => exact ⟨0, by omega, rfl, by rw [u32_xor_nat c x hc (by omega)]; rfl⟩
  case round =>
    obtain ⟨k, hk, rfl, rfl⟩ := hrel
    by_cases hlt : k < 8
    · have hb := iter_lt k (c ^^^ x) (xor_lt c x hc hx)
      go_wp2
      go_round
      case rel =>
        go_light
        exact ⟨k + 1, by omega, by go_num, by rw [bit_walk _ hb]; rfl⟩
      case measure => simp [intOf]; omega
    · go_wp2
      go_ret
      obtain rfl : k = 8 := by omega
      exact ⟨rfl, rfl⟩

theorem not_nat (c : Nat) (h : c < 4294967296) : 4294967295 ^^^ c = 4294967295 - c := by
  apply Nat.eq_of_testBit_eq
  intro i
  have h1 : (4294967295 : Nat) = 2 ^ 32 - 1 := by decide
  have h2 : 4294967295 - c = 2 ^ 32 - (c + 1) := by omega
  rw [h2, Nat.testBit_two_pow_sub_succ (by omega), h1, Nat.testBit_xor, Nat.testBit_two_pow_sub_one]
  by_cases hi : i < 32
  · simp [hi]
  · have : c.testBit i = false := Nat.testBit_lt_two_pow (Nat.lt_of_lt_of_le h (Nat.le_trans (show 4294967296 ≤ 2 ^ 32 by decide) (Nat.pow_le_pow_right (by omega) (by omega))))
    simp [hi, this]
theorem not_walk (c : Nat) (h : c < 4294967296) : bits .xor .u32 IntKind.u32.max (c : Int) = ((4294967295 - c : Nat) : Int) := by
  have : IntKind.u32.max = ((4294967295 : Nat) : Int) := by decide
  rw [this, u32_xor_nat _ _ (by omega) h, not_nat c h]

theorem take_snoc (s : ByteArray) (k : Nat) (h : k < s.size) : s.data.toList.take (k + 1) = s.data.toList.take k ++ [s[k]] := by
  rw [List.take_succ_eq_append_getElem (by simpa using h)]; rfl
theorem take_all (s : ByteArray) (k : Nat) (h : s.size ≤ k) : s.data.toList.take k = s.data.toList := List.take_of_length_le (by simpa using h)
theorem ret_int {k : IntKind} {a b : Int} (h : a = b) : Ending.returned (.int k a) = .returned (.int k b) := by rw [h]

theorem add_any (c : Nat) (s : ByteArray) (w : World) (hc : c < 4294967296) (hs : s.size ≤ maxLen) :
    Calls Try.prog 16 #[.int .u32 c, .string s] w fun e w' => e = .returned (.int .u32 (add c s.data.toList)) ∧ w = w' := by
  unfold maxLen at hs
  go_enter Try.func16, Try.ntmps16
  go_wp2_with fail
  go_loop [5, 11] (fun v i => ∃ k : Nat, k ≤ s.size ∧ i = .int .i64 k ∧ v = .int .u32 (fold (4294967295 - c) (s.data.toList.take k))) (fun _ i => s.size - (intOf i).toNat)
  case atStart => exact ⟨0, by omega, rfl, by rw [not_walk c hc]; rfl⟩
  case round =>
    obtain ⟨k, hk, rfl, rfl⟩ := hrel
    have hb := fold_lt (s.data.toList.take k) (4294967295 - c) (by omega)
    by_cases hlt : k < s.size
    · have HS := Lib.hid (congrArg (fold (4294967295 - c)) (take_snoc s k hlt))
      go_wp2_with (go_at_call 46; refine (step_any _ _ _ (by assumption) (UInt8.toNat_lt _)).mono ?_; rintro e w' ⟨rfl, rfl⟩)
      go_round
      case rel =>
        go_light
        exact ⟨k + 1, by omega, by go_num, by rw [HS.out, fold_snoc]⟩
      case measure => simp [intOf]; omega
    · go_wp2
      go_ret
      exact ⟨ret_int (by rw [not_walk _ hb, take_all s k (by omega)]; rfl), rfl⟩

theorem sum_any (s : ByteArray) (w : World) (hs : s.size ≤ maxLen) :
    Calls Try.prog 18 #[.string s] w fun e w' => e = .returned (.int .u32 (add 0 s.data.toList)) ∧ w = w' := by
  go_enter Try.func18, Try.ntmps18
  go_wp2_with (go_at_call 16; refine (add_any 0 _ _ (by omega) (by assumption)).mono ?_; rintro e w' ⟨rfl, rfl⟩)
  go_ret
  exact ⟨rfl, rfl⟩

theorem bit_one (C : Nat) (h : C < 4294967296) (hp : C % 2 = 1) : bits .xor .u32 ((C : Int) / 2) 3988292384 = (bit C : Int) := by
  have e3 : ((C : Int) / 2) = ((C / 2 : Nat) : Int) := by omega
  unfold bit
  rw [if_pos hp, e3]
  exact u32_xor_nat _ 3988292384 (by omega) (by omega)
theorem bit_none (C : Nat) (hp : ¬ C % 2 = 1) : ((C : Int) / 2) = (bit C : Int) := by
  unfold bit
  rw [if_neg hp]
  omega

theorem ref_add (c : Nat) (s : ByteArray) (w : World) (hc : c < 4294967296) (hs : s.size ≤ maxLen) :
    Calls Try.prog 17 #[.int .u32 c, .string s] w fun e w' => e = .returned (.int .u32 (add c s.data.toList)) ∧ w = w' := by
  unfold maxLen at hs
  go_enter Try.func17, Try.ntmps17
  go_wp2_with fail
  go_loop [5, 6] (fun v i => ∃ k : Nat, k ≤ s.size ∧ i = .int .i64 k ∧ v = .int .u32 (fold (4294967295 - c) (s.data.toList.take k))) (fun _ i => s.size - (intOf i).toNat)
  case atStart => exact ⟨0, by omega, rfl, by rw [not_walk c hc]; rfl⟩
  case round =>
    obtain ⟨k, hk, rfl, rfl⟩ := hrel
    have hb := fold_lt (s.data.toList.take k) (4294967295 - c) (by omega)
    by_cases hlt : k < s.size
    · have HS := Lib.hid (congrArg (fold (4294967295 - c)) (take_snoc s k hlt))
      have hx := UInt8.toNat_lt s[k]
      go_wp2
      go_loop [5, 7] (fun v i => ∃ j : Nat, j ≤ 8 ∧ i = .int .i64 j ∧ v = .int .u32 (iter j (fold (4294967295 - c) (s.data.toList.take k) ^^^ s[k].toNat))) (fun _ i => 8 - (intOf i).toNat)
      case atStart => exact ⟨0, by omega, rfl, by rw [u32_xor_nat _ _ hb (by omega)]; rfl⟩
      case round =>
        obtain ⟨j, hj, rfl, rfl⟩ := hrel
        have hc2 := iter_lt j _ (xor_lt _ _ hb hx)
        by_cases hjl : j < 8
        · by_cases hp : iter j (fold (4294967295 - c) (s.data.toList.take k) ^^^ s[k].toNat) % 2 = 1
          · have hp2 : (((iter j (fold (4294967295 - c) (s.data.toList.take k) ^^^ s[k].toNat) : Nat) : Int) % 2 == 1) = true := by simp; omega
            go_wp2
            go_round
            case rel =>
              go_light
              exact ⟨j + 1, by omega, by go_num, by rw [bit_one _ hc2 hp]; rfl⟩
            case measure => simp [intOf]; omega
          · have hp2 : (((iter j (fold (4294967295 - c) (s.data.toList.take k) ^^^ s[k].toNat) : Nat) : Int) % 2 == 1) = false := by simp; omega
            go_wp2
            go_round
            case rel =>
              go_light
              exact ⟨j + 1, by omega, by go_num, by rw [bit_none _ hp]; rfl⟩
            case measure => simp [intOf]; omega
        · go_wp2
          go_round
          case rel =>
            go_light
            obtain rfl : j = 8 := by omega
            exact ⟨k + 1, by omega, by go_num, by rw [HS.out, fold_snoc]; rfl⟩
          case measure => simp [intOf]; omega
    · go_wp2
      go_ret
      exact ⟨ret_int (by rw [not_walk _ hb, take_all s k (by omega)]; rfl), rfl⟩

theorem ref_sum (s : ByteArray) (w : World) (hs : s.size ≤ maxLen) :
    Calls Try.prog 19 #[.string s] w fun e w' => e = .returned (.int .u32 (add 0 s.data.toList)) ∧ w = w' := by
  go_enter Try.func19, Try.ntmps19
  go_wp2_with (go_at_call 17; refine (ref_add 0 _ _ (by omega) (by assumption)).mono ?_; rintro e w' ⟨rfl, rfl⟩)
  go_ret
  exact ⟨rfl, rfl⟩

theorem awake_any (w : World) : Calls Try.prog 15 #[] w fun e w' => e = .returned (.bool true) ∧ w = w' := by
  have e1 : (((add 0 [49, 50, 51, 52, 53, 54, 55, 56, 57] : Nat) : Int) == 3421780262) = true := by decide +kernel
  have e2 : (((add 0 [] : Nat) : Int) == 0) = true := by decide +kernel
  have e3 : (((add (add 0 [49, 50, 51, 52]) [53, 54, 55, 56, 57] : Nat) : Int) == 3421780262) = true := by decide +kernel
  go_enter Try.func15, Try.ntmps15
  go_wp2_with (first | (go_at_call 18; refine (sum_any _ _ (by decide +kernel)).mono ?_; rintro e w' ⟨rfl, rfl⟩) | (go_at_call 16; refine (add_any _ _ _ (add_lt _ _) (by decide +kernel)).mono ?_; rintro e w' ⟨rfl, rfl⟩))
  go_ret
  exact ⟨rfl, rfl⟩
end Go.Proofs.Ytfghllgkbdfedaa.Crc
