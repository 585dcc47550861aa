/- What varint.Read computes of bytes that are a number, and what the reference's Read computes; conditions: each string is one of the model's, each number one of its kind. -/
import Derived.Test.YtfghllgkbdfedaaVarWalk
namespace Go.Proofs.Ytfghllgkbdfedaa.Var
open Go.RowKit
set_option maxRecDepth 100000

theorem pow7 (k : Nat) : (2 : Nat) ^ (7 * k) = 128 ^ k := by rw [Nat.pow_mul]
theorem or_step (v x k : Nat) (hv : v < 128 ^ k) (hx : x < 256) (hb : x % 128 * 128 ^ k < 18446744073709551616) (hv2 : v < 18446744073709551616) :
    bits .or .u64 (v : Int) (IntKind.u64.wrap (IntKind.u64.wrap (bits .and .u8 (x : Int) 127) * 2 ^ (7 * k))) = ((v + x % 128 * 128 ^ k : Nat) : Int) := by
  have e1 : bits .and .u8 (x : Int) 127 = ((x % 128 : Nat) : Int) := by
    have := u8_and_nat x 127 hx (by omega)
    rw [nat_mask7] at this
    exact this
  rw [e1, IntWalk.u64_in ((x % 128 : Nat) : Int) (by omega)]
  have e2 : ((x % 128 : Nat) : Int) * 2 ^ (7 * k) = ((x % 128 * 128 ^ k : Nat) : Int) := by
    rw [← pow7]; simp
  rw [e2, IntWalk.u64_in _ (by omega), u64_or_nat _ _ hv2 hb]
  congr 1
  rw [Nat.or_comm, nat_join (7 * k)]
  · omega
  · rw [← pow7]; exact Nat.mul_mod_left _ _
  · rw [pow7]; exact hv

theorem val_take_succ (s : ByteArray) (k : Nat) (h : k < s.size) : val (s.data.toList.take (k + 1)) = val (s.data.toList.take k) + s[k].toNat % 128 * 128 ^ k := by
  have hl : k < s.data.toList.length := by simpa using h
  rw [List.take_succ_eq_append_getElem hl, val_snoc, List.length_take, Nat.min_eq_left (by omega)]
  rfl
theorem val_take_lt (s : ByteArray) (k : Nat) (h : k ≤ s.size) : val (s.data.toList.take k) < 128 ^ k := by
  have := val_lt (s.data.toList.take k)
  rw [List.length_take, Nat.min_eq_left (by simpa using h)] at this
  exact this
theorem pow_le9 (k : Nat) (h : k ≤ 9) : (128 : Nat) ^ k ≤ 9223372036854775808 := by
  have := Nat.pow_le_pow_right (n := 128) (by omega) h
  have e : (128 : Nat) ^ 9 = 9223372036854775808 := by decide
  omega
theorem step_ok (s : ByteArray) (e k : Nat) (he : e < s.size) (hk : k ≤ e) (h9 : e ≤ 9) (h1 : e = 9 → ¬ 1 < (s.data.toList.getD 9 0).toNat) :
    bits .or .u64 (val (s.data.toList.take k) : Nat) (IntKind.u64.wrap (IntKind.u64.wrap (bits .and .u8 ((s[k]'(by omega)).toNat : Int) 127) * 2 ^ (7 * k))) = (val (s.data.toList.take (k + 1)) : Nat) := by
  have hks : k < s.size := by omega
  have hv := val_take_lt s k (by omega)
  have hp := pow_le9 k (by omega)
  rw [val_take_succ s k hks]
  refine or_step _ _ k hv (UInt8.toNat_lt _) ?_ (by omega)
  by_cases hk9 : k = 9
  · subst hk9
    have := h1 (by omega)
    rw [getD_byte s 9 hks] at this
    have e9 : (128 : Nat) ^ 9 = 9223372036854775808 := by decide
    have h2 : s[9].toNat % 128 ≤ 1 := by omega
    rw [e9]
    have := Nat.mul_le_mul_right 9223372036854775808 h2
    omega
  · have h8 := Nat.pow_le_pow_right (n := 128) (by omega) (show k ≤ 8 by omega)
    have e8 : (128 : Nat) ^ 8 = 72057594037927936 := by decide
    have h2 : s[k].toNat % 128 ≤ 127 := by omega
    have := Nat.mul_le_mul h2 h8
    omega

theorem read_ok (s : ByteArray) (e : Nat) (he : ends s.data.toList = some e) (w : World) (hs : s.size ≤ maxLen) (hr : ¬ (9 < e ∨ e = 9 ∧ 1 < (s.data.toList.getD 9 0).toNat))
    (hf : ¬ (0 < e ∧ (s.data.toList.getD e 0).toNat = 0)) :
    Calls Try.prog 21 #[.string s] w fun en w' => en = .returned (.tuple #[.int .u64 (val (s.data.toList.take (e + 1)) : Nat), .int .i64 (e + 1 : Nat), .int .i64 0]) ∧ w = w' := by
  have h1 := (ends_some he).1
  have h1 : e < s.size := by simpa using h1
  have HE := Lib.hid he
  clear he
  have hs' := hs
  unfold maxLen at hs
  have HS := Lib.hid (fun k (hk : k ≤ e) => step_ok s e k h1 hk (by omega) (fun e9 h => hr (.inr ⟨e9, h⟩)))
  rw [getD_byte s e h1] at hf
  by_cases he9 : e = 9
  · subst he9
    have h9 : ¬ 1 < s[9].toNat := by rw [getD_byte s 9 h1] at hr; omega
    have hz : ((s[9].toNat : Int) == 0) = false := by simp; omega
    clear hf hr
    go_enter Try.func21, Try.ntmps21
    go_wp2_with (go_at_call 47; refine (end_some _ _ HE.out _ hs').mono ?_; rintro e w' ⟨rfl, rfl⟩)
    clear h9 hz
    go_loop [7, 41] (fun v i => ∃ k : Nat, k ≤ 10 ∧ i = .int .i64 k ∧ v = .int .u64 (val (s.data.toList.take k) : Nat)) (fun _ i => 10 - (intOf i).toNat)
    case atStart => exact ⟨0, by omega, rfl, rfl⟩
    case round =>
      obtain ⟨k, hk, rfl, rfl⟩ := hrel
      by_cases hlt : k < 10
      · have hks : k < s.size := by omega
        go_wp2
        go_round
        case rel => exact ⟨k + 1, by omega, by go_num, by rw [HS.out k (by omega)]⟩
        case measure => simp [intOf]; omega
      · obtain rfl : k = 10 := by omega
        go_wp2
        go_ret3
        exact ⟨rfl, rfl⟩
  · by_cases he0 : e = 0
    · subst he0
      clear hf hr
      go_enter Try.func21, Try.ntmps21
      go_wp2_with (go_at_call 47; refine (end_some _ _ HE.out _ hs').mono ?_; rintro e w' ⟨rfl, rfl⟩)
      go_loop [7, 41] (fun v i => ∃ k : Nat, k ≤ 1 ∧ i = .int .i64 k ∧ v = .int .u64 (val (s.data.toList.take k) : Nat)) (fun _ i => 1 - (intOf i).toNat)
      case atStart => exact ⟨0, by omega, rfl, rfl⟩
      case round =>
        obtain ⟨k, hk, rfl, rfl⟩ := hrel
        by_cases hlt : k < 1
        · have hks : k < s.size := by omega
          go_wp2
          go_round
          case rel => exact ⟨k + 1, by omega, by go_num, by rw [HS.out k (by omega)]⟩
          case measure => simp [intOf]; omega
        · obtain rfl : k = 1 := by omega
          go_wp2
          go_ret3
          exact ⟨rfl, rfl⟩
    · have h9 : e < 9 := by omega
      have h0 : 0 < e := by omega
      have hz : ((s[e].toNat : Int) == 0) = false := by simp; omega
      have hne : ((e : Int) == 9) = false := by simp; omega
      clear hf hr
      go_enter Try.func21, Try.ntmps21
      go_wp2_with (go_at_call 47; refine (end_some _ _ HE.out _ hs').mono ?_; rintro e w' ⟨rfl, rfl⟩)
      clear hz hne
      go_loop [7, 41] (fun v i => ∃ k : Nat, k ≤ e + 1 ∧ i = .int .i64 k ∧ v = .int .u64 (val (s.data.toList.take k) : Nat)) (fun _ i => e + 1 - (intOf i).toNat)
      case atStart => exact ⟨0, by omega, rfl, rfl⟩
      case round =>
        obtain ⟨k, hk, rfl, rfl⟩ := hrel
        by_cases hlt : k < e + 1
        · have hks : k < s.size := by omega
          go_wp2
          go_round
          case rel => exact ⟨k + 1, by omega, by go_num, by rw [HS.out k (by omega)]⟩
          case measure => simp [intOf]; omega
        · obtain rfl : k = e + 1 := by omega
          go_wp2
          go_ret3
          exact ⟨by simp, rfl⟩

theorem read_any (s : ByteArray) (w : World) (hs : s.size ≤ maxLen) :
    Calls Try.prog 21 #[.string s] w fun en w' => en = .returned (.tuple #[.int .u64 (read s.data.toList).1, .int .i64 (read s.data.toList).2.1, .int .i64 (read s.data.toList).2.2]) ∧ w = w' := by
  unfold read
  cases he : ends s.data.toList with
  | none => exact read_none s he w hs
  | some e =>
    simp only
    by_cases hr : 9 < e ∨ e = 9 ∧ 1 < (s.data.toList.getD 9 0).toNat
    · rw [if_pos hr]
      exact read_range s e he w hs hr
    · rw [if_neg hr]
      by_cases hf : 0 < e ∧ (s.data.toList.getD e 0).toNat = 0
      · rw [if_pos hf]
        exact read_form s e he w hs hr hf
      · rw [if_neg hf]
        exact read_ok s e he w hs hr hf
end Go.Proofs.Ytfghllgkbdfedaa.Var
