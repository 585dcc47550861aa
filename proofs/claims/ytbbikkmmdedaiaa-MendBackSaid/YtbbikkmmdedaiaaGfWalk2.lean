/- What gf.Inv, Div and the references' Mul, Inv, Div compute. -/
import Derived.Test.YtbbikkmmdedaiaaGfWalk
set_option maxRecDepth 100000
namespace Go.Proofs.Ytbbikkmmdedaiaa.Gf
open Go.RowKit

def nought (a : Nat) : Int := if a = 0 then 1 else 0
theorem nought_pos {a : Nat} (h : ¬ a = 0) : nought a = 0 := by unfold nought; rw [if_neg h]

theorem inv_any (a : Nat) (w : World) (ha : a < 256) :
    Calls Try.prog 28 #[.int .u8 a] w fun e w' => e = .returned (.tuple #[.int .u8 (inv a : Nat), .int .i64 (nought a)]) ∧ w = w' := by
  go_enter Try.func28, Try.ntmps28
  by_cases h0 : a = 0
  · subst h0
    go_wp2_with fail
    go_ret2
    exact ⟨rfl, rfl⟩
  · have hn : (((a : Nat) : Int) == 0) = false := by simp; omega
    have hi : inv a = invF 7 1 a := by unfold inv; rw [if_neg h0]
    have HI := Lib.hid hi
    have HN := Lib.hid (nought_pos h0)
    clear hi h0
    go_wp2_with fail
    go_loop [4, 5, 9] (fun o x i => ∃ k O X : Nat, k ≤ 7 ∧ O < 256 ∧ X < 256 ∧ o = .int .u8 O ∧ x = .int .u8 X ∧ i = .int .i64 k ∧ invF (7 - k) O X = inv a) (fun _ _ i => 7 - (intOf i).toNat)
    case atStart => exact ⟨0, 1, a, by omega, by omega, ha, rfl, rfl, rfl, HI.out.symm⟩
    case round =>
      obtain ⟨k, O, X, hk, hO, hX, rfl, rfl, rfl, hm⟩ := hrel
      have HM := Lib.hid hm
      clear hm
      by_cases hlt : k < 7
      · obtain ⟨Y, hY⟩ : ∃ Y, Y = mul X X := ⟨_, rfl⟩
        have hYl : Y < 256 := by rw [hY]; exact mul_lt X X hX
        have M1 := Lib.hid (show ∀ w, Calls Try.prog 33 #[.int .u8 X, .int .u8 X] w fun e w' => e = .returned (.int .u8 Y) ∧ w = w' by
          intro w; rw [hY]; exact mul_any X X w hX hX)
        have HYe := Lib.hid hY
        clear hY
        obtain ⟨Z, hZ⟩ : ∃ Z, Z = mul O Y := ⟨_, rfl⟩
        have hZl : Z < 256 := by rw [hZ]; exact mul_lt O Y hO
        have M2 := Lib.hid (show ∀ w, Calls Try.prog 33 #[.int .u8 O, .int .u8 Y] w fun e w' => e = .returned (.int .u8 Z) ∧ w = w' by
          intro w; rw [hZ]; exact mul_any O Y w hO hYl)
        have HZe := Lib.hid hZ
        clear hZ
        go_wp2_with (go_at_call 33; first | (with_reducible refine (M1.out _).mono ?_; rintro e w' ⟨rfl, rfl⟩) | (with_reducible refine (M2.out _).mono ?_; rintro e w' ⟨rfl, rfl⟩))
        go_round
        case rel =>
          go_light
          exact ⟨k + 1, Z, Y, by omega, hZl, hYl, rfl, rfl, by go_num, by rw [← HM.out, show 7 - k = (7 - (k + 1)) + 1 by omega, invF, HZe.out, HYe.out]⟩
        case measure => simp [intOf]; omega
      · obtain rfl : k = 7 := by omega
        go_wp2
        have hO' : O = inv a := HM.out
        go_ret2
        exact ⟨by rw [HN.out, ← hO']; rfl, rfl⟩

/-! ### The reference's product: without carries, then the remainder -/
def clF : Nat → Nat → Nat → Nat
  | 0, _, _ => 0
  | k + 1, a, b => if b / 2 ^ k % 2 = 1 then clF k a b ^^^ (a * 2 ^ k) else clF k a b
def redF : Nat → Nat → Nat
  | 0, r => r
  | n + 1, r => redF n (if r / 2 ^ (n + 8) % 2 = 1 then r ^^^ (285 * 2 ^ n) else r)
theorem xlt16 {a b : Nat} (ha : a < 65536) (hb : b < 65536) : a ^^^ b < 65536 := Nat.xor_lt_two_pow (n := 16) ha hb
theorem shift_lt {a k : Nat} (ha : a < 256) (hk : k < 8) : a * 2 ^ k < 65536 := by
  have h := Nat.pow_le_pow_right (n := 2) (i := k) (j := 7) (by omega) (by omega)
  have := Nat.mul_le_mul (show a ≤ 255 by omega) h
  omega
theorem clF_lt (a b : Nat) (ha : a < 256) : ∀ k, k ≤ 8 → clF k a b < 65536 := by
  intro k
  induction k with
  | zero => intro _; simp [clF]
  | succ k ih =>
    intro hk
    rw [clF]
    split
    · exact xlt16 (ih (by omega)) (shift_lt ha (by omega))
    · exact ih (by omega)
theorem shl_xor (a b k : Nat) : (a ^^^ b) * 2 ^ k = (a * 2 ^ k) ^^^ (b * 2 ^ k) := by
  have := Nat.shiftLeft_xor_distrib (a := a) (b := b) (i := k)
  simpa [Nat.shiftLeft_eq] using this
theorem shr_xor (a b k : Nat) : (a ^^^ b) / 2 ^ k = (a / 2 ^ k) ^^^ (b / 2 ^ k) := by
  have := Nat.shiftRight_xor_distrib (a := a) (b := b) (i := k)
  simpa [Nat.shiftRight_eq_div_pow] using this
theorem clF_xor (a b c : Nat) : ∀ k, clF k (a ^^^ b) c = clF k a c ^^^ clF k b c := by
  intro k
  induction k with
  | zero => simp [clF]
  | succ k ih =>
    rw [clF, clF, clF]
    split
    · rw [ih, shl_xor, xor4]
    · exact ih
theorem redF_xor : ∀ n r s, redF n (r ^^^ s) = redF n r ^^^ redF n s := by
  intro n
  induction n with
  | zero => intro r s; rfl
  | succ n ih =>
    intro r s
    rw [redF, redF, redF, shr_xor, xor_mod2, ← ih]
    congr 1
    generalize r / 2 ^ (n + 8) = x
    generalize s / 2 ^ (n + 8) = y
    have hb : x % 2 = 0 ∨ x % 2 = 1 := by omega
    have hc : y % 2 = 0 ∨ y % 2 = 1 := by omega
    rcases hb with hb | hb <;> rcases hc with hc | hc <;> rw [hb, hc] <;> simp
    · rw [Nat.xor_assoc]
    · rw [Nat.xor_assoc, Nat.xor_assoc, Nat.xor_comm s]
    · rw [xor4]; simp
theorem ref_eq (a b : Nat) (ha : a < 256) (hb : b < 256) : redF 8 (clF 8 a b) = mul a b := by
  refine linear_ext (fun a => redF 8 (clF 8 a b)) (fun a => mul a b) (fun x y hx hy => ?_) (fun x y hx hy => mul_xor_left x y _ hx hy) ?_ ?_ a ha
  · show redF 8 (clF 8 (x ^^^ y) b) = redF 8 (clF 8 x b) ^^^ redF 8 (clF 8 y b)
    rw [clF_xor, redF_xor]
  · have : ∀ b : Fin 256, redF 8 (clF 8 0 b.val) = mul 0 b.val := by decide +kernel
    exact this ⟨b, hb⟩
  · intro i
    have : ∀ i : Fin 8, ∀ b : Fin 256, redF 8 (clF 8 (2 ^ i.val) b.val) = mul (2 ^ i.val) b.val := by decide +kernel
    exact this i ⟨b, hb⟩

theorem i64_xor_nat (a b : Nat) (ha : a < 65536) (hb : b < 65536) : bits .xor .i64 (a : Int) (b : Int) = ((a ^^^ b : Nat) : Int) := by
  have h := xlt16 ha hb
  show IntKind.i64.wrap ((BitVec.ofInt 64 (a : Int) ^^^ BitVec.ofInt 64 (b : Int)).toNat : Int) = _
  rw [BitVec.toNat_xor, ofInt_u64 _ (by omega), ofInt_u64 _ (by omega), IntKind.wrap_i64]
  omega
theorem i64_eq {a b : Int} (h : a = b) : Value.int .i64 a = Value.int .i64 b := by rw [h]
theorem wrap_shift (a k : Nat) (h : a * 2 ^ k < 65536) : wrap64 ((a : Int) * 2 ^ k) = ((a * 2 ^ k : Nat) : Int) := by
  rw [show ((a : Int) * 2 ^ k) = ((a * 2 ^ k : Nat) : Int) by simp]
  exact IntWalk.wrap64_in _ (by omega)
theorem tmod_test (b k : Nat) : ((((b : Int) / 2 ^ k).tmod 2 == 1)) = decide (b / 2 ^ k % 2 = 1) := by
  rw [show ((b : Int) / 2 ^ k) = ((b / 2 ^ k : Nat) : Int) by simp]
  have : (((b / 2 ^ k : Nat) : Int)).tmod 2 = ((b / 2 ^ k % 2 : Nat) : Int) := by
    rw [Int.tmod_eq_emod_of_nonneg (Int.natCast_nonneg _)]; rfl
  rw [this]
  by_cases h : b / 2 ^ k % 2 = 1
  · rw [h]; rfl
  · rw [show b / 2 ^ k % 2 = 0 by omega]; rfl

theorem redshift (n : Nat) (h : n ≤ 7) : 285 * 2 ^ n < 65536 := by
  have := Nat.pow_le_pow_right (n := 2) (i := n) (j := 7) (by omega) (by omega)
  omega
theorem redmeas (n : Nat) : (intOf (Value.int .i64 ((n : Int) + 1 + 7 - 1))).toNat < (intOf (Value.int .i64 (((n + 1 : Nat) : Int) + 7))).toNat := by
  show ((n : Int) + 1 + 7 - 1).toNat < (((n + 1 : Nat) : Int) + 7).toNat
  omega
theorem ref_mul_any (a b : Nat) (w : World) (ha : a < 256) (hb : b < 256) :
    Calls Try.prog 34 #[.int .u8 a, .int .u8 b] w fun e w' => e = .returned (.int .u8 (mul a b)) ∧ w = w' := by
  have HB := Lib.hid (clF_lt a b ha)
  have HR := Lib.hid (ref_eq a b ha hb)
  go_enter Try.func34, Try.ntmps34
  go_wp2_with fail
  go_loop [5, 6] (fun r i => ∃ k : Nat, k ≤ 8 ∧ r = .int .i64 (clF k a b : Nat) ∧ i = .int .i64 k) (fun _ i => 8 - (intOf i).toNat)
  case atStart => exact ⟨0, by omega, rfl, rfl⟩
  case round =>
    obtain ⟨k, hk, rfl, rfl⟩ := hrel
    by_cases hlt : k < 8
    · have ht := tmod_test b k
      have HW := Lib.hid (wrap_shift a k (shift_lt ha hlt))
      have HX := Lib.hid (i64_xor_nat _ _ (HB.out k hk) (shift_lt ha hlt))
      by_cases hp : b / 2 ^ k % 2 = 1
      · have HC := Lib.hid (show clF (k + 1) a b = clF k a b ^^^ (a * 2 ^ k) by rw [clF, if_pos hp])
        rw [decide_eq_true hp] at ht
        clear hp
        go_wp2
        go_round
        case rel =>
          go_light
          exact ⟨k + 1, by omega, i64_eq (by rw [HC.out, HW.out, HX.out]), by go_num⟩
        case measure => simp [intOf]; omega
      · have HC := Lib.hid (show clF (k + 1) a b = clF k a b by rw [clF, if_neg hp])
        rw [decide_eq_false hp] at ht
        clear hp
        go_wp2
        go_round
        case rel =>
          go_light
          exact ⟨k + 1, by omega, i64_eq (by rw [HC.out]), by go_num⟩
        case measure => simp [intOf]; omega
    · obtain rfl : k = 8 := by omega
      have hb8 := HB.out 8 (by omega)
      have HR' := HR
      clear HR HB
      revert hb8 HR'
      generalize clF 8 a b = R0
      intro hb8 HR'
      go_wp2
      go_loop [5, 7] (fun r i => ∃ n R : Nat, n ≤ 8 ∧ R < 65536 ∧ r = .int .i64 R ∧ i = .int .i64 (n + 7) ∧ redF n R = mul a b) (fun _ i => (intOf i).toNat)
      case atStart => exact ⟨8, R0, by omega, hb8, rfl, rfl, HR'.out⟩
      case round =>
        obtain ⟨n, R, hn, hR, rfl, rfl, hm⟩ := hrel
        have HM := Lib.hid hm
        clear hm
        cases n with
        | zero =>
          have hm2 : R = mul a b := HM.out
          have HL := Lib.hid (mul_lt a b ha)
          go_wp2
          go_ret
          refine ⟨congrArg _ (u8_eq (a := ((mul a b : Nat) : Int) % 256) ?_), rfl⟩
          have := HL.out
          omega
        | succ n =>
          have ht := tmod_test R (n + 8)
          have HW := Lib.hid (wrap_shift 285 n (redshift n (by omega)))
          have HX := Lib.hid (i64_xor_nat R _ hR (redshift n (by omega)))
          go_wp2
          · rename_i hp
            exact ⟨⟨n, R ^^^ (285 * 2 ^ n), by omega, xlt16 hR (redshift n (by omega)), i64_eq (by rw [← HX.out, ← HW.out]; rfl), i64_eq (by omega), by rw [← HM.out, redF, if_pos hp]⟩, redmeas n⟩
          · rename_i hp
            exact ⟨⟨n, R, by omega, hR, rfl, i64_eq (by omega), by rw [← HM.out, redF, if_neg hp]⟩, redmeas n⟩
end Go.Proofs.Ytbbikkmmdedaiaa.Gf
