/- What both functions digits compute; no condition. -/
import Derived.Test.YtkmfcaaionmfoaaRptDig
import Derived.StillTailTactics
set_option maxRecDepth 100000
namespace Go.Proofs.Ytkmfcaaionmfoaa.Rp
open Go.RowKit Go.Proofs.Ytkmfcaaionmfoaa.Sp

def dig (n : Int) : List UInt8 := if n < 0 then 45 :: digN (-n).toNat else digN n.toNat

set_option maxHeartbeats 1000000 in
theorem digits_neg (n : Int) (m : Nat) (hm : n = -(m : Int)) (h0 : 0 < m) (h1 : m ≤ 9223372036854775808) (w : World) : Calls Try.prog 33 #[.int .i64 n] w fun e w' => e = .returned (.string (bsOf (45 :: digN m))) ∧ Below w.heap.size w w' := by
  have d0 : decide (n < 0) = true := by simp; omega
  obtain ⟨E, hE⟩ : ∃ E, E = bsOf (45 :: digN m) := ⟨_, rfl⟩
  rw [← hE]
  by_cases h10 : m < 10
  · have d1 : decide (-10 < n) = true := by simp; omega
    have d2 : decide ((m : Int) < 10) = true := by simp; omega
    obtain ⟨x, hx⟩ : ∃ x, x = 48 + m := ⟨_, rfl⟩
    have hxi : 48 + (m : Int) % 10 = (x : Int) := by omega
    rw [digN_low h10, ← hx] at hE
    have cv := conv2 x (by omega)
    rw [← hxi] at cv
    have HE := Lib.hid hE
    clear hE hx hxi h10
    go_enter Try.func33, Try.ntmps33
    go_wp2_with fail
    go_ret
    exact ⟨ret_str HE.out.symm, (Below.refl _ _).alloc (Nat.le_refl _) _⟩
  · have d1 : decide (-10 < n) = false := by simp; omega
    have d2 : decide ((m : Int) < 10) = false := by simp; omega
    obtain ⟨x, hx⟩ : ∃ x, x = 48 + m % 10 := ⟨_, rfl⟩
    obtain ⟨q, hq⟩ : ∃ q, q = m / 10 := ⟨_, rfl⟩
    have hxi : 48 + (m : Int) % 10 = (x : Int) := by omega
    have e1 : (m : Int) / 10 = (q : Int) := by omega
    have e3 : IntKind.i64.wrap (-(q : Int)) = -(q : Int) := by rw [IntWalk.i64_in _ ⟨by omega, by omega⟩]
    have e4 : IntKind.i64.wrap (q : Int) = (q : Int) := by rw [IntWalk.i64_in _ ⟨by omega, by omega⟩]
    have hE2 : E = (⟨#[45]⟩ : ByteArray) ++ bsOf (digN q) ++ bsOf [UInt8.ofNat x] := by
      rw [hE, digN_high h10, ← hx, ← hq]
      show bsOf _ = bsOf [45] ++ _ ++ _
      rw [bsOf_app, bsOf_app]; simp
    have l1 := digN_19 (show q < 9223372036854775808 by omega)
    have l2 : (bsOf [UInt8.ofNat x]).size = 1 := by rw [bsOf_size]; rfl
    have I1 := digits_nat q (by omega)
    have cv := conv1 x (by omega)
    rw [← hxi] at cv
    rw [← bsOf_size] at l1
    generalize bsOf (digN q) = B1 at hE2 l1 I1
    generalize bsOf [UInt8.ofNat x] = B2 at hE2 l2 cv
    have z1 : ¬ 9223372036854775807 < 1 + B1.size := by omega
    have l3 : ((⟨#[45]⟩ : ByteArray) ++ B1).size = 1 + B1.size := by rw [ByteArray.size_append]; rfl
    obtain ⟨T1, hT1⟩ : ∃ T1, (⟨#[45]⟩ : ByteArray) ++ B1 = T1 := ⟨_, rfl⟩
    rw [hT1] at l3 hE2
    have z2 : ¬ 9223372036854775807 < T1.size + B2.size := by omega
    have z0 : ¬ 9223372036854775807 < (⟨#[45]⟩ : ByteArray).size + B1.size := z1
    have HE := Lib.hid hE2
    have I1 := Lib.hid I1
    clear hE hE2 hx hxi h10 l1 l2 l3 hq
    go_enter Try.func33, Try.ntmps33
    go_wp2_with fail
    go_region_with (go_at_call 33; (with_reducible refine (I1.out _).mono ?_); rintro e W1 ⟨rfl, b1⟩; have cc := fun hp => b1.cell (p := ⟨w.heap.size, 0, none⟩) hp)
    all_goals
      go_wp2_with fail
      go_ret
    all_goals first
      | exact ⟨ret_str HE.out.symm, (((Below.refl w.heap.size w).alloc (Nat.le_refl _) _).drew).trans (b1.mono (by simp))⟩
      | exact ⟨ret_str HE.out.symm, (((Below.refl w.heap.size w).drew).trans b1).alloc b1.size _⟩

set_option maxHeartbeats 1000000 in
theorem ldigits_nat : ∀ (n : Nat), n < 9223372036854775808 → ∀ w, Calls Try.prog 21 #[.int .i64 n] w fun e w' => e = .returned (.string (bsOf (digN n))) ∧ Below w.heap.size w w' := by
  intro n
  induction n using Nat.strongRecOn with
  | ind n ih =>
    intro hn w
    have d0 : decide ((n : Int) < 0) = false := by simp
    by_cases h10 : n < 10
    · have d1 : decide ((n : Int) < 10) = true := by simp; omega
      obtain ⟨E, hE⟩ : ∃ E, E = bsOf (digN n) := ⟨_, rfl⟩
      rw [← hE]
      obtain ⟨x, hx⟩ : ∃ x, x = 48 + n := ⟨_, rfl⟩
      have hxi : (n : Int) + 48 = (x : Int) := by omega
      rw [digN_low h10, ← hx] at hE
      have cv := conv1 x (by omega)
      have hw : wrap64 (x : Int) % 256 = (x : Int) := by
        have : wrap64 (x : Int) = (x : Int) := IntWalk.wrap64_in _ ⟨by omega, by omega⟩
        rw [this]; omega
      have HE := Lib.hid hE
      clear hE ih hx h10
      go_enter Try.func21, Try.ntmps21
      go_wp2_with fail
      go_ret
      exact ⟨ret_str HE.out.symm, (Below.refl _ _).alloc (Nat.le_refl _) _⟩
    · have d1 : decide ((n : Int) < 10) = false := by simp; omega
      obtain ⟨E, hE⟩ : ∃ E, E = bsOf (digN n) := ⟨_, rfl⟩
      rw [← hE]
      rw [digN_high h10, ← bsOf_app, ← digN_low (show n % 10 < 10 by omega)] at hE
      obtain ⟨q, hq⟩ : ∃ q, q = n / 10 := ⟨_, rfl⟩
      obtain ⟨r, hr⟩ : ∃ r, r = n % 10 := ⟨_, rfl⟩
      rw [← hq, ← hr] at hE
      have l1 := digN_19 (show q < 9223372036854775808 by omega)
      have l2 := digN_19 (show r < 9223372036854775808 by omega)
      have I1 := ih q (by omega) (by omega)
      have I2 := ih r (by omega) (by omega)
      rw [← bsOf_size] at l1 l2
      generalize bsOf (digN q) = B1 at hE l1 I1
      generalize bsOf (digN r) = B2 at hE l2 I2
      have hz : ¬ 9223372036854775807 < B1.size + B2.size := by omega
      have I1 := Lib.hid I1
      have I2 := Lib.hid I2
      have HE := Lib.hid hE
      have e1 : (n : Int) / 10 = (q : Int) := by omega
      have e2 : (n : Int) % 10 = (r : Int) := by omega
      clear hE ih hq hr h10 l1 l2
      go_enter Try.func21, Try.ntmps21
      go_wp2_with (go_at_call 21; first
        | ((with_reducible refine (I1.out w).mono ?_); rintro e W1 ⟨rfl, b1⟩)
        | ((with_reducible refine (I2.out W1).mono ?_); rintro e W2 ⟨rfl, b2⟩))
      go_ret
      exact ⟨ret_str HE.out.symm, bel_next b1 b2⟩

set_option maxHeartbeats 1000000 in
theorem ldigits_neg (n : Int) (m : Nat) (hm : n = -(m : Int)) (h0 : 0 < m) (h1 : m < 9223372036854775808) (w : World) : Calls Try.prog 21 #[.int .i64 n] w fun e w' => e = .returned (.string (bsOf (45 :: digN m))) ∧ Below w.heap.size w w' := by
  have d0 : decide (n < 0) = true := by simp; omega
  have e0 : -n = (m : Int) := by omega
  obtain ⟨E, hE⟩ : ∃ E, E = bsOf (45 :: digN m) := ⟨_, rfl⟩
  rw [← hE]
  have l1 := digN_19 h1
  have hE2 : E = (⟨#[45]⟩ : ByteArray) ++ bsOf (digN m) := by
    rw [hE]
    show bsOf _ = bsOf [45] ++ _
    rw [bsOf_app]; rfl
  have I1 := Lib.hid (ldigits_nat m h1)
  rw [← bsOf_size] at l1
  generalize bsOf (digN m) = B1 at hE2 l1 I1
  have z1 : ¬ 9223372036854775807 < 1 + B1.size := by omega
  have z0 : ¬ 9223372036854775807 < (⟨#[45]⟩ : ByteArray).size + B1.size := z1
  have HE := Lib.hid hE2
  clear hm hE hE2 l1
  go_enter Try.func21, Try.ntmps21
  go_wp2_with (go_at_call 21; (with_reducible refine (I1.out w).mono ?_); rintro e W1 ⟨rfl, b1⟩)
  go_ret
  exact ⟨ret_str HE.out.symm, b1⟩
theorem dig_pos {n : Int} (h : 0 ≤ n) : ∃ m : Nat, n = (m : Int) ∧ dig n = digN m := ⟨n.toNat, by omega, by unfold dig; rw [if_neg (by omega)]⟩
theorem dig_neg {n : Int} (h : n < 0) : ∃ m : Nat, n = -(m : Int) ∧ 0 < m ∧ dig n = 45 :: digN m := ⟨(-n).toNat, by omega, by omega, by unfold dig; rw [if_pos h]⟩
theorem dig_len {n : Int} (h : -9223372036854775808 < n) (h2 : n < 9223372036854775808) : (dig n).length ≤ 20 := by
  by_cases h0 : n < 0
  · obtain ⟨m, hm, _, e⟩ := dig_neg h0
    rw [e]
    have := digN_19 (show m < 9223372036854775808 by omega)
    simp; omega
  · obtain ⟨m, hm, e⟩ := dig_pos (show 0 ≤ n by omega)
    rw [e]
    have := digN_19 (show m < 9223372036854775808 by omega)
    omega
/-- report.digits -/
theorem digits_any (n : Int) (h : -9223372036854775808 ≤ n) (h2 : n < 9223372036854775808) (w : World) : Calls Try.prog 33 #[.int .i64 n] w fun e w' => e = .returned (.string (bsOf (dig n))) ∧ Below w.heap.size w w' := by
  by_cases h0 : n < 0
  · obtain ⟨m, hm, hp, e⟩ := dig_neg h0
    rw [e]
    exact digits_neg n m hm hp (by omega) w
  · obtain ⟨m, hm, e⟩ := dig_pos (show 0 ≤ n by omega)
    rw [e, hm]
    exact digits_nat m (by omega) w
/-- the law's digits -/
theorem ldigits_any (n : Int) (h : -9223372036854775808 < n) (h2 : n < 9223372036854775808) (w : World) : Calls Try.prog 21 #[.int .i64 n] w fun e w' => e = .returned (.string (bsOf (dig n))) ∧ Below w.heap.size w w' := by
  by_cases h0 : n < 0
  · obtain ⟨m, hm, hp, e⟩ := dig_neg h0
    rw [e]
    exact ldigits_neg n m hm hp (by omega) w
  · obtain ⟨m, hm, e⟩ := dig_pos (show 0 ≤ n by omega)
    rw [e, hm]
    exact ldigits_nat m (by omega) w
end Go.Proofs.Ytkmfcaaionmfoaa.Rp
