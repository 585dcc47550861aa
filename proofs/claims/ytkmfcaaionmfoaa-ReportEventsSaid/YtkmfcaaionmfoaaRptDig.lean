/- What both functions digits compute; no condition. -/
import Derived.Test.YtkmfcaaionmfoaaSpanAny
set_option maxRecDepth 100000
namespace Go.Proofs.Ytkmfcaaionmfoaa.Rp
open Go.RowKit Go.Proofs.Ytkmfcaaionmfoaa.Sp

def digN (n : Nat) : List UInt8 := if n < 10 then [UInt8.ofNat (48 + n)] else digN (n / 10) ++ [UInt8.ofNat (48 + n % 10)]
def bsOf (l : List UInt8) : ByteArray := ⟨l.toArray⟩
theorem digN_low {n : Nat} (h : n < 10) : digN n = [UInt8.ofNat (48 + n)] := by rw [digN, if_pos h]
theorem digN_high {n : Nat} (h : ¬ n < 10) : digN n = digN (n / 10) ++ [UInt8.ofNat (48 + n % 10)] := by rw [digN, if_neg h]
theorem bsOf_app (a b : List UInt8) : bsOf a ++ bsOf b = bsOf (a ++ b) := by
  apply ByteArray.ext
  simp [bsOf]

theorem digN_len : ∀ (k n : Nat), n < 10 ^ (k + 1) → (digN n).length ≤ k + 1
  | 0, n, h => by
    rw [digN_low (by simpa using h)]
    simp
  | k + 1, n, h => by
    by_cases h10 : n < 10
    · rw [digN_low h10]; simp
    · rw [digN_high h10, List.length_append]
      have := digN_len k (n / 10) (by rw [Nat.pow_succ] at h; omega)
      simp; omega
theorem digN_19 {n : Nat} (h : n < 9223372036854775808) : (digN n).length ≤ 19 := digN_len 18 n (by omega)
theorem bsOf_size (l : List UInt8) : (bsOf l).size = l.length := by simp [bsOf, ByteArray.size]
theorem conv1 (x : Nat) (hx : x < 256) (g : Nat) (w : World) (h : w.cell? ⟨g, 0, none⟩ = some (.int .u8 (x : Int))) : (convert 59 9 (.slice (some ⟨g, 0, none⟩) 1 1)).run Try.prog w = .ok (.string (bsOf [UInt8.ofNat x])) w := by
  refine run_convert_bytes_back w 59 9 5 ⟨g, 0, none⟩ 1 [UInt8.ofNat x] Try.underlying59 Try.underlying5 Try.underlying9 ?_
  intro j hj
  have hj0 : j = 0 := by simp at hj; omega
  subst hj0
  simp only [Addr.add]
  have e : (([UInt8.ofNat x][0]'(by simp)).toNat : Int) = (x : Int) := by simp; omega
  rw [e]
  exact h
theorem conv2 (x : Nat) (hx : x < 256) (g : Nat) (w : World) (h0 : w.cell? ⟨g, 0, none⟩ = some (.int .u8 45)) (h : w.cell? ⟨g, 1, none⟩ = some (.int .u8 (x : Int))) : (convert 59 9 (.slice (some ⟨g, 0, none⟩) 2 2)).run Try.prog w = .ok (.string (bsOf [45, UInt8.ofNat x])) w := by
  refine run_convert_bytes_back w 59 9 5 ⟨g, 0, none⟩ 2 [45, UInt8.ofNat x] Try.underlying59 Try.underlying5 Try.underlying9 ?_
  intro j hj
  have hj0 : j = 0 ∨ j = 1 := by simp at hj; omega
  rcases hj0 with rfl | rfl
  · exact h0
  · simp only [Addr.add]
    have e : (([45, UInt8.ofNat x][1]'(by simp)).toNat : Int) = (x : Int) := by simp; omega
    rw [e]
    exact h
theorem ret_str {a b : ByteArray} (h : a = b) : Ending.returned (.string a) = .returned (.string b) := by rw [h]

set_option maxHeartbeats 1000000 in
theorem digits_nat : ∀ (n : Nat), n < 9223372036854775808 → ∀ w, Calls Try.prog 33 #[.int .i64 n] w fun e w' => e = .returned (.string (bsOf (digN n))) ∧ Below w.heap.size w w' := by
  intro n
  induction n using Nat.strongRecOn with
  | ind n ih =>
    intro hn w
    have d0 : decide ((n : Int) < 0) = false := by simp
    by_cases h10 : n < 10
    · have d1 : decide ((n : Int) < 10) = true := by simp; omega
      obtain ⟨E, hE⟩ : ∃ E, E = bsOf (digN n) := ⟨_, rfl⟩
      rw [← hE]
      obtain ⟨x, hx⟩ : ∃ x, x = 48 + n := ⟨_, rfl⟩
      have hxi : 48 + (n : Int) = (x : Int) := by omega
      rw [digN_low h10, ← hx] at hE
      have cv := conv1 x (by omega)
      have hw : wrap64 (x : Int) % 256 = (x : Int) := by
        have : wrap64 (x : Int) = (x : Int) := IntWalk.wrap64_in _ ⟨by omega, by omega⟩
        rw [this]; omega
      have HE := Lib.hid hE
      clear hE ih hx h10
      go_enter Try.func33, Try.ntmps33
      go_wp2_with fail
      go_ret
      exact ⟨ret_str HE.out.symm, (Below.refl _ _).alloc (Nat.le_refl _) _⟩
    · have d1 : decide ((n : Int) < 10) = false := by simp; omega
      obtain ⟨E, hE⟩ : ∃ E, E = bsOf (digN n) := ⟨_, rfl⟩
      rw [← hE]
      rw [digN_high h10, ← bsOf_app, ← digN_low (show n % 10 < 10 by omega)] at hE
      obtain ⟨q, hq⟩ : ∃ q, q = n / 10 := ⟨_, rfl⟩
      obtain ⟨r, hr⟩ : ∃ r, r = n % 10 := ⟨_, rfl⟩
      rw [← hq, ← hr] at hE
      have l1 := digN_19 (show q < 9223372036854775808 by omega)
      have l2 := digN_19 (show r < 9223372036854775808 by omega)
      have I1 := ih q (by omega) (by omega)
      have I2 := ih r (by omega) (by omega)
      rw [← bsOf_size] at l1 l2
      generalize bsOf (digN q) = B1 at hE l1 I1
      generalize bsOf (digN r) = B2 at hE l2 I2
      have hz : ¬ 9223372036854775807 < B1.size + B2.size := by omega
      have I1 := Lib.hid I1
      have I2 := Lib.hid I2
      have HE := Lib.hid hE
      have e1 : (n : Int) / 10 = (q : Int) := by omega
      have e2 : (n : Int) % 10 = (r : Int) := by omega
      clear hE ih hq hr h10 l1 l2
      go_enter Try.func33, Try.ntmps33
      go_wp2_with (go_at_call 33; first
        | ((with_reducible refine (I1.out w).mono ?_); rintro e W1 ⟨rfl, b1⟩)
        | ((with_reducible refine (I2.out W1).mono ?_); rintro e W2 ⟨rfl, b2⟩))
      go_ret
      exact ⟨ret_str HE.out.symm, bel_next b1 b2⟩
end Go.Proofs.Ytkmfcaaionmfoaa.Rp
