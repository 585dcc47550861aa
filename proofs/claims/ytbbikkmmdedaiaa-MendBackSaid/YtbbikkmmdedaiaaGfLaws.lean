/- Law 01 on bytes as numbers: GfReckons, GfPowers, GfField, GfLogs; no condition. -/
import Derived.Test.YtbbikkmmdedaiaaGfLog
set_option maxRecDepth 100000
namespace Go.Proofs.Ytbbikkmmdedaiaa.Gf
open Go.RowKit

theorem below_chain {w w1 w2 : World} (h : Below w.heap.size w w1) (k : Below w1.heap.size w1 w2) : Below w.heap.size w w2 :=
  ⟨k.os.trans h.os, k.tape.trans h.tape, k.output.trans h.output, Nat.le_trans h.size k.size, fun i hi => (k.block i (Nat.lt_of_lt_of_le hi h.size)).trans (h.block i hi)⟩
theorem exp_b {w0 w : World} (hb : Below w0.heap.size w0 w) (n : Int) (E : Nat) (h : expp n = E) :
    Calls Try.prog 38 #[.int .i64 n] w fun e w' => e = .returned (.int .u8 E) ∧ Below w0.heap.size w0 w' := by
  rw [← h]
  exact (exp_any n w).mono fun e w' ⟨h1, h2⟩ => ⟨h1, below_chain hb h2⟩
theorem log_b {w0 w : World} (hb : Below w0.heap.size w0 w) (a E : Nat) (x : Int) (ha : a < 256) (h : log a = E) (hx : nought a = x) :
    Calls Try.prog 36 #[.int .u8 a] w fun e w' => e = .returned (.tuple #[.int .i64 E, .int .i64 x]) ∧ Below w0.heap.size w0 w' := by
  rw [← h, ← hx]
  exact (log_any a w ha).mono fun e w' ⟨h1, h2⟩ => ⟨h1, below_chain hb h2⟩
theorem inv_at (a E : Nat) (x : Int) (ha : a < 256) (h : inv a = E) (hx : nought a = x) (w : World) :
    Calls Try.prog 28 #[.int .u8 a] w fun e w' => e = .returned (.tuple #[.int .u8 E, .int .i64 x]) ∧ w = w' := by
  rw [← h, ← hx]
  exact inv_any a w ha
theorem mul_at (a b E : Nat) (ha : a < 256) (hb : b < 256) (h : mul a b = E) (w : World) :
    Calls Try.prog 33 #[.int .u8 a, .int .u8 b] w fun e w' => e = .returned (.int .u8 E) ∧ w = w' := by
  rw [← h]
  exact mul_any a b w ha hb
theorem add_at (a b E : Nat) (ha : a < 256) (hb : b < 256) (h : a ^^^ b = E) (w : World) :
    Calls Try.prog 32 #[.int .u8 a, .int .u8 b] w fun e w' => e = .returned (.int .u8 E) ∧ w = w' := by
  rw [← h]
  exact add_any a b w ha hb
theorem div_at (a b E : Nat) (x : Int) (ha : a < 256) (hb : b < 256) (h : divv a b = E) (hx : nought b = x) (w : World) :
    Calls Try.prog 30 #[.int .u8 a, .int .u8 b] w fun e w' => e = .returned (.tuple #[.int .u8 E, .int .i64 x]) ∧ w = w' := by
  rw [← h, ← hx]
  exact div_any a b w ha hb

theorem awake_any (w : World) : Calls Try.prog 35 #[] w fun e w' => e = .returned (.bool true) ∧ Below w.heap.size w w' := by
  have i0 := Lib.hid (show ∀ w, Calls Try.prog 28 #[.int .u8 0] w fun e w' => e = .returned (.tuple #[.int .u8 0, .int .i64 1]) ∧ w = w' from inv_at 0 0 1 (by omega) (by decide +kernel) (by decide +kernel))
  have i2 := Lib.hid (show ∀ w, Calls Try.prog 28 #[.int .u8 2] w fun e w' => e = .returned (.tuple #[.int .u8 142, .int .i64 0]) ∧ w = w' from inv_at 2 142 0 (by omega) (by decide +kernel) (by decide +kernel))
  have d5 := Lib.hid (show ∀ w, Calls Try.prog 30 #[.int .u8 5, .int .u8 0] w fun e w' => e = .returned (.tuple #[.int .u8 0, .int .i64 1]) ∧ w = w' from div_at 5 0 0 1 (by omega) (by omega) (by decide +kernel) (by decide +kernel))
  have l2 := Lib.hid (show ∀ w1, Below w.heap.size w w1 → Calls Try.prog 36 #[.int .u8 2] w1 fun e w' => e = .returned (.tuple #[.int .i64 1, .int .i64 0]) ∧ Below w.heap.size w w' from fun w1 hb => log_b hb 2 1 0 (by omega) (by decide +kernel) (by decide +kernel))
  have l0 := Lib.hid (show ∀ w1, Below w.heap.size w w1 → Calls Try.prog 36 #[.int .u8 0] w1 fun e w' => e = .returned (.tuple #[.int .i64 0, .int .i64 1]) ∧ Below w.heap.size w w' from fun w1 hb => log_b hb 0 0 1 (by omega) (by decide +kernel) (by decide +kernel))
  have m1 := Lib.hid (show ∀ w, Calls Try.prog 33 #[.int .u8 128, .int .u8 2] w fun e w' => e = .returned (.int .u8 29) ∧ w = w' from mul_at 128 2 29 (by omega) (by omega) (by decide +kernel))
  have a5 := Lib.hid (show ∀ w, Calls Try.prog 32 #[.int .u8 5, .int .u8 3] w fun e w' => e = .returned (.int .u8 6) ∧ w = w' from add_at 5 3 6 (by omega) (by omega) (by decide +kernel))
  have e0 := Lib.hid (show ∀ w1, Below w.heap.size w w1 → Calls Try.prog 38 #[.int .i64 0] w1 fun e w' => e = .returned (.int .u8 1) ∧ Below w.heap.size w w' from fun w1 hb => exp_b hb 0 1 (by decide +kernel))
  have e255 := Lib.hid (show ∀ w1, Below w.heap.size w w1 → Calls Try.prog 38 #[.int .i64 255] w1 fun e w' => e = .returned (.int .u8 1) ∧ Below w.heap.size w w' from fun w1 hb => exp_b hb 255 1 (by decide +kernel))
  have en := Lib.hid (show ∀ w1, Below w.heap.size w w1 → Calls Try.prog 38 #[.int .i64 (-1)] w1 fun e w' => e = .returned (.int .u8 142) ∧ Below w.heap.size w w' from fun w1 hb => exp_b hb (-1) 142 (by decide +kernel))
  have hb := Below.refl w.heap.size w
  go_enter Try.func35, Try.ntmps35
  go_wp2_with (first
    | (go_at_call 28; first | (with_reducible refine (i0.out _).mono ?_; rintro e w' ⟨rfl, rfl⟩) | (with_reducible refine (i2.out _).mono ?_; rintro e w' ⟨rfl, rfl⟩))
    | (go_at_call 30; with_reducible refine (d5.out _).mono ?_; rintro e w' ⟨rfl, rfl⟩)
    | (go_at_call 36; first | (with_reducible refine (l2.out _ (by assumption)).mono ?_; rintro e w' ⟨rfl, hb⟩) | (with_reducible refine (l0.out _ (by assumption)).mono ?_; rintro e w' ⟨rfl, hb⟩))
    | (go_at_call 33; with_reducible refine (m1.out _).mono ?_; rintro e w' ⟨rfl, rfl⟩)
    | (go_at_call 32; with_reducible refine (a5.out _).mono ?_; rintro e w' ⟨rfl, rfl⟩)
    | (go_at_call 38; first | (with_reducible refine (e0.out _ (by assumption)).mono ?_; rintro e w' ⟨rfl, hb⟩) | (with_reducible refine (e255.out _ (by assumption)).mono ?_; rintro e w' ⟨rfl, hb⟩) | (with_reducible refine (en.out _ (by assumption)).mono ?_; rintro e w' ⟨rfl, hb⟩)))
  go_ret
  exact ⟨rfl, hb⟩

theorem nat_of_u8 {a : Int} (h : (Lit.int .u8 a).wf = true) : ∃ n : Nat, a = n ∧ n < 256 := by
  have : 0 ≤ a ∧ a ≤ 255 := by simpa [Lit.wf, IntKind.min, IntKind.max, IntKind.bits, IntKind.signed] using h
  exact ⟨a.toNat, by omega, by omega⟩
theorem awake_b {w0 w : World} (hb : Below w0.heap.size w0 w) : Calls Try.prog 35 #[] w fun e w' => e = .returned (.bool true) ∧ Below w0.heap.size w0 w' :=
  (awake_any w).mono fun _ _ ⟨h1, h2⟩ => ⟨h1, below_chain hb h2⟩

theorem gfReckons_walk (a0 a1 : Int) (w0 : (Lit.int .u8 a0).wf = true) (w1 : (Lit.int .u8 a1).wf = true) (w : World) :
    Calls Try.prog 5 #[.int .u8 a0, .int .u8 a1] w fun e w' => e = .returned (.bool true) ∧ Below w.heap.size w w' := by
  obtain ⟨a, rfl, ha⟩ := nat_of_u8 w0
  obtain ⟨b, rfl, hb⟩ := nat_of_u8 w1
  clear w0 w1
  obtain ⟨I, hI⟩ : ∃ I, I = inv a := ⟨_, rfl⟩
  obtain ⟨X, hX⟩ : ∃ X, X = nought a := ⟨_, rfl⟩
  obtain ⟨D, hD⟩ : ∃ D, D = divv a b := ⟨_, rfl⟩
  obtain ⟨N, hN⟩ : ∃ N, N = nought b := ⟨_, rfl⟩
  obtain ⟨M, hM⟩ : ∃ M, M = mul a b := ⟨_, rfl⟩
  have c28 := Lib.hid (show ∀ w, Calls Try.prog 28 #[.int .u8 a] w fun e w' => e = .returned (.tuple #[.int .u8 I, .int .i64 X]) ∧ w = w' by intro w; rw [hI, hX]; exact inv_any a w ha)
  have c29 := Lib.hid (show ∀ w, Calls Try.prog 29 #[.int .u8 a] w fun e w' => e = .returned (.tuple #[.int .u8 I, .int .i64 X]) ∧ w = w' by intro w; rw [hI, hX]; exact ref_inv_any a w ha)
  have c30 := Lib.hid (show ∀ w, Calls Try.prog 30 #[.int .u8 a, .int .u8 b] w fun e w' => e = .returned (.tuple #[.int .u8 D, .int .i64 N]) ∧ w = w' by intro w; rw [hD, hN]; exact div_any a b w ha hb)
  have c31 := Lib.hid (show ∀ w, Calls Try.prog 31 #[.int .u8 a, .int .u8 b] w fun e w' => e = .returned (.tuple #[.int .u8 D, .int .i64 N]) ∧ w = w' by intro w; rw [hD, hN]; exact ref_div_any a b w ha hb)
  have c32 := Lib.hid (show ∀ w, Calls Try.prog 32 #[.int .u8 a, .int .u8 b] w fun e w' => e = .returned (.int .u8 (bits .xor .u8 (a : Int) (b : Int))) ∧ w = w' by intro w; rw [u8_xor_nat a b ha hb]; exact add_any a b w ha hb)
  have c33 := Lib.hid (show ∀ w, Calls Try.prog 33 #[.int .u8 a, .int .u8 b] w fun e w' => e = .returned (.int .u8 M) ∧ w = w' by intro w; rw [hM]; exact mul_any a b w ha hb)
  have c34 := Lib.hid (show ∀ w, Calls Try.prog 34 #[.int .u8 a, .int .u8 b] w fun e w' => e = .returned (.int .u8 M) ∧ w = w' by intro w; rw [hM]; exact ref_mul_any a b w ha hb)
  clear hI hX hD hN hM
  have hb := Below.refl w.heap.size w
  go_enter Try.func5, Try.ntmps5
  go_wp2_with (first
    | (go_at_call 28; refine (c28.out _).mono ?_; rintro e w' ⟨rfl, rfl⟩)
    | (go_at_call 29; refine (c29.out _).mono ?_; rintro e w' ⟨rfl, rfl⟩)
    | (go_at_call 30; refine (c30.out _).mono ?_; rintro e w' ⟨rfl, rfl⟩)
    | (go_at_call 31; refine (c31.out _).mono ?_; rintro e w' ⟨rfl, rfl⟩)
    | (go_at_call 32; refine (c32.out _).mono ?_; rintro e w' ⟨rfl, rfl⟩)
    | (go_at_call 33; refine (c33.out _).mono ?_; rintro e w' ⟨rfl, rfl⟩)
    | (go_at_call 34; refine (c34.out _).mono ?_; rintro e w' ⟨rfl, rfl⟩)
    | (go_at_call 35; refine (awake_b (w0 := w) (by assumption)).mono ?_; rintro e w' ⟨rfl, hb⟩))
  go_ret
  exact ⟨rfl, by assumption⟩

theorem gfPowers_walk (a0 a1 : Int) (_ : (Lit.int .i64 a0).wf = true) (w1 : (Lit.int .u8 a1).wf = true) (w : World) :
    Calls Try.prog 6 #[.int .i64 a0, .int .u8 a1] w fun e w' => e = .returned (.bool true) ∧ Below w.heap.size w w' := by
  obtain ⟨a, rfl, ha⟩ := nat_of_u8 w1
  clear w1
  obtain ⟨L, hL⟩ : ∃ L, L = log a := ⟨_, rfl⟩
  obtain ⟨X, hX⟩ : ∃ X, X = nought a := ⟨_, rfl⟩
  obtain ⟨E, hE⟩ : ∃ E, E = expp a0 := ⟨_, rfl⟩
  have c36 := Lib.hid (show ∀ w1, Below w.heap.size w w1 → Calls Try.prog 36 #[.int .u8 a] w1 fun e w' => e = .returned (.tuple #[.int .i64 L, .int .i64 X]) ∧ Below w.heap.size w w' from fun w1 hb => log_b hb a L X ha hL.symm hX.symm)
  have c37 := Lib.hid (show ∀ w, Calls Try.prog 37 #[.int .u8 a] w fun e w' => e = .returned (.tuple #[.int .i64 L, .int .i64 X]) ∧ w = w' by intro w; rw [hL, hX]; exact ref_log_any a w ha)
  have c38 := Lib.hid (show ∀ w1, Below w.heap.size w w1 → Calls Try.prog 38 #[.int .i64 a0] w1 fun e w' => e = .returned (.int .u8 E) ∧ Below w.heap.size w w' from fun w1 hb => exp_b hb a0 E hE.symm)
  have c39 := Lib.hid (show ∀ w, Calls Try.prog 39 #[.int .i64 a0] w fun e w' => e = .returned (.int .u8 E) ∧ w = w' by intro w; rw [hE]; exact ref_exp_any a0 w)
  clear hL hX hE
  have hb := Below.refl w.heap.size w
  go_enter Try.func6, Try.ntmps6
  go_wp2_with (first
    | (go_at_call 36; refine (c36.out _ (by assumption)).mono ?_; rintro e w' ⟨rfl, hb⟩)
    | (go_at_call 37; refine (c37.out _).mono ?_; rintro e w' ⟨rfl, rfl⟩)
    | (go_at_call 38; refine (c38.out _ (by assumption)).mono ?_; rintro e w' ⟨rfl, hb⟩)
    | (go_at_call 39; refine (c39.out _).mono ?_; rintro e w' ⟨rfl, rfl⟩)
    | (go_at_call 35; refine (awake_b (w0 := w) (by assumption)).mono ?_; rintro e w' ⟨rfl, hb⟩))
  go_ret
  exact ⟨rfl, by assumption⟩

theorem gfField_walk (a0 a1 a2 : Int) (w0 : (Lit.int .u8 a0).wf = true) (w1 : (Lit.int .u8 a1).wf = true) (w2 : (Lit.int .u8 a2).wf = true) (w : World) :
    Calls Try.prog 7 #[.int .u8 a0, .int .u8 a1, .int .u8 a2] w fun e w' => e = .returned (.bool true) ∧ Below w.heap.size w w' := by
  obtain ⟨a, rfl, ha⟩ := nat_of_u8 w0
  obtain ⟨b, rfl, hb⟩ := nat_of_u8 w1
  obtain ⟨c, rfl, hc⟩ := nat_of_u8 w2
  clear w0 w1 w2
  obtain ⟨I, hI⟩ : ∃ I, I = inv a := ⟨_, rfl⟩
  obtain ⟨M, hM⟩ : ∃ M, M = mul a b := ⟨_, rfl⟩
  obtain ⟨N, hN⟩ : ∃ N, N = mul a c := ⟨_, rfl⟩
  obtain ⟨Y, hY⟩ : ∃ Y, Y = mul b c := ⟨_, rfl⟩
  obtain ⟨S, hS⟩ : ∃ S, S = b ^^^ c := ⟨_, rfl⟩
  obtain ⟨Z, hZ⟩ : ∃ Z, Z = mul a Y := ⟨_, rfl⟩
  obtain ⟨T, hT⟩ : ∃ T, T = M ^^^ N := ⟨_, rfl⟩
  have hMl : M < 256 := by rw [hM]; exact mul_lt a b ha
  have hNl : N < 256 := by rw [hN]; exact mul_lt a c ha
  have hYl : Y < 256 := by rw [hY]; exact mul_lt b c hb
  have hSl : S < 256 := by rw [hS]; exact xlt hb hc
  have cab := Lib.hid (show ∀ w, Calls Try.prog 33 #[.int .u8 a, .int .u8 b] w fun e w' => e = .returned (.int .u8 M) ∧ w = w' from mul_at a b M ha hb hM.symm)
  have cba := Lib.hid (show ∀ w, Calls Try.prog 33 #[.int .u8 b, .int .u8 a] w fun e w' => e = .returned (.int .u8 M) ∧ w = w' from mul_at b a M hb ha (by rw [hM, mul_comm b a hb ha]))
  have cac := Lib.hid (show ∀ w, Calls Try.prog 33 #[.int .u8 a, .int .u8 c] w fun e w' => e = .returned (.int .u8 N) ∧ w = w' from mul_at a c N ha hc hN.symm)
  have cbc := Lib.hid (show ∀ w, Calls Try.prog 33 #[.int .u8 b, .int .u8 c] w fun e w' => e = .returned (.int .u8 Y) ∧ w = w' from mul_at b c Y hb hc hY.symm)
  have cMc := Lib.hid (show ∀ w, Calls Try.prog 33 #[.int .u8 M, .int .u8 c] w fun e w' => e = .returned (.int .u8 Z) ∧ w = w' from mul_at M c Z hMl hc (by rw [hZ, hM, hY, mul_assoc a b c ha hb]))
  have caY := Lib.hid (show ∀ w, Calls Try.prog 33 #[.int .u8 a, .int .u8 Y] w fun e w' => e = .returned (.int .u8 Z) ∧ w = w' from mul_at a Y Z ha hYl hZ.symm)
  have sbc := Lib.hid (show ∀ w, Calls Try.prog 32 #[.int .u8 b, .int .u8 c] w fun e w' => e = .returned (.int .u8 S) ∧ w = w' from add_at b c S hb hc hS.symm)
  have caS := Lib.hid (show ∀ w, Calls Try.prog 33 #[.int .u8 a, .int .u8 S] w fun e w' => e = .returned (.int .u8 T) ∧ w = w' from mul_at a S T ha hSl (by rw [hT, hS, hM, hN, mul_xor_right]))
  have sMN := Lib.hid (show ∀ w, Calls Try.prog 32 #[.int .u8 M, .int .u8 N] w fun e w' => e = .returned (.int .u8 T) ∧ w = w' from add_at M N T hMl hNl hT.symm)
  have ca1 := Lib.hid (show ∀ w, Calls Try.prog 33 #[.int .u8 a, .int .u8 1] w fun e w' => e = .returned (.int .u8 a) ∧ w = w' from mul_at a 1 a ha (by omega) (mul_one a ha))
  have ca0 := Lib.hid (show ∀ w, Calls Try.prog 33 #[.int .u8 a, .int .u8 0] w fun e w' => e = .returned (.int .u8 0) ∧ w = w' from mul_at a 0 0 ha (by omega) (mul_zero a ha))
  have HIl := inv_lt a ha
  rw [← hI] at HIl
  clear hM hN hY hS hZ hT hMl hNl hYl hSl hb hc
  have hb := Below.refl w.heap.size w
  by_cases h0 : a = 0
  · have c28 := Lib.hid (show ∀ w, Calls Try.prog 28 #[.int .u8 a] w fun e w' => e = .returned (.tuple #[.int .u8 I, .int .i64 1]) ∧ w = w' from inv_at a I 1 ha hI.symm (by rw [h0]; rfl))
    have hn : (((a : Nat) : Int) == 0) = true := by simp [h0]
    have hm : (((a : Nat) : Int) != 0) = false := by simp [h0]
    clear hI HIl ha h0
    go_enter Try.func7, Try.ntmps7
    go_wp2_with (first
      | (go_at_call 28; refine (c28.out _).mono ?_; rintro e w' ⟨rfl, rfl⟩)
      | (go_at_call 32; first | (with_reducible refine (sbc.out _).mono ?_; rintro e w' ⟨rfl, rfl⟩) | (with_reducible refine (sMN.out _).mono ?_; rintro e w' ⟨rfl, rfl⟩))
      | (go_at_call 33; first | (with_reducible refine (cab.out _).mono ?_; rintro e w' ⟨rfl, rfl⟩) | (with_reducible refine (cba.out _).mono ?_; rintro e w' ⟨rfl, rfl⟩) | (with_reducible refine (cac.out _).mono ?_; rintro e w' ⟨rfl, rfl⟩) | (with_reducible refine (cbc.out _).mono ?_; rintro e w' ⟨rfl, rfl⟩) | (with_reducible refine (cMc.out _).mono ?_; rintro e w' ⟨rfl, rfl⟩) | (with_reducible refine (caY.out _).mono ?_; rintro e w' ⟨rfl, rfl⟩) | (with_reducible refine (caS.out _).mono ?_; rintro e w' ⟨rfl, rfl⟩) | (with_reducible refine (ca1.out _).mono ?_; rintro e w' ⟨rfl, rfl⟩) | (with_reducible refine (ca0.out _).mono ?_; rintro e w' ⟨rfl, rfl⟩))
      | (go_at_call 35; refine (awake_b (w0 := w) (by assumption)).mono ?_; rintro e w' ⟨rfl, hb⟩))
    go_ret
    exact ⟨rfl, by assumption⟩
  · have c28 := Lib.hid (show ∀ w, Calls Try.prog 28 #[.int .u8 a] w fun e w' => e = .returned (.tuple #[.int .u8 I, .int .i64 0]) ∧ w = w' from inv_at a I 0 ha hI.symm (nought_pos h0))
    have caI := Lib.hid (show ∀ w, Calls Try.prog 33 #[.int .u8 a, .int .u8 I] w fun e w' => e = .returned (.int .u8 1) ∧ w = w' from mul_at a I 1 ha HIl (by rw [hI]; exact mul_inv a ha h0))
    have hn : (((a : Nat) : Int) == 0) = false := by simp; omega
    have hm : (((a : Nat) : Int) != 0) = true := by simp; omega
    clear hI HIl ha h0
    go_enter Try.func7, Try.ntmps7
    go_wp2_with (first
      | (go_at_call 28; refine (c28.out _).mono ?_; rintro e w' ⟨rfl, rfl⟩)
      | (go_at_call 32; first | (with_reducible refine (sbc.out _).mono ?_; rintro e w' ⟨rfl, rfl⟩) | (with_reducible refine (sMN.out _).mono ?_; rintro e w' ⟨rfl, rfl⟩))
      | (go_at_call 33; first | (with_reducible refine (cab.out _).mono ?_; rintro e w' ⟨rfl, rfl⟩) | (with_reducible refine (cba.out _).mono ?_; rintro e w' ⟨rfl, rfl⟩) | (with_reducible refine (cac.out _).mono ?_; rintro e w' ⟨rfl, rfl⟩) | (with_reducible refine (cbc.out _).mono ?_; rintro e w' ⟨rfl, rfl⟩) | (with_reducible refine (cMc.out _).mono ?_; rintro e w' ⟨rfl, rfl⟩) | (with_reducible refine (caY.out _).mono ?_; rintro e w' ⟨rfl, rfl⟩) | (with_reducible refine (caS.out _).mono ?_; rintro e w' ⟨rfl, rfl⟩) | (with_reducible refine (ca1.out _).mono ?_; rintro e w' ⟨rfl, rfl⟩) | (with_reducible refine (ca0.out _).mono ?_; rintro e w' ⟨rfl, rfl⟩) | (with_reducible refine (caI.out _).mono ?_; rintro e w' ⟨rfl, rfl⟩))
      | (go_at_call 35; refine (awake_b (w0 := w) (by assumption)).mono ?_; rintro e w' ⟨rfl, hb⟩))
    go_ret
    exact ⟨rfl, by assumption⟩

theorem gfLogs_walk (a0 a1 : Int) (w0 : (Lit.int .u8 a0).wf = true) (w1 : (Lit.int .u8 a1).wf = true) (w : World) :
    Calls Try.prog 8 #[.int .u8 a0, .int .u8 a1] w fun e w' => e = .returned (.bool true) ∧ Below w.heap.size w w' := by
  obtain ⟨a, rfl, ha⟩ := nat_of_u8 w0
  obtain ⟨b, rfl, hb⟩ := nat_of_u8 w1
  clear w0 w1
  have hbl := Below.refl w.heap.size w
  by_cases h0 : a = 0
  · have m0 := Lib.hid (show ∀ w, Calls Try.prog 33 #[.int .u8 a, .int .u8 b] w fun e w' => e = .returned (.int .u8 0) ∧ w = w' from mul_at a b 0 ha hb (by rw [h0, mul_comm 0 b (by omega) hb, mul_zero b hb]))
    have hn : (((a : Nat) : Int) == 0) = true := by simp [h0]
    clear ha hb h0
    go_enter Try.func8, Try.ntmps8
    go_wp2_with (first
      | (go_at_call 33; refine (m0.out _).mono ?_; rintro e w' ⟨rfl, rfl⟩)
      | (go_at_call 35; refine (awake_b (w0 := w) (by assumption)).mono ?_; rintro e w' ⟨rfl, hb⟩))
    go_ret
    exact ⟨rfl, by assumption⟩
  · have hn : (((a : Nat) : Int) == 0) = false := by simp; omega
    by_cases h1 : b = 0
    · have m0 := Lib.hid (show ∀ w, Calls Try.prog 33 #[.int .u8 a, .int .u8 b] w fun e w' => e = .returned (.int .u8 0) ∧ w = w' from mul_at a b 0 ha hb (by rw [h1, mul_zero a ha]))
      have hn1 : (((b : Nat) : Int) == 0) = true := by simp [h1]
      clear ha hb h0 h1
      go_enter Try.func8, Try.ntmps8
      go_wp2_with (first
        | (go_at_call 33; refine (m0.out _).mono ?_; rintro e w' ⟨rfl, rfl⟩)
        | (go_at_call 35; refine (awake_b (w0 := w) (by assumption)).mono ?_; rintro e w' ⟨rfl, hb⟩))
      go_ret
      exact ⟨rfl, by assumption⟩
    · have hn1 : (((b : Nat) : Int) == 0) = false := by simp; omega
      obtain ⟨L, hL⟩ : ∃ L, L = log a := ⟨_, rfl⟩
      obtain ⟨K, hK⟩ : ∃ K, K = log b := ⟨_, rfl⟩
      obtain ⟨M, hM⟩ : ∃ M, M = mul a b := ⟨_, rfl⟩
      obtain ⟨R, hR⟩ : ∃ R, R = log M := ⟨_, rfl⟩
      have hMl : M < 256 := by rw [hM]; exact mul_lt a b ha
      have hLl : L < 255 := by rw [hL]; exact log_lt a ha
      have hKl : K < 255 := by rw [hK]; exact log_lt b hb
      have hR2 : R = (L + K) % 255 := by rw [hR, hM, hL, hK]; exact log_mul a b ha hb h0 h1
      have ht : ((L : Int) + (K : Int)).tmod 255 = (R : Int) := by
        rw [hR2, Int.tmod_eq_emod_of_nonneg (by omega)]; omega
      have n0 : nought a = 0 := nought_pos h0
      have n1 : nought b = 0 := nought_pos h1
      have n2 : nought M = 0 := nought_pos (by rw [hM]; exact mul_ne a b ha hb h0 h1)
      have e1 : expp (L : Int) = a := by
        have : turn (L : Int) = L := by unfold turn; omega
        rw [expp, this, hL, pow2_log a ha h0]
      have e2 : expp ((L : Int) + (K : Int)) = M := by
        have : turn ((L : Int) + (K : Int)) = (L + K) % 255 := by unfold turn; omega
        rw [expp, this, ← pow2_mod, pow2_add, hL, hK, pow2_log a ha h0, pow2_log b hb h1, hM]
      have ca := Lib.hid (show ∀ w1, Below w.heap.size w w1 → Calls Try.prog 36 #[.int .u8 a] w1 fun e w' => e = .returned (.tuple #[.int .i64 L, .int .i64 0]) ∧ Below w.heap.size w w' from fun w1 hb => log_b hb a L 0 ha hL.symm n0)
      have cb := Lib.hid (show ∀ w1, Below w.heap.size w w1 → Calls Try.prog 36 #[.int .u8 b] w1 fun e w' => e = .returned (.tuple #[.int .i64 K, .int .i64 0]) ∧ Below w.heap.size w w' from fun w1 hbe => log_b hbe b K 0 hb hK.symm n1)
      have cm := Lib.hid (show ∀ w1, Below w.heap.size w w1 → Calls Try.prog 36 #[.int .u8 M] w1 fun e w' => e = .returned (.tuple #[.int .i64 R, .int .i64 0]) ∧ Below w.heap.size w w' from fun w1 hb => log_b hb M R 0 hMl hR.symm n2)
      have mm := Lib.hid (show ∀ w, Calls Try.prog 33 #[.int .u8 a, .int .u8 b] w fun e w' => e = .returned (.int .u8 M) ∧ w = w' from mul_at a b M ha hb hM.symm)
      have x1 := Lib.hid (show ∀ w1, Below w.heap.size w w1 → Calls Try.prog 38 #[.int .i64 L] w1 fun e w' => e = .returned (.int .u8 a) ∧ Below w.heap.size w w' from fun w1 hb => exp_b hb L a e1)
      have x2 := Lib.hid (show ∀ w1, Below w.heap.size w w1 → Calls Try.prog 38 #[.int .i64 ((L : Int) + (K : Int))] w1 fun e w' => e = .returned (.int .u8 M) ∧ Below w.heap.size w w' from fun w1 hb => exp_b hb _ M e2)
      clear h0 h1 hL hK hM hR hMl hR2 n0 n1 n2 e1 e2 ha hb
      go_enter Try.func8, Try.ntmps8
      go_wp2_with (first
        | (go_at_call 33; refine (mm.out _).mono ?_; rintro e w' ⟨rfl, rfl⟩)
        | (go_at_call 36; first | (with_reducible refine (ca.out _ (by assumption)).mono ?_; rintro e w' ⟨rfl, hbl⟩) | (with_reducible refine (cb.out _ (by assumption)).mono ?_; rintro e w' ⟨rfl, hbl⟩) | (with_reducible refine (cm.out _ (by assumption)).mono ?_; rintro e w' ⟨rfl, hbl⟩))
        | (go_at_call 38; first | (with_reducible refine (x1.out _ (by assumption)).mono ?_; rintro e w' ⟨rfl, hbl⟩) | (with_reducible refine (x2.out _ (by assumption)).mono ?_; rintro e w' ⟨rfl, hbl⟩))
        | (go_at_call 35; refine (awake_b (w0 := w) (by assumption)).mono ?_; rintro e w' ⟨rfl, hbl⟩))
      go_ret
      exact ⟨rfl, by assumption⟩
end Go.Proofs.Ytbbikkmmdedaiaa.Gf
