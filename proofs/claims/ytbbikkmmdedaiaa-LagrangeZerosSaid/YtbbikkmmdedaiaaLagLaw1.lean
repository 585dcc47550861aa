/- Law 41, walked: LagrangeThrough, LagrangeMeets, LagrangeZeros; no condition. (The straight runs were printed by our own wip/gen/gen_lag.py.) -/
import Derived.Test.YtbbikkmmdedaiaaLagLaws
set_option maxRecDepth 100000
namespace Go.Proofs.Ytbbikkmmdedaiaa.Pr.Lag
open Go.RowKit Go.Proofs.Ytbbikkmmdedaiaa.Gf Go.Proofs.Ytbbikkmmdedaiaa.Vec Go.Proofs.Ytbbikkmmdedaiaa.Pr

set_option maxHeartbeats 1000000 in
theorem awake_any (w : World) : Calls Try.prog 53 #[] w fun e w' => e = .returned (.bool true) ∧ Below w.heap.size w w' := by
  have hb0 := Below.refl w.heap.size w
  go_enter Try.func53, Try.ntmps53
  go_wp2_with fail
  obtain ⟨t1, u1, z1⟩ := lit_step w (lf [0, 1]) #[.int .u8 0, .int .u8 1] rfl 2 rfl
  obtain ⟨W1, hW1⟩ : ∃ WX : World, WX = w.alloc (.cells #[.int .u8 0, .int .u8 1] 5) := ⟨_, rfl⟩
  rw [← hW1] at t1 u1 z1 ⊢
  obtain ⟨A1, hA1⟩ : ∃ A1 : Option Addr, A1 = some ⟨w.heap.size, 0, none⟩ := ⟨_, rfl⟩
  rw [← hA1] at t1 ⊢
  clear hW1 hA1
  have hb1 := below_chain hb0 u1
  clear u1 hb0
  obtain ⟨t2, u2, z2⟩ := lit_step W1 (lf [5, 4]) #[.int .u8 5, .int .u8 4] rfl 2 rfl
  rw [z1] at t2 z2
  obtain ⟨W2, hW2⟩ : ∃ WX : World, WX = W1.alloc (.cells #[.int .u8 5, .int .u8 4] 5) := ⟨_, rfl⟩
  rw [← hW2] at t2 u2 z2 ⊢
  obtain ⟨A2, hA2⟩ : ∃ A1 : Option Addr, A1 = some ⟨w.heap.size + 1, 0, none⟩ := ⟨_, rfl⟩
  rw [← hA2] at t2 ⊢
  clear hW2 hA2
  replace t1 := t1.on u2
  have hb2 := below_chain hb1 u2
  clear u2 hb1
  clear z1 z2
  refine (through_row _ _ _ _ _ _ _ _ W2 t1 t2 (by omega) (by decide +kernel)).mono ?_
  rintro e W3 ⟨p3, A3, n3, c3, rfl, hp3, t3, u3⟩
  replace t1 := t1.on u3
  replace t2 := t2.on u3
  have hb3 := below_chain hb2 u3
  clear u3 hb2
  obtain rfl := Thr.uniq (by decide +kernel) hp3 (thr_of (l := lf [5, 1]) (by decide +kernel) (by decide +kernel) (by decide +kernel))
  clear hp3
  clear t1 t2
  go_wp2_with fail
  obtain ⟨t4, u4, z4⟩ := lit_step W3 (lf [0, 0]) #[.int .u8 0, .int .u8 0] rfl 2 rfl
  obtain ⟨W4, hW4⟩ : ∃ WX : World, WX = W3.alloc (.cells #[.int .u8 0, .int .u8 0] 5) := ⟨_, rfl⟩
  rw [← hW4] at t4 u4 z4 ⊢
  obtain ⟨A4, hA4⟩ : ∃ A1 : Option Addr, A1 = some ⟨W3.heap.size, 0, none⟩ := ⟨_, rfl⟩
  rw [← hA4] at t4 ⊢
  clear hW4 hA4
  replace t3 := t3.on u4
  have hb4 := below_chain hb3 u4
  clear u4 hb3
  obtain ⟨t5, u5, z5⟩ := lit_step W4 (lf [5, 4]) #[.int .u8 5, .int .u8 4] rfl 2 rfl
  rw [z4] at t5 z5
  obtain ⟨W5, hW5⟩ : ∃ WX : World, WX = W4.alloc (.cells #[.int .u8 5, .int .u8 4] 5) := ⟨_, rfl⟩
  rw [← hW5] at t5 u5 z5 ⊢
  obtain ⟨A5, hA5⟩ : ∃ A1 : Option Addr, A1 = some ⟨W3.heap.size + 1, 0, none⟩ := ⟨_, rfl⟩
  rw [← hA5] at t5 ⊢
  clear hW5 hA5
  replace t3 := t3.on u5
  replace t4 := t4.on u5
  have hb5 := below_chain hb4 u5
  clear u5 hb4
  clear z4 z5
  refine (through_bad _ _ _ _ _ _ _ _ 8 W5 t4 t5 (by omega) (by decide +kernel) (by decide +kernel)).mono ?_
  rintro e W6 ⟨rfl, u6⟩
  replace t3 := t3.on u6
  replace t4 := t4.on u6
  replace t5 := t5.on u6
  have hb6 := below_chain hb5 u6
  clear u6 hb5
  clear t4 t5
  go_wp2_with fail
  obtain ⟨t7, u7, z7⟩ := lit_step W6 (lf [0]) #[.int .u8 0] rfl 1 rfl
  obtain ⟨W7, hW7⟩ : ∃ WX : World, WX = W6.alloc (.cells #[.int .u8 0] 5) := ⟨_, rfl⟩
  rw [← hW7] at t7 u7 z7 ⊢
  obtain ⟨A7, hA7⟩ : ∃ A1 : Option Addr, A1 = some ⟨W6.heap.size, 0, none⟩ := ⟨_, rfl⟩
  rw [← hA7] at t7 ⊢
  clear hW7 hA7
  replace t3 := t3.on u7
  have hb7 := below_chain hb6 u7
  clear u7 hb6
  clear z7
  refine (through_bad _ _ _ _ _ _ _ _ 16 W7 t7 (RowAt.nil W7) (by omega) (by decide +kernel) (by decide +kernel)).mono ?_
  rintro e W8 ⟨rfl, u8⟩
  replace t3 := t3.on u8
  replace t7 := t7.on u8
  have hb8 := below_chain hb7 u8
  clear u8 hb7
  clear t7
  go_wp2_with fail
  obtain ⟨t9, u9, z9⟩ := lit_step W8 (lf [0, 1]) #[.int .u8 0, .int .u8 1] rfl 2 rfl
  obtain ⟨W9, hW9⟩ : ∃ WX : World, WX = W8.alloc (.cells #[.int .u8 0, .int .u8 1] 5) := ⟨_, rfl⟩
  rw [← hW9] at t9 u9 z9 ⊢
  obtain ⟨A9, hA9⟩ : ∃ A1 : Option Addr, A1 = some ⟨W8.heap.size, 0, none⟩ := ⟨_, rfl⟩
  rw [← hA9] at t9 ⊢
  clear hW9 hA9
  replace t3 := t3.on u9
  have hb9 := below_chain hb8 u9
  clear u9 hb8
  obtain ⟨t10, u10, z10⟩ := lit_step W9 (lf [5, 4]) #[.int .u8 5, .int .u8 4] rfl 2 rfl
  rw [z9] at t10 z10
  obtain ⟨W10, hW10⟩ : ∃ WX : World, WX = W9.alloc (.cells #[.int .u8 5, .int .u8 4] 5) := ⟨_, rfl⟩
  rw [← hW10] at t10 u10 z10 ⊢
  obtain ⟨A10, hA10⟩ : ∃ A1 : Option Addr, A1 = some ⟨W8.heap.size + 1, 0, none⟩ := ⟨_, rfl⟩
  rw [← hA10] at t10 ⊢
  clear hW10 hA10
  replace t3 := t3.on u10
  replace t9 := t9.on u10
  have hb10 := below_chain hb9 u10
  clear u10 hb9
  clear z9 z10
  refine (lat_ok t9 t10 (by omega) (by decide +kernel) (thr_of (l := lf [5, 1]) (by decide +kernel) (by decide +kernel) (by decide +kernel)) ⟨2, by omega⟩ 2 7 rfl (by decide +kernel)).mono ?_
  rintro e W11 ⟨rfl, u11⟩
  replace t3 := t3.on u11
  replace t9 := t9.on u11
  replace t10 := t10.on u11
  have hb11 := below_chain hb10 u11
  clear u11 hb10
  clear t9 t10
  go_wp2_with fail
  obtain ⟨t12, u12, z12⟩ := lit_step W11 (lf [5, 1]) #[.int .u8 5, .int .u8 1] rfl 2 rfl
  obtain ⟨W12, hW12⟩ : ∃ WX : World, WX = W11.alloc (.cells #[.int .u8 5, .int .u8 1] 5) := ⟨_, rfl⟩
  rw [← hW12] at t12 u12 z12 ⊢
  obtain ⟨A12, hA12⟩ : ∃ A1 : Option Addr, A1 = some ⟨W11.heap.size, 0, none⟩ := ⟨_, rfl⟩
  rw [← hA12] at t12 ⊢
  clear hW12 hA12
  replace t3 := t3.on u12
  have hb12 := below_chain hb11 u12
  clear u12 hb11
  clear z12
  refine (same_b t3 t12 rfl (by decide +kernel)).mono ?_
  rintro e W13 ⟨rfl, u13⟩
  replace t3 := t3.on u13
  replace t12 := t12.on u13
  have hb13 := below_chain hb12 u13
  clear u13 hb12
  clear t12 t3
  go_wp2_with fail
  obtain ⟨t14, u14, z14⟩ := lit_step W13 (lf [1, 2]) #[.int .u8 1, .int .u8 2] rfl 2 rfl
  obtain ⟨W14, hW14⟩ : ∃ WX : World, WX = W13.alloc (.cells #[.int .u8 1, .int .u8 2] 5) := ⟨_, rfl⟩
  rw [← hW14] at t14 u14 z14 ⊢
  obtain ⟨A14, hA14⟩ : ∃ A1 : Option Addr, A1 = some ⟨W13.heap.size, 0, none⟩ := ⟨_, rfl⟩
  rw [← hA14] at t14 ⊢
  clear hW14 hA14
  have hb14 := below_chain hb13 u14
  clear u14 hb13
  clear z14
  refine (zeros_row _ _ _ _ W14 t14 (by omega)).mono ?_
  rintro e W15 ⟨A15, n15, c15, rfl, t15, u15⟩
  replace t14 := t14.on u15
  have hb15 := below_chain hb14 u15
  clear u15 hb14
  clear t14
  go_wp2_with fail
  obtain ⟨t16, u16, z16⟩ := lit_step W15 (lf [2, 3, 1]) #[.int .u8 2, .int .u8 3, .int .u8 1] rfl 3 rfl
  obtain ⟨W16, hW16⟩ : ∃ WX : World, WX = W15.alloc (.cells #[.int .u8 2, .int .u8 3, .int .u8 1] 5) := ⟨_, rfl⟩
  rw [← hW16] at t16 u16 z16 ⊢
  obtain ⟨A16, hA16⟩ : ∃ A1 : Option Addr, A1 = some ⟨W15.heap.size, 0, none⟩ := ⟨_, rfl⟩
  rw [← hA16] at t16 ⊢
  clear hW16 hA16
  replace t15 := t15.on u16
  have hb16 := below_chain hb15 u16
  clear u16 hb15
  clear z16
  refine (same_b t15 t16 (by decide +kernel) (by decide +kernel)).mono ?_
  rintro e W17 ⟨rfl, u17⟩
  replace t15 := t15.on u17
  replace t16 := t16.on u17
  have hb17 := below_chain hb16 u17
  clear u17 hb16
  go_wp2_with fail
  go_ret
  exact ⟨rfl, hb17⟩
theorem awake_b {w0 w : World} (hb : Below w0.heap.size w0 w) : Calls Try.prog 53 #[] w fun e w' => e = .returned (.bool true) ∧ Below w0.heap.size w0 w' :=
  (awake_any w).mono fun _ _ ⟨h1, h2⟩ => ⟨h1, below_chain hb h2⟩

set_option maxHeartbeats 1000000 in
theorem through_yes (A : Option Addr) (n c : Nat) (A2 : Option Addr) (n2 c2 : Nat) (z0 : Nat) (a b : List F) (z : F) (w : World) (hz : z0 = z.1) (ra : RowAt w A n c a) (rb : RowAt w A2 n2 c2 b) (hn : n ≤ 14) (hn2 : n2 ≤ 14) (hc : chk a b = 0) :
    Calls Try.prog 12 #[.slice A n c, .slice A2 n2 c2, .int .u8 z0] w fun e w' => e = .returned (.bool true) ∧ Below w.heap.size w w' := by
  have d1 : decide (14 < (n : Int)) = false := by simp; omega
  have d2 : decide (14 < (n2 : Int)) = false := by simp; omega
  have HZ := Lib.hid hz
  have HC := Lib.hid hc
  clear hz hc
  have hb0 := Below.refl w.heap.size w
  go_enter Try.func12, Try.ntmps12
  go_wp2_with fail
  refine (through_row _ _ _ _ _ _ _ _ w ra rb (by omega) HC.out).mono ?_
  rintro e W1 ⟨p1, A1, n1, c1, rfl, hp1, t1, u1⟩
  replace ra := ra.on u1
  replace rb := rb.on u1
  have hb1 := below_chain hb0 u1
  clear u1 hb0
  go_wp2_with fail
  refine (ref_through_row _ _ _ _ _ _ _ _ W1 ra rb (by omega) HC.out).mono ?_
  rintro e W2 ⟨p2, A2, n2, c2, rfl, hp2, t2, u2⟩
  replace ra := ra.on u2
  replace rb := rb.on u2
  replace t1 := t1.on u2
  have hb2 := below_chain hb1 u2
  clear u2 hb1
  obtain rfl := Thr.uniq (chk_zero HC.out).2 hp1 hp2
  have HP := Lib.hid hp1
  clear hp1 hp2
  obtain ⟨v, hv⟩ : ∃ v, v = (pe p1 z).1 := ⟨_, rfl⟩
  have HV := Lib.hid hv
  clear hv
  go_wp2_with fail
  refine (lat_ok ra rb (by omega) HC.out HP.out z z0 v HZ.out HV.out).mono ?_
  rintro e W3 ⟨rfl, u3⟩
  replace ra := ra.on u3
  replace rb := rb.on u3
  replace t1 := t1.on u3
  replace t2 := t2.on u3
  have hb3 := below_chain hb2 u3
  clear u3 hb2
  go_wp2_with fail
  refine (ref_lat_ok ra rb (by omega) HC.out HP.out z z0 v HZ.out HV.out).mono ?_
  rintro e W4 ⟨rfl, u4⟩
  replace ra := ra.on u4
  replace rb := rb.on u4
  replace t1 := t1.on u4
  replace t2 := t2.on u4
  have hb4 := below_chain hb3 u4
  clear u4 hb3
  go_wp2_with fail
  refine (same_b t1 t2 rfl (by have h1 := HP.out.2.1; have h2 := ra.1; omega)).mono ?_
  rintro e W5 ⟨rfl, u5⟩
  replace ra := ra.on u5
  replace rb := rb.on u5
  replace t1 := t1.on u5
  replace t2 := t2.on u5
  have hb5 := below_chain hb4 u5
  clear u5 hb4
  clear t1 t2
  go_wp2_with fail
  refine (zeros_row _ _ _ _ W5 ra (by omega)).mono ?_
  rintro e W6 ⟨A6, n6, c6, rfl, t6, u6⟩
  replace ra := ra.on u6
  replace rb := rb.on u6
  have hb6 := below_chain hb5 u6
  clear u6 hb5
  go_wp2_with fail
  refine (ref_zeros_row _ _ _ _ W6 ra (by omega)).mono ?_
  rintro e W7 ⟨A7, n7, c7, rfl, t7, u7⟩
  replace ra := ra.on u7
  replace rb := rb.on u7
  replace t6 := t6.on u7
  have hb7 := below_chain hb6 u7
  clear u7 hb6
  go_wp2_with fail
  refine (same_b t6 t7 rfl (by have h1 := zs_len a; have h2 := ra.1; omega)).mono ?_
  rintro e W8 ⟨rfl, u8⟩
  replace ra := ra.on u8
  replace rb := rb.on u8
  replace t6 := t6.on u8
  replace t7 := t7.on u8
  have hb8 := below_chain hb7 u8
  clear u8 hb7
  clear t6 t7
  go_wp2_with fail
  refine (awake_b hb8).mono ?_
  rintro e w' ⟨rfl, hbe⟩
  go_wp2_with fail
  go_ret
  exact ⟨rfl, hbe⟩
set_option maxHeartbeats 1000000 in
theorem through_no (A : Option Addr) (n c : Nat) (A2 : Option Addr) (n2 c2 : Nat) (z0 : Nat) (a b : List F) (z : F) (E : Int) (w : World) (hz : z0 = z.1) (ra : RowAt w A n c a) (rb : RowAt w A2 n2 c2 b) (hn : n ≤ 14) (hn2 : n2 ≤ 14) (hE : E = chk a b) (hc : chk a b ≠ 0) :
    Calls Try.prog 12 #[.slice A n c, .slice A2 n2 c2, .int .u8 z0] w fun e w' => e = .returned (.bool true) ∧ Below w.heap.size w w' := by
  have d1 : decide (14 < (n : Int)) = false := by simp; omega
  have d2 : decide (14 < (n2 : Int)) = false := by simp; omega
  have HZ := Lib.hid hz
  have HC := Lib.hid hc
  have HE := Lib.hid hE
  have h00 : E ≠ 0 := by rw [hE]; exact hc
  have hE1 : (E == E) = true := by simp
  clear hz hc hE h00
  have hb0 := Below.refl w.heap.size w
  go_enter Try.func12, Try.ntmps12
  go_wp2_with fail
  refine (through_bad _ _ _ _ _ _ _ _ E w ra rb (by omega) HE.out HC.out).mono ?_
  rintro e W1 ⟨rfl, u1⟩
  replace ra := ra.on u1
  replace rb := rb.on u1
  have hb1 := below_chain hb0 u1
  clear u1 hb0
  go_wp2_with fail
  refine (ref_through_bad _ _ _ _ _ _ _ _ E W1 ra rb (by omega) HE.out HC.out).mono ?_
  rintro e W2 ⟨rfl, u2⟩
  replace ra := ra.on u2
  replace rb := rb.on u2
  have hb2 := below_chain hb1 u2
  clear u2 hb1
  go_wp2_with fail
  refine (lat_bad ra rb (by omega) E HE.out HC.out z0).mono ?_
  rintro e W3 ⟨rfl, u3⟩
  replace ra := ra.on u3
  replace rb := rb.on u3
  have hb3 := below_chain hb2 u3
  clear u3 hb2
  go_wp2_with fail
  refine (ref_lat_bad ra rb (by omega) E HE.out HC.out z z0 HZ.out).mono ?_
  rintro e W4 ⟨rfl, u4⟩
  replace ra := ra.on u4
  replace rb := rb.on u4
  have hb4 := below_chain hb3 u4
  clear u4 hb3
  go_wp2_with fail
  refine (same_b (RowAt.nil W4) (RowAt.nil W4) rfl (by decide)).mono ?_
  rintro e W5 ⟨rfl, u5⟩
  replace ra := ra.on u5
  replace rb := rb.on u5
  have hb5 := below_chain hb4 u5
  clear u5 hb4
  go_wp2_with fail
  refine (zeros_row _ _ _ _ W5 ra (by omega)).mono ?_
  rintro e W6 ⟨A6, n6, c6, rfl, t6, u6⟩
  replace ra := ra.on u6
  replace rb := rb.on u6
  have hb6 := below_chain hb5 u6
  clear u6 hb5
  go_wp2_with fail
  refine (ref_zeros_row _ _ _ _ W6 ra (by omega)).mono ?_
  rintro e W7 ⟨A7, n7, c7, rfl, t7, u7⟩
  replace ra := ra.on u7
  replace rb := rb.on u7
  replace t6 := t6.on u7
  have hb7 := below_chain hb6 u7
  clear u7 hb6
  go_wp2_with fail
  refine (same_b t6 t7 rfl (by have h1 := zs_len a; have h2 := ra.1; omega)).mono ?_
  rintro e W8 ⟨rfl, u8⟩
  replace ra := ra.on u8
  replace rb := rb.on u8
  replace t6 := t6.on u8
  replace t7 := t7.on u8
  have hb8 := below_chain hb7 u8
  clear u8 hb7
  clear t6 t7
  go_wp2_with fail
  refine (awake_b hb8).mono ?_
  rintro e w' ⟨rfl, hbe⟩
  go_wp2_with fail
  go_ret
  exact ⟨rfl, hbe⟩

theorem lagrangeThrough_walk (a0 : Option Addr) (len0 cap0 : Nat) (z0 : List Int) (a1 : Option Addr) (len1 cap1 : Nat) (z1 : List Int) (a2 : Int) (w : World) (w0 : IsRow .u8 w a0 len0 cap0 z0) (w1 : IsRow .u8 w a1 len1 cap1 z1) (w2 : (Lit.int .u8 a2).wf = true) :
    Calls Try.prog 12 #[.slice a0 len0 cap0, .slice a1 len1 cap1, .int .u8 a2] w fun e w' => e = .returned (.bool true) ∧ Below w.heap.size w w' := by
  obtain ⟨x0, rfl, hx0⟩ := nat_of_u8 w2
  obtain ⟨a, ra⟩ := row_of w0
  obtain ⟨b, rb⟩ := row_of w1
  clear w0 w1
  by_cases h0 : 14 < len0
  · have d1 : decide (14 < (len0 : Int)) = true := by simp; omega
    clear ra rb
    go_enter Try.func12, Try.ntmps12
    go_wp2_with (go_at_call 53; refine (awake_any _).mono ?_; rintro e w' ⟨rfl, hb⟩)
    go_ret
    exact ⟨rfl, hb⟩
  · have d1 : decide (14 < (len0 : Int)) = false := by simp; omega
    by_cases h1 : 14 < len1
    · have d2 : decide (14 < (len1 : Int)) = true := by simp; omega
      clear ra rb
      go_enter Try.func12, Try.ntmps12
      go_wp2_with (go_at_call 53; refine (awake_any _).mono ?_; rintro e w' ⟨rfl, hb⟩)
      go_ret
      exact ⟨rfl, hb⟩
    · clear d1
      by_cases hc : chk a b = 0
      · exact through_yes a0 len0 cap0 a1 len1 cap1 x0 a b ⟨x0, hx0⟩ w rfl ra rb (by omega) (by omega) hc
      · exact through_no a0 len0 cap0 a1 len1 cap1 x0 a b ⟨x0, hx0⟩ _ w rfl ra rb (by omega) (by omega) rfl hc
end Go.Proofs.Ytbbikkmmdedaiaa.Pr.Lag
