/- Law 40, walked: PolyReckons, PolyDivides, PolyValues; no condition. (The straight runs were printed by our own wip/gen/gen_poly.py.) -/
import Derived.Test.YtbbikkmmdedaiaaPolyLaws
set_option maxRecDepth 100000
namespace Go.Proofs.Ytbbikkmmdedaiaa.Pr
open Go.RowKit Go.Proofs.Ytbbikkmmdedaiaa.Gf Go.Proofs.Ytbbikkmmdedaiaa.Vec

set_option maxHeartbeats 1000000 in
theorem awake_any (w : World) : Calls Try.prog 40 #[] w fun e w' => e = .returned (.bool true) ∧ Below w.heap.size w w' := by
  have hb0 := Below.refl w.heap.size w
  go_enter Try.func40, Try.ntmps40
  go_wp2_with fail
  obtain ⟨t1, u1, z1⟩ := lit_step w (lf [1, 0, 1]) #[.int .u8 1, .int .u8 0, .int .u8 1] rfl 3 rfl
  obtain ⟨W1, hW1⟩ : ∃ WX : World, WX = w.alloc (.cells #[.int .u8 1, .int .u8 0, .int .u8 1] 5) := ⟨_, rfl⟩
  rw [← hW1] at t1 u1 z1 ⊢
  obtain ⟨A1, hA1⟩ : ∃ A1 : Option Addr, A1 = some ⟨w.heap.size, 0, none⟩ := ⟨_, rfl⟩
  rw [← hA1] at t1 ⊢
  clear hW1 hA1
  have hb1 := below_chain hb0 u1
  clear u1 hb0
  obtain ⟨t2, u2, z2⟩ := lit_step W1 (lf [1, 1, 0]) #[.int .u8 1, .int .u8 1, .int .u8 0] rfl 3 rfl
  rw [z1] at t2 z2
  obtain ⟨W2, hW2⟩ : ∃ WX : World, WX = W1.alloc (.cells #[.int .u8 1, .int .u8 1, .int .u8 0] 5) := ⟨_, rfl⟩
  rw [← hW2] at t2 u2 z2 ⊢
  obtain ⟨A2, hA2⟩ : ∃ A1 : Option Addr, A1 = some ⟨w.heap.size + 1, 0, none⟩ := ⟨_, rfl⟩
  rw [← hA2] at t2 ⊢
  clear hW2 hA2
  replace t1 := t1.on u2
  have hb2 := below_chain hb1 u2
  clear u2 hb1
  clear z1 z2
  refine (div_row _ _ _ _ _ _ _ _ W2 t1 t2 (by omega) (by omega) (by decide +kernel)).mono ?_
  rintro e W3 ⟨q3, r3, A3, n3, c3, A3r, n3r, c3r, rfl, hq3, t3, t3r, u3⟩
  replace t1 := t1.on u3
  replace t2 := t2.on u3
  have hb3 := below_chain hb2 u3
  clear u3 hb2
  obtain ⟨e1, e2⟩ := Qr.uniq hq3 (qr_of (q := lf [1, 1]) (r := []) (by decide +kernel) (by decide +kernel) (by decide +kernel) (by decide +kernel))
  subst e1 e2
  clear hq3
  have z0 : ((n3r : Int) == 0) = true := by have := t3r.1; simp at this; simp; omega
  clear t1 t2
  go_wp2_with fail
  obtain ⟨t4, u4, z4⟩ := lit_step W3 (lf [1]) #[.int .u8 1] rfl 1 rfl
  obtain ⟨W4, hW4⟩ : ∃ WX : World, WX = W3.alloc (.cells #[.int .u8 1] 5) := ⟨_, rfl⟩
  rw [← hW4] at t4 u4 z4 ⊢
  obtain ⟨A4, hA4⟩ : ∃ A1 : Option Addr, A1 = some ⟨W3.heap.size, 0, none⟩ := ⟨_, rfl⟩
  rw [← hA4] at t4 ⊢
  clear hW4 hA4
  replace t3 := t3.on u4
  replace t3r := t3r.on u4
  have hb4 := below_chain hb3 u4
  clear u4 hb3
  obtain ⟨t5, u5, z5⟩ := lit_step W4 (lf [0]) #[.int .u8 0] rfl 1 rfl
  rw [z4] at t5 z5
  obtain ⟨W5, hW5⟩ : ∃ WX : World, WX = W4.alloc (.cells #[.int .u8 0] 5) := ⟨_, rfl⟩
  rw [← hW5] at t5 u5 z5 ⊢
  obtain ⟨A5, hA5⟩ : ∃ A1 : Option Addr, A1 = some ⟨W3.heap.size + 1, 0, none⟩ := ⟨_, rfl⟩
  rw [← hA5] at t5 ⊢
  clear hW5 hA5
  replace t3 := t3.on u5
  replace t3r := t3r.on u5
  replace t4 := t4.on u5
  have hb5 := below_chain hb4 u5
  clear u5 hb4
  clear z4 z5
  refine (div_bad _ _ _ _ _ _ _ W5 t5 (by omega) (by decide +kernel)).mono ?_
  rintro e w' ⟨rfl, rfl⟩
  clear t4 t5
  go_wp2_with fail
  obtain ⟨t6, u6, z6⟩ := lit_step W5 (lf [1, 1]) #[.int .u8 1, .int .u8 1] rfl 2 rfl
  obtain ⟨W6, hW6⟩ : ∃ WX : World, WX = W5.alloc (.cells #[.int .u8 1, .int .u8 1] 5) := ⟨_, rfl⟩
  rw [← hW6] at t6 u6 z6 ⊢
  obtain ⟨A6, hA6⟩ : ∃ A1 : Option Addr, A1 = some ⟨W5.heap.size, 0, none⟩ := ⟨_, rfl⟩
  rw [← hA6] at t6 ⊢
  clear hW6 hA6
  replace t3 := t3.on u6
  replace t3r := t3r.on u6
  have hb6 := below_chain hb5 u6
  clear u6 hb5
  obtain ⟨t7, u7, z7⟩ := lit_step W6 (lf [1, 1]) #[.int .u8 1, .int .u8 1] rfl 2 rfl
  rw [z6] at t7 z7
  obtain ⟨W7, hW7⟩ : ∃ WX : World, WX = W6.alloc (.cells #[.int .u8 1, .int .u8 1] 5) := ⟨_, rfl⟩
  rw [← hW7] at t7 u7 z7 ⊢
  obtain ⟨A7, hA7⟩ : ∃ A1 : Option Addr, A1 = some ⟨W5.heap.size + 1, 0, none⟩ := ⟨_, rfl⟩
  rw [← hA7] at t7 ⊢
  clear hW7 hA7
  replace t3 := t3.on u7
  replace t3r := t3r.on u7
  replace t6 := t6.on u7
  have hb7 := below_chain hb6 u7
  clear u7 hb6
  clear z6 z7
  refine (mul_row _ _ _ _ _ _ _ _ W7 t6 t7 (by omega) (by omega)).mono ?_
  rintro e W8 ⟨A8, n8, c8, rfl, t8, u8⟩
  replace t3 := t3.on u8
  replace t3r := t3r.on u8
  replace t6 := t6.on u8
  replace t7 := t7.on u8
  have hb8 := below_chain hb7 u8
  clear u8 hb7
  clear t6 t7
  go_wp2_with fail
  obtain ⟨t9, u9, z9⟩ := lit_step W8 (lf [1, 0, 1]) #[.int .u8 1, .int .u8 0, .int .u8 1] rfl 3 rfl
  obtain ⟨W9, hW9⟩ : ∃ WX : World, WX = W8.alloc (.cells #[.int .u8 1, .int .u8 0, .int .u8 1] 5) := ⟨_, rfl⟩
  rw [← hW9] at t9 u9 z9 ⊢
  obtain ⟨A9, hA9⟩ : ∃ A1 : Option Addr, A1 = some ⟨W8.heap.size, 0, none⟩ := ⟨_, rfl⟩
  rw [← hA9] at t9 ⊢
  clear hW9 hA9
  replace t3 := t3.on u9
  replace t3r := t3r.on u9
  replace t8 := t8.on u9
  have hb9 := below_chain hb8 u9
  clear u9 hb8
  clear z9
  refine (same_b t8 t9 (by decide +kernel) (by decide +kernel)).mono ?_
  rintro e W10 ⟨rfl, u10⟩
  replace t3 := t3.on u10
  replace t3r := t3r.on u10
  replace t8 := t8.on u10
  replace t9 := t9.on u10
  have hb10 := below_chain hb9 u10
  clear u10 hb9
  clear t9 t8
  go_wp2_with fail
  obtain ⟨t11, u11, z11⟩ := lit_step W10 (lf [1, 1]) #[.int .u8 1, .int .u8 1] rfl 2 rfl
  obtain ⟨W11, hW11⟩ : ∃ WX : World, WX = W10.alloc (.cells #[.int .u8 1, .int .u8 1] 5) := ⟨_, rfl⟩
  rw [← hW11] at t11 u11 z11 ⊢
  obtain ⟨A11, hA11⟩ : ∃ A1 : Option Addr, A1 = some ⟨W10.heap.size, 0, none⟩ := ⟨_, rfl⟩
  rw [← hA11] at t11 ⊢
  clear hW11 hA11
  replace t3 := t3.on u11
  replace t3r := t3r.on u11
  have hb11 := below_chain hb10 u11
  clear u11 hb10
  clear z11
  refine (same_b t3 t11 rfl (by decide +kernel)).mono ?_
  rintro e W12 ⟨rfl, u12⟩
  replace t3 := t3.on u12
  replace t3r := t3r.on u12
  replace t11 := t11.on u12
  have hb12 := below_chain hb11 u12
  clear u12 hb11
  clear t11
  go_wp2_with fail
  obtain ⟨t13, u13, z13⟩ := lit_step W12 (lf [5, 4]) #[.int .u8 5, .int .u8 4] rfl 2 rfl
  obtain ⟨W13, hW13⟩ : ∃ WX : World, WX = W12.alloc (.cells #[.int .u8 5, .int .u8 4] 5) := ⟨_, rfl⟩
  rw [← hW13] at t13 u13 z13 ⊢
  obtain ⟨A13, hA13⟩ : ∃ A1 : Option Addr, A1 = some ⟨W12.heap.size, 0, none⟩ := ⟨_, rfl⟩
  rw [← hA13] at t13 ⊢
  clear hW13 hA13
  replace t3 := t3.on u13
  replace t3r := t3r.on u13
  have hb13 := below_chain hb12 u13
  clear u13 hb12
  clear z13
  refine (eval_lit t13 1 1 (by omega) ⟨1, rfl, by decide +kernel⟩).mono ?_
  rintro e W14 ⟨rfl, u14⟩
  replace t3 := t3.on u14
  replace t3r := t3r.on u14
  replace t13 := t13.on u14
  have hb14 := below_chain hb13 u14
  clear u14 hb13
  clear t13
  go_wp2_with fail
  obtain ⟨t15, u15, z15⟩ := lit_step W14 (lf [3]) #[.int .u8 3] rfl 1 rfl
  obtain ⟨W15, hW15⟩ : ∃ WX : World, WX = W14.alloc (.cells #[.int .u8 3] 5) := ⟨_, rfl⟩
  rw [← hW15] at t15 u15 z15 ⊢
  obtain ⟨A15, hA15⟩ : ∃ A1 : Option Addr, A1 = some ⟨W14.heap.size, 0, none⟩ := ⟨_, rfl⟩
  rw [← hA15] at t15 ⊢
  clear hW15 hA15
  replace t3 := t3.on u15
  replace t3r := t3r.on u15
  have hb15 := below_chain hb14 u15
  clear u15 hb14
  obtain ⟨t16, u16, z16⟩ := lit_step W15 (lf [3]) #[.int .u8 3] rfl 1 rfl
  rw [z15] at t16 z16
  obtain ⟨W16, hW16⟩ : ∃ WX : World, WX = W15.alloc (.cells #[.int .u8 3] 5) := ⟨_, rfl⟩
  rw [← hW16] at t16 u16 z16 ⊢
  obtain ⟨A16, hA16⟩ : ∃ A1 : Option Addr, A1 = some ⟨W14.heap.size + 1, 0, none⟩ := ⟨_, rfl⟩
  rw [← hA16] at t16 ⊢
  clear hW16 hA16
  replace t3 := t3.on u16
  replace t3r := t3r.on u16
  replace t15 := t15.on u16
  have hb16 := below_chain hb15 u16
  clear u16 hb15
  clear z15 z16
  refine (add_row _ _ _ _ _ _ _ _ W16 t15 t16 (by omega) (by omega)).mono ?_
  rintro e W17 ⟨A17, n17, c17, rfl, t17, u17⟩
  replace t3 := t3.on u17
  replace t3r := t3r.on u17
  replace t15 := t15.on u17
  replace t16 := t16.on u17
  have hb17 := below_chain hb16 u17
  clear u17 hb16
  have z1 : ((n17 : Int) == 0) = true := by have h := t17.1; rw [show pa (lf [3]) (lf [3]) = [] by decide +kernel] at h; simp at h; simp; omega
  clear t15 t16 t17
  go_wp2_with fail
  obtain ⟨t18, u18, z18⟩ := lit_step W17 (lf [1, 2, 3, 4]) #[.int .u8 1, .int .u8 2, .int .u8 3, .int .u8 4] rfl 4 rfl
  obtain ⟨W18, hW18⟩ : ∃ WX : World, WX = W17.alloc (.cells #[.int .u8 1, .int .u8 2, .int .u8 3, .int .u8 4] 5) := ⟨_, rfl⟩
  rw [← hW18] at t18 u18 z18 ⊢
  obtain ⟨A18, hA18⟩ : ∃ A1 : Option Addr, A1 = some ⟨W17.heap.size, 0, none⟩ := ⟨_, rfl⟩
  rw [← hA18] at t18 ⊢
  clear hW18 hA18
  replace t3 := t3.on u18
  replace t3r := t3r.on u18
  have hb18 := below_chain hb17 u18
  clear u18 hb17
  clear z18
  refine (slope_row _ _ _ _ W18 t18 (by omega)).mono ?_
  rintro e W19 ⟨A19, n19, c19, rfl, t19, u19⟩
  replace t3 := t3.on u19
  replace t3r := t3r.on u19
  replace t18 := t18.on u19
  have hb19 := below_chain hb18 u19
  clear u19 hb18
  clear t18
  go_wp2_with fail
  obtain ⟨t20, u20, z20⟩ := lit_step W19 (lf [2, 0, 4]) #[.int .u8 2, .int .u8 0, .int .u8 4] rfl 3 rfl
  obtain ⟨W20, hW20⟩ : ∃ WX : World, WX = W19.alloc (.cells #[.int .u8 2, .int .u8 0, .int .u8 4] 5) := ⟨_, rfl⟩
  rw [← hW20] at t20 u20 z20 ⊢
  obtain ⟨A20, hA20⟩ : ∃ A1 : Option Addr, A1 = some ⟨W19.heap.size, 0, none⟩ := ⟨_, rfl⟩
  rw [← hA20] at t20 ⊢
  clear hW20 hA20
  replace t3 := t3.on u20
  replace t3r := t3r.on u20
  replace t19 := t19.on u20
  have hb20 := below_chain hb19 u20
  clear u20 hb19
  clear z20
  refine (same_b t19 t20 (by decide +kernel) (by decide +kernel)).mono ?_
  rintro e W21 ⟨rfl, u21⟩
  replace t3 := t3.on u21
  replace t3r := t3r.on u21
  replace t19 := t19.on u21
  replace t20 := t20.on u21
  have hb21 := below_chain hb20 u21
  clear u21 hb20
  clear t20 t19
  go_wp2_with fail
  obtain ⟨t22, u22, z22⟩ := lit_step W21 (lf [0, 0]) #[.int .u8 0, .int .u8 0] rfl 2 rfl
  obtain ⟨W22, hW22⟩ : ∃ WX : World, WX = W21.alloc (.cells #[.int .u8 0, .int .u8 0] 5) := ⟨_, rfl⟩
  rw [← hW22] at t22 u22 z22 ⊢
  obtain ⟨A22, hA22⟩ : ∃ A1 : Option Addr, A1 = some ⟨W21.heap.size, 0, none⟩ := ⟨_, rfl⟩
  rw [← hA22] at t22 ⊢
  clear hW22 hA22
  replace t3 := t3.on u22
  replace t3r := t3r.on u22
  have hb22 := below_chain hb21 u22
  clear u22 hb21
  clear z22
  refine (trim_b t22 (by omega)).mono ?_
  rintro e W23 ⟨A23, n23, c23, rfl, t23, u23⟩
  replace t3 := t3.on u23
  replace t3r := t3r.on u23
  replace t22 := t22.on u23
  have hb23 := below_chain hb22 u23
  clear u23 hb22
  have z2 : ((n23 : Int) == 0) = true := by have h := t23.1; rw [show tr (lf [0, 0]) = [] by decide +kernel] at h; simp at h; simp; omega
  go_wp2_with fail
  go_ret
  exact ⟨rfl, hb23⟩
theorem awake_b {w0 w : World} (hb : Below w0.heap.size w0 w) : Calls Try.prog 40 #[] w fun e w' => e = .returned (.bool true) ∧ Below w0.heap.size w0 w' :=
  (awake_any w).mono fun _ _ ⟨h1, h2⟩ => ⟨h1, below_chain hb h2⟩

set_option maxHeartbeats 1000000 in
theorem reckons_ok (A : Option Addr) (n c : Nat) (A2 : Option Addr) (n2 c2 : Nat) (x0 : Nat) (a b : List F) (x : F) (w : World) (hx : x0 = x.1) (ra : RowAt w A n c a) (rb : RowAt w A2 n2 c2 b) (hn : n ≤ 40) (hn2 : n2 ≤ 40) (hz : tr b ≠ []) :
    Calls Try.prog 9 #[.slice A n c, .slice A2 n2 c2, .int .u8 x0] w fun e w' => e = .returned (.bool true) ∧ Below w.heap.size w w' := by
  have d1 : decide (40 < (n : Int)) = false := by simp; omega
  have d2 : decide (40 < (n2 : Int)) = false := by simp; omega
  obtain ⟨v, hv⟩ : ∃ v, v = (pe a x).1 := ⟨_, rfl⟩
  have HX := Lib.hid hx
  have HV := Lib.hid hv
  have HZ := Lib.hid hz
  clear hx hv hz
  have hb0 := Below.refl w.heap.size w
  go_enter Try.func9, Try.ntmps9
  go_wp2_with fail
  refine (div_row _ _ _ _ _ _ _ _ w ra rb (by omega) (by omega) HZ.out).mono ?_
  rintro e W1 ⟨q1, r1, A1, n1, c1, A1r, n1r, c1r, rfl, hq1, t1, t1r, u1⟩
  replace ra := ra.on u1
  replace rb := rb.on u1
  have hb1 := below_chain hb0 u1
  clear u1 hb0
  go_wp2_with fail
  refine (ref_div_row _ _ _ _ _ _ _ _ W1 ra rb (by omega) (by omega) HZ.out).mono ?_
  rintro e W2 ⟨q2, r2, A2, n2, c2, A2r, n2r, c2r, rfl, hq2, t2, t2r, u2⟩
  replace ra := ra.on u2
  replace rb := rb.on u2
  replace t1 := t1.on u2
  replace t1r := t1r.on u2
  have hb2 := below_chain hb1 u2
  clear u2 hb1
  obtain ⟨e1, e2⟩ := Qr.uniq hq1 hq2
  subst e1 e2
  have HQ := Lib.hid (And.intro (qr_len_q hq1) (qr_len_r hq1))
  clear hq1 hq2
  go_wp2_with fail
  refine (trim_b ra (by omega)).mono ?_
  rintro e W3 ⟨A3, n3, c3, rfl, t3, u3⟩
  replace ra := ra.on u3
  replace rb := rb.on u3
  replace t1 := t1.on u3
  replace t1r := t1r.on u3
  replace t2 := t2.on u3
  replace t2r := t2r.on u3
  have hb3 := below_chain hb2 u3
  clear u3 hb2
  go_wp2_with fail
  refine (ref_trim_b ra (by omega)).mono ?_
  rintro e W4 ⟨A4, n4, c4, rfl, t4, u4⟩
  replace ra := ra.on u4
  replace rb := rb.on u4
  replace t1 := t1.on u4
  replace t1r := t1r.on u4
  replace t2 := t2.on u4
  replace t2r := t2r.on u4
  replace t3 := t3.on u4
  have hb4 := below_chain hb3 u4
  clear u4 hb3
  go_wp2_with fail
  refine (same_b t3 t4 rfl (by have h1 := tr_len a; have h2 := ra.1; have h3 := rb.1; omega)).mono ?_
  rintro e W5 ⟨rfl, u5⟩
  replace ra := ra.on u5
  replace rb := rb.on u5
  replace t1 := t1.on u5
  replace t1r := t1r.on u5
  replace t2 := t2.on u5
  replace t2r := t2r.on u5
  replace t3 := t3.on u5
  replace t4 := t4.on u5
  have hb5 := below_chain hb4 u5
  clear u5 hb4
  clear t3 t4
  go_wp2_with fail
  refine (add_row _ _ _ _ _ _ _ _ W5 ra rb (by omega) (by omega)).mono ?_
  rintro e W6 ⟨A6, n6, c6, rfl, t6, u6⟩
  replace ra := ra.on u6
  replace rb := rb.on u6
  replace t1 := t1.on u6
  replace t1r := t1r.on u6
  replace t2 := t2.on u6
  replace t2r := t2r.on u6
  have hb6 := below_chain hb5 u6
  clear u6 hb5
  go_wp2_with fail
  refine (ref_add_row _ _ _ _ _ _ _ _ W6 ra rb (by omega) (by omega)).mono ?_
  rintro e W7 ⟨A7, n7, c7, rfl, t7, u7⟩
  replace ra := ra.on u7
  replace rb := rb.on u7
  replace t1 := t1.on u7
  replace t1r := t1r.on u7
  replace t2 := t2.on u7
  replace t2r := t2r.on u7
  replace t6 := t6.on u7
  have hb7 := below_chain hb6 u7
  clear u7 hb6
  go_wp2_with fail
  refine (same_b t6 t7 rfl (by have h1 := pa_len a b; have h2 := ra.1; have h3 := rb.1; omega)).mono ?_
  rintro e W8 ⟨rfl, u8⟩
  replace ra := ra.on u8
  replace rb := rb.on u8
  replace t1 := t1.on u8
  replace t1r := t1r.on u8
  replace t2 := t2.on u8
  replace t2r := t2r.on u8
  replace t6 := t6.on u8
  replace t7 := t7.on u8
  have hb8 := below_chain hb7 u8
  clear u8 hb7
  clear t6 t7
  go_wp2_with fail
  refine (mul_row _ _ _ _ _ _ _ _ W8 ra rb (by omega) (by omega)).mono ?_
  rintro e W9 ⟨A9, n9, c9, rfl, t9, u9⟩
  replace ra := ra.on u9
  replace rb := rb.on u9
  replace t1 := t1.on u9
  replace t1r := t1r.on u9
  replace t2 := t2.on u9
  replace t2r := t2r.on u9
  have hb9 := below_chain hb8 u9
  clear u9 hb8
  go_wp2_with fail
  refine (ref_mul_row _ _ _ _ _ _ _ _ W9 ra rb (by omega) (by omega)).mono ?_
  rintro e W10 ⟨A10, n10, c10, rfl, t10, u10⟩
  replace ra := ra.on u10
  replace rb := rb.on u10
  replace t1 := t1.on u10
  replace t1r := t1r.on u10
  replace t2 := t2.on u10
  replace t2r := t2r.on u10
  replace t9 := t9.on u10
  have hb10 := below_chain hb9 u10
  clear u10 hb9
  go_wp2_with fail
  refine (same_b t9 t10 rfl (by have h1 := pm_len a b; have h2 := ra.1; have h3 := rb.1; omega)).mono ?_
  rintro e W11 ⟨rfl, u11⟩
  replace ra := ra.on u11
  replace rb := rb.on u11
  replace t1 := t1.on u11
  replace t1r := t1r.on u11
  replace t2 := t2.on u11
  replace t2r := t2r.on u11
  replace t9 := t9.on u11
  replace t10 := t10.on u11
  have hb11 := below_chain hb10 u11
  clear u11 hb10
  clear t9 t10
  go_wp2_with fail
  refine (same_b t1 t2 rfl (by have h1 := HQ.out.1; have h2 := ra.1; omega)).mono ?_
  rintro e W12 ⟨rfl, u12⟩
  replace ra := ra.on u12
  replace rb := rb.on u12
  replace t1 := t1.on u12
  replace t1r := t1r.on u12
  replace t2 := t2.on u12
  replace t2r := t2r.on u12
  have hb12 := below_chain hb11 u12
  clear u12 hb11
  go_wp2_with fail
  refine (same_b t1r t2r rfl (by have h1 := HQ.out.2; have h2 := rb.1; omega)).mono ?_
  rintro e W13 ⟨rfl, u13⟩
  replace ra := ra.on u13
  replace rb := rb.on u13
  replace t1 := t1.on u13
  replace t1r := t1r.on u13
  replace t2 := t2.on u13
  replace t2r := t2r.on u13
  have hb13 := below_chain hb12 u13
  clear u13 hb12
  clear t1 t2 t1r t2r
  go_wp2_with fail
  refine (eval_b ra x x0 v HX.out HV.out (by omega)).mono ?_
  rintro e W14 ⟨rfl, u14⟩
  replace ra := ra.on u14
  replace rb := rb.on u14
  have hb14 := below_chain hb13 u14
  clear u14 hb13
  go_wp2_with fail
  refine (ref_eval_b ra x x0 v HX.out HV.out (by omega)).mono ?_
  rintro e W15 ⟨rfl, u15⟩
  replace ra := ra.on u15
  replace rb := rb.on u15
  have hb15 := below_chain hb14 u15
  clear u15 hb14
  go_wp2_with fail
  refine (slope_row _ _ _ _ W15 ra (by omega)).mono ?_
  rintro e W16 ⟨A16, n16, c16, rfl, t16, u16⟩
  replace ra := ra.on u16
  replace rb := rb.on u16
  have hb16 := below_chain hb15 u16
  clear u16 hb15
  go_wp2_with fail
  refine (ref_slope_row _ _ _ _ W16 ra (by omega)).mono ?_
  rintro e W17 ⟨A17, n17, c17, rfl, t17, u17⟩
  replace ra := ra.on u17
  replace rb := rb.on u17
  replace t16 := t16.on u17
  have hb17 := below_chain hb16 u17
  clear u17 hb16
  go_wp2_with fail
  refine (same_b t16 t17 rfl (by have h1 := ps_len a; have h2 := ra.1; omega)).mono ?_
  rintro e W18 ⟨rfl, u18⟩
  replace ra := ra.on u18
  replace rb := rb.on u18
  replace t16 := t16.on u18
  replace t17 := t17.on u18
  have hb18 := below_chain hb17 u18
  clear u18 hb17
  clear t16 t17
  go_wp2_with fail
  refine (awake_b hb18).mono ?_
  rintro e w' ⟨rfl, hbe⟩
  go_wp2_with fail
  go_ret
  exact ⟨rfl, hbe⟩
set_option maxHeartbeats 1000000 in
theorem reckons_bad (A : Option Addr) (n c : Nat) (A2 : Option Addr) (n2 c2 : Nat) (x0 : Nat) (a b : List F) (x : F) (w : World) (hx : x0 = x.1) (ra : RowAt w A n c a) (rb : RowAt w A2 n2 c2 b) (hn : n ≤ 40) (hn2 : n2 ≤ 40) (hz : tr b = []) :
    Calls Try.prog 9 #[.slice A n c, .slice A2 n2 c2, .int .u8 x0] w fun e w' => e = .returned (.bool true) ∧ Below w.heap.size w w' := by
  have d1 : decide (40 < (n : Int)) = false := by simp; omega
  have d2 : decide (40 < (n2 : Int)) = false := by simp; omega
  obtain ⟨v, hv⟩ : ∃ v, v = (pe a x).1 := ⟨_, rfl⟩
  have HX := Lib.hid hx
  have HV := Lib.hid hv
  have HZ := Lib.hid hz
  clear hx hv hz
  have hb0 := Below.refl w.heap.size w
  go_enter Try.func9, Try.ntmps9
  go_wp2_with fail
  refine (div_bad _ _ _ _ _ _ _ w rb (by omega) HZ.out).mono ?_
  rintro e w' ⟨rfl, rfl⟩
  go_wp2_with fail
  refine (ref_div_bad _ _ _ _ _ _ _ w rb (by omega) HZ.out).mono ?_
  rintro e w' ⟨rfl, rfl⟩
  go_wp2_with fail
  refine (trim_b ra (by omega)).mono ?_
  rintro e W1 ⟨A1, n1, c1, rfl, t1, u1⟩
  replace ra := ra.on u1
  replace rb := rb.on u1
  have hb1 := below_chain hb0 u1
  clear u1 hb0
  go_wp2_with fail
  refine (ref_trim_b ra (by omega)).mono ?_
  rintro e W2 ⟨A2, n2, c2, rfl, t2, u2⟩
  replace ra := ra.on u2
  replace rb := rb.on u2
  replace t1 := t1.on u2
  have hb2 := below_chain hb1 u2
  clear u2 hb1
  go_wp2_with fail
  refine (same_b t1 t2 rfl (by have h1 := tr_len a; have h2 := ra.1; have h3 := rb.1; omega)).mono ?_
  rintro e W3 ⟨rfl, u3⟩
  replace ra := ra.on u3
  replace rb := rb.on u3
  replace t1 := t1.on u3
  replace t2 := t2.on u3
  have hb3 := below_chain hb2 u3
  clear u3 hb2
  clear t1 t2
  go_wp2_with fail
  refine (add_row _ _ _ _ _ _ _ _ W3 ra rb (by omega) (by omega)).mono ?_
  rintro e W4 ⟨A4, n4, c4, rfl, t4, u4⟩
  replace ra := ra.on u4
  replace rb := rb.on u4
  have hb4 := below_chain hb3 u4
  clear u4 hb3
  go_wp2_with fail
  refine (ref_add_row _ _ _ _ _ _ _ _ W4 ra rb (by omega) (by omega)).mono ?_
  rintro e W5 ⟨A5, n5, c5, rfl, t5, u5⟩
  replace ra := ra.on u5
  replace rb := rb.on u5
  replace t4 := t4.on u5
  have hb5 := below_chain hb4 u5
  clear u5 hb4
  go_wp2_with fail
  refine (same_b t4 t5 rfl (by have h1 := pa_len a b; have h2 := ra.1; have h3 := rb.1; omega)).mono ?_
  rintro e W6 ⟨rfl, u6⟩
  replace ra := ra.on u6
  replace rb := rb.on u6
  replace t4 := t4.on u6
  replace t5 := t5.on u6
  have hb6 := below_chain hb5 u6
  clear u6 hb5
  clear t4 t5
  go_wp2_with fail
  refine (mul_row _ _ _ _ _ _ _ _ W6 ra rb (by omega) (by omega)).mono ?_
  rintro e W7 ⟨A7, n7, c7, rfl, t7, u7⟩
  replace ra := ra.on u7
  replace rb := rb.on u7
  have hb7 := below_chain hb6 u7
  clear u7 hb6
  go_wp2_with fail
  refine (ref_mul_row _ _ _ _ _ _ _ _ W7 ra rb (by omega) (by omega)).mono ?_
  rintro e W8 ⟨A8, n8, c8, rfl, t8, u8⟩
  replace ra := ra.on u8
  replace rb := rb.on u8
  replace t7 := t7.on u8
  have hb8 := below_chain hb7 u8
  clear u8 hb7
  go_wp2_with fail
  refine (same_b t7 t8 rfl (by have h1 := pm_len a b; have h2 := ra.1; have h3 := rb.1; omega)).mono ?_
  rintro e W9 ⟨rfl, u9⟩
  replace ra := ra.on u9
  replace rb := rb.on u9
  replace t7 := t7.on u9
  replace t8 := t8.on u9
  have hb9 := below_chain hb8 u9
  clear u9 hb8
  clear t7 t8
  go_wp2_with fail
  refine (same_b (RowAt.nil W9) (RowAt.nil W9) rfl (by decide)).mono ?_
  rintro e W10 ⟨rfl, u10⟩
  replace ra := ra.on u10
  replace rb := rb.on u10
  have hb10 := below_chain hb9 u10
  clear u10 hb9
  go_wp2_with fail
  refine (same_b (RowAt.nil W10) (RowAt.nil W10) rfl (by decide)).mono ?_
  rintro e W11 ⟨rfl, u11⟩
  replace ra := ra.on u11
  replace rb := rb.on u11
  have hb11 := below_chain hb10 u11
  clear u11 hb10
  go_wp2_with fail
  refine (eval_b ra x x0 v HX.out HV.out (by omega)).mono ?_
  rintro e W12 ⟨rfl, u12⟩
  replace ra := ra.on u12
  replace rb := rb.on u12
  have hb12 := below_chain hb11 u12
  clear u12 hb11
  go_wp2_with fail
  refine (ref_eval_b ra x x0 v HX.out HV.out (by omega)).mono ?_
  rintro e W13 ⟨rfl, u13⟩
  replace ra := ra.on u13
  replace rb := rb.on u13
  have hb13 := below_chain hb12 u13
  clear u13 hb12
  go_wp2_with fail
  refine (slope_row _ _ _ _ W13 ra (by omega)).mono ?_
  rintro e W14 ⟨A14, n14, c14, rfl, t14, u14⟩
  replace ra := ra.on u14
  replace rb := rb.on u14
  have hb14 := below_chain hb13 u14
  clear u14 hb13
  go_wp2_with fail
  refine (ref_slope_row _ _ _ _ W14 ra (by omega)).mono ?_
  rintro e W15 ⟨A15, n15, c15, rfl, t15, u15⟩
  replace ra := ra.on u15
  replace rb := rb.on u15
  replace t14 := t14.on u15
  have hb15 := below_chain hb14 u15
  clear u15 hb14
  go_wp2_with fail
  refine (same_b t14 t15 rfl (by have h1 := ps_len a; have h2 := ra.1; omega)).mono ?_
  rintro e W16 ⟨rfl, u16⟩
  replace ra := ra.on u16
  replace rb := rb.on u16
  replace t14 := t14.on u16
  replace t15 := t15.on u16
  have hb16 := below_chain hb15 u16
  clear u16 hb15
  clear t14 t15
  go_wp2_with fail
  refine (awake_b hb16).mono ?_
  rintro e w' ⟨rfl, hbe⟩
  go_wp2_with fail
  go_ret
  exact ⟨rfl, hbe⟩
theorem divides_bad (A : Option Addr) (n c : Nat) (A2 : Option Addr) (n2 c2 : Nat) (a b : List F) (w : World) (ra : RowAt w A n c a) (rb : RowAt w A2 n2 c2 b) (hn : n ≤ 40) (hn2 : n2 ≤ 40) (hz : tr b = []) :
    Calls Try.prog 10 #[.slice A n c, .slice A2 n2 c2] w fun e w' => e = .returned (.bool true) ∧ Below w.heap.size w w' := by
  have d1 : decide (40 < (n : Int)) = false := by simp; omega
  have d2 : decide (40 < (n2 : Int)) = false := by simp; omega
  have HZ := Lib.hid hz
  clear hz
  have hb0 := Below.refl w.heap.size w
  go_enter Try.func10, Try.ntmps10
  go_wp2_with fail
  refine (div_bad _ _ _ _ _ _ _ w rb (by omega) HZ.out).mono ?_
  rintro e w' ⟨rfl, rfl⟩
  go_wp2_with fail
  refine (trim_b rb (by omega)).mono ?_
  rintro e W1 ⟨A1, n1, c1, rfl, t1, u1⟩
  replace ra := ra.on u1
  replace rb := rb.on u1
  have hb1 := below_chain hb0 u1
  clear u1 hb0
  have z0 : ((n1 : Int) == 0) = true := by have h := t1.1; rw [HZ.out] at h; simp at h; simp; omega
  go_wp2_with fail
  refine (awake_b hb1).mono ?_
  rintro e w' ⟨rfl, hbe⟩
  go_wp2_with fail
  go_ret
  exact ⟨rfl, hbe⟩
set_option maxHeartbeats 1000000 in
theorem divides_ok (A : Option Addr) (n c : Nat) (A2 : Option Addr) (n2 c2 : Nat) (a b : List F) (w : World) (ra : RowAt w A n c a) (rb : RowAt w A2 n2 c2 b) (hn : n ≤ 40) (hn2 : n2 ≤ 40) (hz : tr b ≠ []) :
    Calls Try.prog 10 #[.slice A n c, .slice A2 n2 c2] w fun e w' => e = .returned (.bool true) ∧ Below w.heap.size w w' := by
  have d1 : decide (40 < (n : Int)) = false := by simp; omega
  have d2 : decide (40 < (n2 : Int)) = false := by simp; omega
  have HZ := Lib.hid hz
  clear hz
  have hb0 := Below.refl w.heap.size w
  go_enter Try.func10, Try.ntmps10
  go_wp2_with fail
  refine (div_row _ _ _ _ _ _ _ _ w ra rb (by omega) (by omega) HZ.out).mono ?_
  rintro e W1 ⟨q1, r1, A1, n1, c1, A1r, n1r, c1r, rfl, hq1, t1, t1r, u1⟩
  replace ra := ra.on u1
  replace rb := rb.on u1
  have hb1 := below_chain hb0 u1
  clear u1 hb0
  have HQ := Lib.hid hq1
  clear hq1
  have mq := qr_len_q HQ.out
  have mr := qr_len_r HQ.out
  have la := ra.1
  have lb := rb.1
  have lq := t1.1
  have lr := t1r.1
  have nq : n1 ≤ 41 := by omega
  have nr : n1r ≤ 40 := by omega
  clear mq mr la lb lq lr
  go_wp2_with fail
  refine (mul_row _ _ _ _ _ _ _ _ W1 t1 rb (by omega) (by omega)).mono ?_
  rintro e W2 ⟨A2, n2, c2, rfl, t2, u2⟩
  replace ra := ra.on u2
  replace rb := rb.on u2
  replace t1 := t1.on u2
  replace t1r := t1r.on u2
  have hb2 := below_chain hb1 u2
  clear u2 hb1
  have mx : n2 ≤ 200 := by have h1 := t2.1; have h2 := pm_len q1 b; have h3 := t1.1; have h4 := rb.1; omega
  go_wp2_with fail
  refine (add_row _ _ _ _ _ _ _ _ W2 t2 t1r (by omega) (by omega)).mono ?_
  rintro e W3 ⟨A3, n3, c3, rfl, t3, u3⟩
  replace ra := ra.on u3
  replace rb := rb.on u3
  replace t1 := t1.on u3
  replace t1r := t1r.on u3
  replace t2 := t2.on u3
  have hb3 := below_chain hb2 u3
  clear u3 hb2
  go_wp2_with fail
  refine (trim_b ra (by omega)).mono ?_
  rintro e W4 ⟨A4, n4, c4, rfl, t4, u4⟩
  replace ra := ra.on u4
  replace rb := rb.on u4
  replace t1 := t1.on u4
  replace t1r := t1r.on u4
  replace t2 := t2.on u4
  replace t3 := t3.on u4
  have hb4 := below_chain hb3 u4
  clear u4 hb3
  go_wp2_with fail
  refine (same_b t3 t4 HQ.out.back (by have h1 := pa_len (pm q1 b) r1; have h2 := t2.1; have h3 := t1r.1; omega)).mono ?_
  rintro e W5 ⟨rfl, u5⟩
  replace ra := ra.on u5
  replace rb := rb.on u5
  replace t1 := t1.on u5
  replace t1r := t1r.on u5
  replace t2 := t2.on u5
  replace t3 := t3.on u5
  replace t4 := t4.on u5
  have hb5 := below_chain hb4 u5
  clear u5 hb4
  have HLT := Lib.hid HQ.out.2.2.2
  clear t2 t3 t4
  go_wp2_with fail
  refine (trim_b rb (by omega)).mono ?_
  rintro e W6 ⟨A6, n6, c6, rfl, t6, u6⟩
  replace ra := ra.on u6
  replace rb := rb.on u6
  replace t1 := t1.on u6
  replace t1r := t1r.on u6
  have hb6 := below_chain hb5 u6
  clear u6 hb5
  have z0 : decide (n1r < n6) = true := by have h := HLT.out; have h1 := t6.1; have h2 := t1r.1; simp; omega
  go_wp2_with fail
  refine (awake_b hb6).mono ?_
  rintro e w' ⟨rfl, hbe⟩
  go_wp2_with fail
  go_ret
  exact ⟨rfl, hbe⟩
set_option maxHeartbeats 1000000 in
theorem values_ok (A : Option Addr) (n c : Nat) (A2 : Option Addr) (n2 c2 : Nat) (x0 : Nat) (a b : List F) (x : F) (w : World) (hx : x0 = x.1) (ra : RowAt w A n c a) (rb : RowAt w A2 n2 c2 b) (hn : n ≤ 40) (hn2 : n2 ≤ 40) :
    Calls Try.prog 11 #[.slice A n c, .slice A2 n2 c2, .int .u8 x0] w fun e w' => e = .returned (.bool true) ∧ Below w.heap.size w w' := by
  have d1 : decide (40 < (n : Int)) = false := by simp; omega
  have d2 : decide (40 < (n2 : Int)) = false := by simp; omega
  obtain ⟨u, hu⟩ : ∃ u, u = (pe a x).1 := ⟨_, rfl⟩
  obtain ⟨v, hv⟩ : ∃ v, v = (pe b x).1 := ⟨_, rfl⟩
  obtain ⟨s, hs⟩ : ∃ s, s = (pe (pa a b) x).1 := ⟨_, rfl⟩
  obtain ⟨p, hp⟩ : ∃ p, p = (pe (pm a b) x).1 := ⟨_, rfl⟩
  have HADD := Lib.hid (show ∀ w, Calls Try.prog 32 #[.int .u8 (u : Nat), .int .u8 (v : Nat)] w fun e w' => e = .returned (.int .u8 (s : Nat)) ∧ w = w' by
    rw [hu, hv, hs]; exact fadd_at (pe_pa a b x).symm)
  have HMUL := Lib.hid (show ∀ w, Calls Try.prog 33 #[.int .u8 (u : Nat), .int .u8 (v : Nat)] w fun e w' => e = .returned (.int .u8 (p : Nat)) ∧ w = w' by
    rw [hu, hv, hp]; exact fmul_at (pe_pm a b x).symm)
  have HX := Lib.hid hx
  have HU := Lib.hid hu
  have HV := Lib.hid hv
  have HS := Lib.hid hs
  have HP := Lib.hid hp
  clear hx hu hv hs hp
  have hb0 := Below.refl w.heap.size w
  go_enter Try.func11, Try.ntmps11
  go_wp2_with fail
  refine (eval_b ra x x0 u HX.out HU.out (by omega)).mono ?_
  rintro e W1 ⟨rfl, u1⟩
  replace ra := ra.on u1
  replace rb := rb.on u1
  have hb1 := below_chain hb0 u1
  clear u1 hb0
  go_wp2_with fail
  refine (eval_b rb x x0 v HX.out HV.out (by omega)).mono ?_
  rintro e W2 ⟨rfl, u2⟩
  replace ra := ra.on u2
  replace rb := rb.on u2
  have hb2 := below_chain hb1 u2
  clear u2 hb1
  go_wp2_with fail
  refine (slope_row _ _ _ _ W2 ra (by omega)).mono ?_
  rintro e W3 ⟨A3, n3, c3, rfl, t3, u3⟩
  replace ra := ra.on u3
  replace rb := rb.on u3
  have hb3 := below_chain hb2 u3
  clear u3 hb2
  have m3 : n3 ≤ 40 := by have h0 := t3.1; have h1 := ps_len a; have h2 := ra.1; omega
  go_wp2_with fail
  refine (mul_row _ _ _ _ _ _ _ _ W3 t3 rb (by omega) (by omega)).mono ?_
  rintro e W4 ⟨A4, n4, c4, rfl, t4, u4⟩
  replace ra := ra.on u4
  replace rb := rb.on u4
  replace t3 := t3.on u4
  have hb4 := below_chain hb3 u4
  clear u4 hb3
  have m4 : n4 ≤ 80 := by have h0 := t4.1; have h1 := pm_len (ps a) b; have h2 := t3.1; have h3 := rb.1; omega
  go_wp2_with fail
  refine (slope_row _ _ _ _ W4 rb (by omega)).mono ?_
  rintro e W5 ⟨A5, n5, c5, rfl, t5, u5⟩
  replace ra := ra.on u5
  replace rb := rb.on u5
  replace t3 := t3.on u5
  replace t4 := t4.on u5
  have hb5 := below_chain hb4 u5
  clear u5 hb4
  have m5 : n5 ≤ 40 := by have h0 := t5.1; have h1 := ps_len b; have h2 := rb.1; omega
  go_wp2_with fail
  refine (mul_row _ _ _ _ _ _ _ _ W5 ra t5 (by omega) (by omega)).mono ?_
  rintro e W6 ⟨A6, n6, c6, rfl, t6, u6⟩
  replace ra := ra.on u6
  replace rb := rb.on u6
  replace t3 := t3.on u6
  replace t4 := t4.on u6
  replace t5 := t5.on u6
  have hb6 := below_chain hb5 u6
  clear u6 hb5
  have m6 : n6 ≤ 80 := by have h0 := t6.1; have h1 := pm_len a (ps b); have h2 := t5.1; have h3 := ra.1; omega
  go_wp2_with fail
  refine (add_row _ _ _ _ _ _ _ _ W6 t4 t6 (by omega) (by omega)).mono ?_
  rintro e W7 ⟨A7, n7, c7, rfl, t7, u7⟩
  replace ra := ra.on u7
  replace rb := rb.on u7
  replace t3 := t3.on u7
  replace t4 := t4.on u7
  replace t5 := t5.on u7
  replace t6 := t6.on u7
  have hb7 := below_chain hb6 u7
  clear u7 hb6
  have m7 : n7 ≤ 80 := by have h0 := t7.1; have h1 := pa_len (pm (ps a) b) (pm a (ps b)); have h2 := t4.1; have h3 := t6.1; omega
  clear t3 t4 t5 t6
  go_wp2_with fail
  refine (add_row _ _ _ _ _ _ _ _ W7 ra rb (by omega) (by omega)).mono ?_
  rintro e W8 ⟨A8, n8, c8, rfl, t8, u8⟩
  replace ra := ra.on u8
  replace rb := rb.on u8
  replace t7 := t7.on u8
  have hb8 := below_chain hb7 u8
  clear u8 hb7
  have m8 : n8 ≤ 40 := by have h0 := t8.1; have h1 := pa_len a b; have h2 := ra.1; have h3 := rb.1; omega
  go_wp2_with fail
  refine (eval_b t8 x x0 s HX.out HS.out (by omega)).mono ?_
  rintro e W9 ⟨rfl, u9⟩
  replace ra := ra.on u9
  replace rb := rb.on u9
  replace t7 := t7.on u9
  replace t8 := t8.on u9
  have hb9 := below_chain hb8 u9
  clear u9 hb8
  go_wp2_with fail
  refine (HADD.out W9).mono ?_
  rintro e w' ⟨rfl, rfl⟩
  clear t8
  go_wp2_with fail
  refine (mul_row _ _ _ _ _ _ _ _ W9 ra rb (by omega) (by omega)).mono ?_
  rintro e W10 ⟨A10, n10, c10, rfl, t10, u10⟩
  replace ra := ra.on u10
  replace rb := rb.on u10
  replace t7 := t7.on u10
  have hb10 := below_chain hb9 u10
  clear u10 hb9
  have m10 : n10 ≤ 80 := by have h0 := t10.1; have h1 := pm_len a b; have h2 := ra.1; have h3 := rb.1; omega
  go_wp2_with fail
  refine (eval_b t10 x x0 p HX.out HP.out (by omega)).mono ?_
  rintro e W11 ⟨rfl, u11⟩
  replace ra := ra.on u11
  replace rb := rb.on u11
  replace t7 := t7.on u11
  replace t10 := t10.on u11
  have hb11 := below_chain hb10 u11
  clear u11 hb10
  go_wp2_with fail
  refine (HMUL.out W11).mono ?_
  rintro e w' ⟨rfl, rfl⟩
  clear t10
  go_wp2_with fail
  refine (mul_row _ _ _ _ _ _ _ _ W11 ra rb (by omega) (by omega)).mono ?_
  rintro e W12 ⟨A12, n12, c12, rfl, t12, u12⟩
  replace ra := ra.on u12
  replace rb := rb.on u12
  replace t7 := t7.on u12
  have hb12 := below_chain hb11 u12
  clear u12 hb11
  have m12 : n12 ≤ 80 := by have h0 := t12.1; have h1 := pm_len a b; have h2 := ra.1; have h3 := rb.1; omega
  go_wp2_with fail
  refine (slope_row _ _ _ _ W12 t12 (by omega)).mono ?_
  rintro e W13 ⟨A13, n13, c13, rfl, t13, u13⟩
  replace ra := ra.on u13
  replace rb := rb.on u13
  replace t7 := t7.on u13
  replace t12 := t12.on u13
  have hb13 := below_chain hb12 u13
  clear u13 hb12
  go_wp2_with fail
  refine (same_b t13 t7 (ps_pm a b) (by have h1 := ps_len (pm a b); have h2 := t12.1; omega)).mono ?_
  rintro e W14 ⟨rfl, u14⟩
  replace ra := ra.on u14
  replace rb := rb.on u14
  replace t7 := t7.on u14
  replace t12 := t12.on u14
  replace t13 := t13.on u14
  have hb14 := below_chain hb13 u14
  clear u14 hb13
  go_wp2_with fail
  refine (awake_b hb14).mono ?_
  rintro e w' ⟨rfl, hbe⟩
  go_wp2_with fail
  go_ret
  exact ⟨rfl, hbe⟩
theorem polyReckons_walk (a0 : Option Addr) (len0 cap0 : Nat) (z0 : List Int) (a1 : Option Addr) (len1 cap1 : Nat) (z1 : List Int) (a2 : Int) (w : World) (w0 : IsRow .u8 w a0 len0 cap0 z0) (w1 : IsRow .u8 w a1 len1 cap1 z1) (w2 : (Lit.int .u8 a2).wf = true) :
    Calls Try.prog 9 #[.slice a0 len0 cap0, .slice a1 len1 cap1, .int .u8 a2] w fun e w' => e = .returned (.bool true) ∧ Below w.heap.size w w' := by
  obtain ⟨x0, rfl, hx0⟩ := nat_of_u8 w2
  obtain ⟨a, ra⟩ := row_of w0
  obtain ⟨b, rb⟩ := row_of w1
  clear w0 w1
  by_cases h0 : 40 < len0
  · have d1 : decide (40 < (len0 : Int)) = true := by simp; omega
    clear ra rb
    go_enter Try.func9, Try.ntmps9
    go_wp2_with (go_at_call 40; refine (awake_any _).mono ?_; rintro e w' ⟨rfl, hb⟩)
    go_ret
    exact ⟨rfl, hb⟩
  · have d1 : decide (40 < (len0 : Int)) = false := by simp; omega
    by_cases h1 : 40 < len1
    · have d2 : decide (40 < (len1 : Int)) = true := by simp; omega
      clear ra rb
      go_enter Try.func9, Try.ntmps9
      go_wp2_with (go_at_call 40; refine (awake_any _).mono ?_; rintro e w' ⟨rfl, hb⟩)
      go_ret
      exact ⟨rfl, hb⟩
    · clear d1
      by_cases hz : tr b = []
      · exact reckons_bad a0 len0 cap0 a1 len1 cap1 x0 a b ⟨x0, hx0⟩ w rfl ra rb (by omega) (by omega) hz
      · exact reckons_ok a0 len0 cap0 a1 len1 cap1 x0 a b ⟨x0, hx0⟩ w rfl ra rb (by omega) (by omega) hz

theorem polyDivides_walk (a0 : Option Addr) (len0 cap0 : Nat) (z0 : List Int) (a1 : Option Addr) (len1 cap1 : Nat) (z1 : List Int) (w : World) (w0 : IsRow .u8 w a0 len0 cap0 z0) (w1 : IsRow .u8 w a1 len1 cap1 z1) :
    Calls Try.prog 10 #[.slice a0 len0 cap0, .slice a1 len1 cap1] w fun e w' => e = .returned (.bool true) ∧ Below w.heap.size w w' := by
  obtain ⟨a, ra⟩ := row_of w0
  obtain ⟨b, rb⟩ := row_of w1
  clear w0 w1
  by_cases h0 : 40 < len0
  · have d1 : decide (40 < (len0 : Int)) = true := by simp; omega
    clear ra rb
    go_enter Try.func10, Try.ntmps10
    go_wp2_with (go_at_call 40; refine (awake_any _).mono ?_; rintro e w' ⟨rfl, hb⟩)
    go_ret
    exact ⟨rfl, hb⟩
  · have d1 : decide (40 < (len0 : Int)) = false := by simp; omega
    by_cases h1 : 40 < len1
    · have d2 : decide (40 < (len1 : Int)) = true := by simp; omega
      clear ra rb
      go_enter Try.func10, Try.ntmps10
      go_wp2_with (go_at_call 40; refine (awake_any _).mono ?_; rintro e w' ⟨rfl, hb⟩)
      go_ret
      exact ⟨rfl, hb⟩
    · clear d1
      by_cases hz : tr b = []
      · exact divides_bad a0 len0 cap0 a1 len1 cap1 a b w ra rb (by omega) (by omega) hz
      · exact divides_ok a0 len0 cap0 a1 len1 cap1 a b w ra rb (by omega) (by omega) hz

theorem polyValues_walk (a0 : Option Addr) (len0 cap0 : Nat) (z0 : List Int) (a1 : Option Addr) (len1 cap1 : Nat) (z1 : List Int) (a2 : Int) (w : World) (w0 : IsRow .u8 w a0 len0 cap0 z0) (w1 : IsRow .u8 w a1 len1 cap1 z1) (w2 : (Lit.int .u8 a2).wf = true) :
    Calls Try.prog 11 #[.slice a0 len0 cap0, .slice a1 len1 cap1, .int .u8 a2] w fun e w' => e = .returned (.bool true) ∧ Below w.heap.size w w' := by
  obtain ⟨x0, rfl, hx0⟩ := nat_of_u8 w2
  obtain ⟨a, ra⟩ := row_of w0
  obtain ⟨b, rb⟩ := row_of w1
  clear w0 w1
  by_cases h0 : 40 < len0
  · have d1 : decide (40 < (len0 : Int)) = true := by simp; omega
    clear ra rb
    go_enter Try.func11, Try.ntmps11
    go_wp2_with (go_at_call 40; refine (awake_any _).mono ?_; rintro e w' ⟨rfl, hb⟩)
    go_ret
    exact ⟨rfl, hb⟩
  · have d1 : decide (40 < (len0 : Int)) = false := by simp; omega
    by_cases h1 : 40 < len1
    · have d2 : decide (40 < (len1 : Int)) = true := by simp; omega
      clear ra rb
      go_enter Try.func11, Try.ntmps11
      go_wp2_with (go_at_call 40; refine (awake_any _).mono ?_; rintro e w' ⟨rfl, hb⟩)
      go_ret
      exact ⟨rfl, hb⟩
    · clear d1
      exact values_ok a0 len0 cap0 a1 len1 cap1 x0 a b ⟨x0, hx0⟩ w rfl ra rb (by omega) (by omega)

end Go.Proofs.Ytbbikkmmdedaiaa.Pr
