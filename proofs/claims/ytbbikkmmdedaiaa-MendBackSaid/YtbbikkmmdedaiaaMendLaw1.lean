/- Law 42, walked: MendPuts, MendReads; no condition. (The straight runs were printed by our own wip/gen/gen_mend.py.) -/
import Derived.Test.YtbbikkmmdedaiaaMendLaws
set_option maxRecDepth 100000
namespace Go.Proofs.Ytbbikkmmdedaiaa.Pr.Mend
open Go.RowKit Go.Proofs.Ytbbikkmmdedaiaa.Gf Go.Proofs.Ytbbikkmmdedaiaa.Vec Go.Proofs.Ytbbikkmmdedaiaa.Pr

set_option maxHeartbeats 1000000 in
theorem awake_any (w : World) : Calls Try.prog 60 #[] w fun e w' => e = .returned (.bool true) ∧ Below w.heap.size w w' := by
  have hb0 := Below.refl w.heap.size w
  go_enter Try.func60, Try.ntmps60
  go_wp2_with fail
  obtain ⟨t1, u1, z1⟩ := lit_step w (lf [7]) #[.int .u8 7] rfl 1 rfl
  obtain ⟨W1, hW1⟩ : ∃ WX : World, WX = w.alloc (.cells #[.int .u8 7] 5) := ⟨_, rfl⟩
  rw [← hW1] at t1 u1 z1 ⊢
  obtain ⟨A1, hA1⟩ : ∃ A1 : Option Addr, A1 = some ⟨w.heap.size, 0, none⟩ := ⟨_, rfl⟩
  rw [← hA1] at t1 ⊢
  clear hW1 hA1
  have hb1 := below_chain hb0 u1
  clear u1 hb0
  clear z1
  refine (put_ok _ _ _ _ 3 W1 t1 (by omega) (by omega) (by omega)).mono ?_
  rintro e W2 ⟨A2, n2, c2, rfl, t2, u2⟩
  replace t1 := t1.on u2
  have hb2 := below_chain hb1 u2
  clear u2 hb1
  have e3 : n2 = 3 := by have h := t2.1; rw [wd_len] at h; exact h.symm
  subst e3
  clear t1
  go_wp2_with fail
  obtain ⟨t3, u3, z3⟩ := lit_step W2 (lf [7, 1, 7]) #[.int .u8 7, .int .u8 1, .int .u8 7] rfl 3 rfl
  obtain ⟨W3, hW3⟩ : ∃ WX : World, WX = W2.alloc (.cells #[.int .u8 7, .int .u8 1, .int .u8 7] 5) := ⟨_, rfl⟩
  rw [← hW3] at t3 u3 z3 ⊢
  obtain ⟨A3, hA3⟩ : ∃ A1 : Option Addr, A1 = some ⟨W2.heap.size, 0, none⟩ := ⟨_, rfl⟩
  rw [← hA3] at t3 ⊢
  clear hW3 hA3
  replace t2 := t2.on u3
  have hb3 := below_chain hb2 u3
  clear u3 hb2
  clear z3
  refine (read_yes (k := 1) t3 (by omega) (by omega) (by omega) near_717 off_717).mono ?_
  rintro e W4 ⟨A4, n4, c4, rfl, t4, u4⟩
  replace t2 := t2.on u4
  replace t3 := t3.on u4
  have hb4 := below_chain hb3 u4
  clear u4 hb3
  clear t3
  go_wp2_with fail
  obtain ⟨t5, u5, z5⟩ := lit_step W4 (lf [7, 1, 2]) #[.int .u8 7, .int .u8 1, .int .u8 2] rfl 3 rfl
  obtain ⟨W5, hW5⟩ : ∃ WX : World, WX = W4.alloc (.cells #[.int .u8 7, .int .u8 1, .int .u8 2] 5) := ⟨_, rfl⟩
  rw [← hW5] at t5 u5 z5 ⊢
  obtain ⟨A5, hA5⟩ : ∃ A1 : Option Addr, A1 = some ⟨W4.heap.size, 0, none⟩ := ⟨_, rfl⟩
  rw [← hA5] at t5 ⊢
  clear hW5 hA5
  replace t2 := t2.on u5
  replace t4 := t4.on u5
  have hb5 := below_chain hb4 u5
  clear u5 hb4
  clear z5
  refine (read_no (k := 1) t5 (by omega) (by omega) (by omega) near_712).mono ?_
  rintro e W6 ⟨rfl, u6⟩
  replace t2 := t2.on u6
  replace t4 := t4.on u6
  replace t5 := t5.on u6
  have hb6 := below_chain hb5 u6
  clear u6 hb5
  clear t5
  go_wp2_with fail
  obtain ⟨t7, u7, z7⟩ := lit_step W6 (lf [7]) #[.int .u8 7] rfl 1 rfl
  obtain ⟨W7, hW7⟩ : ∃ WX : World, WX = W6.alloc (.cells #[.int .u8 7] 5) := ⟨_, rfl⟩
  rw [← hW7] at t7 u7 z7 ⊢
  obtain ⟨A7, hA7⟩ : ∃ A1 : Option Addr, A1 = some ⟨W6.heap.size, 0, none⟩ := ⟨_, rfl⟩
  rw [← hA7] at t7 ⊢
  clear hW7 hA7
  replace t2 := t2.on u7
  replace t4 := t4.on u7
  have hb7 := below_chain hb6 u7
  clear u7 hb6
  clear z7
  refine (read_bad _ _ _ 2 W7 (by omega)).mono ?_
  rintro e w' ⟨rfl, rfl⟩
  clear t7
  go_wp2_with fail
  refine (put_bad none 0 0 3 W7 (by omega)).mono ?_
  rintro e w' ⟨rfl, rfl⟩
  go_wp2_with fail
  obtain ⟨t8, u8, z8⟩ := lit_step W7 (lf [7, 7, 7]) #[.int .u8 7, .int .u8 7, .int .u8 7] rfl 3 rfl
  obtain ⟨W8, hW8⟩ : ∃ WX : World, WX = W7.alloc (.cells #[.int .u8 7, .int .u8 7, .int .u8 7] 5) := ⟨_, rfl⟩
  rw [← hW8] at t8 u8 z8 ⊢
  obtain ⟨A8, hA8⟩ : ∃ A1 : Option Addr, A1 = some ⟨W7.heap.size, 0, none⟩ := ⟨_, rfl⟩
  rw [← hA8] at t8 ⊢
  clear hW8 hA8
  replace t2 := t2.on u8
  replace t4 := t4.on u8
  have hb8 := below_chain hb7 u8
  clear u8 hb7
  clear z8
  refine (same_b t2 t8 (by decide +kernel) (by decide +kernel)).mono ?_
  rintro e W9 ⟨rfl, u9⟩
  replace t2 := t2.on u9
  replace t4 := t4.on u9
  replace t8 := t8.on u9
  have hb9 := below_chain hb8 u9
  clear u9 hb8
  clear t8
  go_wp2_with fail
  obtain ⟨t10, u10, z10⟩ := lit_step W9 (lf [7]) #[.int .u8 7] rfl 1 rfl
  obtain ⟨W10, hW10⟩ : ∃ WX : World, WX = W9.alloc (.cells #[.int .u8 7] 5) := ⟨_, rfl⟩
  rw [← hW10] at t10 u10 z10 ⊢
  obtain ⟨A10, hA10⟩ : ∃ A1 : Option Addr, A1 = some ⟨W9.heap.size, 0, none⟩ := ⟨_, rfl⟩
  rw [← hA10] at t10 ⊢
  clear hW10 hA10
  replace t2 := t2.on u10
  replace t4 := t4.on u10
  have hb10 := below_chain hb9 u10
  clear u10 hb9
  clear z10
  refine (same_b t4 t10 rfl (by decide +kernel)).mono ?_
  rintro e W11 ⟨rfl, u11⟩
  replace t2 := t2.on u11
  replace t4 := t4.on u11
  replace t10 := t10.on u11
  have hb11 := below_chain hb10 u11
  clear u11 hb10
  clear t10 t4
  go_wp2_with fail
  refine (good_row _ _ _ _ 1 true W11 t2 (by omega) (by omega) (by omega) good_777).mono ?_
  rintro e W12 ⟨rfl, u12⟩
  replace t2 := t2.on u12
  have hb12 := below_chain hb11 u12
  clear u12 hb11
  clear t2
  go_wp2_with fail
  obtain ⟨t13, u13, z13⟩ := lit_step W12 (lf [7, 1, 7]) #[.int .u8 7, .int .u8 1, .int .u8 7] rfl 3 rfl
  obtain ⟨W13, hW13⟩ : ∃ WX : World, WX = W12.alloc (.cells #[.int .u8 7, .int .u8 1, .int .u8 7] 5) := ⟨_, rfl⟩
  rw [← hW13] at t13 u13 z13 ⊢
  obtain ⟨A13, hA13⟩ : ∃ A1 : Option Addr, A1 = some ⟨W12.heap.size, 0, none⟩ := ⟨_, rfl⟩
  rw [← hA13] at t13 ⊢
  clear hW13 hA13
  have hb13 := below_chain hb12 u13
  clear u13 hb12
  clear z13
  refine (good_row _ _ _ _ 1 false W13 t13 (by omega) (by omega) (by omega) good_717).mono ?_
  rintro e W14 ⟨rfl, u14⟩
  replace t13 := t13.on u14
  have hb14 := below_chain hb13 u14
  clear u14 hb13
  go_wp2_with fail
  go_ret
  exact ⟨rfl, hb14⟩
theorem awake_b {w0 w : World} (hb : Below w0.heap.size w0 w) : Calls Try.prog 60 #[] w fun e w' => e = .returned (.bool true) ∧ Below w0.heap.size w0 w' :=
  (awake_any w).mono fun _ _ ⟨h1, h2⟩ => ⟨h1, below_chain hb h2⟩

theorem puts_bad (A : Option Addr) (n c : Nat) (m : Int) (w : World) (hn : n ≤ 20) (hm : (decide (40 < m) = false) ∨ (decide (40 < m) = true ∧ decide (m ≤ 255) = false)) (h : n < 1 ∨ m < (n : Int) ∨ 255 < m) :
    Calls Try.prog 15 #[.slice A n c, .int .i64 m] w fun e w' => e = .returned (.bool true) ∧ Below w.heap.size w w' := by
  have d1 : decide (20 < (n : Int)) = false := by simp; omega
  have hb0 := Below.refl w.heap.size w
  rcases hm with d2 | ⟨d2, d3⟩
  all_goals
    go_enter Try.func15, Try.ntmps15
    go_wp2_with fail
    refine (put_bad _ n _ m w h).mono ?_
    rintro e w' ⟨rfl, rfl⟩
    go_wp2_with fail
    refine (ref_put_bad _ n _ m w h).mono ?_
    rintro e w' ⟨rfl, rfl⟩
    go_wp2_with fail
    refine (same_b (RowAt.nil w) (RowAt.nil w) rfl (by decide)).mono ?_
    rintro e W1 ⟨rfl, u1⟩
    have hb1 := below_chain hb0 u1
    clear u1 hb0
    go_wp2_with fail
    refine (awake_b hb1).mono ?_
    rintro e w' ⟨rfl, hbe⟩
    go_wp2_with fail
    go_ret
    exact ⟨rfl, hbe⟩
theorem puts_ok (A : Option Addr) (n c : Nat) (m : Nat) (a : List F) (w : World) (ra : RowAt w A n c a) (hn1 : 1 ≤ n) (hn : n ≤ 20) (hnm : n ≤ m) (hm : m ≤ 40) :
    Calls Try.prog 15 #[.slice A n c, .int .i64 (m : Nat)] w fun e w' => e = .returned (.bool true) ∧ Below w.heap.size w w' := by
  have d1 : decide (20 < (n : Int)) = false := by simp; omega
  have d2 : decide (40 < (m : Int)) = false := by simp; omega
  have HGD := Lib.hid (show ∃ f, f.length = n ∧ off f (wd a m) = 0 from ⟨a, ra.1, off_self _ _⟩)
  have hb0 := Below.refl w.heap.size w
  go_enter Try.func15, Try.ntmps15
  go_wp2_with fail
  refine (put_ok _ _ _ _ m w ra (by omega) (by omega) (by omega)).mono ?_
  rintro e W1 ⟨A1, n1, c1, rfl, t1, u1⟩
  replace ra := ra.on u1
  have hb1 := below_chain hb0 u1
  clear u1 hb0
  have e3 : n1 = m := by have h := t1.1; rw [wd_len] at h; exact h.symm
  subst e3
  go_wp2_with fail
  refine (ref_put_ok _ _ _ _ n1 W1 ra (by omega) (by omega) (by omega)).mono ?_
  rintro e W2 ⟨A2, n2, c2, rfl, t2, u2⟩
  replace ra := ra.on u2
  replace t1 := t1.on u2
  have hb2 := below_chain hb1 u2
  clear u2 hb1
  go_wp2_with fail
  refine (same_b t1 t2 rfl (by rw [wd_len]; omega)).mono ?_
  rintro e W3 ⟨rfl, u3⟩
  replace ra := ra.on u3
  replace t1 := t1.on u3
  replace t2 := t2.on u3
  have hb3 := below_chain hb2 u3
  clear u3 hb2
  go_wp2_with fail
  refine (good_row _ _ _ _ n true W3 t1 (by omega) (by omega) (by omega) ⟨fun _ => HGD.out, fun _ => rfl⟩).mono ?_
  rintro e W4 ⟨rfl, u4⟩
  replace ra := ra.on u4
  replace t1 := t1.on u4
  replace t2 := t2.on u4
  have hb4 := below_chain hb3 u4
  clear u4 hb3
  go_wp2_with fail
  refine (awake_b hb4).mono ?_
  rintro e w' ⟨rfl, hbe⟩
  go_wp2_with fail
  go_ret
  exact ⟨rfl, hbe⟩

theorem mendPuts_walk (a0 : Option Addr) (len0 cap0 : Nat) (z0 : List Int) (a1 : Int) (w : World) (w0 : IsRow .u8 w a0 len0 cap0 z0) (_ : (Lit.int .i64 a1).wf = true) :
    Calls Try.prog 15 #[.slice a0 len0 cap0, .int .i64 a1] w fun e w' => e = .returned (.bool true) ∧ Below w.heap.size w w' := by
  obtain ⟨a, ra⟩ := row_of w0
  clear w0
  by_cases h0 : 20 < len0
  · have d1 : decide (20 < (len0 : Int)) = true := by simp; omega
    clear ra
    go_enter Try.func15, Try.ntmps15
    go_wp2_with (go_at_call 60; refine (awake_any _).mono ?_; rintro e w' ⟨rfl, hb⟩)
    go_ret
    exact ⟨rfl, hb⟩
  · by_cases h1 : 40 < a1 ∧ a1 ≤ 255
    · have d1 : decide (20 < (len0 : Int)) = false := by simp; omega
      have d2 : decide (40 < a1) = true := decide_eq_true h1.1
      have d3 : decide (a1 ≤ 255) = true := decide_eq_true h1.2
      clear ra h1
      go_enter Try.func15, Try.ntmps15
      go_wp2_with (go_at_call 60; refine (awake_any _).mono ?_; rintro e w' ⟨rfl, hb⟩)
      go_ret
      exact ⟨rfl, hb⟩
    · by_cases hbad : len0 < 1 ∨ a1 < (len0 : Int) ∨ 255 < a1
      · refine puts_bad a0 len0 cap0 a1 w (by omega) ?_ hbad
        by_cases h2 : 40 < a1
        · exact .inr ⟨decide_eq_true h2, decide_eq_false (by omega)⟩
        · exact .inl (decide_eq_false h2)
      · obtain ⟨m, rfl⟩ : ∃ m : Nat, a1 = (m : Int) := ⟨a1.toNat, by omega⟩
        exact puts_ok a0 len0 cap0 m a w ra (by omega) (by omega) (by omega) (by omega)

theorem reads_bad (A : Option Addr) (n c : Nat) (k : Int) (w : World) (hn : n ≤ 8) (h : k < 1 ∨ (n : Int) < k ∨ 255 < n) :
    Calls Try.prog 16 #[.slice A n c, .int .i64 k] w fun e w' => e = .returned (.bool true) ∧ Below w.heap.size w w' := by
  have d1 : decide (8 < (n : Int)) = false := by simp; omega
  have hb0 := Below.refl w.heap.size w
  go_enter Try.func16, Try.ntmps16
  go_wp2_with fail
  refine (read_bad _ n _ k w h).mono ?_
  rintro e w' ⟨rfl, rfl⟩
  go_wp2_with fail
  refine (ref_read_bad _ n _ k w h).mono ?_
  rintro e w' ⟨rfl, rfl⟩
  go_wp2_with fail
  refine (same_b (RowAt.nil w) (RowAt.nil w) rfl (by decide)).mono ?_
  rintro e W1 ⟨rfl, u1⟩
  have hb1 := below_chain hb0 u1
  clear u1 hb0
  go_wp2_with fail
  refine (good_bad _ n _ k W1 h).mono ?_
  rintro e w' ⟨rfl, rfl⟩
  go_wp2_with fail
  refine (awake_b hb1).mono ?_
  rintro e w' ⟨rfl, hbe⟩
  go_wp2_with fail
  go_ret
  exact ⟨rfl, hbe⟩
set_option maxHeartbeats 400000 in
theorem reads_zero (A : Option Addr) (n c : Nat) (wo : List F) (k : Nat) (w : World) (ra : RowAt w A n c wo) (hk : 1 ≤ k) (hkn : k ≤ n) (hn : n ≤ 8) (f : List F) (D : Nat) (hf : Near wo k f) (hD : D = off f wo) (h0 : D = 0) :
    Calls Try.prog 16 #[.slice A n c, .int .i64 (k : Nat)] w fun e w' => e = .returned (.bool true) ∧ Below w.heap.size w w' := by
  have d1 : decide (8 < (n : Int)) = false := by simp; omega
  have HN := Lib.hid hf
  have HD := Lib.hid hD
  have HGD := Lib.hid (show ∃ f, f.length = k ∧ off f wo = 0 from ⟨f, hf.1, by rw [← hD]; exact h0⟩)
  have hz : ((D : Int) == 0) = true := by simp; exact h0
  have hz2 : ((D : Int) == (D : Int)) = true := by simp
  clear hf hD h0
  have hb0 := Below.refl w.heap.size w
  go_enter Try.func16, Try.ntmps16
  go_wp2_with fail
  refine (read_yes (k := k) ra (by omega) (by omega) (by omega) HN.out HD.out).mono ?_
  rintro e W1 ⟨A1, n1, c1, rfl, t1, u1⟩
  replace ra := ra.on u1
  have hb1 := below_chain hb0 u1
  clear u1 hb0
  go_wp2_with fail
  refine (ref_read_yes (k := k) ra (by omega) (by omega) (by omega) HN.out HD.out).mono ?_
  rintro e W2 ⟨A2, n2, c2, rfl, t2, u2⟩
  replace ra := ra.on u2
  replace t1 := t1.on u2
  have hb2 := below_chain hb1 u2
  clear u2 hb1
  go_wp2_with fail
  refine (same_b t1 t2 rfl (by rw [HN.out.1]; omega)).mono ?_
  rintro e W3 ⟨rfl, u3⟩
  replace ra := ra.on u3
  replace t1 := t1.on u3
  replace t2 := t2.on u3
  have hb3 := below_chain hb2 u3
  clear u3 hb2
  clear t1 t2
  go_wp2_with fail
  refine (good_row _ _ _ _ k true W3 ra (by omega) (by omega) (by omega) ⟨fun _ => HGD.out, fun _ => rfl⟩).mono ?_
  rintro e W4 ⟨rfl, u4⟩
  replace ra := ra.on u4
  have hb4 := below_chain hb3 u4
  clear u4 hb3
  go_wp2_with fail
  refine (awake_b hb4).mono ?_
  rintro e w' ⟨rfl, hbe⟩
  go_wp2_with fail
  go_ret
  exact ⟨rfl, hbe⟩
set_option maxHeartbeats 400000 in
theorem reads_some (A : Option Addr) (n c : Nat) (wo : List F) (k : Nat) (w : World) (ra : RowAt w A n c wo) (hk : 1 ≤ k) (hkn : k ≤ n) (hn : n ≤ 8) (f : List F) (D : Nat) (hf : Near wo k f) (hD : D = off f wo) (h0 : D ≠ 0) :
    Calls Try.prog 16 #[.slice A n c, .int .i64 (k : Nat)] w fun e w' => e = .returned (.bool true) ∧ Below w.heap.size w w' := by
  have d1 : decide (8 < (n : Int)) = false := by simp; omega
  have HN := Lib.hid hf
  have HD := Lib.hid hD
  have HGD := Lib.hid (show false = true ↔ ∃ f, f.length = k ∧ off f wo = 0 from ⟨fun h => absurd h (by decide), fun ⟨f', h1, h2⟩ => by
    have e := Near.uniq (by rw [ra.1]; omega) (by rw [ra.1]; exact hkn) (near_exact h1 h2) hf
    rw [e, ← hD] at h2
    exact absurd h2 h0⟩)
  have hz : ((D : Int) == 0) = false := by simp; exact h0
  have hz2 : ((D : Int) == (D : Int)) = true := by simp
  clear hf hD h0
  have hb0 := Below.refl w.heap.size w
  go_enter Try.func16, Try.ntmps16
  go_wp2_with fail
  refine (read_yes (k := k) ra (by omega) (by omega) (by omega) HN.out HD.out).mono ?_
  rintro e W1 ⟨A1, n1, c1, rfl, t1, u1⟩
  replace ra := ra.on u1
  have hb1 := below_chain hb0 u1
  clear u1 hb0
  go_wp2_with fail
  refine (ref_read_yes (k := k) ra (by omega) (by omega) (by omega) HN.out HD.out).mono ?_
  rintro e W2 ⟨A2, n2, c2, rfl, t2, u2⟩
  replace ra := ra.on u2
  replace t1 := t1.on u2
  have hb2 := below_chain hb1 u2
  clear u2 hb1
  go_wp2_with fail
  refine (same_b t1 t2 rfl (by rw [HN.out.1]; omega)).mono ?_
  rintro e W3 ⟨rfl, u3⟩
  replace ra := ra.on u3
  replace t1 := t1.on u3
  replace t2 := t2.on u3
  have hb3 := below_chain hb2 u3
  clear u3 hb2
  clear t1 t2
  go_wp2_with fail
  refine (good_row _ _ _ _ k false W3 ra (by omega) (by omega) (by omega) HGD.out).mono ?_
  rintro e W4 ⟨rfl, u4⟩
  replace ra := ra.on u4
  have hb4 := below_chain hb3 u4
  clear u4 hb3
  go_wp2_with fail
  refine (awake_b hb4).mono ?_
  rintro e w' ⟨rfl, hbe⟩
  go_wp2_with fail
  go_ret
  exact ⟨rfl, hbe⟩
set_option maxHeartbeats 400000 in
theorem reads_none (A : Option Addr) (n c : Nat) (wo : List F) (k : Nat) (w : World) (ra : RowAt w A n c wo) (hk : 1 ≤ k) (hkn : k ≤ n) (hn : n ≤ 8) (hno : GuessNo wo k) :
    Calls Try.prog 16 #[.slice A n c, .int .i64 (k : Nat)] w fun e w' => e = .returned (.bool true) ∧ Below w.heap.size w w' := by
  have d1 : decide (8 < (n : Int)) = false := by simp; omega
  have HN := Lib.hid hno
  have HGD := Lib.hid (show false = true ↔ ∃ f, f.length = k ∧ off f wo = 0 from ⟨fun h => absurd h (by decide), fun ⟨f, h1, h2⟩ => absurd (near_exact h1 h2) (hno f)⟩)
  clear hno
  have hb0 := Below.refl w.heap.size w
  go_enter Try.func16, Try.ntmps16
  go_wp2_with fail
  refine (read_no (k := k) ra (by omega) (by omega) (by omega) HN.out).mono ?_
  rintro e W1 ⟨rfl, u1⟩
  replace ra := ra.on u1
  have hb1 := below_chain hb0 u1
  clear u1 hb0
  go_wp2_with fail
  refine (ref_read_no (k := k) ra (by omega) (by omega) (by omega) HN.out).mono ?_
  rintro e W2 ⟨rfl, u2⟩
  replace ra := ra.on u2
  have hb2 := below_chain hb1 u2
  clear u2 hb1
  go_wp2_with fail
  refine (same_b (RowAt.nil W2) (RowAt.nil W2) rfl (by decide)).mono ?_
  rintro e W3 ⟨rfl, u3⟩
  replace ra := ra.on u3
  have hb3 := below_chain hb2 u3
  clear u3 hb2
  go_wp2_with fail
  refine (good_row _ _ _ _ k false W3 ra (by omega) (by omega) (by omega) HGD.out).mono ?_
  rintro e W4 ⟨rfl, u4⟩
  replace ra := ra.on u4
  have hb4 := below_chain hb3 u4
  clear u4 hb3
  go_wp2_with fail
  refine (awake_b hb4).mono ?_
  rintro e w' ⟨rfl, hbe⟩
  go_wp2_with fail
  go_ret
  exact ⟨rfl, hbe⟩

theorem mendReads_walk (a0 : Option Addr) (len0 cap0 : Nat) (z0 : List Int) (a1 : Int) (w : World) (w0 : IsRow .u8 w a0 len0 cap0 z0) (_ : (Lit.int .i64 a1).wf = true) :
    Calls Try.prog 16 #[.slice a0 len0 cap0, .int .i64 a1] w fun e w' => e = .returned (.bool true) ∧ Below w.heap.size w w' := by
  obtain ⟨a, ra⟩ := row_of w0
  clear w0
  by_cases h0 : 8 < len0
  · have d1 : decide (8 < (len0 : Int)) = true := by simp; omega
    clear ra
    go_enter Try.func16, Try.ntmps16
    go_wp2_with (go_at_call 60; refine (awake_any _).mono ?_; rintro e w' ⟨rfl, hb⟩)
    go_ret
    exact ⟨rfl, hb⟩
  · by_cases hbad : a1 < 1 ∨ (len0 : Int) < a1 ∨ 255 < len0
    · exact reads_bad a0 len0 cap0 a1 w (by omega) hbad
    · obtain ⟨k, rfl⟩ : ∃ k : Nat, a1 = (k : Int) := ⟨a1.toNat, by omega⟩
      by_cases hf : ∃ f, Near a k f
      · obtain ⟨f, hf⟩ := hf
        by_cases h2 : off f a = 0
        · exact reads_zero a0 len0 cap0 a k w ra (by omega) (by omega) (by omega) f _ hf rfl h2
        · exact reads_some a0 len0 cap0 a k w ra (by omega) (by omega) (by omega) f _ hf rfl h2
      · exact reads_none a0 len0 cap0 a k w ra (by omega) (by omega) (by omega) fun f h => hf ⟨f, h⟩
end Go.Proofs.Ytbbikkmmdedaiaa.Pr.Mend
