/- What poly.Eval and the reference's Eval and at compute. -/
import Derived.Test.YtbbikkmmdedaiaaPolyRow
import Derived.Test.YtbbikkmmdedaiaaPoCuts
set_option maxRecDepth 100000
namespace Go.Proofs.Ytbbikkmmdedaiaa.Pr
open Go.RowKit Go.Proofs.Ytbbikkmmdedaiaa.Gf Go.Proofs.Ytbbikkmmdedaiaa.Vec

theorem fmul_at {x y Y : F} (h : x * y = Y) (w : World) : Calls Try.prog 33 #[.int .u8 (x.1 : Nat), .int .u8 (y.1 : Nat)] w fun e w' => e = .returned (.int .u8 (Y.1 : Nat)) ∧ w = w' :=
  mul_at x.1 y.1 Y.1 x.2 y.2 (congrArg Subtype.val h) w
theorem fadd_at {x y Y : F} (h : x + y = Y) (w : World) : Calls Try.prog 32 #[.int .u8 (x.1 : Nat), .int .u8 (y.1 : Nat)] w fun e w' => e = .returned (.int .u8 (Y.1 : Nat)) ∧ w = w' :=
  add_at x.1 y.1 Y.1 x.2 y.2 (congrArg Subtype.val h) w
theorem ref_fmul_at {x y Y : F} (h : x * y = Y) (w : World) : Calls Try.prog 34 #[.int .u8 (x.1 : Nat), .int .u8 (y.1 : Nat)] w fun e w' => e = .returned (.int .u8 (Y.1 : Nat)) ∧ w = w' := by
  rw [← h]
  exact ref_mul_any x.1 y.1 w x.2 y.2
theorem fxor {x y Y : F} (h : x + y = Y) : bits .xor .u8 (x.1 : Int) (y.1 : Int) = ((Y.1 : Nat) : Int) := by
  rw [← h]
  exact u8_xor_nat x.1 y.1 x.2 y.2
theorem pe_drop (l : List F) (x : F) (i : Nat) (h : i < l.length) : pe (l.drop i) x = co l i + x * pe (l.drop (i + 1)) x := by
  rw [List.drop_eq_getElem_cons h, pe_cons, co_in l i h]
theorem num_u8 {a b : Nat} (h : a = b) : Value.int .u8 (a : Int) = .int .u8 (b : Int) := by rw [h]

theorem eval_row (A : Option Addr) (n c : Nat) (l : List F) (x : F) (w : World) (h : RowAt w A n c l) (hn : n ≤ 100000) :
    Calls Try.prog 49 #[.slice A n c, .int .u8 (x.1 : Nat)] w fun e w' => e = .returned (.int .u8 ((pe l x).1 : Nat)) ∧ ∃ k, w' = w.drewN k := by
  obtain ⟨x0, hx0⟩ : ∃ x0, x0 = x.1 := ⟨_, rfl⟩
  obtain ⟨r, hr⟩ : ∃ r, r = (pe l x).1 := ⟨_, rfl⟩
  rw [← hx0, ← hr]
  have HX := Lib.hid hx0
  have HR := Lib.hid hr
  have H := Lib.hid h
  have HN := Lib.hid h.1
  clear hx0 hr h
  go_enter Try.func49, Try.ntmps49
  go_wp2_with fail
  go_loopw [5, 6] (fun o i wr => ∃ (t : Nat) (a : Nat), t ≤ n ∧ i = .int .i64 ((t : Int) - 1) ∧ o = .int .u8 (a : Int) ∧ a = (pe (l.drop t) x).1 ∧ ∃ q, wr = w.drewN q) (fun _ i _ => (intOf i + 1).toNat)
  case atStart =>
    refine ⟨n, 0, by omega, rfl, rfl, ?_, 0, rfl⟩
    rw [List.drop_eq_nil_of_le (by have := HN.out; omega)]
    rfl
  case round =>
    obtain ⟨t, a, ht, rfl, rfl, ha, q, hq⟩ := hrel
    have HA := Lib.hid ha
    have HQ := Lib.hid hq
    have hrow : RowAt wr A n c l := by rw [hq]; exact H.out
    clear ha hq
    cases t with
    | zero =>
      rw [show ((0 : Nat) : Int) - 1 = -1 from rfl]
      clear hrow
      go_wp2_with fail
      go_ret
      exact ⟨congrArg _ (num_u8 (by rw [HA.out, HR.out]; rfl)), q, HQ.out⟩
    | succ s =>
      rw [show ((s + 1 : Nat) : Int) - 1 = (s : Int) by omega]
      have hlt : s < n := by omega
      obtain ⟨ad, rfl, _, hc⟩ := hrow.cell hlt
      obtain ⟨b, hb⟩ : ∃ b, b = (co l s).1 := ⟨_, rfl⟩
      obtain ⟨y, hy⟩ : ∃ y, y = (pe (l.drop (s + 1)) x * x).1 := ⟨_, rfl⟩
      obtain ⟨z, hz⟩ : ∃ z, z = (pe (l.drop s) x).1 := ⟨_, rfl⟩
      rw [← hb] at hc
      have M1 := Lib.hid (show ∀ w, Calls Try.prog 33 #[.int .u8 (a : Nat), .int .u8 (x0 : Nat)] w fun e w' => e = .returned (.int .u8 (y : Nat)) ∧ w = w' by
        rw [HA.out, HX.out, hy]; exact fmul_at rfl)
      have M2 := Lib.hid (show ∀ w, Calls Try.prog 32 #[.int .u8 (y : Nat), .int .u8 (b : Nat)] w fun e w' => e = .returned (.int .u8 (z : Nat)) ∧ w = w' by
        rw [hy, hb, hz]
        exact fadd_at (by rw [pe_drop l x s (by rw [HN.out]; omega), F.mul_comm x, F.add_comm]))
      have HZ := Lib.hid hz
      clear hrow hb hy hz
      go_wp2_with fail
      go_quiet ((first | (go_at_call 33; exact Calls.quiet_of_same ((M1.out _).mono fun _ _ h => ⟨h.1, h.2.symm⟩)) | (go_at_call 32; exact Calls.quiet_of_same ((M2.out _).mono fun _ _ h => ⟨h.1, h.2.symm⟩))))
      go_wp2_with fail
      go_roundw
      case rel => exact ⟨s, z, by omega, rfl, rfl, HZ.out, q + _, by rw [HQ.out, World.drewN_drewN]⟩
      case measure => simp [intOf]

theorem ref_eval_row (A : Option Addr) (n c : Nat) (l : List F) (x : F) (w : World) (h : RowAt w A n c l) (hn : n ≤ 100000) :
    Calls Try.prog 50 #[.slice A n c, .int .u8 (x.1 : Nat)] w fun e w' => e = .returned (.int .u8 ((pe l x).1 : Nat)) ∧ w = w' := by
  obtain ⟨x0, hx0⟩ : ∃ x0, x0 = x.1 := ⟨_, rfl⟩
  obtain ⟨r, hr⟩ : ∃ r, r = (pe l x).1 := ⟨_, rfl⟩
  rw [← hx0, ← hr]
  have HX := Lib.hid hx0
  have HR := Lib.hid hr
  have H := Lib.hid h
  have HN := Lib.hid h.1
  clear hx0 hr h
  go_enter Try.func50, Try.ntmps50
  go_wp2_with fail
  go_loop [5, 6, 7] (fun o p i => ∃ (t : Nat) (a b : F) (a0 b0 : Nat), t ≤ n ∧ i = .int .i64 (t : Int) ∧ o = .int .u8 (a0 : Int) ∧ p = .int .u8 (b0 : Int) ∧ a0 = a.1 ∧ b0 = b.1 ∧ a + b * pe (l.drop t) x = pe l x) (fun _ _ i => n - (intOf i).toNat)
  case atStart => exact ⟨0, 0, 1, 0, 1, by omega, rfl, rfl, rfl, rfl, rfl, by rw [F.one_mul, F.zero_add]; rfl⟩
  case round =>
    obtain ⟨t, a, b, a0, b0, ht, rfl, rfl, rfl, ha, hb, he⟩ := hrel
    have HA := Lib.hid ha
    have HB := Lib.hid hb
    have HE := Lib.hid he
    clear ha hb he
    by_cases hlt : t < n
    · obtain ⟨ad, rfl, _, hc⟩ := H.out.cell hlt
      obtain ⟨d, hd⟩ : ∃ d, d = (co l t).1 := ⟨_, rfl⟩
      obtain ⟨y, hy⟩ : ∃ y, y = (co l t * b).1 := ⟨_, rfl⟩
      obtain ⟨z, hz⟩ : ∃ z, z = (a + co l t * b).1 := ⟨_, rfl⟩
      obtain ⟨u, hu⟩ : ∃ u, u = (b * x).1 := ⟨_, rfl⟩
      rw [← hd] at hc
      have M1 := Lib.hid (show ∀ w, Calls Try.prog 34 #[.int .u8 (d : Nat), .int .u8 (b0 : Nat)] w fun e w' => e = .returned (.int .u8 (y : Nat)) ∧ w = w' by
        rw [hd, HB.out, hy]; exact ref_fmul_at rfl)
      have M2 := Lib.hid (show ∀ w, Calls Try.prog 34 #[.int .u8 (b0 : Nat), .int .u8 (x0 : Nat)] w fun e w' => e = .returned (.int .u8 (u : Nat)) ∧ w = w' by
        rw [HB.out, HX.out, hu]; exact ref_fmul_at rfl)
      have hxo : bits .xor .u8 (a0 : Int) (y : Int) = (z : Int) := by rw [HA.out, hy, hz]; exact fxor rfl
      have HZ := Lib.hid hz
      have HU := Lib.hid hu
      clear hd hy hz hu
      go_wp2_with (go_at_call 34; first
        | (with_reducible refine (M1.out _).mono ?_; rintro e w' ⟨rfl, rfl⟩)
        | (with_reducible refine (M2.out _).mono ?_; rintro e w' ⟨rfl, rfl⟩))
      go_round
      case rel =>
        refine ⟨t + 1, a + co l t * b, b * x, z, u, by omega, by go_num, rfl, rfl, HZ.out, HU.out, ?_⟩
        rw [← HE.out, pe_drop l x t (by rw [HN.out]; exact hlt), F.mul_add]
        ac_rfl
      case measure => simp [intOf]; omega
    · obtain rfl : t = n := by omega
      go_wp2_with fail
      go_ret
      refine ⟨congrArg _ (num_u8 ?_), rfl⟩
      have := HE.out
      rw [List.drop_eq_nil_of_le (by have := HN.out; omega), pe_nil, F.mul_zero, F.add_zero] at this
      rw [HA.out, HR.out, this]

theorem at_row (A : Option Addr) (n c : Nat) (l : List F) (i : Nat) (w : World) (h : RowAt w A n c l) :
    Calls Try.prog 68 #[.slice A n c, .int .i64 (i : Nat)] w fun e w' => e = .returned (.int .u8 ((co l i).1 : Nat)) ∧ w = w' := by
  obtain ⟨r, hr⟩ : ∃ r, r = (co l i).1 := ⟨_, rfl⟩
  rw [← hr]
  by_cases hlt : i < n
  · obtain ⟨ad, rfl, _, hc⟩ := h.cell hlt
    rw [← hr] at hc
    have hd : decide (n ≤ i) = false := by simp; omega
    clear hr h
    go_enter Try.func68, Try.ntmps68
    go_wp2_with fail
    go_ret
    exact ⟨rfl, rfl⟩
  · have hd : decide (n ≤ i) = true := by simp; omega
    have HR := Lib.hid (show r = 0 by rw [hr, co_out l i (by have := h.1; omega)]; rfl)
    clear hr h hlt
    go_enter Try.func68, Try.ntmps68
    go_wp2_with fail
    go_ret
    exact ⟨congrArg _ (num_u8 HR.out.symm), rfl⟩
end Go.Proofs.Ytbbikkmmdedaiaa.Pr
