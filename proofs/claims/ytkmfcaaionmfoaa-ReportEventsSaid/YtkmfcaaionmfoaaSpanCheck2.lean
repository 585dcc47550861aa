/- What the reference's Check, and both checks, compute; no condition. -/
import Derived.Test.YtkmfcaaionmfoaaSpanCheck
set_option maxRecDepth 100000
namespace Go.Proofs.Ytkmfcaaionmfoaa.Sp
open Go.RowKit

theorem outB_true {x : Int} (h : outB x = true) : (decide (x < 0) = true) ∨ (decide (x < 0) = false ∧ decide (1099511627776 < x) = true) := by
  unfold outB at h
  cases h2 : decide (x < 0)
  · rw [h2] at h; exact .inr ⟨rfl, h⟩
  · exact .inl rfl
theorem outB_false {x : Int} (h : outB x = false) : decide (x < 0) = false ∧ decide (1099511627776 < x) = false := by
  unfold outB at h
  rw [Bool.or_eq_false_iff] at h
  exact h

set_option maxHeartbeats 1000000 in
theorem ref_check_row (A : Option Addr) (n c : Nat) (l : List Sn) (w : World) (h1 : RowS w A n c l) :
    Calls Try.prog 14 #[.slice A n c] w fun e w' => e = .returned (.int .i64 (chkS l)) ∧ Below w.heap.size w w' := by
  obtain ⟨E, hE⟩ : ∃ E, E = chkS l := ⟨_, rfl⟩
  rw [← hE]
  by_cases hlong : 1024 < n
  · have d1 : decide (1024 < (n : Int)) = true := by simp; omega
    have HE := Lib.hid (show E = 3 by rw [hE]; exact chk_long (by rw [h1.1]; exact hlong))
    clear hE h1 hlong
    go_enter Try.func14, Try.ntmps14
    go_wp2_with fail
    go_ret
    exact ⟨ret_i64 HE.out.symm, Below.refl _ _⟩
  · have d1 : decide (1024 < (n : Int)) = false := by simp; omega
    have hn : n ≤ 1024 := by omega
    have H1 := Lib.hid h1
    have HL := Lib.hid h1.1
    have HE := Lib.hid hE
    have HNL := Lib.hid (show ¬ 1024 < l.length by rw [h1.1]; exact hlong)
    clear hE h1 hlong
    go_enter Try.func14, Try.ntmps14
    go_wp2_with fail
    clear d1
    go_loop [3] (fun v => ∃ i : Nat, i ≤ n ∧ v = .int .i64 i ∧ rngB l i = true) (fun v => n - (intOf v).toNat)
    case atStart => exact ⟨0, by omega, rfl, rfl⟩
    case round =>
      obtain ⟨i, hi, rfl, hr⟩ := hrel
      have HR := Lib.hid hr
      clear hr
      by_cases hlt : i < n
      · obtain ⟨ad, q, had, hq, hqb, c0, c1⟩ := H1.out.cell hlt
        obtain ⟨s0, hs0⟩ : ∃ s0, s0 = (sp l i).1 := ⟨_, rfl⟩
        obtain ⟨s1, hs1⟩ : ∃ s1, s1 = (sp l i).2 := ⟨_, rfl⟩
        rw [← hs0] at c0
        rw [← hs1] at c1
        subst had
        cases hb0 : outB s0 with
        | true =>
          have HE2 := Lib.hid (show E = 2 by rw [HE.out]; exact chk_range HNL.out (n := i + 1) (by rw [HL.out]; omega) (rng_no0 (by rw [← hs0]; exact hb0)))
          clear hs0 hs1
          rcases outB_true hb0 with h1 | ⟨h1, h2⟩
          all_goals
            clear hb0
            go_wp2_with fail
            go_ret
            exact ⟨ret_i64 HE2.out.symm, Below.refl _ _⟩
        | false =>
          obtain ⟨a1, a2⟩ := outB_false hb0
          cases hb1 : outB s1 with
          | true =>
            have HE2 := Lib.hid (show E = 2 by rw [HE.out]; exact chk_range HNL.out (n := i + 1) (by rw [HL.out]; omega) (rng_no1 (by rw [← hs1]; exact hb1)))
            clear hs0 hs1 hb0
            rcases outB_true hb1 with h1 | ⟨h1, h2⟩
            all_goals
              clear hb1
              go_wp2_with fail
              go_ret
              exact ⟨ret_i64 HE2.out.symm, Below.refl _ _⟩
          | false =>
            obtain ⟨b1, b2⟩ := outB_false hb1
            have HR2 := Lib.hid (rng_succ HR.out (by rw [← hs0]; exact hb0) (by rw [← hs1]; exact hb1))
            clear hs0 hs1 hb0 hb1
            go_wp2_with fail
            go_round
            case rel => exact ⟨i + 1, by omega, by go_num, HR2.out⟩
            case measure => simp [intOf]; omega
      · obtain rfl : i = n := by omega
        have HRR := Lib.hid (show rngB l l.length = true by rw [HL.out]; exact HR.out)
        go_wp2_with fail
        go_loopw [4] (fun v wr => ∃ i2 : Nat, i2 ≤ i ∧ v = .int .i64 i2 ∧ frmB l i2 = true ∧ ∃ k, wr = w.drewN k) (fun v _ => i - (intOf v).toNat)
        case atStart => exact ⟨0, by omega, rfl, rfl, 0, rfl⟩
        case round =>
          obtain ⟨i2, hi2, rfl, hf, k, hk⟩ := hrel
          have HF := Lib.hid hf
          have HK := Lib.hid hk
          have hrow : RowS wr A i c l := by rw [hk]; exact H1.out
          clear hf hk
          by_cases hlt2 : i2 < i
          · obtain ⟨ad, q, had, hq, hqb, c0, c1⟩ := hrow.cell hlt2
            obtain ⟨s0, hs0⟩ : ∃ s0, s0 = (sp l i2).1 := ⟨_, rfl⟩
            obtain ⟨s1, hs1⟩ : ∃ s1, s1 = (sp l i2).2 := ⟨_, rfl⟩
            rw [← hs0] at c0
            rw [← hs1] at c1
            subst had
            by_cases hge : s1 ≤ s0
            · have d2 : decide (s1 ≤ s0) = true := by simp [hge]
              have HE2 := Lib.hid (show E = 5 by
                rw [HE.out]
                exact chk_form HNL.out HRR.out (frmB_no l (n := i2 + 1) (by rw [frmB]; unfold badB; rw [← hs0, ← hs1, d2]; simp) (by rw [HL.out]; omega)))
              clear hs0 hs1 hrow hge
              go_wp2_with fail
              go_quiet (fail)
              go_wp2_with fail
              go_ret
              exact ⟨ret_i64 HE2.out.symm, by rw [HK.out]; exact below_drewN (below_drewN (Below.refl _ _) _) _⟩
            · have d2 : decide (s1 ≤ s0) = false := by simp; omega
              by_cases hi0 : i2 = 0
              · have d3 : decide (0 < i2) = false := by simp [hi0]
                have HF2 := Lib.hid (show frmB l (i2 + 1) = true by rw [frmB, HF.out]; unfold badB; rw [← hs0, ← hs1, d2, d3]; rfl)
                clear hs0 hs1 hrow hge hi0
                go_wp2_with fail
                go_quiet (fail)
                go_wp2_with fail
                go_roundw
                case rel => exact ⟨i2 + 1, by omega, by go_num, HF2.out, k + _, by rw [HK.out, World.drewN_drewN]⟩
                case measure => simp [intOf]; omega
              · have d3 : decide (0 < i2) = true := by simp; omega
                obtain ⟨p, hp⟩ : ∃ p, p = i2 - 1 := ⟨_, rfl⟩
                have hpn : p < i := by omega
                obtain ⟨ad', q', had', hq', hqb', _, c1'⟩ := hrow.cell hpn
                injection had' with had'
                subst had'
                obtain ⟨p1, hp1⟩ : ∃ p1, p1 = (sp l p).2 := ⟨_, rfl⟩
                rw [← hp1] at c1'
                have es : IntKind.i64.wrap ((i2 : Int) - 1) = (p : Int) := by rw [IntWalk.i64_in _ ⟨by omega, by omega⟩]; omega
                have es0 : (0 : Int) ≤ (p : Int) := by omega
                have es1 : (p : Int) < (i : Int) := by omega
                by_cases hle : s0 ≤ p1
                · have d4 : decide (s0 ≤ p1) = true := by simp [hle]
                  have HE2 := Lib.hid (show E = 5 by
                    rw [HE.out]
                    exact chk_form HNL.out HRR.out (frmB_no l (n := i2 + 1) (by rw [frmB]; unfold badB; rw [← hs0, ← hs1, d2, d3, ← hp, ← hp1, d4]; simp) (by rw [HL.out]; omega)))
                  clear hs0 hs1 hrow hge hi0 hp hp1 hle
                  go_wp2_with fail
                  go_quiet (fail)
                  clear es es0 es1
                  go_wp2_with fail
                  go_ret
                  exact ⟨ret_i64 HE2.out.symm, by rw [HK.out]; exact below_drewN (below_drewN (Below.refl _ _) _) _⟩
                · have d4 : decide (s0 ≤ p1) = false := by simp; omega
                  have HF2 := Lib.hid (show frmB l (i2 + 1) = true by rw [frmB, HF.out]; unfold badB; rw [← hs0, ← hs1, d2, d3, ← hp, ← hp1, d4]; rfl)
                  clear hs0 hs1 hrow hge hi0 hp hp1 hle
                  go_wp2_with fail
                  go_quiet (fail)
                  clear es es0 es1
                  go_wp2_with fail
                  go_roundw
                  case rel => exact ⟨i2 + 1, by omega, by go_num, HF2.out, k + _, by rw [HK.out, World.drewN_drewN]⟩
                  case measure => simp [intOf]; omega
          · obtain rfl : i2 = i := by omega
            have HE2 := Lib.hid (show E = 0 by rw [HE.out]; exact chk_good HNL.out HRR.out (by rw [HL.out]; exact HF.out))
            clear hrow
            go_wp2_with fail
            go_ret
            exact ⟨ret_i64 HE2.out.symm, by rw [HK.out]; exact below_drewN (Below.refl _ _) _⟩

/-! ### May a row be put in, or taken out? -/
def badArg (f t : Int) : Bool := decide (f < 0) || (decide (t ≤ f) || decide (1099511627776 < t))
def chkA (l : List Sn) (f t : Int) : Int := if chkS l = 0 then (if badArg f t = true then 1 else 0) else chkS l
theorem chkA_err {l : List Sn} {f t : Int} (h : chkS l ≠ 0) : chkA l f t = chkS l := by unfold chkA; rw [if_neg h]
theorem chkA_arg {l : List Sn} {f t : Int} (h : chkS l = 0) (h2 : badArg f t = true) : chkA l f t = 1 := by unfold chkA; rw [if_pos h, if_pos h2]
theorem chkA_ok {l : List Sn} {f t : Int} (h : chkS l = 0) (h2 : badArg f t = false) : chkA l f t = 0 := by unfold chkA; rw [if_pos h, if_neg (by rw [h2]; decide)]
theorem chkA_zero {l : List Sn} {f t : Int} (h : chkA l f t = 0) : chkS l = 0 ∧ 0 ≤ f ∧ f < t ∧ t ≤ mx := by
  unfold chkA at h
  split at h
  · rename_i h0
    split at h
    · cases h
    · rename_i h1
      unfold badArg at h1
      unfold mx
      simp at h1
      exact ⟨h0, by omega, by omega, by omega⟩
  · exact absurd h (by assumption)
theorem badArg_true {f t : Int} (h : badArg f t = true) : (decide (f < 0) = true) ∨ (decide (f < 0) = false ∧ decide (t ≤ f) = true) ∨ (decide (f < 0) = false ∧ decide (t ≤ f) = false ∧ decide (1099511627776 < t) = true) := by
  unfold badArg at h
  cases h2 : decide (f < 0)
  · rw [h2] at h
    cases h3 : decide (t ≤ f)
    · rw [h3] at h; exact .inr (.inr ⟨rfl, rfl, h⟩)
    · exact .inr (.inl ⟨rfl, rfl⟩)
  · exact .inl rfl
theorem badArg_false {f t : Int} (h : badArg f t = false) : decide (f < 0) = false ∧ decide (t ≤ f) = false ∧ decide (1099511627776 < t) = false := by
  unfold badArg at h
  rw [Bool.or_eq_false_iff, Bool.or_eq_false_iff] at h
  exact h
theorem check2_row (A : Option Addr) (n c : Nat) (l : List Sn) (f t E : Int) (w : World) (h1 : RowS w A n c l) (hE : E = chkA l f t) :
    Calls Try.prog 25 #[.slice A n c, .int .i64 f, .int .i64 t] w fun e w' => e = .returned (.int .i64 E) ∧ Below w.heap.size w w' := by
  have MC := Lib.hid (check_row A n c l w h1)
  by_cases h0 : chkS l = 0
  · rw [h0] at MC
    cases hb : badArg f t with
    | true =>
      have HE := Lib.hid (show E = 1 by rw [hE]; exact chkA_arg h0 hb)
      clear hE h0 h1
      rcases badArg_true hb with a1 | ⟨a1, a2⟩ | ⟨a1, a2, a3⟩
      all_goals
        clear hb
        go_enter Try.func25, Try.ntmps25
        go_wp2_with (go_at_call 13; (with_reducible refine (MC.out).mono ?_); rintro e W1 ⟨rfl, u1⟩)
        go_ret
        exact ⟨ret_i64 HE.out.symm, u1⟩
    | false =>
      have HE := Lib.hid (show E = 0 by rw [hE]; exact chkA_ok h0 hb)
      obtain ⟨a1, a2, a3⟩ := badArg_false hb
      clear hE h0 h1 hb
      go_enter Try.func25, Try.ntmps25
      go_wp2_with (go_at_call 13; (with_reducible refine (MC.out).mono ?_); rintro e W1 ⟨rfl, u1⟩)
      go_ret
      exact ⟨ret_i64 HE.out.symm, u1⟩
  · rw [← chkA_err (f := f) (t := t) h0, ← hE] at MC
    rw [← chkA_err (f := f) (t := t) h0, ← hE] at h0
    have e1 : (E == 0) = false := by simp [h0]
    have e2 : (E != 0) = true := by simp [h0]
    clear hE h0 h1
    go_enter Try.func25, Try.ntmps25
    go_wp2_with (go_at_call 13; (with_reducible refine (MC.out).mono ?_); rintro e W1 ⟨rfl, u1⟩)
    go_ret
    exact ⟨rfl, u1⟩
theorem ref_check2_row (A : Option Addr) (n c : Nat) (l : List Sn) (f t E : Int) (w : World) (h1 : RowS w A n c l) (hE : E = chkA l f t) :
    Calls Try.prog 27 #[.slice A n c, .int .i64 f, .int .i64 t] w fun e w' => e = .returned (.int .i64 E) ∧ Below w.heap.size w w' := by
  have MC := Lib.hid (ref_check_row A n c l w h1)
  by_cases h0 : chkS l = 0
  · rw [h0] at MC
    cases hb : badArg f t with
    | true =>
      have HE := Lib.hid (show E = 1 by rw [hE]; exact chkA_arg h0 hb)
      clear hE h0 h1
      rcases badArg_true hb with a1 | ⟨a1, a2⟩ | ⟨a1, a2, a3⟩
      all_goals
        clear hb
        go_enter Try.func27, Try.ntmps27
        go_wp2_with (go_at_call 14; (with_reducible refine (MC.out).mono ?_); rintro e W1 ⟨rfl, u1⟩)
        go_ret
        exact ⟨ret_i64 HE.out.symm, u1⟩
    | false =>
      have HE := Lib.hid (show E = 0 by rw [hE]; exact chkA_ok h0 hb)
      obtain ⟨a1, a2, a3⟩ := badArg_false hb
      clear hE h0 h1 hb
      go_enter Try.func27, Try.ntmps27
      go_wp2_with (go_at_call 14; (with_reducible refine (MC.out).mono ?_); rintro e W1 ⟨rfl, u1⟩)
      go_ret
      exact ⟨ret_i64 HE.out.symm, u1⟩
  · rw [← chkA_err (f := f) (t := t) h0, ← hE] at MC
    rw [← chkA_err (f := f) (t := t) h0, ← hE] at h0
    have e1 : (E == 0) = false := by simp [h0]
    have e2 : (E != 0) = true := by simp [h0]
    clear hE h0 h1
    go_enter Try.func27, Try.ntmps27
    go_wp2_with (go_at_call 14; (with_reducible refine (MC.out).mono ?_); rintro e W1 ⟨rfl, u1⟩)
    go_ret
    exact ⟨rfl, u1⟩
end Go.Proofs.Ytkmfcaaionmfoaa.Sp
