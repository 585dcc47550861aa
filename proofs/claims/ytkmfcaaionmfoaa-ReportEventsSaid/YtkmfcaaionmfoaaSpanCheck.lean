/- What spans.Check and the reference's Check compute; no condition. -/
import Derived.Test.YtkmfcaaionmfoaaSpanRow
set_option maxRecDepth 100000
namespace Go.Proofs.Ytkmfcaaionmfoaa.Sp
open Go.RowKit

theorem ret_i64 {a b : Int} (h : a = b) : Ending.returned (.int .i64 a) = .returned (.int .i64 b) := by rw [h]
theorem bel_on {g : Nat} {w w1 : World} (hg : g = w.heap.size) (h : Below g w w1) : Below w.heap.size w w1 := by subst hg; exact h
def ev (l : List Sn) (i : Nat) : Int := if frmB l i = true then 0 else 5
theorem ev_bad {l : List Sn} {i : Nat} (h : badB l i = true) : 5 = ev l (i + 1) := by
  unfold ev
  rw [frmB, h, Bool.not_true, Bool.and_false, if_neg (by decide)]
theorem ev_good {l : List Sn} {i : Nat} (h : badB l i = false) : ev l i = ev l (i + 1) := by
  unfold ev
  rw [frmB, h, Bool.not_false, Bool.and_true]
theorem ev_end {l : List Sn} (hl : ¬ 1024 < l.length) (hr : rngB l l.length = true) : ev l l.length = chkS l := by
  unfold ev chkS
  rw [if_neg hl, if_pos hr]
theorem rng_succ {l : List Sn} {i : Nat} (h : rngB l i = true) (h0 : outB (sp l i).1 = false) (h1 : outB (sp l i).2 = false) : rngB l (i + 1) = true := by
  rw [rngB, h, h0, h1]; rfl
theorem rng_no0 {l : List Sn} {i : Nat} (h0 : outB (sp l i).1 = true) : rngB l (i + 1) = false := by
  rw [rngB, h0]; simp
theorem rng_no1 {l : List Sn} {i : Nat} (h1 : outB (sp l i).2 = true) : rngB l (i + 1) = false := by
  rw [rngB, h1]; simp

set_option maxHeartbeats 1000000 in
theorem check_row (A : Option Addr) (n c : Nat) (l : List Sn) (w : World) (h1 : RowS w A n c l) :
    Calls Try.prog 13 #[.slice A n c] w fun e w' => e = .returned (.int .i64 (chkS l)) ∧ Below w.heap.size w w' := by
  obtain ⟨E, hE⟩ : ∃ E, E = chkS l := ⟨_, rfl⟩
  rw [← hE]
  by_cases hlong : 1024 < n
  · have d1 : decide (1024 < (n : Int)) = true := by simp; omega
    have HE := Lib.hid (show E = 3 by rw [hE]; exact chk_long (by rw [h1.1]; exact hlong))
    clear hE h1 hlong
    go_enter Try.func13, Try.ntmps13
    go_wp2_with fail
    go_ret
    exact ⟨ret_i64 HE.out.symm, Below.refl _ _⟩
  · have d1 : decide (1024 < (n : Int)) = false := by simp; omega
    have hn : n ≤ 1024 := by omega
    obtain ⟨g, hg⟩ : ∃ g, g = w.heap.size := ⟨_, rfl⟩
    have HG := Lib.hid hg
    have H1 := Lib.hid h1
    have HL := Lib.hid h1.1
    have HE := Lib.hid hE
    have hb0 : Below g w w := Below.refl _ _
    have hgw : g ≤ w.heap.size := by omega
    have HNL := Lib.hid (show ¬ 1024 < l.length by rw [h1.1]; exact hlong)
    clear hE h1 hlong hg
    go_enter Try.func13, Try.ntmps13
    go_wp2_with fail
    clear d1
    go_loopw [3, 11] (fun o v wr => ∃ (i : Nat) (e0 : Int), i ≤ n ∧ v = .int .i64 i ∧ o = .int .i64 e0 ∧ e0 = ev l i ∧ rngB l i = true ∧ Below g w wr) (fun _ v _ => n - (intOf v).toNat)
    case atStart => exact ⟨0, 0, by omega, rfl, rfl, rfl, rfl, hb0⟩
    case round =>
      obtain ⟨i, e0, hi, rfl, rfl, he, hr, hb⟩ := hrel
      clear hb0
      have HEV := Lib.hid he
      have HR := Lib.hid hr
      clear he hr
      have hgr : g ≤ wr.heap.size := by have := hb.size; omega
      by_cases hlt : i < n
      · have hrow := H1.out.on (bel_on HG.out hb)
        obtain ⟨ad, q, had, hq, hqb, c0, c1⟩ := hrow.cell hlt
        obtain ⟨s0, hs0⟩ : ∃ s0, s0 = (sp l i).1 := ⟨_, rfl⟩
        obtain ⟨s1, hs1⟩ : ∃ s1, s1 = (sp l i).2 := ⟨_, rfl⟩
        rw [← hs0] at c0
        rw [← hs1] at c1
        subst had
        cases hb0 : outB s0 with
        | true =>
          have M0 := Lib.hid (fun w => out_any s0 true w hb0)
          have HE2 := Lib.hid (show E = 2 by rw [HE.out]; exact chk_range HNL.out (n := i + 1) (by rw [HL.out]; omega) (rng_no0 (by rw [← hs0]; exact hb0)))
          clear hs0 hs1 hrow hb0
          go_wp2_with (go_at_call 28; (with_reducible refine (M0.out _).mono ?_); rintro e w' ⟨rfl, rfl⟩)
          go_ret
          exact ⟨ret_i64 HE2.out.symm, bel_on HG.out (hb.alloc hgr _)⟩
        | false =>
          have M0 := Lib.hid (fun w => out_any s0 false w hb0)
          cases hb1 : outB s1 with
          | true =>
            have M1 := Lib.hid (fun w => out_any s1 true w hb1)
            have HE2 := Lib.hid (show E = 2 by rw [HE.out]; exact chk_range HNL.out (n := i + 1) (by rw [HL.out]; omega) (rng_no1 (by rw [← hs1]; exact hb1)))
            clear hs0 hs1 hrow hb0 hb1
            go_wp2_with (go_at_call 28; first | ((with_reducible refine (M0.out _).mono ?_); rintro e w' ⟨rfl, rfl⟩) | ((with_reducible refine (M1.out _).mono ?_); rintro e w' ⟨rfl, rfl⟩))
            go_ret
            exact ⟨ret_i64 HE2.out.symm, bel_on HG.out (hb.alloc hgr _)⟩
          | false =>
            have M1 := Lib.hid (fun w => out_any s1 false w hb1)
            have HR2 := Lib.hid (rng_succ HR.out (by rw [← hs0]; exact hb0) (by rw [← hs1]; exact hb1))
            by_cases hge : s1 ≤ s0
            · have d2 : decide (s1 ≤ s0) = true := by simp [hge]
              have HEV2 := Lib.hid (show 5 = ev l (i + 1) from ev_bad (by unfold badB; rw [← hs0, ← hs1, d2]; rfl))
              clear hs0 hs1 hrow hb0 hb1 hge
              go_wp2_with (go_at_call 28; first | ((with_reducible refine (M0.out _).mono ?_); rintro e w' ⟨rfl, rfl⟩) | ((with_reducible refine (M1.out _).mono ?_); rintro e w' ⟨rfl, rfl⟩))
              go_roundw
              case rel => exact ⟨i + 1, 5, by omega, by go_num, rfl, HEV2.out, HR2.out, hb.alloc hgr _⟩
              case measure => simp [intOf]; omega
            · have d2 : decide (s1 ≤ s0) = false := by simp; omega
              by_cases hi0 : i = 0
              · have d3 : decide (0 < i) = false := by simp [hi0]
                have HEV2 := Lib.hid (show e0 = ev l (i + 1) by rw [HEV.out]; exact ev_good (by unfold badB; rw [← hs0, ← hs1, d2, d3]; rfl))
                clear hs0 hs1 hrow hb0 hb1 hge hi0
                go_wp2_with (go_at_call 28; first | ((with_reducible refine (M0.out _).mono ?_); rintro e w' ⟨rfl, rfl⟩) | ((with_reducible refine (M1.out _).mono ?_); rintro e w' ⟨rfl, rfl⟩))
                go_quiet (fail)
                go_wp2_with fail
                go_roundw
                case rel => exact ⟨i + 1, e0, by omega, by go_num, rfl, HEV2.out, HR2.out, below_drewN (hb.alloc hgr _) _⟩
                case measure => simp [intOf]; omega
              · have d3 : decide (0 < i) = true := by simp; omega
                obtain ⟨p, hp⟩ : ∃ p, p = i - 1 := ⟨_, rfl⟩
                have hpn : p < n := by omega
                obtain ⟨ad', q', had', hq', hqb', _, c1'⟩ := hrow.cell hpn
                injection had' with had'
                subst had'
                obtain ⟨p1, hp1⟩ : ∃ p1, p1 = (sp l p).2 := ⟨_, rfl⟩
                rw [← hp1] at c1'
                have es : IntKind.i64.wrap ((i : Int) - 1) = (p : Int) := by rw [IntWalk.i64_in _ ⟨by omega, by omega⟩]; omega
                have es0 : (0 : Int) ≤ (p : Int) := by omega
                have es1 : (p : Int) < (n : Int) := by omega
                by_cases hle : s0 ≤ p1
                · have d4 : decide (s0 ≤ p1) = true := by simp [hle]
                  have HEV2 := Lib.hid (show 5 = ev l (i + 1) from ev_bad (by unfold badB; rw [← hs0, ← hs1, d2, d3, ← hp, ← hp1, d4]; rfl))
                  clear hs0 hs1 hrow hb0 hb1 hge hi0 hp hp1 hle
                  go_wp2_with (go_at_call 28; first | ((with_reducible refine (M0.out _).mono ?_); rintro e w' ⟨rfl, rfl⟩) | ((with_reducible refine (M1.out _).mono ?_); rintro e w' ⟨rfl, rfl⟩))
                  go_quiet (fail)
                  clear es es0 es1
                  go_wp2_with fail
                  go_roundw
                  case rel => exact ⟨i + 1, 5, by omega, by go_num, rfl, HEV2.out, HR2.out, below_drewN (hb.alloc hgr _) _⟩
                  case measure => simp [intOf]; omega
                · have d4 : decide (s0 ≤ p1) = false := by simp; omega
                  have HEV2 := Lib.hid (show e0 = ev l (i + 1) by rw [HEV.out]; exact ev_good (by unfold badB; rw [← hs0, ← hs1, d2, d3, ← hp, ← hp1, d4]; rfl))
                  clear hs0 hs1 hrow hb0 hb1 hge hi0 hp hp1 hle
                  go_wp2_with (go_at_call 28; first | ((with_reducible refine (M0.out _).mono ?_); rintro e w' ⟨rfl, rfl⟩) | ((with_reducible refine (M1.out _).mono ?_); rintro e w' ⟨rfl, rfl⟩))
                  go_quiet (fail)
                  clear es es0 es1
                  go_wp2_with fail
                  go_roundw
                  case rel => exact ⟨i + 1, e0, by omega, by go_num, rfl, HEV2.out, HR2.out, below_drewN (hb.alloc hgr _) _⟩
                  case measure => simp [intOf]; omega
      · obtain rfl : i = n := by omega
        have HE2 := Lib.hid (show e0 = E by
          rw [HEV.out, HE.out, ← HL.out]
          exact ev_end HNL.out (by rw [HL.out]; exact HR.out))
        go_wp2_with fail
        go_ret
        exact ⟨ret_i64 HE2.out, bel_on HG.out hb⟩
end Go.Proofs.Ytkmfcaaionmfoaa.Sp
