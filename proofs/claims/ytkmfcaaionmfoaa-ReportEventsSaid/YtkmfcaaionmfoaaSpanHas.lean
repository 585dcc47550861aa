/- What Has, Len and Same compute, here and in the reference; no condition. -/
import Derived.Test.YtkmfcaaionmfoaaSpanSub
set_option maxRecDepth 100000
namespace Go.Proofs.Ytkmfcaaionmfoaa.Sp
open Go.RowKit

theorem ret_bool {a b : Bool} (h : a = b) : Ending.returned (.bool a) = .returned (.bool b) := by rw [h]
/-- is x among the first rows? -/
def hasN (l : List Sn) (x : Int) : Nat → Bool
  | 0 => false
  | n + 1 => hasN l x n || (decide ((sp l n).1 ≤ x) && decide (x < (sp l n).2))
def hasB (l : List Sn) (x : Int) : Bool := if chkS l = 0 then hasN l x l.length else false
theorem hasN_yes (l : List Sn) (x : Int) {n m : Nat} (h : hasN l x n = true) (hm : n ≤ m) : hasN l x m = true := by
  induction m with
  | zero =>
    have : n = 0 := by omega
    rw [this] at h; exact h
  | succ m ih =>
    by_cases e : n = m + 1
    · rw [← e]; exact h
    · rw [hasN, ih (by omega)]; rfl
theorem hasB_ok {l : List Sn} {x : Int} (h : chkS l = 0) : hasB l x = hasN l x l.length := by unfold hasB; rw [if_pos h]
theorem hasB_err {l : List Sn} {x : Int} (h : chkS l ≠ 0) : hasB l x = false := by unfold hasB; rw [if_neg h]
def lenN (l : List Sn) : Nat → Int
  | 0 => 0
  | n + 1 => lenN l n + ((sp l n).2 - (sp l n).1)
def lenB (l : List Sn) : Int := if chkS l = 0 then lenN l l.length else 0
theorem lenB_ok {l : List Sn} (h : chkS l = 0) : lenB l = lenN l l.length := by unfold lenB; rw [if_pos h]
theorem lenB_err {l : List Sn} (h : chkS l ≠ 0) : lenB l = 0 := by unfold lenB; rw [if_neg h]
theorem lenN_le {l : List Sn} (h : chkS l = 0) : ∀ n, n ≤ l.length → 0 ≤ lenN l n ∧ lenN l n ≤ 1099511627776 * n := by
  intro n
  induction n with
  | zero => intro _; simp [lenN]
  | succ n ih =>
    intro hn
    have h1 := ih (by omega)
    have h2 := chn_sp (chn_start h) n (by omega)
    have h3 : -1 < (sp l n).1 := by
      have := chn_sp (chn_start h) n (by omega)
      exact this.1
    unfold mx at h2
    rw [lenN]
    omega

theorem has_err (A : Option Addr) (n c : Nat) (l : List Sn) (x : Int) (w : World) (h1 : RowS w A n c l) (h0 : chkS l ≠ 0) :
    Calls Try.prog 15 #[.slice A n c, .int .i64 x] w fun e w' => e = .returned (.bool (hasB l x)) ∧ Below w.heap.size w w' := by
  rw [hasB_err h0]
  have MC := Lib.hid (check_row A n c l w h1)
  obtain ⟨E, hE⟩ : ∃ E, E = chkS l := ⟨_, rfl⟩
  rw [← hE] at MC h0
  have e1 : (E == 0) = false := by simp [h0]
  have e2 : (E != 0) = true := by simp [h0]
  clear hE h0 h1
  go_enter Try.func15, Try.ntmps15
  go_wp2_with (go_at_call 13; (with_reducible refine (MC.out).mono ?_); rintro e W1 ⟨rfl, u1⟩)
  go_ret
  exact ⟨rfl, u1⟩
theorem ref_has_err (A : Option Addr) (n c : Nat) (l : List Sn) (x : Int) (w : World) (h1 : RowS w A n c l) (h0 : chkS l ≠ 0) :
    Calls Try.prog 16 #[.slice A n c, .int .i64 x] w fun e w' => e = .returned (.bool (hasB l x)) ∧ Below w.heap.size w w' := by
  rw [hasB_err h0]
  have MC := Lib.hid (ref_check_row A n c l w h1)
  obtain ⟨E, hE⟩ : ∃ E, E = chkS l := ⟨_, rfl⟩
  rw [← hE] at MC h0
  have e1 : (E == 0) = false := by simp [h0]
  have e2 : (E != 0) = true := by simp [h0]
  clear hE h0 h1
  go_enter Try.func16, Try.ntmps16
  go_wp2_with (go_at_call 14; (with_reducible refine (MC.out).mono ?_); rintro e W1 ⟨rfl, u1⟩)
  go_ret
  exact ⟨rfl, u1⟩
theorem len_err (A : Option Addr) (n c : Nat) (l : List Sn) (w : World) (h1 : RowS w A n c l) (h0 : chkS l ≠ 0) :
    Calls Try.prog 17 #[.slice A n c] w fun e w' => e = .returned (.int .i64 (lenB l)) ∧ Below w.heap.size w w' := by
  rw [lenB_err h0]
  have MC := Lib.hid (check_row A n c l w h1)
  obtain ⟨E, hE⟩ : ∃ E, E = chkS l := ⟨_, rfl⟩
  rw [← hE] at MC h0
  have e1 : (E == 0) = false := by simp [h0]
  have e2 : (E != 0) = true := by simp [h0]
  clear hE h0 h1
  go_enter Try.func17, Try.ntmps17
  go_wp2_with (go_at_call 13; (with_reducible refine (MC.out).mono ?_); rintro e W1 ⟨rfl, u1⟩)
  go_ret
  exact ⟨rfl, u1⟩
theorem ref_len_err (A : Option Addr) (n c : Nat) (l : List Sn) (w : World) (h1 : RowS w A n c l) (h0 : chkS l ≠ 0) :
    Calls Try.prog 18 #[.slice A n c] w fun e w' => e = .returned (.int .i64 (lenB l)) ∧ Below w.heap.size w w' := by
  rw [lenB_err h0]
  have MC := Lib.hid (ref_check_row A n c l w h1)
  obtain ⟨E, hE⟩ : ∃ E, E = chkS l := ⟨_, rfl⟩
  rw [← hE] at MC h0
  have e1 : (E == 0) = false := by simp [h0]
  have e2 : (E != 0) = true := by simp [h0]
  clear hE h0 h1
  go_enter Try.func18, Try.ntmps18
  go_wp2_with (go_at_call 14; (with_reducible refine (MC.out).mono ?_); rintro e W1 ⟨rfl, u1⟩)
  go_ret
  exact ⟨rfl, u1⟩
set_option maxHeartbeats 1000000 in
theorem has_row (A : Option Addr) (n c : Nat) (l : List Sn) (x : Int) (w : World) (h1 : RowS w A n c l) (h0 : chkS l = 0) :
    Calls Try.prog 15 #[.slice A n c, .int .i64 x] w fun e w' => e = .returned (.bool (hasB l x)) ∧ Below w.heap.size w w' := by
  obtain ⟨E, hE⟩ : ∃ E, E = hasB l x := ⟨_, rfl⟩
  rw [← hE]
  rw [hasB_ok h0] at hE
  have MC := Lib.hid (check_row A n c l w h1)
  rw [h0] at MC
  have hn : n ≤ 1024 := by have := (chk_zero h0).1; have := h1.1; omega
  have HE := Lib.hid hE
  have HL := Lib.hid h1.1
  have H1 := Lib.hid h1
  clear hE h0 h1
  go_enter Try.func15, Try.ntmps15
  go_wp2_with fail
  refine (MC.out).mono ?_
  rintro e W1 ⟨rfl, u1⟩
  have HR1 := Lib.hid (H1.out.on u1)
  have HU1 := Lib.hid u1
  obtain ⟨g, hg⟩ : ∃ g, g = W1.heap.size := ⟨_, rfl⟩
  have HG := Lib.hid hg
  have hb0 : Below g W1 W1 := Below.refl _ _
  clear MC u1 hg
  go_wp2_with fail
  go_loopw [12] (fun v wr => ∃ (i : Nat), i ≤ n ∧ v = .int .i64 i ∧ Hid (hasN l x i = false) ∧ Below g W1 wr) (fun v _ => n - (intOf v).toNat)
  case atStart => exact ⟨0, by omega, rfl, Lib.hid rfl, hb0⟩
  case round =>
    obtain ⟨i, hi, rfl, hh, hb⟩ := hrel
    clear hb0
    have hgr : g ≤ wr.heap.size := by have := hb.size; have := HG.out; omega
    by_cases hlt : i < n
    · obtain ⟨ad, q, had, hq, hqb, c0, c1⟩ := (HR1.out.on (bel_on HG.out hb)).cell hlt
      obtain ⟨s0, hs0⟩ : ∃ s0, s0 = (sp l i).1 := ⟨_, rfl⟩
      obtain ⟨s1, hs1⟩ : ∃ s1, s1 = (sp l i).2 := ⟨_, rfl⟩
      rw [← hs0] at c0
      rw [← hs1] at c1
      subst had
      by_cases h1 : s0 ≤ x
      · have d1 : decide (s0 ≤ x) = true := by simp [h1]
        by_cases h2 : x < s1
        · have d2 : decide (x < s1) = true := by simp [h2]
          have HE2 := Lib.hid (show E = true by rw [HE.out]; exact hasN_yes l x (n := i + 1) (by rw [hasN, ← hs0, ← hs1, d1, d2]; simp) (by have := HL.out; omega))
          clear hs0 hs1 h1 h2
          go_wp2_with fail
          go_ret
          exact ⟨ret_bool HE2.out.symm, HU1.out.trans (bel_on' HU1.out.size (bel_on HG.out (hb.alloc hgr _)))⟩
        · have d2 : decide (x < s1) = false := by simp; omega
          have HH2 := Lib.hid (show hasN l x (i + 1) = false by rw [hasN, hh.out, ← hs0, ← hs1, d1, d2]; rfl)
          clear hs0 hs1 h1 h2
          go_wp2_with fail
          go_roundw
          case rel => exact ⟨i + 1, by omega, by go_num, HH2, hb.alloc hgr _⟩
          case measure => simp [intOf]; omega
      · have d1 : decide (s0 ≤ x) = false := by simp; omega
        have HH2 := Lib.hid (show hasN l x (i + 1) = false by rw [hasN, hh.out, ← hs0, d1]; rfl)
        clear hs0 hs1 h1
        go_wp2_with fail
        go_roundw
        case rel => exact ⟨i + 1, by omega, by go_num, HH2, hb.alloc hgr _⟩
        case measure => simp [intOf]; omega
    · obtain rfl : i = n := by omega
      have HE2 := Lib.hid (show E = false by rw [HE.out, HL.out]; exact hh.out)
      go_wp2_with fail
      go_ret
      exact ⟨ret_bool HE2.out.symm, HU1.out.trans (bel_on' HU1.out.size (bel_on HG.out hb))⟩
set_option maxHeartbeats 1000000 in
theorem ref_has_row (A : Option Addr) (n c : Nat) (l : List Sn) (x : Int) (w : World) (h1 : RowS w A n c l) (h0 : chkS l = 0) :
    Calls Try.prog 16 #[.slice A n c, .int .i64 x] w fun e w' => e = .returned (.bool (hasB l x)) ∧ Below w.heap.size w w' := by
  obtain ⟨E, hE⟩ : ∃ E, E = hasB l x := ⟨_, rfl⟩
  rw [← hE]
  rw [hasB_ok h0] at hE
  have MC := Lib.hid (ref_check_row A n c l w h1)
  rw [h0] at MC
  have hn : n ≤ 1024 := by have := (chk_zero h0).1; have := h1.1; omega
  have HE := Lib.hid hE
  have HL := Lib.hid h1.1
  have H1 := Lib.hid h1
  clear hE h0 h1
  go_enter Try.func16, Try.ntmps16
  go_wp2_with fail
  refine (MC.out).mono ?_
  rintro e W1 ⟨rfl, u1⟩
  have HR1 := Lib.hid (H1.out.on u1)
  have HU1 := Lib.hid u1
  clear MC u1
  go_wp2_with fail
  go_loop [5] (fun v => ∃ (i : Nat), i ≤ n ∧ v = .int .i64 i ∧ Hid (hasN l x i = false)) (fun v => n - (intOf v).toNat)
  case atStart => exact ⟨0, by omega, rfl, Lib.hid rfl⟩
  case round =>
    obtain ⟨i, hi, rfl, hh⟩ := hrel
    by_cases hlt : i < n
    · obtain ⟨ad, q, had, hq, hqb, c0, c1⟩ := HR1.out.cell hlt
      obtain ⟨s0, hs0⟩ : ∃ s0, s0 = (sp l i).1 := ⟨_, rfl⟩
      obtain ⟨s1, hs1⟩ : ∃ s1, s1 = (sp l i).2 := ⟨_, rfl⟩
      rw [← hs0] at c0
      rw [← hs1] at c1
      subst had
      by_cases h1 : s0 ≤ x
      · have d1 : decide (s0 ≤ x) = true := by simp [h1]
        by_cases h2 : x < s1
        · have d2 : decide (x < s1) = true := by simp [h2]
          have HE2 := Lib.hid (show E = true by rw [HE.out]; exact hasN_yes l x (n := i + 1) (by rw [hasN, ← hs0, ← hs1, d1, d2]; simp) (by have := HL.out; omega))
          clear hs0 hs1 h1 h2
          go_wp2_with fail
          go_ret
          exact ⟨ret_bool HE2.out.symm, HU1.out⟩
        · have d2 : decide (x < s1) = false := by simp; omega
          have HH2 := Lib.hid (show hasN l x (i + 1) = false by rw [hasN, hh.out, ← hs0, ← hs1, d1, d2]; rfl)
          clear hs0 hs1 h1 h2
          go_wp2_with fail
          go_round
          case rel => exact ⟨i + 1, by omega, by go_num, HH2⟩
          case measure => simp [intOf]; omega
      · have d1 : decide (s0 ≤ x) = false := by simp; omega
        have HH2 := Lib.hid (show hasN l x (i + 1) = false by rw [hasN, hh.out, ← hs0, d1]; rfl)
        clear hs0 hs1 h1
        go_wp2_with fail
        go_round
        case rel => exact ⟨i + 1, by omega, by go_num, HH2⟩
        case measure => simp [intOf]; omega
    · obtain rfl : i = n := by omega
      have HE2 := Lib.hid (show E = false by rw [HE.out, HL.out]; exact hh.out)
      go_wp2_with fail
      go_ret
      exact ⟨ret_bool HE2.out.symm, HU1.out⟩
end Go.Proofs.Ytkmfcaaionmfoaa.Sp
