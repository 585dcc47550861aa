/- What the reference's Sub computes; no condition. -/
import Derived.Test.YtkmfcaaionmfoaaSpanSub
set_option maxRecDepth 100000
namespace Go.Proofs.Ytkmfcaaionmfoaa.Sp
open Go.RowKit

theorem OwnS.drewN {w : World} {B : Nat} {v : Value} {l : List Sn} (h : OwnS w B v l) (k : Nat) : OwnS (w.drewN k) B v l := h
theorem cell0_any (w : World) (x y : Value) : (w.alloc (.cells #[x, y] 54)).cell? ⟨w.heap.size, 0, none⟩ = some x := by go_simp
theorem cell1_any (w : World) (x y : Value) : (w.alloc (.cells #[x, y] 54)).cell? ⟨w.heap.size, 0 + 1, none⟩ = some y := by go_simp
theorem cell0_new (w : World) (k : Nat) (x y : Value) : ((w.drewN k).alloc (.cells #[x, y] 54)).cell? ⟨w.heap.size, 0, none⟩ = some x := cell0_any (w.drewN k) x y
theorem cell1_new (w : World) (k : Nat) (x y : Value) : ((w.drewN k).alloc (.cells #[x, y] 54)).cell? ⟨w.heap.size, 0 + 1, none⟩ = some y := cell1_any (w.drewN k) x y
theorem pcs_both {a : List Sn} {s0 x y s1 : Int} (h : s0 < x) (h2 : y < s1) : a ++ [(s0, x)] ++ [(y, s1)] = a ++ pcs s0 x y s1 2 := by simp [pcs, piece_on h, piece_on h2]
theorem pcs_left {a : List Sn} {s0 x y s1 : Int} (h : s0 < x) (h2 : ¬ y < s1) : a ++ [(s0, x)] = a ++ pcs s0 x y s1 2 := by simp [pcs, piece_on h, piece_off h2]
theorem pcs_right {a : List Sn} {s0 x y s1 : Int} (h : ¬ s0 < x) (h2 : y < s1) : a ++ [(y, s1)] = a ++ pcs s0 x y s1 2 := by simp [pcs, piece_off h, piece_on h2]
theorem pcs_none {a : List Sn} {s0 x y s1 : Int} (h : ¬ s0 < x) (h2 : ¬ y < s1) : a = a ++ pcs s0 x y s1 2 := by simp [pcs, piece_off h, piece_off h2]
theorem ref_sub_err (A : Option Addr) (n c : Nat) (l : List Sn) (f t E : Int) (w : World) (h1 : RowS w A n c l) (hE : E = chkA l f t) (h0 : E ≠ 0) :
    Calls Try.prog 11 #[.slice A n c, .int .i64 f, .int .i64 t] w (GvE E w) := by
  have MC := Lib.hid (ref_check2_row A n c l f t E w h1 hE)
  have e1 : (E == 0) = false := by simp [h0]
  have e2 : (E != 0) = true := by simp [h0]
  clear hE h0 h1
  go_enter Try.func11, Try.ntmps11
  go_wp2_with (go_at_call 27; (with_reducible refine (MC.out).mono ?_); rintro e W1 ⟨rfl, u1⟩)
  go_ret2
  exact ⟨rfl, u1⟩

set_option maxHeartbeats 2000000 in
theorem ref_sub_row (A : Option Addr) (n c : Nat) (l R : List Sn) (f t : Int) (w : World) (h1 : RowS w A n c l) (h0 : chkA l f t = 0) (hR : R = subP l f t) :
    Calls Try.prog 11 #[.slice A n c, .int .i64 f, .int .i64 t] w (GvR R w) := by
  have MC := Lib.hid (ref_check2_row A n c l f t 0 w h1 h0.symm)
  obtain ⟨hc0, hf0, hft, htm⟩ := chkA_zero h0
  have hn : n ≤ 1024 := by have := (chk_zero hc0).1; have := h1.1; omega
  have HST := Lib.hid (show SbSt l R 0 [] f t by unfold SbSt; rw [hR]; simp)
  have HL := Lib.hid h1.1
  have H1 := Lib.hid h1
  clear h0 hR hc0 h1
  go_enter Try.func11, Try.ntmps11
  go_wp2_with fail
  refine (MC.out).mono ?_
  rintro e W1 ⟨rfl, u1⟩
  have HR1 := Lib.hid (H1.out.on u1)
  have HU1 := Lib.hid u1
  obtain ⟨g, hg⟩ : ∃ g, g = W1.heap.size := ⟨_, rfl⟩
  have HG := Lib.hid hg
  have hb0 : Below g W1 W1 := Below.refl _ _
  clear MC u1 hg
  go_wp2_with fail
  go_loopw [9, 10] (fun va v wr => ∃ (i : Nat) (a : List Sn) (Aa : Option Addr) (na ca : Nat), i ≤ n ∧ va = .slice Aa na ca ∧ v = .int .i64 i ∧
      SbSt l R i a f t ∧ a.length = na ∧ na ≤ 2 * i ∧ OwnS wr g (.slice Aa na ca) a ∧ Below g W1 wr) (fun _ v _ => n - (intOf v).toNat)
  case atStart => exact ⟨0, [], none, 0, 0, by omega, rfl, rfl, HST.out, rfl, by omega, OwnS.nil _ _, hb0⟩
  case round =>
    obtain ⟨i, a, Aa, na, ca, hi, rfl, rfl, hst, hna, hnai, hoa, hb⟩ := hrel
    clear hb0
    have HST := Lib.hid hst
    have HNA := Lib.hid hna
    have hgr : g ≤ wr.heap.size := by have := hb.size; have := HG.out; omega
    clear hst hna
    by_cases hlt : i < n
    · have hil := Lib.hid (show i < l.length by rw [HL.out]; exact hlt)
      obtain ⟨ad, q, had, hq, hqb, c0, c1⟩ := (HR1.out.on (bel_on HG.out hb)).cell hlt
      obtain ⟨s0, hs0⟩ : ∃ s0, s0 = (sp l i).1 := ⟨_, rfl⟩
      obtain ⟨s1, hs1⟩ : ∃ s1, s1 = (sp l i).2 := ⟨_, rfl⟩
      rw [← hs0] at c0
      rw [← hs1] at c1
      subst had
      obtain ⟨x, hx⟩ : ∃ x, (if f < s1 then f else s1) = x := ⟨_, rfl⟩
      obtain ⟨y, hy⟩ : ∃ y, (if s0 < t then t else s0) = y := ⟨_, rfl⟩
      have HS2 := Lib.hid (show SbSt l R (i + 1) (a ++ pcs s0 x y s1 2) f t by
        have h := HST.out.next hil.out
        rw [← hs0, ← hs1, show min s1 f = x by rw [← hx]; split <;> omega, show max s0 t = y by rw [← hy]; split <;> omega, List.append_assoc] at h
        exact h)
      clear hs0 hs1
      rcases (show (s0 < x ∧ y < s1) ∨ (s0 < x ∧ ¬ y < s1) ∨ (¬ s0 < x ∧ y < s1) ∨ (¬ s0 < x ∧ ¬ y < s1) by omega) with ⟨h1, h2⟩ | ⟨h1, h2⟩ | ⟨h1, h2⟩ | ⟨h1, h2⟩
      · have d2 : decide (s0 < x) = true := by simp; omega
        have d3 : decide (y < s1) = true := by simp; omega
        have HS3 := Lib.hid (show SbSt l R (i + 1) (a ++ [(s0, x)] ++ [(y, s1)]) f t by have h := HS2.out; rw [← pcs_both h1 h2] at h; exact h)
        clear h1 h2 HS2
        obtain ⟨m, hm⟩ : ∃ m, (a ++ [(s0, x)] ++ [(y, s1)]).length = m := ⟨_, rfl⟩
        have HM := Lib.hid hm
        have HMN := Lib.hid (show m = na + 2 by rw [← hm]; simp; exact HNA.out)
        clear hm
        go_wp2_with fail
        go_quiet (fail)
        go_wp2_with (at_builtin; first | (refine wpList_app2h _ rfl (.tmp 41) (.tmp 47) rfl g _ a rfl ((hoa.drewN _).alloc _) ⟨wr.heap.size, 0, none⟩ 1 (s0, x) rfl (cell0_new _ _ _ _) (by rw [add_one]; exact cell1_new _ _ _ _) (by rw [HNA.out]; omega) (by simp; omega) ?_; intro g2 cap2 w2 hown2 hbel2 hgr2 hat2 hlt2; have hgw2 : g ≤ w2.heap.size := by have := hown2.base g2 rfl; omega) | (refine wpList_app2h _ rfl (.tmp 54) (.tmp 60) rfl g _ (a ++ [(s0, x)]) rfl ((hown2.alloc _)) ⟨w2.heap.size, 0, none⟩ 1 (y, s1) rfl (by go_simp) (by rw [add_one]; go_simp) (by simp; rw [HNA.out]; omega) (by simp; omega) ?_; intro g3 cap3 w3 hown3 hbel3 hgr3 hat3 hlt3))
        go_roundw
        case rel => exact ⟨i + 1, a ++ [(s0, x)] ++ [(y, s1)], some ⟨g3, 0, none⟩, _, cap3, by omega, rfl, by go_num, HS3.out, by simp, by rw [HNA.out]; omega, (by rw [List.length_append] at hown3; exact hown3), ((((below_drewN hb _).alloc hgr _).trans hbel2).alloc hgw2 _).trans hbel3⟩
        case measure => simp [intOf]; omega
      · have d2 : decide (s0 < x) = true := by simp; omega
        have d3 : decide (y < s1) = false := by simp; omega
        have HS3 := Lib.hid (show SbSt l R (i + 1) (a ++ [(s0, x)]) f t by have h := HS2.out; rw [← pcs_left h1 h2] at h; exact h)
        clear h1 h2 HS2
        obtain ⟨m, hm⟩ : ∃ m, (a ++ [(s0, x)]).length = m := ⟨_, rfl⟩
        have HM := Lib.hid hm
        have HMN := Lib.hid (show m = na + 1 by rw [← hm]; simp; exact HNA.out)
        clear hm
        go_wp2_with fail
        go_quiet (fail)
        go_wp2_with (at_builtin; refine wpList_app2h _ rfl (.tmp 41) (.tmp 47) rfl g _ a rfl ((hoa.drewN _).alloc _) ⟨wr.heap.size, 0, none⟩ 1 (s0, x) rfl (cell0_new _ _ _ _) (by rw [add_one]; exact cell1_new _ _ _ _) (by rw [HNA.out]; omega) (by simp; omega) ?_; intro g2 cap2 w2 hown2 hbel2 hgr2 hat2 hlt2)
        go_roundw
        case rel => exact ⟨i + 1, a ++ [(s0, x)], some ⟨g2, 0, none⟩, _, cap2, by omega, rfl, by go_num, HS3.out, by simp, by rw [HNA.out]; omega, hown2, ((below_drewN hb _).alloc hgr _).trans hbel2⟩
        case measure => simp [intOf]; omega
      · have d2 : decide (s0 < x) = false := by simp; omega
        have d3 : decide (y < s1) = true := by simp; omega
        have HS3 := Lib.hid (show SbSt l R (i + 1) (a ++ [(y, s1)]) f t by have h := HS2.out; rw [← pcs_right h1 h2] at h; exact h)
        clear h1 h2 HS2
        obtain ⟨m, hm⟩ : ∃ m, (a ++ [(y, s1)]).length = m := ⟨_, rfl⟩
        have HM := Lib.hid hm
        have HMN := Lib.hid (show m = na + 1 by rw [← hm]; simp; exact HNA.out)
        clear hm
        go_wp2_with fail
        go_quiet (fail)
        go_wp2_with (at_builtin; refine wpList_app2h _ rfl (.tmp 54) (.tmp 60) rfl g _ a rfl ((hoa.drewN _).alloc _) ⟨wr.heap.size, 0, none⟩ 1 (y, s1) rfl (cell0_new _ _ _ _) (by rw [add_one]; exact cell1_new _ _ _ _) (by rw [HNA.out]; omega) (by simp; omega) ?_; intro g2 cap2 w2 hown2 hbel2 hgr2 hat2 hlt2)
        go_roundw
        case rel => exact ⟨i + 1, a ++ [(y, s1)], some ⟨g2, 0, none⟩, _, cap2, by omega, rfl, by go_num, HS3.out, by simp, by rw [HNA.out]; omega, hown2, ((below_drewN hb _).alloc hgr _).trans hbel2⟩
        case measure => simp [intOf]; omega
      · have d2 : decide (s0 < x) = false := by simp; omega
        have d3 : decide (y < s1) = false := by simp; omega
        have HS3 := Lib.hid (show SbSt l R (i + 1) (a) f t by have h := HS2.out; rw [← pcs_none h1 h2] at h; exact h)
        clear h1 h2 HS2
        go_wp2_with fail
        go_quiet (fail)
        go_wp2_with fail
        go_roundw
        case rel => exact ⟨i + 1, a, Aa, na, ca, by omega, rfl, by go_num, HS3.out, HNA.out, by omega, hoa.drewN _, below_drewN hb _⟩
        case measure => simp [intOf]; omega
    · have HR := Lib.hid (HST.out.last (by have := HL.out; omega))
      have HRL := Lib.hid (show R.length = na by rw [← HR.out, HNA.out])
      by_cases hlong : 1024 < na
      · have d3 : decide (1024 < (na : Int)) = true := by simp; omega
        have HLONG := Lib.hid hlong
        clear hlong
        go_wp2_with fail
        go_ret2
        unfold GvR
        rw [if_pos (by rw [HRL.out]; exact HLONG.out)]
        exact ⟨rfl, HU1.out.trans (bel_on' HU1.out.size (bel_on HG.out hb))⟩
      · have d3 : decide (1024 < (na : Int)) = false := by simp; omega
        have HLONG := Lib.hid hlong
        clear hlong
        go_wp2_with fail
        go_ret2
        unfold GvR
        rw [if_neg (by rw [HRL.out]; exact HLONG.out)]
        exact ⟨_, _, _, rfl, by rw [HR.out] at hoa; exact hoa.row, HU1.out.trans (bel_on' HU1.out.size (bel_on HG.out hb))⟩
end Go.Proofs.Ytkmfcaaionmfoaa.Sp
