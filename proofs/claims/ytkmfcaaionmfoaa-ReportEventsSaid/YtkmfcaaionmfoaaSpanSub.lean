/- What spans.Sub computes; no condition. -/
import Derived.Test.YtkmfcaaionmfoaaSpanAdd2
set_option maxRecDepth 100000
namespace Go.Proofs.Ytkmfcaaionmfoaa.Sp
open Go.RowKit

/-- the state of a row being taken out -/
def SbSt (l R : List Sn) (i : Nat) (a : List Sn) (f t : Int) : Prop := a ++ subP (l.drop i) f t = R
theorem SbSt.next {l R a : List Sn} {i : Nat} {f t : Int} (h : SbSt l R i a f t) (hi : i < l.length) : SbSt l R (i + 1) (a ++ piece (sp l i).1 (min (sp l i).2 f) ++ piece (max (sp l i).1 t) (sp l i).2) f t := by
  unfold SbSt at *
  rw [drop_sp hi, subP] at h
  rw [← h]; simp
theorem SbSt.last {l R a : List Sn} {i : Nat} {f t : Int} (h : SbSt l R i a f t) (hi : i = l.length) : a = R := by
  unfold SbSt at h
  rw [List.drop_eq_nil_of_le (by omega)] at h
  simpa [subP] using h
theorem piece_on {a b : Int} (h : a < b) : piece a b = [(a, b)] := by unfold piece; rw [if_pos h]
theorem piece_off {a b : Int} (h : ¬ a < b) : piece a b = [] := by unfold piece; rw [if_neg h]
theorem piece_len (a b : Int) : (piece a b).length ≤ 1 := by unfold piece; split <;> simp
/-- what the two pieces of a row give, the first j of them -/
def pcs (s0 x y s1 : Int) : Nat → List Sn
  | 0 => []
  | 1 => piece s0 x
  | _ => piece s0 x ++ piece y s1
theorem index0 (s0 x y s1 : Int) (w : World) : (Instr.index 58 (.agg #[.int .i64 s0, .int .i64 x, .int .i64 y, .int .i64 s1]) (.int .i64 0)).run Try.prog w = .ok (.agg #[.int .i64 s0, .int .i64 x]) w := by kernel_rfl
theorem index1 (s0 x y s1 : Int) (w : World) : (Instr.index 58 (.agg #[.int .i64 s0, .int .i64 x, .int .i64 y, .int .i64 s1]) (.int .i64 1)).run Try.prog w = .ok (.agg #[.int .i64 y, .int .i64 s1]) w := by kernel_rfl

theorem sub_err (A : Option Addr) (n c : Nat) (l : List Sn) (f t E : Int) (w : World) (h1 : RowS w A n c l) (hE : E = chkA l f t) (h0 : E ≠ 0) :
    Calls Try.prog 10 #[.slice A n c, .int .i64 f, .int .i64 t] w (GvE E w) := by
  have MC := Lib.hid (check2_row A n c l f t E w h1 hE)
  have e1 : (E == 0) = false := by simp [h0]
  have e2 : (E != 0) = true := by simp [h0]
  clear hE h0 h1
  go_enter Try.func10, Try.ntmps10
  go_wp2_with (go_at_call 25; (with_reducible refine (MC.out).mono ?_); rintro e W1 ⟨rfl, u1⟩)
  go_ret2
  exact ⟨rfl, u1⟩

set_option maxHeartbeats 2000000 in
theorem sub_row (A : Option Addr) (n c : Nat) (l R : List Sn) (f t : Int) (w : World) (h1 : RowS w A n c l) (h0 : chkA l f t = 0) (hR : R = subP l f t) :
    Calls Try.prog 10 #[.slice A n c, .int .i64 f, .int .i64 t] w (GvR R w) := by
  have MC := Lib.hid (check2_row A n c l f t 0 w h1 h0.symm)
  obtain ⟨hc0, hf0, hft, htm⟩ := chkA_zero h0
  have hn : n ≤ 1024 := by have := (chk_zero hc0).1; have := h1.1; omega
  have HST := Lib.hid (show SbSt l R 0 [] f t by unfold SbSt; rw [hR]; simp)
  have HL := Lib.hid h1.1
  have H1 := Lib.hid h1
  clear h0 hR hc0 h1
  go_enter Try.func10, Try.ntmps10
  go_wp2_with fail
  refine (MC.out).mono ?_
  rintro e W1 ⟨rfl, u1⟩
  have HR1 := Lib.hid (H1.out.on u1)
  have HU1 := Lib.hid u1
  obtain ⟨g, hg⟩ : ∃ g, g = W1.heap.size := ⟨_, rfl⟩
  have HG := Lib.hid hg
  have hb0 : Below g W1 W1 := Below.refl _ _
  clear MC u1 hg
  go_wp2_with fail
  go_loopw [9, 23] (fun va v wr => ∃ (i : Nat) (a : List Sn) (Aa : Option Addr) (na ca : Nat), i ≤ n ∧ va = .slice Aa na ca ∧ v = .int .i64 i ∧
      SbSt l R i a f t ∧ a.length = na ∧ na ≤ 2 * i ∧ OwnS wr g (.slice Aa na ca) a ∧ Below g W1 wr) (fun _ v _ => n - (intOf v).toNat)
  case atStart => exact ⟨0, [], none, 0, 0, by omega, rfl, rfl, HST.out, rfl, by omega, OwnS.nil _ _, hb0⟩
  case round =>
    obtain ⟨i, a, Aa, na, ca, hi, rfl, rfl, hst, hna, hnai, hoa, hb⟩ := hrel
    clear hb0
    have HST := Lib.hid hst
    have HNA := Lib.hid hna
    have hgr : g ≤ wr.heap.size := by have := hb.size; have := HG.out; omega
    clear hst hna
    by_cases hlt : i < n
    · have hil := Lib.hid (show i < l.length by rw [HL.out]; exact hlt)
      obtain ⟨ad, q, had, hq, hqb, c0, c1⟩ := (HR1.out.on (bel_on HG.out hb)).cell hlt
      obtain ⟨s0, hs0⟩ : ∃ s0, s0 = (sp l i).1 := ⟨_, rfl⟩
      obtain ⟨s1, hs1⟩ : ∃ s1, s1 = (sp l i).2 := ⟨_, rfl⟩
      rw [← hs0] at c0
      rw [← hs1] at c1
      subst had
      obtain ⟨x, hx⟩ : ∃ x, (if f < s1 then f else s1) = x := ⟨_, rfl⟩
      obtain ⟨y, hy⟩ : ∃ y, (if s0 < t then t else s0) = y := ⟨_, rfl⟩
      have HS2 := Lib.hid (show SbSt l R (i + 1) (a ++ pcs s0 x y s1 2) f t by
        have h := HST.out.next hil.out
        rw [← hs0, ← hs1, show min s1 f = x by rw [← hx]; split <;> omega, show max s0 t = y by rw [← hy]; split <;> omega, List.append_assoc] at h
        exact h)
      have ix0 := index0 s0 x y s1
      have ix1 := index1 s0 x y s1
      clear hs0 hs1
      have hoa1 := hoa.alloc (.cells #[.int .i64 s0, .int .i64 s1] 54)
      have hb1 := hb.alloc hgr (.cells #[.int .i64 s0, .int .i64 s1] 54)
      go_wp2_with fail
      go_loopw [9, 42] (fun va v wr2 => ∃ (j : Nat) (a2 : List Sn) (Aa2 : Option Addr) (na2 ca2 : Nat), j ≤ 2 ∧ va = .slice Aa2 na2 ca2 ∧ v = .int .i64 j ∧
        Hid (a2 = a ++ pcs s0 x y s1 j) ∧ a2.length = na2 ∧ na2 ≤ na + j ∧ OwnS wr2 g (.slice Aa2 na2 ca2) a2 ∧ Below g W1 wr2) (fun _ v _ => 2 - (intOf v).toNat)
      case atStart => exact ⟨0, a, Aa, na, ca, by omega, rfl, rfl, Lib.hid (by simp [pcs]), HNA.out, by omega, hoa1, hb1⟩
      case round =>
        obtain ⟨j, a2, Aa2, na2, ca2, hj, rfl, rfl, hp, hna2, hnaj, hoa2, hb2⟩ := hrel
        have HNA2 := Lib.hid hna2
        have hgr2' : g ≤ wr.heap.size := by have := hb2.size; have := HG.out; omega
        clear hna2
        rcases (show j = 0 ∨ j = 1 ∨ j = 2 by omega) with rfl | rfl | rfl
        · clear hoa1 hb1 hj
          by_cases hc : s0 < x
          · have d2 : decide (s0 < x) = true := by simp [hc]
            have HP := Lib.hid (show a2 ++ [(s0, x)] = a ++ pcs s0 x y s1 1 by rw [hp.out]; simp [pcs, piece_on hc])
            clear hc
            go_wp2_with (at_builtin; refine wpList_app2h _ rfl (.tmp 50) (.tmp 52) rfl g _ a2 rfl ((hoa2.alloc _).alloc _) ⟨wr.heap.size + 1, 0, none⟩ 1 (s0, x) rfl (by go_simp) (by rw [add_one]; go_simp) (by rw [HNA2.out]; omega) (by simp; omega) ?_; rw [HNA2.out]; intro g2 cap w2 hown2 hbel2 hgr2 hat2 hlt2)
            go_roundw
            case rel => exact ⟨1, a2 ++ [(s0, x)], some ⟨g2, 0, none⟩, na2 + 1, cap, by omega, rfl, by go_num, HP, by rw [List.length_append, HNA2.out]; rfl, by omega, hown2, ((hb2.alloc hgr2' _).alloc (by simp; omega) _).trans hbel2⟩
            case measure => simp [intOf]
          · have d2 : decide (s0 < x) = false := by simp; omega
            have HP := Lib.hid (show a2 = a ++ pcs s0 x y s1 1 by rw [hp.out]; simp [pcs, piece_off hc])
            clear hc
            go_wp2_with fail
            go_roundw
            case rel => exact ⟨1, a2, Aa2, na2, ca2, by omega, rfl, by go_num, HP, HNA2.out, by omega, hoa2.alloc _, hb2.alloc hgr2' _⟩
            case measure => simp [intOf]
        · clear hoa1 hb1 hj
          by_cases hc : y < s1
          · have d2 : decide (y < s1) = true := by simp [hc]
            have HP := Lib.hid (show a2 ++ [(y, s1)] = a ++ pcs s0 x y s1 2 by rw [hp.out]; simp [pcs, piece_on hc])
            clear hc
            go_wp2_with (at_builtin; refine wpList_app2h _ rfl (.tmp 50) (.tmp 52) rfl g _ a2 rfl ((hoa2.alloc _).alloc _) ⟨wr.heap.size + 1, 0, none⟩ 1 (y, s1) rfl (by go_simp) (by rw [add_one]; go_simp) (by rw [HNA2.out]; omega) (by simp; omega) ?_; rw [HNA2.out]; intro g2 cap w2 hown2 hbel2 hgr2 hat2 hlt2)
            go_roundw
            case rel => exact ⟨2, a2 ++ [(y, s1)], some ⟨g2, 0, none⟩, na2 + 1, cap, by omega, rfl, by go_num, HP, by rw [List.length_append, HNA2.out]; rfl, by omega, hown2, ((hb2.alloc hgr2' _).alloc (by simp; omega) _).trans hbel2⟩
            case measure => simp [intOf]
          · have d2 : decide (y < s1) = false := by simp; omega
            have HP := Lib.hid (show a2 = a ++ pcs s0 x y s1 2 by rw [hp.out]; simp [pcs, piece_off hc])
            clear hc
            go_wp2_with fail
            go_roundw
            case rel => exact ⟨2, a2, Aa2, na2, ca2, by omega, rfl, by go_num, HP, HNA2.out, by omega, hoa2.alloc _, hb2.alloc hgr2' _⟩
            case measure => simp [intOf]
        · go_wp2_with fail
          go_roundw
          case rel => exact ⟨i + 1, a2, Aa2, na2, ca2, by omega, rfl, by go_num, by rw [hp.out]; exact HS2.out, HNA2.out, by omega, hoa2, hb2⟩
          case measure => simp [intOf]; omega
    · have HR := Lib.hid (HST.out.last (by have := HL.out; omega))
      have HRL := Lib.hid (show R.length = na by rw [← HR.out, HNA.out])
      by_cases hlong : 1024 < na
      · have MT := Lib.hid (fun w => told_long Aa na ca w hlong)
        have HLONG := Lib.hid hlong
        clear hlong
        go_wp2_with (go_at_call 26; (with_reducible refine (MT.out _).mono ?_); rintro e W2 ⟨rfl, rfl⟩)
        go_ret2
        unfold GvR
        rw [if_pos (by rw [HRL.out]; exact HLONG.out)]
        exact ⟨rfl, HU1.out.trans (bel_on' HU1.out.size (bel_on HG.out hb))⟩
      · have MT := Lib.hid (fun w => told_ok Aa na ca w hlong)
        have HLONG := Lib.hid hlong
        clear hlong
        go_wp2_with (go_at_call 26; (with_reducible refine (MT.out _).mono ?_); rintro e W2 ⟨rfl, rfl⟩)
        go_ret2
        unfold GvR
        rw [if_neg (by rw [HRL.out]; exact HLONG.out)]
        exact ⟨_, _, _, rfl, by rw [HR.out] at hoa; exact hoa.row, HU1.out.trans (bel_on' HU1.out.size (bel_on HG.out hb))⟩
end Go.Proofs.Ytkmfcaaionmfoaa.Sp
