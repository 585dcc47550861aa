/- What the reference's Add computes; no condition. -/
import Derived.Test.YtkmfcaaionmfoaaSpanAdd
set_option maxRecDepth 100000
namespace Go.Proofs.Ytkmfcaaionmfoaa.Sp
open Go.RowKit

/-- the state of a row being put in, as the reference does it -/
def AdRf (l R : List Sn) (i : Nat) (a : List Sn) (f t : Int) (d : Bool) : Prop :=
  f < t ∧ ∃ b, Chn b (l.drop i) ∧ ((d = false ∧ a ++ addP (l.drop i) f t = R) ∨ (d = true ∧ t ≤ b ∧ a ++ l.drop i = R))
theorem AdRf.ahead {l R a : List Sn} {i : Nat} {f t : Int} {d : Bool} (h : AdRf l R i a f t d) (hi : i < l.length) (h1 : (sp l i).2 < f) : AdRf l R (i + 1) (a ++ [sp l i]) f t d := by
  obtain ⟨h0, b, hc, h2⟩ := h
  rw [drop_sp hi] at hc h2
  obtain ⟨c1, c2, c3, c4⟩ := hc
  refine ⟨h0, _, c4, ?_⟩
  rcases h2 with ⟨e, h2⟩ | ⟨_, hb, _⟩
  · rw [addP_ahead h1] at h2
    exact .inl ⟨e, by rw [← h2]; simp⟩
  · omega
theorem AdRf.first {l R a : List Sn} {i : Nat} {f t : Int} (h : AdRf l R i a f t false) (hi : i < l.length) (h1 : ¬ (sp l i).2 < f) (h3 : t < (sp l i).1) : AdRf l R (i + 1) (a ++ [(f, t)] ++ [sp l i]) f t true := by
  obtain ⟨h0, b, hc, h2⟩ := h
  rw [drop_sp hi] at hc h2
  obtain ⟨c1, c2, c3, c4⟩ := hc
  refine ⟨h0, _, c4, .inr ⟨rfl, by omega, ?_⟩⟩
  rcases h2 with ⟨_, h2⟩ | ⟨e, _⟩
  · rw [addP_behind h1 h3] at h2
    rw [← h2]; simp
  · cases e
theorem AdRf.behind {l R a : List Sn} {i : Nat} {f t : Int} (h : AdRf l R i a f t true) (hi : i < l.length) : AdRf l R (i + 1) (a ++ [sp l i]) f t true := by
  obtain ⟨h0, b, hc, h2⟩ := h
  rw [drop_sp hi] at hc h2
  obtain ⟨c1, c2, c3, c4⟩ := hc
  rcases h2 with ⟨e, _⟩ | ⟨_, hb, h2⟩
  · cases e
  · exact ⟨h0, _, c4, .inr ⟨rfl, by omega, by rw [← h2]; simp⟩⟩
theorem AdRf.merge {l R a : List Sn} {i : Nat} {f t : Int} {d : Bool} (h : AdRf l R i a f t d) (hi : i < l.length) (h1 : ¬ (sp l i).2 < f) (h3 : ¬ t < (sp l i).1) : AdRf l R (i + 1) a (min f (sp l i).1) (max t (sp l i).2) d := by
  obtain ⟨h0, b, hc, h2⟩ := h
  rw [drop_sp hi] at hc h2
  obtain ⟨c1, c2, c3, c4⟩ := hc
  refine ⟨by omega, _, c4, ?_⟩
  rcases h2 with ⟨e, h2⟩ | ⟨_, hb, _⟩
  · rw [addP_merge h1 h3] at h2
    exact .inl ⟨e, h2⟩
  · omega
theorem AdRf.last {l R a : List Sn} {i : Nat} {f t : Int} (h : AdRf l R i a f t false) (hi : i = l.length) : a ++ [(f, t)] = R := by
  obtain ⟨h0, b, hc, h2⟩ := h
  rw [List.drop_eq_nil_of_le (by omega)] at h2
  rcases h2 with ⟨_, h2⟩ | ⟨e, _⟩
  · rw [← h2]; simp [addP]
  · cases e
theorem AdRf.last2 {l R a : List Sn} {i : Nat} {f t : Int} (h : AdRf l R i a f t true) (hi : i = l.length) : a = R := by
  obtain ⟨h0, b, hc, h2⟩ := h
  rw [List.drop_eq_nil_of_le (by omega)] at h2
  rcases h2 with ⟨e, _⟩ | ⟨_, _, h2⟩
  · cases e
  · rw [← h2]; simp

theorem ref_add_err (A : Option Addr) (n c : Nat) (l : List Sn) (f t E : Int) (w : World) (h1 : RowS w A n c l) (hE : E = chkA l f t) (h0 : E ≠ 0) :
    Calls Try.prog 9 #[.slice A n c, .int .i64 f, .int .i64 t] w (GvE E w) := by
  have MC := Lib.hid (ref_check2_row A n c l f t E w h1 hE)
  have e1 : (E == 0) = false := by simp [h0]
  have e2 : (E != 0) = true := by simp [h0]
  clear hE h0 h1
  go_enter Try.func9, Try.ntmps9
  go_wp2_with (go_at_call 27; (with_reducible refine (MC.out).mono ?_); rintro e W1 ⟨rfl, u1⟩)
  go_ret2
  exact ⟨rfl, u1⟩

set_option maxHeartbeats 2000000 in
theorem ref_add_row (A : Option Addr) (n c : Nat) (l R : List Sn) (f t : Int) (w : World) (h1 : RowS w A n c l) (h0 : chkA l f t = 0) (hR : R = addP l f t) :
    Calls Try.prog 9 #[.slice A n c, .int .i64 f, .int .i64 t] w (GvR R w) := by
  have MC := Lib.hid (ref_check2_row A n c l f t 0 w h1 h0.symm)
  obtain ⟨hc0, hf0, hft, htm⟩ := chkA_zero h0
  have hn : n ≤ 1024 := by have := (chk_zero hc0).1; have := h1.1; omega
  have HST := Lib.hid (show AdRf l R 0 [] f t false from ⟨hft, -1, by simpa using chn_start hc0, .inl ⟨rfl, by rw [hR]; rfl⟩⟩)
  have HL := Lib.hid h1.1
  have H1 := Lib.hid h1
  clear h0 hR hc0 h1
  go_enter Try.func9, Try.ntmps9
  go_wp2_with fail
  refine (MC.out).mono ?_
  rintro e W1 ⟨rfl, u1⟩
  have HR1 := Lib.hid (H1.out.on u1)
  have HU1 := Lib.hid u1
  obtain ⟨g, hg⟩ : ∃ g, g = W1.heap.size := ⟨_, rfl⟩
  have HG := Lib.hid hg
  have hb0 : Below g W1 W1 := Below.refl _ _
  clear MC u1 hg
  go_wp2_with fail
  go_loopw [1, 2, 9, 10, 11] (fun vf vt va vd v wr => ∃ (i : Nat) (f' t' : Int) (a : List Sn) (Aa : Option Addr) (na ca : Nat) (d : Bool), i ≤ n ∧ vf = .int .i64 f' ∧ vt = .int .i64 t' ∧ va = .slice Aa na ca ∧ vd = .bool d ∧ v = .int .i64 i ∧
      AdRf l R i a f' t' d ∧ a.length = na ∧ na ≤ i + 1 ∧ (d = false → na ≤ i) ∧ OwnS wr g (.slice Aa na ca) a ∧ Below g W1 wr) (fun _ _ _ _ v _ => n - (intOf v).toNat)
  case atStart => exact ⟨0, f, t, [], none, 0, 0, false, by omega, rfl, rfl, rfl, rfl, rfl, HST.out, rfl, by omega, fun _ => by omega, OwnS.nil _ _, hb0⟩
  case round =>
    obtain ⟨i, f', t', a, Aa, na, ca, d, hi, rfl, rfl, rfl, rfl, rfl, hst, hna, hnai, hnd, hoa, hb⟩ := hrel
    clear hb0
    have HST := Lib.hid hst
    have HNA := Lib.hid hna
    have HND := Lib.hid hnd
    have hgr : g ≤ wr.heap.size := by have := hb.size; have := HG.out; omega
    obtain ⟨m, hm⟩ : ∃ m, a.length + 1 = m := ⟨_, rfl⟩
    have HM := Lib.hid hm
    have HMN := Lib.hid (show m = na + 1 by rw [← hm, hna])
    clear hst hna hnd hm
    by_cases hlt : i < n
    · have hil := Lib.hid (show i < l.length by rw [HL.out]; exact hlt)
      obtain ⟨ad, q, had, hq, hqb, c0', c1'⟩ := HR1.out.cell hlt
      rw [← HG.out] at hqb
      have c0 := (hb.cell (p := q) hqb).trans c0'
      have c1 := (hb.cell (p := ⟨q.block, q.off + 1, none⟩) hqb).trans c1'
      obtain ⟨s0, hs0⟩ : ∃ s0, s0 = (sp l i).1 := ⟨_, rfl⟩
      obtain ⟨s1, hs1⟩ : ∃ s1, s1 = (sp l i).2 := ⟨_, rfl⟩
      have hsp : sp l i = (s0, s1) := by rw [hs0, hs1]
      rw [← hs0] at c0
      rw [← hs1] at c1
      subst had
      clear c0' c1'
      by_cases ha : s1 < f'
      · have d1 : decide (s1 < f') = true := by simp [ha]
        have HS2 := Lib.hid (show AdRf l R (i + 1) (a ++ [(s0, s1)]) f' t' d by rw [← hsp]; exact HST.out.ahead hil.out (by rw [← hs1]; exact ha))
        clear hs0 hs1 hsp ha
        go_wp2_with (at_builtin; refine wpList_app2h _ rfl (.tmp 47) (.tmp 52) rfl g _ a rfl (hoa.alloc _) ⟨wr.heap.size, 0, none⟩ 1 (s0, s1) rfl (by go_simp) (by rw [add_one]; go_simp) (by rw [HNA.out]; omega) (by simp; omega) ?_; rw [HM.out]; intro g2 cap w2 hown2 hbel2 hgr2 hat2 hlt2)
        go_roundw
        case rel => exact ⟨i + 1, f', t', a ++ [(s0, s1)], some ⟨g2, 0, none⟩, m, cap, d, by omega, rfl, rfl, rfl, rfl, by go_num, HS2.out, by rw [← HM.out]; simp, by rw [HMN.out]; omega, fun h => by rw [HMN.out]; have := HND.out h; omega, hown2, (hb.alloc hgr _).trans hbel2⟩
        case measure => simp [intOf]; omega
      · have d1 : decide (s1 < f') = false := by simp; omega
        by_cases hbd : t' < s0
        · have d2 : decide (t' < s0) = true := by simp [hbd]
          cases d with
          | true =>
            have HS2 := Lib.hid (show AdRf l R (i + 1) (a ++ [(s0, s1)]) f' t' true by rw [← hsp]; exact HST.out.behind hil.out)
            clear hs0 hs1 hsp ha hbd
            go_wp2_with (at_builtin; refine wpList_app2h _ rfl (.tmp 70) (.tmp 75) rfl g _ a rfl (hoa.alloc _) ⟨wr.heap.size, 0, none⟩ 1 (s0, s1) rfl (by go_simp) (by rw [add_one]; go_simp) (by rw [HNA.out]; omega) (by simp; omega) ?_; rw [HM.out]; intro g2 cap w2 hown2 hbel2 hgr2 hat2 hlt2)
            go_roundw
            case rel => exact ⟨i + 1, f', t', a ++ [(s0, s1)], some ⟨g2, 0, none⟩, m, cap, true, by omega, rfl, rfl, rfl, rfl, by go_num, HS2.out, by rw [← HM.out]; simp, by rw [HMN.out]; omega, (fun h => by cases h), hown2, (hb.alloc hgr _).trans hbel2⟩
            case measure => simp [intOf]; omega
          | false =>
            have HS2 := Lib.hid (show AdRf l R (i + 1) (a ++ [(f', t')] ++ [(s0, s1)]) f' t' true by rw [← hsp]; exact HST.out.first hil.out (by rw [← hs1]; exact ha) (by rw [← hs0]; exact hbd))
            obtain ⟨m2, hm2⟩ : ∃ m2, (a ++ [(f', t')]).length + 1 = m2 := ⟨_, rfl⟩
            have HM2 := Lib.hid hm2
            have HMN2 := Lib.hid (show m2 = na + 2 by rw [← hm2, List.length_append, HNA.out]; rfl)
            have hna2 := HND.out rfl
            clear hs0 hs1 hsp ha hbd hm2
            go_wp2_with (first | (at_builtin; first | (refine wpList_app2h _ rfl (.tmp 64) (.tmp 68) rfl g _ a rfl (hoa.alloc _) ⟨wr.heap.size, 0, none⟩ 1 (f', t') rfl (by go_simp) (by rw [add_one]; go_simp) (by rw [HNA.out]; omega) (by simp; omega) ?_; rw [HM.out]; intro g2 cap w2 hown2 hbel2 hgr2 hat2 hlt2; have e0 := ((hb.alloc hgr _).trans hbel2).cell (p := q) hqb; have e1 := ((hb.alloc hgr _).trans hbel2).cell (p := ⟨q.block, q.off + 1, none⟩) hqb; rw [← hb.cell (p := q) hqb, c0] at e0; rw [← hb.cell (p := ⟨q.block, q.off + 1, none⟩) hqb, c1] at e1; have hgw2 : g ≤ w2.heap.size := by have := hown2.base g2 rfl; omega) | (refine wpList_app2h _ rfl (.tmp 70) (.tmp 75) rfl g _ (a ++ [(f', t')]) rfl (hown2.alloc _) ⟨w2.heap.size, 0, none⟩ 1 (s0, s1) rfl (by go_simp) (by rw [add_one]; go_simp) (by simp; rw [HNA.out]; omega) (by simp; omega) ?_; rw [HM2.out]; intro g3 cap3 w3 hown3 hbel3 hgr3 hat3 hlt3)))
            go_roundw
            case rel => exact ⟨i + 1, f', t', a ++ [(f', t')] ++ [(s0, s1)], some ⟨g3, 0, none⟩, m2, cap3, true, by omega, rfl, rfl, rfl, rfl, by go_num, HS2.out, by rw [← HM2.out]; simp, by rw [HMN2.out]; omega, (fun h => by cases h), hown3, (((hb.alloc hgr _).trans hbel2).alloc hgw2 _).trans hbel3⟩
            case measure => simp [intOf]; omega
        · have d2 : decide (t' < s0) = false := by simp; omega
          have HS2 := Lib.hid (show AdRf l R (i + 1) a (if s0 < f' then s0 else f') (if t' < s1 then s1 else t') d by
            have h := HST.out.merge hil.out (by rw [← hs1]; exact ha) (by rw [← hs0]; exact hbd)
            rw [← hs0, ← hs1] at h
            rw [show (if s0 < f' then s0 else f') = min f' s0 by split <;> omega, show (if t' < s1 then s1 else t') = max t' s1 by split <;> omega]
            exact h)
          clear hs0 hs1 hsp ha hbd
          go_wp2_with fail
          go_roundw
          case rel => exact ⟨i + 1, _, _, a, Aa, na, ca, d, by omega, rfl, rfl, rfl, rfl, by go_num, HS2.out, HNA.out, by omega, fun h => by have := HND.out h; omega, hoa, hb⟩
          case measure => simp [intOf]; omega
    · cases d with
      | false =>
        have HR := Lib.hid (HST.out.last (by have := HL.out; omega))
        have HRL := Lib.hid (show R.length = m by rw [← HR.out, ← HM.out, List.length_append]; rfl)
        by_cases hlong : 1024 < m
        · have d3 : decide (1024 < (m : Int)) = true := by simp; omega
          have HLONG := Lib.hid hlong
          clear hlong
          go_wp2_with (at_builtin; refine wpList_app2h _ rfl (.tmp 79) (.tmp 83) rfl g _ a rfl (hoa.alloc _) ⟨wr.heap.size, 0, none⟩ 1 (f', t') rfl (by go_simp) (by rw [add_one]; go_simp) (by rw [HNA.out]; omega) (by simp; omega) ?_; rw [HM.out]; intro g2 cap w2 hown2 hbel2 hgr2 hat2 hlt2)
          go_ret2
          unfold GvR
          rw [if_pos (by rw [HRL.out]; exact HLONG.out)]
          exact ⟨rfl, HU1.out.trans (bel_on' HU1.out.size (bel_on HG.out ((hb.alloc hgr _).trans hbel2)))⟩
        · have d3 : decide (1024 < (m : Int)) = false := by simp; omega
          have HLONG := Lib.hid hlong
          clear hlong
          go_wp2_with (at_builtin; refine wpList_app2h _ rfl (.tmp 79) (.tmp 83) rfl g _ a rfl (hoa.alloc _) ⟨wr.heap.size, 0, none⟩ 1 (f', t') rfl (by go_simp) (by rw [add_one]; go_simp) (by rw [HNA.out]; omega) (by simp; omega) ?_; rw [HM.out]; intro g2 cap w2 hown2 hbel2 hgr2 hat2 hlt2)
          go_ret2
          unfold GvR
          rw [if_neg (by rw [HRL.out]; exact HLONG.out)]
          exact ⟨_, _, _, rfl, by rw [HR.out] at hown2; exact hown2.row, HU1.out.trans (bel_on' HU1.out.size (bel_on HG.out ((hb.alloc hgr _).trans hbel2)))⟩
      | true =>
        have HR := Lib.hid (HST.out.last2 (by have := HL.out; omega))
        have HRL := Lib.hid (show R.length = na by rw [← HR.out, HNA.out])
        by_cases hlong : 1024 < na
        · have d3 : decide (1024 < (na : Int)) = true := by simp; omega
          have HLONG := Lib.hid hlong
          clear hlong
          go_wp2_with fail
          go_ret2
          unfold GvR
          rw [if_pos (by rw [HRL.out]; exact HLONG.out)]
          exact ⟨rfl, HU1.out.trans (bel_on' HU1.out.size (bel_on HG.out hb))⟩
        · have d3 : decide (1024 < (na : Int)) = false := by simp; omega
          have HLONG := Lib.hid hlong
          clear hlong
          go_wp2_with fail
          go_ret2
          unfold GvR
          rw [if_neg (by rw [HRL.out]; exact HLONG.out)]
          exact ⟨_, _, _, rfl, by rw [HR.out] at hoa; exact hoa.row, HU1.out.trans (bel_on' HU1.out.size (bel_on HG.out hb))⟩
end Go.Proofs.Ytkmfcaaionmfoaa.Sp
