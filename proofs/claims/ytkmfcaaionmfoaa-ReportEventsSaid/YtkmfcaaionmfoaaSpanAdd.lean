/- What spans.told and spans.Add compute; no condition. -/
import Derived.Test.YtkmfcaaionmfoaaSpanCheck2
set_option maxRecDepth 100000
namespace Go.Proofs.Ytkmfcaaionmfoaa.Sp
open Go.RowKit

theorem told_long (A : Option Addr) (n c : Nat) (w : World) (h : 1024 < n) : Calls Try.prog 26 #[.slice A n c] w fun e w' => e = .returned (.tuple #[.slice none 0 0, .int .i64 3]) ∧ w = w' := by
  have d1 : decide (1024 < (n : Int)) = true := by simp; omega
  go_enter Try.func26, Try.ntmps26
  go_wp2_with fail
  go_ret2
  exact ⟨rfl, rfl⟩
theorem told_ok (A : Option Addr) (n c : Nat) (w : World) (h : ¬ 1024 < n) : Calls Try.prog 26 #[.slice A n c] w fun e w' => e = .returned (.tuple #[.slice A n c, .int .i64 0]) ∧ w = w' := by
  have d1 : decide (1024 < (n : Int)) = false := by simp; omega
  go_enter Try.func26, Try.ntmps26
  go_wp2_with fail
  go_ret2
  exact ⟨rfl, rfl⟩

/-- the state of a row being put in -/
def AdSt (l R : List Sn) (i : Nat) (a bh : List Sn) (f t : Int) : Prop :=
  f < t ∧ ∃ b, Chn b (l.drop i) ∧ ((bh = [] ∧ a ++ addP (l.drop i) f t = R) ∨ (t ≤ b ∧ a ++ (f, t) :: (bh ++ l.drop i) = R))
theorem drop_sp {l : List Sn} {i : Nat} (h : i < l.length) : l.drop i = sp l i :: l.drop (i + 1) := by
  rw [List.drop_eq_getElem_cons h]
  simp [sp, List.getD, List.getElem?_eq_getElem h]
theorem AdSt.ahead {l R a bh : List Sn} {i : Nat} {f t : Int} (h : AdSt l R i a bh f t) (hi : i < l.length) (h1 : (sp l i).2 < f) : AdSt l R (i + 1) (a ++ [sp l i]) bh f t := by
  obtain ⟨h0, b, hc, h2⟩ := h
  rw [drop_sp hi] at hc h2
  obtain ⟨c1, c2, c3, c4⟩ := hc
  refine ⟨h0, _, c4, ?_⟩
  rcases h2 with ⟨e, h2⟩ | ⟨hb, _⟩
  · rw [addP_ahead h1] at h2
    exact .inl ⟨e, by rw [← h2]; simp⟩
  · omega
theorem AdSt.behind {l R a bh : List Sn} {i : Nat} {f t : Int} (h : AdSt l R i a bh f t) (hi : i < l.length) (h1 : ¬ (sp l i).2 < f) (h3 : t < (sp l i).1) : AdSt l R (i + 1) a (bh ++ [sp l i]) f t := by
  obtain ⟨h0, b, hc, h2⟩ := h
  rw [drop_sp hi] at hc h2
  obtain ⟨c1, c2, c3, c4⟩ := hc
  refine ⟨h0, _, c4, .inr ⟨by omega, ?_⟩⟩
  rcases h2 with ⟨e, h2⟩ | ⟨hb, h2⟩
  · rw [addP_behind h1 h3] at h2
    rw [e, ← h2]; simp
  · rw [← h2]; simp
theorem AdSt.merge {l R a bh : List Sn} {i : Nat} {f t : Int} (h : AdSt l R i a bh f t) (hi : i < l.length) (h1 : ¬ (sp l i).2 < f) (h3 : ¬ t < (sp l i).1) : AdSt l R (i + 1) a bh (min f (sp l i).1) (max t (sp l i).2) := by
  obtain ⟨h0, b, hc, h2⟩ := h
  rw [drop_sp hi] at hc h2
  obtain ⟨c1, c2, c3, c4⟩ := hc
  refine ⟨by omega, _, c4, ?_⟩
  rcases h2 with ⟨e, h2⟩ | ⟨hb, _⟩
  · rw [addP_merge h1 h3] at h2
    exact .inl ⟨e, h2⟩
  · omega
theorem AdSt.last {l R a bh : List Sn} {i : Nat} {f t : Int} (h : AdSt l R i a bh f t) (hi : i = l.length) : a ++ [(f, t)] ++ bh = R := by
  obtain ⟨h0, b, hc, h2⟩ := h
  rw [List.drop_eq_nil_of_le (by omega)] at h2
  rcases h2 with ⟨e, h2⟩ | ⟨hb, h2⟩
  · rw [e, ← h2]; simp [addP]
  · rw [← h2]; simp

/-- rows and no error -/
def GvS (l : List Sn) (w : World) (e : Ending) (w' : World) : Prop := ∃ A n c, e = .returned (.tuple #[.slice A n c, .int .i64 0]) ∧ RowS w' A n c l ∧ Below w.heap.size w w'
def GvE (E : Int) (w : World) (e : Ending) (w' : World) : Prop := e = .returned (.tuple #[.slice none 0 0, .int .i64 E]) ∧ Below w.heap.size w w'

def GvR (R : List Sn) (w : World) (e : Ending) (w' : World) : Prop := if 1024 < R.length then GvE 3 w e w' else GvS R w e w'
theorem add_err (A : Option Addr) (n c : Nat) (l : List Sn) (f t E : Int) (w : World) (h1 : RowS w A n c l) (hE : E = chkA l f t) (h0 : E ≠ 0) :
    Calls Try.prog 8 #[.slice A n c, .int .i64 f, .int .i64 t] w (GvE E w) := by
  have MC := Lib.hid (check2_row A n c l f t E w h1 hE)
  have e1 : (E == 0) = false := by simp [h0]
  have e2 : (E != 0) = true := by simp [h0]
  clear hE h0 h1
  go_enter Try.func8, Try.ntmps8
  go_wp2_with (go_at_call 25; (with_reducible refine (MC.out).mono ?_); rintro e W1 ⟨rfl, u1⟩)
  go_ret2
  exact ⟨rfl, u1⟩

theorem ap_step {x y : Value} {gx n c H : Nat} (hap : Ap y x) (hat : x.ownBlock = some gx ∨ gx = H) (hy : ∀ g, y.ownBlock = some g → g < H) : Ap (.slice (some ⟨gx, 0, none⟩) n c) y := by
  intro g hg hy2
  have hgx : gx = g := by simpa [Value.ownBlock] using hg
  subst hgx
  rcases hat with h | h
  · exact hap gx hy2 h
  · have := hy gx hy2
    omega

theorem own_form {w : World} {B : Nat} {v : Value} {n : Nat} {xs : List Value} (h : w.ownsRow B 54 2 v n xs) (hn : 0 < n) : ∃ g' c', v = .slice (some ⟨g', 0, none⟩) n c' ∧ n ≤ c' := by
  rcases h.2 with ⟨_, h0⟩ | ⟨g', cap, cur, hv, _, _, h1, _⟩
  · omega
  · exact ⟨g', cap, hv, by omega⟩
theorem bel_on' {w W1 w2 : World} (hs : w.heap.size ≤ W1.heap.size) (h : Below W1.heap.size W1 w2) : Below w.heap.size W1 w2 := h.mono hs

set_option maxHeartbeats 2000000 in
theorem add_row (A : Option Addr) (n c : Nat) (l R : List Sn) (f t : Int) (w : World) (h1 : RowS w A n c l) (h0 : chkA l f t = 0) (hR : R = addP l f t) :
    Calls Try.prog 8 #[.slice A n c, .int .i64 f, .int .i64 t] w (GvR R w) := by
  have MC := Lib.hid (check2_row A n c l f t 0 w h1 h0.symm)
  obtain ⟨hc0, hf0, hft, htm⟩ := chkA_zero h0
  have hn : n ≤ 1024 := by have := (chk_zero hc0).1; have := h1.1; omega
  have HST := Lib.hid (show AdSt l R 0 [] [] f t from ⟨hft, -1, by simpa using chn_start hc0, .inl ⟨rfl, by rw [hR]; rfl⟩⟩)
  have HL := Lib.hid h1.1
  have H1 := Lib.hid h1
  have hRl : R.length ≤ 1025 := by rw [hR]; have := addP_len l f t; have := h1.1; omega
  clear h0 hR hc0 h1
  go_enter Try.func8, Try.ntmps8
  go_wp2_with fail
  refine (MC.out).mono ?_
  rintro e W1 ⟨rfl, u1⟩
  have HR1 := Lib.hid (H1.out.on u1)
  have HU1 := Lib.hid u1
  obtain ⟨g, hg⟩ : ∃ g, g = W1.heap.size := ⟨_, rfl⟩
  have HG := Lib.hid hg
  have hb0 : Below g W1 W1 := Below.refl _ _
  clear MC u1 hg
  go_wp2_with fail
  go_loopw [1, 2, 9, 10, 22] (fun vf vt va vb v wr => ∃ (i : Nat) (f' t' : Int) (a bh : List Sn) (Aa : Option Addr) (na ca : Nat) (Ab : Option Addr) (nb cb : Nat), i ≤ n ∧ vf = .int .i64 f' ∧ vt = .int .i64 t' ∧ va = .slice Aa na ca ∧ vb = .slice Ab nb cb ∧ v = .int .i64 i ∧
      AdSt l R i a bh f' t' ∧ a.length = na ∧ bh.length = nb ∧ na ≤ i ∧ nb ≤ i ∧ OwnS wr g (.slice Aa na ca) a ∧ OwnS wr g (.slice Ab nb cb) bh ∧ Ap (.slice Aa na ca) (.slice Ab nb cb) ∧ Below g W1 wr) (fun _ _ _ _ v _ => n - (intOf v).toNat)
  case atStart => exact ⟨0, f, t, [], [], none, 0, 0, none, 0, 0, by omega, rfl, rfl, rfl, rfl, rfl, HST.out, rfl, rfl, by omega, by omega, OwnS.nil _ _, OwnS.nil _ _, fun _ h => by simp [Value.ownBlock] at h, hb0⟩
  case round =>
    obtain ⟨i, f', t', a, bh, Aa, na, ca, Ab, nb, cb, hi, rfl, rfl, rfl, rfl, rfl, hst, hna, hnb, hnai, hnbi, hoa, hob, hap, hb⟩ := hrel
    clear hb0
    have HST := Lib.hid hst
    have HNA := Lib.hid hna
    have HNB := Lib.hid hnb
    have HAP := Lib.hid hap
    have hgr : g ≤ wr.heap.size := by have := hb.size; have := HG.out; omega
    clear hst hna hnb hap
    by_cases hlt : i < n
    · have hil := Lib.hid (show i < l.length by rw [HL.out]; exact hlt)
      obtain ⟨ad, q, had, hq, hqb, c0, c1⟩ := (HR1.out.on (bel_on HG.out hb)).cell hlt
      obtain ⟨s0, hs0⟩ : ∃ s0, s0 = (sp l i).1 := ⟨_, rfl⟩
      obtain ⟨s1, hs1⟩ : ∃ s1, s1 = (sp l i).2 := ⟨_, rfl⟩
      have hsp : sp l i = (s0, s1) := by rw [hs0, hs1]
      rw [← hs0] at c0
      rw [← hs1] at c1
      subst had
      by_cases ha : s1 < f'
      · have d1 : decide (s1 < f') = true := by simp [ha]
        have HS2 := Lib.hid (show AdSt l R (i + 1) (a ++ [(s0, s1)]) bh f' t' by rw [← hsp]; exact HST.out.ahead hil.out (by rw [← hs1]; exact ha))
        clear hs0 hs1 hsp ha
        go_wp2_with (at_builtin; refine wpList_app2h _ rfl (.tmp 39) (.tmp 41) rfl g _ a rfl ((hoa.alloc _).alloc _) ⟨wr.heap.size + 1, 0, none⟩ 1 (s0, s1) rfl (by go_simp) (by rw [add_one]; go_simp) (by rw [HNA.out]; omega) (by simp; omega) ?_; rw [HNA.out]; intro g2 cap w2 hown2 hbel2 hgr2 hat2 hlt2)
        go_roundw
        case rel => exact ⟨i + 1, f', t', a ++ [(s0, s1)], bh, some ⟨g2, 0, none⟩, na + 1, cap, Ab, nb, cb, by omega, rfl, rfl, rfl, rfl, by go_num, HS2.out, by rw [List.length_append, HNA.out]; rfl, HNB.out, by omega, by omega, hown2,
          ((hob.alloc _).alloc _).ap hgr2 HAP.out.symm, ap_step HAP.out.symm hat2 (fun g hg => by have := hob.lt g hg; simp; omega), ((hb.alloc hgr _).alloc (by simp; omega) _).trans hbel2⟩
        case measure => simp [intOf]; omega
      · have d1 : decide (s1 < f') = false := by simp; omega
        by_cases hbd : t' < s0
        · have d2 : decide (t' < s0) = true := by simp [hbd]
          have HS2 := Lib.hid (show AdSt l R (i + 1) a (bh ++ [(s0, s1)]) f' t' by rw [← hsp]; exact HST.out.behind hil.out (by rw [← hs1]; exact ha) (by rw [← hs0]; exact hbd))
          clear hs0 hs1 hsp ha hbd
          go_wp2_with (at_builtin; refine wpList_app2h _ rfl (.tmp 48) (.tmp 50) rfl g _ bh rfl ((hob.alloc _).alloc _) ⟨wr.heap.size + 1, 0, none⟩ 1 (s0, s1) rfl (by go_simp) (by rw [add_one]; go_simp) (by rw [HNB.out]; omega) (by simp; omega) ?_; rw [HNB.out]; intro g2 cap w2 hown2 hbel2 hgr2 hat2 hlt2)
          go_roundw
          case rel => exact ⟨i + 1, f', t', a, bh ++ [(s0, s1)], Aa, na, ca, some ⟨g2, 0, none⟩, nb + 1, cap, by omega, rfl, rfl, rfl, rfl, by go_num, HS2.out, HNA.out, by rw [List.length_append, HNB.out]; rfl, by omega, by omega,
            ((hoa.alloc _).alloc _).ap hgr2 HAP.out, hown2, (ap_step HAP.out hat2 (fun g hg => by have := hoa.lt g hg; simp; omega)).symm, ((hb.alloc hgr _).alloc (by simp; omega) _).trans hbel2⟩
          case measure => simp [intOf]; omega
        · have d2 : decide (t' < s0) = false := by simp; omega
          have HS2 := Lib.hid (show AdSt l R (i + 1) a bh (if s0 < f' then s0 else f') (if t' < s1 then s1 else t') by
            have h := HST.out.merge hil.out (by rw [← hs1]; exact ha) (by rw [← hs0]; exact hbd)
            rw [← hs0, ← hs1] at h
            rw [show (if s0 < f' then s0 else f') = min f' s0 by split <;> omega, show (if t' < s1 then s1 else t') = max t' s1 by split <;> omega]
            exact h)
          clear hs0 hs1 hsp ha hbd
          go_wp2_with fail
          go_region
          go_wp2_with fail
          go_roundw
          case rel => exact ⟨i + 1, _, _, a, bh, Aa, na, ca, Ab, nb, cb, by omega, rfl, rfl, rfl, rfl, by go_num, HS2.out, HNA.out, HNB.out, by omega, by omega, (hoa.alloc _), (hob.alloc _), HAP.out, below_drewN (hb.alloc hgr _) _⟩
          case measure => simp [intOf]; omega
    · have HR := Lib.hid (HST.out.last (by have := HL.out; omega))
      have HRL := Lib.hid (show R.length = na + 1 + nb by rw [← HR.out, List.length_append, List.length_append, HNA.out, HNB.out]; rfl)
      obtain ⟨i0, hi0, hz0, hz1, hz2⟩ := info_parts info54
      have hi0' := Lib.hid hi0
      have hz0' := Lib.hid hz0
      have hz1' := Lib.hid hz1
      have hz2' := Lib.hid hz2
      have hnanb : na + 1 + nb ≤ 1025 := by rw [← HRL.out]; exact hRl
      clear hi0 hz0 hz1 hz2 hRl
      by_cases hlong : 1024 < na + 1 + nb
      · have MT := Lib.hid (fun A c w => told_long A (na + 1 + nb) c w hlong)
        have HLONG := Lib.hid hlong
        clear hlong
        go_wp2_with (first | (at_builtin; first | (refine wpList_app2h _ rfl (.tmp 53) (.tmp 57) rfl g _ a rfl (hoa.alloc _) ⟨wr.heap.size, 0, none⟩ 1 (f', t') rfl (by go_simp) (by rw [add_one]; go_simp) (by rw [HNA.out]; omega) (by simp; omega) ?_; rw [HNA.out]; intro g2 cap w2 hown2 hbel2 hgr2 hat2 hlt2; have hob2 := (hob.alloc _).ap hgr2 HAP.out.symm; have hgw2 : g ≤ w2.heap.size := by have := hown2.base g2 rfl; omega) | (refine wpList_append_any _ rfl (.tmp 58) (.tmp 59) 22 rfl g 54 i0 _ 2 16 Try.underlying22 hi0'.out hz0'.out hz1'.out hz2'.out rfl (by omega) (.slice (some ⟨g2, 0, none⟩) (na + 1) cap) (na + 1) (Ps (a ++ [(f', t')])) rfl (by have h := hown2; unfold OwnS at h; rw [List.length_append, HNA.out] at h; exact h) w2.heap.size Ab nb cb (Ps bh) rfl hob2.row.2.2 (Ps_one _) (by simp only [maxLen]; omega) (by omega) hgw2 ?_; intro v1 w1 hown1 hg1 hat1; obtain ⟨g3, c3, rfl, hc3⟩ := own_form hown1 (by omega); have hb2 : Below g w2 w1 := (Below.refl _ _).grown hg1 hgw2 (OwnS.base hown2); clear hg1 hat1)) | (go_at_call 26; (with_reducible refine (MT.out _ _ _).mono ?_); rintro e W2 ⟨rfl, rfl⟩))
        go_ret2
        have HB : Below w.heap.size w w1 := HU1.out.trans (bel_on' HU1.out.size (bel_on HG.out (((hb.alloc hgr _).trans hbel2).trans hb2)))
        unfold GvR
        rw [if_pos (by rw [HRL.out]; exact HLONG.out)]
        exact ⟨rfl, HB⟩
      · have MT := Lib.hid (fun A c w => told_ok A (na + 1 + nb) c w hlong)
        have HLONG := Lib.hid hlong
        clear hlong
        go_wp2_with (first | (at_builtin; first | (refine wpList_app2h _ rfl (.tmp 53) (.tmp 57) rfl g _ a rfl (hoa.alloc _) ⟨wr.heap.size, 0, none⟩ 1 (f', t') rfl (by go_simp) (by rw [add_one]; go_simp) (by rw [HNA.out]; omega) (by simp; omega) ?_; rw [HNA.out]; intro g2 cap w2 hown2 hbel2 hgr2 hat2 hlt2; have hob2 := (hob.alloc _).ap hgr2 HAP.out.symm; have hgw2 : g ≤ w2.heap.size := by have := hown2.base g2 rfl; omega) | (refine wpList_append_any _ rfl (.tmp 58) (.tmp 59) 22 rfl g 54 i0 _ 2 16 Try.underlying22 hi0'.out hz0'.out hz1'.out hz2'.out rfl (by omega) (.slice (some ⟨g2, 0, none⟩) (na + 1) cap) (na + 1) (Ps (a ++ [(f', t')])) rfl (by have h := hown2; unfold OwnS at h; rw [List.length_append, HNA.out] at h; exact h) w2.heap.size Ab nb cb (Ps bh) rfl hob2.row.2.2 (Ps_one _) (by simp only [maxLen]; omega) (by omega) hgw2 ?_; intro v1 w1 hown1 hg1 hat1; obtain ⟨g3, c3, rfl, hc3⟩ := own_form hown1 (by omega); have hb2 : Below g w2 w1 := (Below.refl _ _).grown hg1 hgw2 (OwnS.base hown2); clear hg1 hat1)) | (go_at_call 26; (with_reducible refine (MT.out _ _ _).mono ?_); rintro e W2 ⟨rfl, rfl⟩))
        go_ret2
        have HB : Below w.heap.size w w1 := HU1.out.trans (bel_on' HU1.out.size (bel_on HG.out (((hb.alloc hgr _).trans hbel2).trans hb2)))
        unfold GvR
        rw [if_neg (by rw [HRL.out]; exact HLONG.out)]
        refine ⟨_, _, _, rfl, ?_, HB⟩
        have h : OwnS w1 g (.slice (some ⟨g3, 0, none⟩) (na + 1 + nb) c3) (a ++ [(f', t')] ++ bh) := by
          unfold OwnS
          rw [Ps_app, List.length_append, List.length_append, HNA.out, HNB.out]
          exact hown1
        rw [HR.out] at h
        exact h.row
end Go.Proofs.Ytkmfcaaionmfoaa.Sp
