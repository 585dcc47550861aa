/- What mend's bad, apart, Put and the reference's Put, Apart and wide compute. -/
import Derived.Test.YtbbikkmmdedaiaaMendWalk
set_option maxRecDepth 100000
namespace Go.Proofs.Ytbbikkmmdedaiaa.Pr
open Go.RowKit Go.Proofs.Ytbbikkmmdedaiaa.Gf Go.Proofs.Ytbbikkmmdedaiaa.Vec

theorem bad_yes (A : Option Addr) (n c : Nat) (k : Int) (w : World) (h : k < 1 ∨ (n : Int) < k ∨ 255 < n) :
    Calls Try.prog 73 #[.slice A n c, .int .i64 k] w fun e w' => e = .returned (.bool true) ∧ w = w' := by
  have hc : (decide (k < 1) = true) ∨ (decide (k < 1) = false ∧ decide ((n : Int) < k) = true) ∨ (decide (k < 1) = false ∧ decide ((n : Int) < k) = false ∧ decide (255 < (n : Int)) = true) := by
    by_cases h1 : k < 1
    · left; simp [h1]
    · by_cases h2 : (n : Int) < k
      · right; left; simp [h1, h2]
      · right; right
        refine ⟨by simp [h1], by simp [h2], ?_⟩
        simp; omega
  clear h
  rcases hc with h1 | ⟨h1, h2⟩ | ⟨h1, h2, h3⟩
  all_goals
    go_enter Try.func73, Try.ntmps73
    go_wp2_with fail
    go_ret
    exact ⟨rfl, rfl⟩
theorem bad_no (A : Option Addr) (n c : Nat) (k : Nat) (w : World) (hk : 1 ≤ k) (hkn : k ≤ n) (hn : n ≤ 255) :
    Calls Try.prog 73 #[.slice A n c, .int .i64 (k : Nat)] w fun e w' => e = .returned (.bool false) ∧ w = w' := by
  have h1 : decide ((k : Int) < 1) = false := by simp; omega
  have h2 : decide (n < k) = false := by simp; omega
  have h3 : decide (255 < (n : Int)) = false := by simp; omega
  go_enter Try.func73, Try.ntmps73
  go_wp2_with fail
  go_ret
  exact ⟨rfl, rfl⟩

theorem put_bad (A : Option Addr) (n c : Nat) (m : Int) (w : World) (h : n < 1 ∨ m < (n : Int) ∨ 255 < m) :
    Calls Try.prog 61 #[.slice A n c, .int .i64 m] w fun e w' => e = .returned (.tuple #[.slice none 0 0, .int .i64 1]) ∧ w = w' := by
  have hc : (decide ((n : Int) < 1) = true) ∨ (decide ((n : Int) < 1) = false ∧ decide (m < (n : Int)) = true) ∨ (decide ((n : Int) < 1) = false ∧ decide (m < (n : Int)) = false ∧ decide (255 < m) = true) := by
    by_cases h1 : (n : Int) < 1
    · left; exact decide_eq_true h1
    · by_cases h2 : m < (n : Int)
      · right; left; exact ⟨decide_eq_false h1, decide_eq_true h2⟩
      · right; right; exact ⟨decide_eq_false h1, decide_eq_false h2, decide_eq_true (by omega)⟩
  clear h
  rcases hc with h1 | ⟨h1, h2⟩ | ⟨h1, h2, h3⟩
  all_goals
    go_enter Try.func61, Try.ntmps61
    go_wp2_with fail
    go_ret2
    exact ⟨rfl, rfl⟩
theorem ref_put_bad (A : Option Addr) (n c : Nat) (m : Int) (w : World) (h : n < 1 ∨ m < (n : Int) ∨ 255 < m) :
    Calls Try.prog 62 #[.slice A n c, .int .i64 m] w fun e w' => e = .returned (.tuple #[.slice none 0 0, .int .i64 1]) ∧ w = w' := by
  have hc : (decide ((n : Int) < 1) = true) ∨ (decide ((n : Int) < 1) = false ∧ decide (m < (n : Int)) = true) ∨ (decide ((n : Int) < 1) = false ∧ decide (m < (n : Int)) = false ∧ decide (255 < m) = true) := by
    by_cases h1 : (n : Int) < 1
    · left; exact decide_eq_true h1
    · by_cases h2 : m < (n : Int)
      · right; left; exact ⟨decide_eq_false h1, decide_eq_true h2⟩
      · right; right; exact ⟨decide_eq_false h1, decide_eq_false h2, decide_eq_true (by omega)⟩
  clear h
  rcases hc with h1 | ⟨h1, h2⟩ | ⟨h1, h2, h3⟩
  all_goals
    go_enter Try.func62, Try.ntmps62
    go_wp2_with fail
    go_ret2
    exact ⟨rfl, rfl⟩

/-- a word and no error -/
def GvP (l : List F) (w : World) (e : Ending) (w' : World) : Prop := ∃ A n c, e = .returned (.tuple #[.slice A n c, .int .i64 0]) ∧ RowAt w' A n c l ∧ Below w.heap.size w w'

theorem put_ok (A : Option Addr) (n c : Nat) (f : List F) (m : Nat) (w : World) (h1 : RowAt w A n c f) (hn1 : 1 ≤ n) (hn : n ≤ m) (hm : m ≤ 255) :
    Calls Try.prog 61 #[.slice A n c, .int .i64 (m : Nat)] w (GvP (wd f m) w) := by
  have d1 : decide ((n : Int) < 1) = false := by simp; omega
  have d2 : decide (m < n) = false := by simp; omega
  have d3 : decide (255 < (m : Int)) = false := by simp; omega
  have MV := Lib.hid (values_row A n c f m w h1 (by omega) (by omega))
  clear h1
  go_enter Try.func61, Try.ntmps61
  go_wp2_with fail
  refine (MV.out).mono ?_
  rintro e W1 ⟨q, hq, rfl, hv, u1⟩
  have hr := hv.row
  rw [← hq] at hr
  clear hv hq
  go_wp2_with fail
  go_ret2
  exact ⟨_, q, q, rfl, hr, u1⟩

theorem expp_nat (i : Nat) (h : i < 255) : expp (i : Int) = pow2 i := by
  unfold expp turn
  congr 1
  omega

theorem ref_put_ok (A : Option Addr) (n c : Nat) (f : List F) (m : Nat) (w : World) (h1 : RowAt w A n c f) (hn1 : 1 ≤ n) (hn : n ≤ m) (hm : m ≤ 255) :
    Calls Try.prog 62 #[.slice A n c, .int .i64 (m : Nat)] w (GvP (wd f m) w) := by
  have d1 : decide ((n : Int) < 1) = false := by simp; omega
  have d2 : decide (m < n) = false := by simp; omega
  have d3 : decide (255 < (m : Int)) = false := by simp; omega
  obtain ⟨g, hg⟩ : ∃ g, g = w.heap.size := ⟨_, rfl⟩
  obtain ⟨P, hP⟩ : ∃ P : Po, P = fun i => pe f (pw i) := ⟨_, rfl⟩
  have HP := Lib.hid hP
  have HG := Lib.hid hg
  have H1 := Lib.hid h1
  have hb0 : Below g w w := Below.refl _ _
  have hgw : g ≤ w.heap.size := by omega
  clear hg h1 hP
  go_enter Try.func62, Try.ntmps62
  go_wp2_with fail
  clear d1 d2 d3
  go_loopw [6, 7] (fun o v wr => ∃ (i : Nat) (Ao : Option Addr) (co' : Nat), i ≤ m ∧ o = .slice Ao i co' ∧ v = .int .i64 i ∧ Own wr g 5 (.slice Ao i co') (U8s (vals (firsts i P))) ∧ Below g w wr) (fun _ v _ => m - (intOf v).toNat)
  case atStart => exact ⟨0, none, 0, by omega, rfl, rfl, Own.nil _ _ _, hb0⟩
  case round =>
    obtain ⟨i, Ao, co', hi, rfl, rfl, ho, hb⟩ := hrel
    have hgr : g ≤ wr.heap.size := by have := hb.size; omega
    by_cases hlt : i < m
    · obtain ⟨x, hx⟩ : ∃ x, x = (pw i).1 := ⟨_, rfl⟩
      obtain ⟨y, hy⟩ : ∃ y, y = (P i).1 := ⟨_, rfl⟩
      have MX := Lib.hid (show Calls Try.prog 39 #[.int .i64 (i : Nat)] wr fun e w' => e = .returned (.int .u8 (x : Nat)) ∧ wr = w' by
        have h := ref_exp_any (i : Int) wr
        rw [expp_nat i (by omega)] at h
        rw [hx]
        exact h)
      have ME := Lib.hid (show Calls Try.prog 50 #[.slice A n c, .int .u8 (x : Nat)] wr fun e w' => e = .returned (.int .u8 (y : Nat)) ∧ wr = w' by
        rw [hx, hy, HP.out]
        exact ref_eval_row A n c f (pw i) wr (H1.out.on (by rw [← HG.out]; exact hb)) (by omega))
      obtain ⟨S, hS⟩ : ∃ S, S = U8s (vals (firsts i P)) := ⟨_, rfl⟩
      have HS := Lib.hid (show U8s (vals (firsts (i + 1) P)) = S ++ [.int .u8 (y : Int)] by rw [hS]; exact cells_succ i P hy)
      have HSL := Lib.hid (show S.length = i by rw [hS]; exact cells_len i P)
      rw [← hS] at ho
      clear hx hy hS
      go_wp2_with (first
        | (go_at_call 39; (with_reducible refine (MX.out).mono ?_); rintro e w' ⟨rfl, rfl⟩)
        | (go_at_call 50; (with_reducible refine (ME.out).mono ?_); rintro e w' ⟨rfl, rfl⟩)
        | (at_builtin; refine wpList_app1 _ rfl (.tmp 26) (.tmp 31) 22 rfl g 5 (.int .u8 0) 1 Try.underlying22 info5 rfl _ S rfl (ho.alloc _) ⟨wr.heap.size, 0, none⟩ 1 (.int .u8 y) rfl (by go_simp) rfl (by rw [HSL.out]; omega) (by rw [HSL.out]; omega) (by simp; omega) ?_; rw [HSL.out]; intro g2 cap w2 hown2 hbel2 hgr2 hge2 hlt2))
      go_roundw
      case rel => exact ⟨i + 1, some ⟨g2, 0, none⟩, cap, by omega, rfl, by go_num, by rw [HS.out]; exact hown2, (hb.alloc hgr _).trans hbel2⟩
      case measure => simp [intOf]; omega
    · obtain rfl : i = m := by omega
      have hr := own_row ho (firsts_len i P)
      have HE := Lib.hid (show firsts i P = wd f i by rw [HP.out]; rfl)
      go_wp2_with fail
      go_ret2
      rw [HE.out] at hr
      exact ⟨Ao, i, co', rfl, hr, by rw [← HG.out]; exact hb⟩

theorem apart_row (A : Option Addr) (n c : Nat) (A2 : Option Addr) (c2 : Nat) (l m : List F) (D : Nat) (w : World) (h1 : RowAt w A n c l) (h2 : RowAt w A2 n c2 m) (hn : n ≤ 1000) (hD : D = ap (co l) (co m) n) :
    Calls Try.prog 76 #[.slice A n c, .slice A2 n c2] w fun e w' => e = .returned (.int .i64 (D : Nat)) ∧ Below w.heap.size w w' := by
  have H1 := Lib.hid h1
  have H2 := Lib.hid h2
  have HD := Lib.hid hD
  clear h1 h2 hD
  go_enter Try.func76, Try.ntmps76
  go_wp2_with fail
  go_loopw [5, 9] (fun o v wr => ∃ i d : Nat, i ≤ n ∧ d ≤ i ∧ o = .int .i64 (d : Nat) ∧ v = .int .i64 i ∧ d = ap (co l) (co m) i ∧ ∃ q, wr = w.drewN q) (fun _ v _ => n - (intOf v).toNat)
  case atStart => exact ⟨0, 0, by omega, by omega, rfl, rfl, rfl, 0, rfl⟩
  case round =>
    obtain ⟨i, d, hi, hdi, rfl, rfl, hd, q, hq⟩ := hrel
    have HDD := Lib.hid hd
    have HQ := Lib.hid hq
    have r1 : RowAt wr A n c l := by rw [hq]; exact H1.out
    have r2 : RowAt wr A2 n c2 m := by rw [hq]; exact H2.out
    clear hd hq
    by_cases hlt : i < n
    · obtain ⟨ax, hax, _, hcx⟩ := r1.cell hlt
      obtain ⟨ay, hay, _, hcy⟩ := r2.cell hlt
      subst hax hay
      obtain ⟨x, hx⟩ : ∃ x, x = (co l i).1 := ⟨_, rfl⟩
      obtain ⟨y, hy⟩ : ∃ y, y = (co m i).1 := ⟨_, rfl⟩
      rw [← hx] at hcx
      rw [← hy] at hcy
      by_cases he : x = y
      · have hd2 := Lib.hid (show d = ap (co l) (co m) (i + 1) by rw [ap, ← HDD.out, if_pos (F.ext (by rw [← hx, ← hy]; exact he))]; rfl)
        have ht1 : ((x : Int) == (y : Int)) = true := by simp [he]
        have ht2 : ((x : Int) != (y : Int)) = false := by simp [he]
        clear hx hy he r1 r2
        go_wp2_with fail
        go_quiet (fail)
        go_wp2_with fail
        go_roundw
        case rel => exact ⟨i + 1, d, by omega, by omega, rfl, by go_num, hd2.out, q + _, by rw [HQ.out, World.drewN_drewN]⟩
        case measure => simp [intOf]; omega
      · have hd2 := Lib.hid (show d + 1 = ap (co l) (co m) (i + 1) by rw [ap, ← HDD.out, if_neg (fun e => he (by rw [hx, hy, e]))])
        have ht1 : ((x : Int) == (y : Int)) = false := by simp; omega
        have ht2 : ((x : Int) != (y : Int)) = true := by simp; omega
        clear hx hy he r1 r2
        go_wp2_with fail
        go_quiet (fail)
        go_wp2_with fail
        go_roundw
        case rel => exact ⟨i + 1, d + 1, by omega, by omega, by go_num, by go_num, hd2.out, q + _, by rw [HQ.out, World.drewN_drewN]⟩
        case measure => simp [intOf]; omega
    · obtain rfl : i = n := by omega
      clear r1 r2
      go_wp2_with fail
      go_ret
      exact ⟨ret_i64 (by rw [HDD.out, HD.out]), by rw [HQ.out]; exact below_drewN (Below.refl _ _) _⟩
theorem ref_apart_row (A : Option Addr) (n c : Nat) (A2 : Option Addr) (c2 : Nat) (l m : List F) (D : Nat) (w : World) (h1 : RowAt w A n c l) (h2 : RowAt w A2 n c2 m) (hn : n ≤ 1000) (hD : D = ap (co l) (co m) n) :
    Calls Try.prog 66 #[.slice A n c, .slice A2 n c2] w fun e w' => e = .returned (.int .i64 (D : Nat)) ∧ Below w.heap.size w w' := by
  have H1 := Lib.hid h1
  have H2 := Lib.hid h2
  have HD := Lib.hid hD
  clear h1 h2 hD
  go_enter Try.func66, Try.ntmps66
  go_wp2_with fail
  go_loopw [5, 6] (fun o v wr => ∃ i d : Nat, i ≤ n ∧ d ≤ i ∧ o = .int .i64 (d : Nat) ∧ v = .int .i64 i ∧ d = ap (co l) (co m) i ∧ ∃ q, wr = w.drewN q) (fun _ v _ => n - (intOf v).toNat)
  case atStart => exact ⟨0, 0, by omega, by omega, rfl, rfl, rfl, 0, rfl⟩
  case round =>
    obtain ⟨i, d, hi, hdi, rfl, rfl, hd, q, hq⟩ := hrel
    have HDD := Lib.hid hd
    have HQ := Lib.hid hq
    have r1 : RowAt wr A n c l := by rw [hq]; exact H1.out
    have r2 : RowAt wr A2 n c2 m := by rw [hq]; exact H2.out
    clear hd hq
    by_cases hlt : i < n
    · obtain ⟨ax, hax, _, hcx⟩ := r1.cell hlt
      obtain ⟨ay, hay, _, hcy⟩ := r2.cell hlt
      subst hax hay
      obtain ⟨x, hx⟩ : ∃ x, x = (co l i).1 := ⟨_, rfl⟩
      obtain ⟨y, hy⟩ : ∃ y, y = (co m i).1 := ⟨_, rfl⟩
      rw [← hx] at hcx
      rw [← hy] at hcy
      by_cases he : x = y
      · have hd2 := Lib.hid (show d = ap (co l) (co m) (i + 1) by rw [ap, ← HDD.out, if_pos (F.ext (by rw [← hx, ← hy]; exact he))]; rfl)
        have ht1 : ((x : Int) == (y : Int)) = true := by simp [he]
        have ht2 : ((x : Int) != (y : Int)) = false := by simp [he]
        clear hx hy he r1 r2
        go_wp2_with fail
        go_quiet (fail)
        go_wp2_with fail
        go_roundw
        case rel => exact ⟨i + 1, d, by omega, by omega, rfl, by go_num, hd2.out, q + _, by rw [HQ.out, World.drewN_drewN]⟩
        case measure => simp [intOf]; omega
      · have hd2 := Lib.hid (show d + 1 = ap (co l) (co m) (i + 1) by rw [ap, ← HDD.out, if_neg (fun e => he (by rw [hx, hy, e]))])
        have ht1 : ((x : Int) == (y : Int)) = false := by simp; omega
        have ht2 : ((x : Int) != (y : Int)) = true := by simp; omega
        clear hx hy he r1 r2
        go_wp2_with fail
        go_quiet (fail)
        go_wp2_with fail
        go_roundw
        case rel => exact ⟨i + 1, d + 1, by omega, by omega, by go_num, by go_num, hd2.out, q + _, by rw [HQ.out, World.drewN_drewN]⟩
        case measure => simp [intOf]; omega
    · obtain rfl : i = n := by omega
      clear r1 r2
      go_wp2_with fail
      go_ret
      exact ⟨ret_i64 (by rw [HDD.out, HD.out]), by rw [HQ.out]; exact below_drewN (Below.refl _ _) _⟩

/-- the reference's wide -/
theorem wide_row (A : Option Addr) (n c : Nat) (q : List F) (k : Nat) (w : World) (h1 : RowAt w A n c q) (hn : n ≤ k) (hk : k ≤ 1000) :
    Calls Try.prog 78 #[.slice A n c, .int .i64 (k : Nat)] w (Gv (pad k q) w) := by
  obtain ⟨i0, hi0, hz0, hz1, hz2⟩ := info_parts info5
  obtain ⟨g, hg⟩ : ∃ g, g = w.heap.size := ⟨_, rfl⟩
  have HG := Lib.hid hg
  have H1 := Lib.hid h1
  have hi0' := Lib.hid hi0
  have hz0' := Lib.hid hz0
  have hz1' := Lib.hid hz1
  have hz2' := Lib.hid hz2
  have hgw : g ≤ w.heap.size := by omega
  clear hg h1 hi0 hz0 hz1 hz2
  go_enter Try.func78, Try.ntmps78
  go_wp2_with (at_builtin; refine wpList_append_any _ rfl (.tmp 6) (.tmp 7) 22 rfl g 5 i0 _ 1 1 Try.underlying22 hi0'.out hz0'.out hz1'.out hz2'.out rfl (by omega) (.slice none 0 0) 0 [] rfl ⟨by simp, .inl ⟨rfl, rfl⟩⟩ w.heap.size A n c (U8s (vals q)) rfl H1.out.2.2 (U8s_one _) (by simp only [maxLen]; omega) (by omega) hgw ?_; intro v1 w1 hown1 hg1 hat1; obtain ⟨A1, c1, rfl, hown, _⟩ := app_form hown1 H1.out.1; have hb1 : Below g w w1 := (Below.refl _ _).grown hg1 hgw (by simp [Value.ownBlock]); clear hown1 hg1 hat1)
  go_loopw [5] (fun o wr => ∃ (i : Nat) (Ao : Option Addr) (co' : Nat), n ≤ i ∧ i ≤ k ∧ o = .slice Ao i co' ∧ Own wr g 5 (.slice Ao i co') (U8s (vals (pad i q))) ∧ Below g w wr) (fun o _ => k - sLen o)
  case atStart =>
    refine ⟨n, A1, c1, by omega, hn, rfl, ?_, hb1⟩
    have e : pad n q = q := by rw [pad_eq (by rw [H1.out.1]; exact Nat.le_refl _), H1.out.1]; simp
    rw [e]; exact hown
  case round =>
    obtain ⟨i, Ao, co', hni, hi, rfl, ho, hb⟩ := hrel
    clear hown hb1
    have hgr : g ≤ wr.heap.size := by have := hb.size; omega
    by_cases hlt : i < k
    · obtain ⟨S, hS⟩ : ∃ S, S = U8s (vals (pad i q)) := ⟨_, rfl⟩
      have HS := Lib.hid (show U8s (vals (pad (i + 1) q)) = S ++ [.int .u8 0] by
        have h := cells_succ (x := 0) i (co q) (by rw [co_out q i (by rw [H1.out.1]; exact hni)]; rfl)
        rw [hS]
        exact h)
      have HSL := Lib.hid (show S.length = i by rw [hS]; exact cells_len i (co q))
      rw [← hS] at ho
      clear hS
      go_wp2_with (at_builtin; refine wpList_app1 _ rfl (.tmp 13) (.tmp 14) 22 rfl g 5 (.int .u8 0) 1 Try.underlying22 info5 rfl _ S rfl (ho.alloc _) ⟨wr.heap.size, 0, none⟩ 1 (.int .u8 0) rfl (by go_simp) rfl (by rw [HSL.out]; omega) (by rw [HSL.out]; omega) (by simp; omega) ?_; rw [HSL.out]; intro g2 cap w2 hown2 hbel2 hgr2 hge2 hlt2)
      go_roundw
      case rel => exact ⟨i + 1, some ⟨g2, 0, none⟩, cap, by omega, by omega, rfl, by rw [HS.out]; exact hown2, (hb.alloc hgr _).trans hbel2⟩
      case measure => show k - (i + 1) < k - i; omega
    · obtain rfl : i = k := by omega
      have hr := own_row ho (pad_len i q)
      go_wp2_with fail
      go_ret
      exact ⟨Ao, i, co', rfl, hr, by rw [← HG.out]; exact hb⟩
end Go.Proofs.Ytbbikkmmdedaiaa.Pr
