/- What the reference's Mul and Slope of polynomials compute. -/
import Derived.Test.YtbbikkmmdedaiaaPolyRefs
set_option maxRecDepth 100000
namespace Go.Proofs.Ytbbikkmmdedaiaa.Pr
open Go.RowKit Go.Proofs.Ytbbikkmmdedaiaa.Gf Go.Proofs.Ytbbikkmmdedaiaa.Vec

theorem ref_slope_row (A : Option Addr) (n c : Nat) (l : List F) (w : World) (h1 : RowAt w A n c l) (hn : n ≤ 100000) :
    Calls Try.prog 52 #[.slice A n c] w (Gv (ps l) w) := by
  obtain ⟨g, hg⟩ : ∃ g, g = w.heap.size := ⟨_, rfl⟩
  obtain ⟨p, hp⟩ : ∃ p, p = sl (co l) := ⟨_, rfl⟩
  have hb0 : Below g w w := Below.refl _ _
  have hgw : g ≤ w.heap.size := by omega
  have HG := Lib.hid hg
  have HPP := Lib.hid hp
  have H1 := Lib.hid h1
  clear hg hp h1
  go_enter Try.func52, Try.ntmps52
  go_wp2_with fail
  go_loopw [3, 4] (fun o v wr => ∃ (s i : Nat) (A' : Option Addr) (c' : Nat), i ≤ n + 1 ∧ (i ≤ n ∨ s = 0) ∧ i = s + 1 ∧ o = .slice A' s c' ∧ v = .int .i64 i ∧ Own wr g 5 (.slice A' s c') (U8s (vals (firsts s p))) ∧ Below g w wr) (fun _ v _ => n + 1 - (intOf v).toNat)
  case atStart => exact ⟨0, 1, none, 0, by omega, .inr rfl, rfl, rfl, rfl, Own.nil _ _ _, hb0⟩
  case round =>
    obtain ⟨s, i, A1, c1, hi, hi2, hs, rfl, rfl, ho, hb⟩ := hrel
    have HS0 := Lib.hid hs
    by_cases hlt : i < n
    · obtain ⟨z, hz⟩ : ∃ z, z = (p s).1 := ⟨_, rfl⟩
      have hsz := hb.size
      have hsb : s ≤ 100000 := by omega
      obtain ⟨S, hS⟩ : ∃ S, S = U8s (vals (firsts s p)) := ⟨_, rfl⟩
      have HS := Lib.hid (show U8s (vals (firsts (s + 1) p)) = S ++ [.int .u8 (z : Int)] by rw [hS]; exact cells_succ s p hz)
      have HSL := Lib.hid (show S.length = s by rw [hS]; exact cells_len s p)
      rw [← hS] at ho
      clear hS
      obtain ⟨av, rfl, _, hc⟩ := (H1.out.on (by rw [← HG.out]; exact hb)).cell hlt
      by_cases hodd : i % 2 = 1
      · have hzz : z = (co l i).1 := by
          rw [hz, HPP.out, hs]
          show (if s % 2 = 0 then co l (s + 1) else 0).1 = _
          rw [if_pos (by omega)]
        rw [← hzz] at hc
        have ht1 : ((i : Int) % 2 == 1) = true := by simp; omega
        have ht2 : ((i : Int).tmod 2 == 1) = true := by rw [Int.tmod_eq_emod_of_nonneg (by omega)]; exact ht1
        clear hz hzz hodd hs
        go_wp2_with (at_builtin; refine wpList_app1 _ rfl (.tmp 19) (.tmp 21) 22 rfl g 5 (.int .u8 0) 1 Try.underlying22 info5 rfl _ S rfl (ho.alloc _) ⟨wr.heap.size, 0, none⟩ 1 (.int .u8 z) rfl (by go_simp) rfl (by rw [HSL.out]; omega) (by rw [HSL.out]; omega) (by simp; omega) ?_; rw [HSL.out]; intro g2 cap w2 hown2 hbel2 hgr2 hge2 hlt2)
        clear ht1 ht2
        go_roundw
        case rel => exact ⟨s + 1, i + 1, some ⟨g2, 0, none⟩, cap, by omega, by omega, by have := HS0.out; omega, rfl, by go_num, by rw [HS.out]; exact hown2, (hb.alloc (by omega) _).trans hbel2⟩
        case measure => simp [intOf]; omega
      · have HZ := Lib.hid (show z = 0 by
          rw [hz, HPP.out]
          show (if s % 2 = 0 then co l (s + 1) else 0).1 = _
          rw [if_neg (by omega)]
          rfl)
        have ht1 : ((i : Int) % 2 == 1) = false := by simp; omega
        have ht2 : ((i : Int).tmod 2 == 1) = false := by rw [Int.tmod_eq_emod_of_nonneg (by omega)]; exact ht1
        clear hz hodd hs
        go_wp2_with (at_builtin; refine wpList_app1 _ rfl (.tmp 19) (.tmp 21) 22 rfl g 5 (.int .u8 0) 1 Try.underlying22 info5 rfl _ S rfl (ho.alloc _) ⟨wr.heap.size, 0, none⟩ 1 (.int .u8 0) rfl (by go_simp) rfl (by rw [HSL.out]; omega) (by rw [HSL.out]; omega) (by simp; omega) ?_; rw [HSL.out]; intro g2 cap w2 hown2 hbel2 hgr2 hge2 hlt2)
        clear ht1 ht2
        go_roundw
        case rel =>
          refine ⟨s + 1, i + 1, some ⟨g2, 0, none⟩, cap, by omega, by omega, by have := HS0.out; omega, rfl, by go_num, ?_, (hb.alloc (by omega) _).trans hbel2⟩
          rw [HS.out, HZ.out]; exact hown2
        case measure => simp [intOf]; omega
    · have hr := own_row ho (firsts_len s p)
      have hlo : Lo s (sl (co l)) := by
        have e := co_lo l
        rw [H1.out.1] at e
        exact Lo.sl (e.mono (by omega))
      have HT := Lib.hid (show tr (firsts s p) = ps l from by
        rw [HPP.out]
        exact tr_firsts hlo (ps_lo l))
      have M3 := Lib.hid (ref_trim_row hr (by omega))
      clear hr hlo hs
      go_wp2_with (go_at_call 44; with_reducible refine (M3.out).mono ?_; rintro e w' ⟨⟨A', n', c', rfl, hrr⟩, rfl⟩)
      go_ret
      rw [HT.out] at hrr
      exact ⟨A', n', c', rfl, hrr, by rw [← HG.out]; exact hb⟩

set_option maxHeartbeats 400000 in
theorem ref_mul_row (A : Option Addr) (n c : Nat) (A2 : Option Addr) (n2 c2 : Nat) (l m : List F) (w : World) (h1 : RowAt w A n c l) (h2 : RowAt w A2 n2 c2 m) (hn : n ≤ 100000) (hn2 : n2 ≤ 100000) :
    Calls Try.prog 48 #[.slice A n c, .slice A2 n2 c2] w (Gv (pm l m) w) := by
  obtain ⟨g, hg⟩ : ∃ g, g = w.heap.size := ⟨_, rfl⟩
  obtain ⟨p, hp⟩ : ∃ p : Po, p = cv (co l) (co m) := ⟨_, rfl⟩
  obtain ⟨N, hN⟩ : ∃ N, N = n + n2 := ⟨_, rfl⟩
  have hb0 : Below g w w := Below.refl _ _
  have hgw : g ≤ w.heap.size := by omega
  have hsum : ((n : Int) + (n2 : Int)) = (N : Int) := by omega
  have HG := Lib.hid hg
  have HPP := Lib.hid hp
  have HNN := Lib.hid hN
  have H1 := Lib.hid h1
  have H2 := Lib.hid h2
  have hNb : N ≤ 200000 := by omega
  clear hg hp hN h1 h2
  go_enter Try.func48, Try.ntmps48
  go_wp2_with fail
  go_loopw [5, 6] (fun o v wr => ∃ (k : Nat) (A' : Option Addr) (c' : Nat), k ≤ N ∧ o = .slice A' k c' ∧ v = .int .i64 k ∧ Own wr g 5 (.slice A' k c') (U8s (vals (firsts k p))) ∧ Below g w wr) (fun _ v _ => N - (intOf v).toNat)
  case atStart => exact ⟨0, none, 0, by omega, rfl, rfl, Own.nil _ _ _, hb0⟩
  case round =>
    obtain ⟨k, A1, c1, hk, rfl, rfl, ho, hb⟩ := hrel
    by_cases hlt : k < N
    · obtain ⟨W0, rfl⟩ : ∃ W0, W0 = wr := ⟨_, rfl⟩
      have HO := Lib.hid ho
      have HB := Lib.hid hb
      clear ho hb
      go_wp2_with fail
      go_loopw [7, 8] (fun x v wr => ∃ (i xx : Nat), i ≤ k + 1 ∧ i ≤ n ∧ v = .int .i64 i ∧ x = .int .u8 xx ∧ xx = (cv (cut i (co l)) (co m) k).1 ∧ ∃ q, wr = W0.drewN q) (fun _ v _ => n - (intOf v).toNat)
      case atStart => exact ⟨0, 0, by omega, by omega, rfl, rfl, by rw [cut_0, cv_nul_left]; rfl, 0, rfl⟩
      case round =>
        obtain ⟨i, xx, hi1, hi2, rfl, rfl, hxx, q, hq⟩ := hrel
        have HXX := Lib.hid hxx
        have HQ := Lib.hid hq
        have hb : Below g w wr := by rw [hq]; exact below_drewN HB.out q
        have hR1 : RowAt wr A n c l := H1.out.on (by rw [← HG.out]; exact hb)
        have HR2 := Lib.hid (show ∀ q', RowAt (wr.drewN q') A2 n2 c2 m from fun q' => H2.out.on (by rw [← HG.out]; exact below_drewN hb q'))
        have ho : Own wr g 5 (.slice A1 k c1) (U8s (vals (firsts k p))) := by rw [hq]; exact HO.out
        clear hxx hq
        by_cases hin : i ≤ k ∧ i < n
        · obtain ⟨hik, hil⟩ := hin
          obtain ⟨av, rfl, _, hc⟩ := hR1.cell hil
          obtain ⟨a, ha⟩ : ∃ a, a = (co l i).1 := ⟨_, rfl⟩
          obtain ⟨d, hd⟩ : ∃ d, d = k - i := ⟨_, rfl⟩
          obtain ⟨b, hb0⟩ : ∃ b, b = (co m d).1 := ⟨_, rfl⟩
          obtain ⟨y, hy⟩ : ∃ y, y = (co l i * co m d).1 := ⟨_, rfl⟩
          obtain ⟨z, hz⟩ : ∃ z, z = (cv (cut (i + 1) (co l)) (co m) k).1 := ⟨_, rfl⟩
          rw [← ha] at hc
          have M1 := Lib.hid (show ∀ q', Calls Try.prog 68 #[.slice A2 n2 c2, .int .i64 (d : Nat)] (wr.drewN q') fun e w' => e = .returned (.int .u8 (b : Nat)) ∧ wr.drewN q' = w' by
            rw [hb0]; exact fun q' => at_row A2 n2 c2 m d _ (HR2.out q'))
          have M2 := Lib.hid (show ∀ w, Calls Try.prog 34 #[.int .u8 (a : Nat), .int .u8 (b : Nat)] w fun e w' => e = .returned (.int .u8 (y : Nat)) ∧ w = w' by
            rw [ha, hb0, hy]; exact ref_fmul_at rfl)
          have hxo : bits .xor .u8 (xx : Int) (y : Int) = (z : Int) := by
            rw [HXX.out, hy, hz]
            exact fxor (by rw [cv_cut_at i k _ _ hik, hd])
          have HZ := Lib.hid hz
          have es : IntKind.i64.wrap ((k : Int) - (i : Int)) = (d : Int) := by rw [hd]; rw [IntWalk.i64_in _ ⟨by omega, by omega⟩]; omega
          have hd1 : decide (i ≤ k) = true := by simp [hik]
          have hd2 : decide (i < n) = true := by simp [hil]
          clear ha hd hb0 hy hz hR1 ho hb
          go_wp2_with fail
          go_quiet ((first | (go_at_call 68; exact Calls.quiet_of_same ((M1.out _).mono fun _ _ h => ⟨h.1, h.2.symm⟩)) | (go_at_call 34; exact Calls.quiet_of_same ((M2.out _).mono fun _ _ h => ⟨h.1, h.2.symm⟩))))
          clear es
          go_wp2_with fail
          go_roundw
          case rel => exact ⟨i + 1, z, by omega, by omega, by go_num, rfl, HZ.out, q + _, by rw [HQ.out, World.drewN_drewN]⟩
          case measure => simp [intOf]; omega
        · have hend : xx = (p k).1 := by
            rw [HXX.out, HPP.out]
            by_cases h1 : i ≤ k
            · have e : i = l.length := by rw [H1.out.1]; omega
              rw [e, cut_co]
            · rw [cv_cut_end k _ _ i (by omega)]
          have hcases : (decide (i ≤ k) = false) ∨ (decide (i ≤ k) = true ∧ decide (i < n) = false) := by
            by_cases h1 : i ≤ k
            · right; exact ⟨by simp [h1], by simp; omega⟩
            · left; simp [h1]
          have hsz := hb.size
          obtain ⟨S, hS⟩ : ∃ S, S = U8s (vals (firsts k p)) := ⟨_, rfl⟩
          have HS := Lib.hid (show U8s (vals (firsts (k + 1) p)) = S ++ [.int .u8 (xx : Int)] by rw [hS]; exact cells_succ k p hend)
          have HSL := Lib.hid (show S.length = k by rw [hS]; exact cells_len k p)
          rw [← hS] at ho
          clear hS hend hin hR1
          rcases hcases with hd1 | ⟨hd1, hd2⟩
          all_goals
            go_wp2_with (at_builtin; refine wpList_app1 _ rfl (.tmp 41) (.tmp 43) 22 rfl g 5 (.int .u8 0) 1 Try.underlying22 info5 rfl _ S rfl (ho.alloc _) ⟨wr.heap.size, 0, none⟩ 1 (.int .u8 xx) rfl (by go_simp) rfl (by rw [HSL.out]; omega) (by rw [HSL.out]; omega) (by simp; omega) ?_; rw [HSL.out]; intro g2 cap w2 hown2 hbel2 hgr2 hge2 hlt2)
            go_roundw
            case rel => exact ⟨k + 1, some ⟨g2, 0, none⟩, cap, by omega, rfl, by go_num, by rw [HS.out]; exact hown2, (hb.alloc (by omega) _).trans hbel2⟩
            case measure => simp [intOf]; omega
    · obtain rfl : k = N := by omega
      have hr := own_row ho (firsts_len k p)
      have hlo : Lo k (cv (co l) (co m)) := by
        have e := pm_lo l m
        rw [H1.out.1, H2.out.1, ← HNN.out] at e
        exact e
      have HT := Lib.hid (show tr (firsts k p) = pm l m from by
        rw [HPP.out]
        exact tr_firsts hlo (pm_lo l m))
      have M3 := Lib.hid (ref_trim_row hr (by omega))
      clear hr hlo
      go_wp2_with (go_at_call 44; with_reducible refine (M3.out).mono ?_; rintro e w' ⟨⟨A', n', c', rfl, hrr⟩, rfl⟩)
      go_ret
      rw [HT.out] at hrr
      exact ⟨A', n', c', rfl, hrr, by rw [← HG.out]; exact hb⟩
end Go.Proofs.Ytbbikkmmdedaiaa.Pr
