/- What poly.Mul and poly.Slope compute. -/
import Derived.Test.YtbbikkmmdedaiaaPolyAdd
set_option maxRecDepth 100000
namespace Go.Proofs.Ytbbikkmmdedaiaa.Pr
open Go.RowKit Go.Proofs.Ytbbikkmmdedaiaa.Gf Go.Proofs.Ytbbikkmmdedaiaa.Vec

set_option maxHeartbeats 400000 in
theorem mul_row (A : Option Addr) (n c : Nat) (A2 : Option Addr) (n2 c2 : Nat) (l m : List F) (w : World) (h1 : RowAt w A n c l) (h2 : RowAt w A2 n2 c2 m) (hn : n ≤ 100000) (hn2 : n2 ≤ 100000) :
    Calls Try.prog 47 #[.slice A n c, .slice A2 n2 c2] w (Gv (pm l m) w) := by
  obtain ⟨g, hg⟩ : ∃ g, g = w.heap.size := ⟨_, rfl⟩
  obtain ⟨N, hN⟩ : ∃ N, N = n + n2 := ⟨_, rfl⟩
  obtain ⟨W, hW⟩ : ∃ W, W = w.alloc (.cells (madeCells #[.int .u8 0] N) 5) := ⟨_, rfl⟩
  have hvb : VBF W g (List.replicate N 0) := by rw [hW, hg]; exact VBF.made w N
  have hbl : Below g w W := by rw [hW, hg]; exact (Below.refl _ w).alloc (Nat.le_refl _) _
  have hmk := run_make_row' (P := Try.prog) 22 5 (.int .u8 0) 1 Try.underlying22 info5 rfl .i64 .i64 N (by omega) (by omega)
  have hsum : ((n : Int) + (n2 : Int)) = (N : Int) := by omega
  have HW := Lib.hid hW
  have HG := Lib.hid hg
  have HNN := Lib.hid hN
  have H1 := Lib.hid h1
  have H2 := Lib.hid h2
  clear hW hg h1 h2 hN
  go_enter Try.func47, Try.ntmps47
  go_wp2_with fail
  rw [← HW.out, ← HG.out]
  clear hmk hsum
  go_loopw [18] (fun v wr => ∃ (i : Nat) (q : List F), i ≤ n ∧ v = .int .i64 i ∧ q.length = N ∧ co q = cv (cut i (co l)) (co m) ∧ VBF wr g q ∧ Below g w wr) (fun v _ => n - (intOf v).toNat)
  case atStart => exact ⟨0, List.replicate N 0, by omega, rfl, by simp, by rw [cut_0, cv_nul_left, co_zeros], hvb, hbl⟩
  case round =>
    obtain ⟨i, q, hi, rfl, hq, hco, hv, hb⟩ := hrel
    clear hvb hbl
    have HQ := Lib.hid hq
    have HCO := Lib.hid hco
    clear hq hco
    by_cases hlt : i < n
    · obtain ⟨av, rfl, _, hc⟩ := (H1.out.on (by rw [← HG.out]; exact hb)).cell hlt
      obtain ⟨a, ha⟩ : ∃ a, a = (co l i).1 := ⟨_, rfl⟩
      rw [← ha] at hc
      have HA := Lib.hid ha
      clear ha
      go_wp2_with fail
      go_loopw [25] (fun v wr => ∃ (k : Nat) (q' : List F), k ≤ n2 ∧ v = .int .i64 k ∧ q'.length = N ∧ co q' = ad (co q) (cv (mon i (co l i)) (cut k (co m))) ∧ VBF wr g q' ∧ Below g w wr) (fun v _ => n2 - (intOf v).toNat)
      case atStart => exact ⟨0, q, by omega, rfl, HQ.out, by rw [cut_0, cv_nul_right, ad_nul], hv, hb⟩
      case round =>
        obtain ⟨k, q', hk, rfl, hq', hco', hv', hb'⟩ := hrel
        clear hv hb hc
        have HQ' := Lib.hid hq'
        have HCO' := Lib.hid hco'
        clear hq' hco'
        by_cases hlt2 : k < n2
        · obtain ⟨av2, rfl, _, hc⟩ := (H2.out.on (by rw [← HG.out]; exact hb')).cell hlt2
          obtain ⟨b, hb0⟩ : ∃ b, b = (co m k).1 := ⟨_, rfl⟩
          obtain ⟨s, hs⟩ : ∃ s, s = i + k := ⟨_, rfl⟩
          have hsN : s < N := by have := HNN.out; omega
          obtain ⟨y, hy⟩ : ∃ y, y = (co q' s).1 := ⟨_, rfl⟩
          obtain ⟨p, hp⟩ : ∃ p, p = (co l i * co m k).1 := ⟨_, rfl⟩
          obtain ⟨z, hz⟩ : ∃ z, z = (co q' s + co l i * co m k).1 := ⟨_, rfl⟩
          rw [← hb0] at hc
          have c1 := hv'.cell s (by rw [HQ'.out]; exact hsN)
          rw [← hy] at c1
          have f1 := hv'.frozen s
          have M1 := Lib.hid (show ∀ w, Calls Try.prog 33 #[.int .u8 (a : Nat), .int .u8 (b : Nat)] w fun e w' => e = .returned (.int .u8 (p : Nat)) ∧ w = w' by
            rw [HA.out, hb0, hp]; exact fmul_at rfl)
          have hxo : bits .xor .u8 (y : Int) (p : Int) = (z : Int) := by rw [hy, hp, hz]; exact fxor rfl
          have HV2 := Lib.hid (show VBF (wr.setCell ⟨g, s, none⟩ (.int .u8 (z : Nat))) g (q'.set s (co q' s + co l i * co m k)) by
            rw [hz]; exact hv'.set s _)
          have HS := Lib.hid hs
          have es : IntKind.i64.wrap ((i : Int) + (k : Int)) = (s : Int) := by rw [hs]; exact IntWalk.i64_in _ ⟨by omega, by omega⟩
          have es0 : (0 : Int) ≤ (s : Int) := by omega
          have esN : (s : Int) < (N : Int) := by omega
          clear hb0 hy hp hz hs hv'
          go_wp2_with fail
          go_region_with (go_at_call 33; with_reducible refine (M1.out _).mono ?_; rintro e w' ⟨rfl, rfl⟩)
          clear es es0 esN
          all_goals
            go_wp2_with fail
            go_roundw
            case rel =>
              refine ⟨k + 1, q'.set s (co q' s + co l i * co m k), by omega, by go_num, by rw [List.length_set]; exact HQ'.out, ?_, HV2.out, (hb'.setCell (p := ⟨g, s, none⟩) (Nat.le_refl _) _).drew⟩
              rw [co_set_add q' s _ (by rw [HQ'.out]; exact hsN), HCO'.out, ad_assoc, cv_cut_succ, HS.out]
            case measure => simp [intOf]; omega
        · obtain rfl : k = n2 := by omega
          clear hlt2
          go_wp2_with fail
          go_roundw
          case rel =>
            refine ⟨i + 1, q', by omega, by go_num, HQ'.out, ?_, hv', hb'⟩
            have e : k = m.length := H2.out.1.symm
            rw [HCO'.out, HCO.out, e, cut_co, ← cv_cut_left]
          case measure => simp [intOf]; omega
    · obtain rfl : i = n := by omega
      have hr2 := hv.row
      have hqn : q.length = N := HQ.out
      rw [hqn] at hr2
      have HT := Lib.hid (show tr q = pm l m from tr_co (pm_lo l m) (by
        rw [HCO.out]
        have : i = l.length := H1.out.1.symm
        rw [this, cut_co]))
      have M2 := Lib.hid (trim_row hr2 (by have := HNN.out; omega))
      clear hr2 hqn
      go_wp2_with (go_at_call 43; with_reducible refine (M2.out).mono ?_; rintro e w' ⟨⟨A', n', c', rfl, hrr⟩, rfl⟩)
      go_ret
      rw [HT.out] at hrr
      exact ⟨A', n', c', rfl, hrr, by rw [← HG.out]; exact hb⟩

theorem slope_cut (l : List F) (h : Nat) : ad (cut (2 * h) (sl (co l))) (mon (2 * h) (co l (2 * h + 1))) = cut (2 * (h + 1)) (sl (co l)) := by
  rw [show 2 * (h + 1) = 2 * h + 1 + 1 by omega, cut_succ, cut_succ]
  have e1 : sl (co l) (2 * h) = co l (2 * h + 1) := by unfold sl; rw [if_pos (by omega)]
  have e2 : sl (co l) (2 * h + 1) = 0 := by unfold sl; rw [if_neg (by omega)]
  rw [e1, e2, mon_zero, ad_nul]
theorem slope_row (A : Option Addr) (n c : Nat) (l : List F) (w : World) (h1 : RowAt w A n c l) (hn : n ≤ 100000) :
    Calls Try.prog 51 #[.slice A n c] w (Gv (ps l) w) := by
  obtain ⟨g, hg⟩ : ∃ g, g = w.heap.size := ⟨_, rfl⟩
  obtain ⟨W, hW⟩ : ∃ W, W = w.alloc (.cells (madeCells #[.int .u8 0] n) 5) := ⟨_, rfl⟩
  have hvb : VBF W g (List.replicate n 0) := by rw [hW, hg]; exact VBF.made w n
  have hbl : Below g w W := by rw [hW, hg]; exact (Below.refl _ w).alloc (Nat.le_refl _) _
  have hmk := run_make_row' (P := Try.prog) 22 5 (.int .u8 0) 1 Try.underlying22 info5 rfl .i64 .i64 n (by omega) (by omega)
  have HW := Lib.hid hW
  have HG := Lib.hid hg
  have H1 := Lib.hid h1
  clear hW hg h1
  go_enter Try.func51, Try.ntmps51
  go_wp2_with fail
  rw [← HW.out, ← HG.out]
  clear hmk
  go_loopw [4] (fun v wr => ∃ (h : Nat) (i : Nat) (q : List F), i ≤ n + 1 ∧ i = 2 * h + 1 ∧ v = .int .i64 i ∧ q.length = n ∧ co q = cut (2 * h) (sl (co l)) ∧ VBF wr g q ∧ Below g w wr) (fun v _ => n + 1 - (intOf v).toNat)
  case atStart => exact ⟨0, 1, List.replicate n 0, by omega, rfl, rfl, by simp, by rw [cut_0, co_zeros], hvb, hbl⟩
  case round =>
    obtain ⟨h, i, q, hi, hh, rfl, hq, hco, hv, hb⟩ := hrel
    clear hvb hbl
    have HQ := Lib.hid hq
    have HCO := Lib.hid hco
    have HH := Lib.hid hh
    have hi1 : 1 ≤ i := by omega
    clear hq hco
    by_cases hlt : i < n
    · obtain ⟨av, rfl, _, hc⟩ := (H1.out.on (by rw [← HG.out]; exact hb)).cell hlt
      obtain ⟨a, ha⟩ : ∃ a, a = (co l i).1 := ⟨_, rfl⟩
      obtain ⟨s, hs⟩ : ∃ s, s = 2 * h := ⟨_, rfl⟩
      have hsn : s < n := by omega
      have hsi : (i : Int) - 1 = (s : Int) := by omega
      rw [← ha] at hc
      have c1 := hv.cell s (by rw [HQ.out]; exact hsn)
      have f1 := hv.frozen s
      have HV2 := Lib.hid (show VBF (wr.setCell ⟨g, s, none⟩ (.int .u8 (a : Nat))) g (q.set s (co l i)) by
        rw [ha]; exact hv.set s _)
      have HS := Lib.hid hs
      clear ha hs hh
      go_wp2_with fail
      clear hsi
      go_roundw
      case rel =>
        refine ⟨h + 1, i + 2, q.set s (co l i), by omega, by have := HH.out; omega, by go_num, by rw [List.length_set]; exact HQ.out, ?_, HV2.out, hb.setCell (p := ⟨g, s, none⟩) (Nat.le_refl _) _⟩
        have hsl : s < q.length := by rw [HQ.out]; exact hsn
        rw [co_set_new q s _ hsl (by rw [HCO.out, HS.out]; exact if_neg (by omega)), HCO.out, HS.out, HH.out, slope_cut]
      case measure => simp [intOf]; omega
    · clear hh
      have hr2 := hv.row
      have hqn : q.length = n := HQ.out
      rw [hqn] at hr2
      have HT := Lib.hid (show tr q = ps l from tr_co (ps_lo l) (by
        rw [HCO.out]
        refine cut_lo fun j hj => Lo.sl (n := n - 1) ?_ j ?_
        · have := co_lo l
          rw [H1.out.1] at this
          exact this.mono (by omega)
        · have := HH.out
          omega))
      have M2 := Lib.hid (trim_row hr2 (by omega))
      clear hr2 hqn
      go_wp2_with (go_at_call 43; with_reducible refine (M2.out).mono ?_; rintro e w' ⟨⟨A', n', c', rfl, hrr⟩, rfl⟩)
      go_ret
      rw [HT.out] at hrr
      exact ⟨A', n', c', rfl, hrr, by rw [← HG.out]; exact hb⟩
end Go.Proofs.Ytbbikkmmdedaiaa.Pr
