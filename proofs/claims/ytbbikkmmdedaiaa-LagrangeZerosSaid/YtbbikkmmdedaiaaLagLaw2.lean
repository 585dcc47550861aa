/- Law 41, walked: LagrangeMeets, LagrangeZeros; no condition. -/
import Derived.Test.YtbbikkmmdedaiaaLagLaw1
set_option maxRecDepth 100000
namespace Go.Proofs.Ytbbikkmmdedaiaa.Pr.Lag
open Go.RowKit Go.Proofs.Ytbbikkmmdedaiaa.Gf Go.Proofs.Ytbbikkmmdedaiaa.Vec Go.Proofs.Ytbbikkmmdedaiaa.Pr

theorem cut_co_at (n : Nat) (p : Po) (i : Nat) (h : i < n) : co (firsts n p) i = p i := by
  rw [co_firsts]
  exact if_pos h
theorem thr_vals {x y : List F} (hl : y.length ≤ x.length) : Thr x (firsts x.length fun k => pe y (co x k)) (tr y) :=
  ⟨tr_trd y, Nat.le_trans (tr_len y) hl, fun i hi => by rw [pe_tr, cut_co_at _ _ _ hi]⟩

set_option maxHeartbeats 1000000 in
theorem meets_yes (A : Option Addr) (n c : Nat) (A2 : Option Addr) (c2 : Nat) (a b : List F) (w : World) (ra : RowAt w A n c a) (rb : RowAt w A2 n c2 b) (hn : n ≤ 20) (hc : chk a b = 0) :
    Calls Try.prog 13 #[.slice A n c, .slice A2 n c2] w fun e w' => e = .returned (.bool true) ∧ Below w.heap.size w w' := by
  have d1 : decide (20 < (n : Int)) = false := by simp; omega
  have HC := Lib.hid hc
  have HA := Lib.hid ra.1
  have HB := Lib.hid rb.1
  clear hc
  have hb0 := Below.refl w.heap.size w
  go_enter Try.func13, Try.ntmps13
  go_wp2_with fail
  refine (through_row _ _ _ _ _ _ _ _ w ra rb (by omega) HC.out).mono ?_
  rintro e W1 ⟨p, Ap, np, cp, rfl, hp, rp, u1⟩
  have HP := Lib.hid hp
  replace ra := ra.on u1
  replace rb := rb.on u1
  have hb1 := below_chain hb0 u1
  have hnp : np ≤ n := by have h1 := rp.1; have h2 := hp.2.1; have h3 := HA.out; omega
  clear hb0 u1 hp
  obtain ⟨V, hV⟩ : ∃ V : Po, V = fun k => pe b (co a k) := ⟨_, rfl⟩
  have HV := Lib.hid hV
  clear hV
  obtain ⟨g, hg⟩ : ∃ g, g = W1.heap.size := ⟨_, rfl⟩
  have HG := Lib.hid hg
  have hbg : Below g W1 W1 := Below.refl _ _
  have hgW : g ≤ W1.heap.size := by omega
  have HRA := Lib.hid ra
  have HRB := Lib.hid rb
  have HRP := Lib.hid rp
  have HB1 := Lib.hid hb1
  clear hg ra rb rp hb1
  go_wp2_with fail
  go_loopw [7, 8] (fun o v wr => ∃ (i : Nat) (Ao : Option Addr) (co' : Nat), i ≤ n ∧ o = .slice Ao i co' ∧ v = .int .i64 i ∧ Own wr g 5 (.slice Ao i co') (U8s (vals (firsts i V))) ∧ Below g W1 wr) (fun _ v _ => n - (intOf v).toNat)
  case atStart => exact ⟨0, none, 0, by omega, rfl, rfl, Own.nil _ _ _, hbg⟩
  case round =>
    obtain ⟨i, Ao, co', hi, rfl, rfl, ho, hb⟩ := hrel
    clear hbg
    have hbw : Below W1.heap.size W1 wr := by rw [← HG.out]; exact hb
    have ha := HRA.out.on hbw
    have hbb := HRB.out.on hbw
    have hp := HRP.out.on hbw
    have hgr : g ≤ wr.heap.size := by have := hbw.size; omega
    by_cases hlt : i < n
    · obtain ⟨ax, hax, _, hcx⟩ := ha.cell hlt
      obtain ⟨ay, hay, _, hcy⟩ := hbb.cell hlt
      subst hax hay
      obtain ⟨x, hx⟩ : ∃ x, x = (co a i).1 := ⟨_, rfl⟩
      obtain ⟨y, hy⟩ : ∃ y, y = (co b i).1 := ⟨_, rfl⟩
      obtain ⟨v, hv⟩ : ∃ v, v = (V i).1 := ⟨_, rfl⟩
      rw [← hx] at hcx
      rw [← hy] at hcy
      have M1 := Lib.hid (show ∀ k, Calls Try.prog 50 #[.slice Ap np cp, .int .u8 (x : Nat)] (wr.drewN k) fun e w' => e = .returned (.int .u8 (y : Nat)) ∧ wr.drewN k = w' from fun k => by
        have h := ref_eval_row Ap np cp p (co a i) (wr.drewN k) hp (by omega)
        rw [HP.out.2.2 i (by rw [HA.out]; exact hlt), ← hx, ← hy] at h
        exact h)
      have M2 := Lib.hid (show ∀ k, Calls Try.prog 50 #[.slice (some ay) n c2, .int .u8 (x : Nat)] (wr.drewN k) fun e w' => e = .returned (.int .u8 (v : Nat)) ∧ wr.drewN k = w' from fun k => by
        have h := ref_eval_row (some ay) n c2 b (co a i) (wr.drewN k) hbb (by omega)
        rw [← hx] at h
        rw [hv, HV.out]
        exact h)
      obtain ⟨S, hS⟩ : ∃ S, S = U8s (vals (firsts i V)) := ⟨_, rfl⟩
      have HS := Lib.hid (show U8s (vals (firsts (i + 1) V)) = S ++ [.int .u8 (v : Int)] by rw [hS]; exact cells_succ i V hv)
      have HSL := Lib.hid (show S.length = i by rw [hS]; exact cells_len i V)
      rw [← hS] at ho
      clear hx hy hv hS
      go_wp2_with fail
      go_quiet ((go_at_call 50; exact Calls.quiet_of_same ((M1.out _).mono fun _ _ h => ⟨h.1, h.2.symm⟩)))
      have M3 := Lib.hid (M2.out nq)
      obtain ⟨W4, hW4⟩ : ∃ W4, W4 = wr.drewN nq := ⟨_, rfl⟩
      rw [← hW4] at M3 ⊢
      have hb4 : Below g W1 W4 := by rw [hW4]; exact below_drewN hb nq
      have ho4 : Own W4 g 5 (.slice Ao i co') S := by rw [hW4]; exact ho
      have hcx4 : W4.cell? (ax.add i) = some (.int .u8 (x : Nat)) := by rw [hW4]; exact hcx
      have hg4 : g ≤ W4.heap.size := by rw [hW4]; exact hgr
      clear hW4 M2 hb ha hbb hp ho hcx hcy hbw hgr
      go_wp2_with (first
        | (go_at_call 50; (with_reducible refine (M3.out).mono ?_); rintro e w' ⟨rfl, rfl⟩)
        | (at_builtin; refine wpList_app1 _ rfl (.tmp 53) (.tmp 60) 22 rfl g 5 (.int .u8 0) 1 Try.underlying22 info5 rfl _ S rfl (ho4.alloc _) ⟨W4.heap.size, 0, none⟩ 1 (.int .u8 v) rfl (by go_simp) rfl (by rw [HSL.out]; omega) (by rw [HSL.out]; omega) (by simp; omega) ?_; rw [HSL.out]; intro g2 cap w2 hown2 hbel2 hgr2 hge2 hlt2))
      go_roundw
      case rel => exact ⟨i + 1, some ⟨g2, 0, none⟩, cap, by omega, rfl, by go_num, by rw [HS.out]; exact hown2, (hb4.alloc hg4 _).trans hbel2⟩
      case measure => simp [intOf]; omega
    · obtain rfl : i = n := by omega
      have hr := own_row ho (firsts_len i V)
      have HT := Lib.hid (show Thr a (firsts i V) (tr b) by
        have h := thr_vals (x := a) (y := b) (by rw [HA.out, HB.out]; exact Nat.le_refl _)
        rw [HA.out, ← HV.out] at h
        exact h)
      have HC2 := Lib.hid (show chk a (firsts i V) = 0 from chk_once (by rw [HA.out, firsts_len]) (chk_zero HC.out).2)
      have hbx : Below w.heap.size w wr := below_chain HB1.out hbw
      have hle : decide (np ≤ i) = true := by simp; omega
      clear ho hbw hgr hp hb
      go_wp2_with fail
      refine (through_row _ _ _ _ _ _ _ _ wr ha hr (by omega) HC2.out).mono ?_
      rintro e W5 ⟨q, Aq, nq, cq, rfl, hq, rq, u5⟩
      have hqq := Thr.uniq (chk_zero HC.out).2 hq HT.out
      subst hqq
      have hbb5 := hbb.on u5
      have hb5 := below_chain hbx u5
      clear hq ha hbb hr u5 hbx
      go_wp2_with fail
      refine (ref_trim_b hbb5 (by omega)).mono ?_
      rintro e W6 ⟨A6, n6, c6, rfl, r6, u6⟩
      have rq6 := rq.on u6
      have hb6 := below_chain hb5 u6
      clear rq hbb5 u6 hb5
      go_wp2_with fail
      refine (same_b rq6 r6 rfl (by have h1 := tr_len b; have h2 := HB.out; omega)).mono ?_
      rintro e W7 ⟨rfl, u7⟩
      have hb7 := below_chain hb6 u7
      clear rq6 r6 u7 hb6
      go_wp2_with fail
      refine (awake_b hb7).mono ?_
      rintro e W8 ⟨rfl, hb8⟩
      go_wp2_with fail
      go_ret
      exact ⟨rfl, hb8⟩
theorem meets_no (A : Option Addr) (n c : Nat) (A2 : Option Addr) (c2 : Nat) (a b : List F) (E : Int) (w : World) (ra : RowAt w A n c a) (rb : RowAt w A2 n c2 b) (hn : n ≤ 20) (hE : E = chk a b) (hc : chk a b ≠ 0) :
    Calls Try.prog 13 #[.slice A n c, .slice A2 n c2] w fun e w' => e = .returned (.bool true) ∧ Below w.heap.size w w' := by
  have d1 : decide (20 < (n : Int)) = false := by simp; omega
  have MT := Lib.hid (through_bad _ _ _ _ _ _ _ _ E w ra rb (by omega) hE hc)
  rw [← hE] at hc
  have hE1 : (E == 0) = false := by simp [hc]
  have hE2 : (E != 0) = true := by simp [hc]
  clear hE hc ra rb
  go_enter Try.func13, Try.ntmps13
  go_wp2_with fail
  refine (MT.out).mono ?_
  rintro e W1 ⟨rfl, u1⟩
  go_wp2_with fail
  refine (awake_b u1).mono ?_
  rintro e W8 ⟨rfl, hb8⟩
  go_wp2_with fail
  go_ret
  exact ⟨rfl, hb8⟩

theorem lagrangeMeets_walk (a0 : Option Addr) (len0 cap0 : Nat) (z0 : List Int) (a1 : Option Addr) (len1 cap1 : Nat) (z1 : List Int) (w : World) (w0 : IsRow .u8 w a0 len0 cap0 z0) (w1 : IsRow .u8 w a1 len1 cap1 z1) :
    Calls Try.prog 13 #[.slice a0 len0 cap0, .slice a1 len1 cap1] w fun e w' => e = .returned (.bool true) ∧ Below w.heap.size w w' := by
  obtain ⟨a, ra⟩ := row_of w0
  obtain ⟨b, rb⟩ := row_of w1
  clear w0 w1
  by_cases h0 : 20 < len0
  · have d1 : decide (20 < (len0 : Int)) = true := by simp; omega
    clear ra rb
    go_enter Try.func13, Try.ntmps13
    go_wp2_with (go_at_call 53; refine (awake_any _).mono ?_; rintro e w' ⟨rfl, hb⟩)
    go_ret
    exact ⟨rfl, hb⟩
  · by_cases he : len0 = len1
    · subst he
      by_cases hc : chk a b = 0
      · exact meets_yes a0 len0 cap0 a1 cap1 a b w ra rb (by omega) hc
      · exact meets_no a0 len0 cap0 a1 cap1 a b _ w ra rb (by omega) rfl hc
    · have d1 : decide (20 < (len0 : Int)) = false := by simp; omega
      have d2 : ((len0 : Int) == (len1 : Int)) = false := by simp; omega
      have d3 : ((len0 : Int) != (len1 : Int)) = true := by simp; omega
      clear ra rb he
      go_enter Try.func13, Try.ntmps13
      go_wp2_with (go_at_call 53; refine (awake_any _).mono ?_; rintro e w' ⟨rfl, hb⟩)
      go_ret
      exact ⟨rfl, hb⟩

theorem seen_end {l : List F} {z : F} : seen l z.1 = true ↔ pe (zs l) z = 0 := by rw [seen_mem, zs_zero]
theorem zeros_ok (A : Option Addr) (n c : Nat) (z0 : Nat) (a : List F) (z : F) (w : World) (hz : z0 = z.1) (ra : RowAt w A n c a) (hn : n ≤ 40) :
    Calls Try.prog 14 #[.slice A n c, .int .u8 z0] w fun e w' => e = .returned (.bool true) ∧ Below w.heap.size w w' := by
  have d1 : decide (40 < (n : Int)) = false := by simp; omega
  have HA := Lib.hid ra.1
  have HZ := Lib.hid hz
  clear hz
  have hb0 := Below.refl w.heap.size w
  go_enter Try.func14, Try.ntmps14
  go_wp2_with fail
  refine (zeros_row _ _ _ _ w ra (by omega)).mono ?_
  rintro e W1 ⟨Ap, np, cp, rfl, rp, u1⟩
  replace ra := ra.on u1
  have hb1 := below_chain hb0 u1
  have hnp : ((np : Int) == (n : Int) + 1) = true := by have h1 := rp.1; rw [zs_len, HA.out] at h1; simp; omega
  have hnpb : np ≤ 41 := by have h1 := rp.1; rw [zs_len, HA.out] at h1; omega
  clear hb0 u1
  have HRA := Lib.hid ra
  go_wp2_with fail
  go_loop [6, 7] (fun s v => ∃ (i : Nat) (sb : Bool), i ≤ n ∧ s = .bool sb ∧ v = .int .i64 i ∧ sb = seen (a.take i) z0) (fun _ v => n - (intOf v).toNat)
  case atStart => exact ⟨0, false, by omega, rfl, rfl, rfl⟩
  case round =>
    obtain ⟨i, sb, hi, rfl, rfl, hs⟩ := hrel
    have HS := Lib.hid hs
    clear hs
    by_cases hlt : i < n
    · obtain ⟨ax, hax, _, hc⟩ := HRA.out.cell hlt
      subst hax
      obtain ⟨x, hx⟩ : ∃ x, x = (co a i).1 := ⟨_, rfl⟩
      rw [← hx] at hc
      obtain ⟨tb, htb⟩ : ∃ tb, tb = ((x : Int) == (z0 : Int)) := ⟨_, rfl⟩
      have HTB := Lib.hid (show seen (a.take (i + 1)) z0 = (sb || tb) by
        rw [take_co a i (by rw [HA.out]; exact hlt), seen_snoc, ← hx, HS.out, htb]
        show (if z0 = x then true else seen (a.take i) z0) = _
        by_cases e : z0 = x
        · rw [if_pos e, e]; simp
        · rw [if_neg e]
          have : ((x : Int) == (z0 : Int)) = false := by simp; omega
          rw [this, Bool.or_false])
      cases sb with
      | true =>
        have HT2 := Lib.hid (show true = seen (a.take (i + 1)) z0 by rw [HTB.out]; rfl)
        clear hx htb hc
        go_wp2_with fail
        go_round
        case rel => exact ⟨i + 1, true, by omega, rfl, by go_num, HT2.out⟩
        case measure => simp [intOf]; omega
      | false =>
        have HT2 := Lib.hid (show tb = seen (a.take (i + 1)) z0 by rw [HTB.out]; rfl)
        cases tb with
        | true =>
          have ht := htb.symm
          clear hx htb
          go_wp2_with fail
          go_round
          case rel => exact ⟨i + 1, true, by omega, rfl, by go_num, HT2.out⟩
          case measure => simp [intOf]; omega
        | false =>
          have ht := htb.symm
          clear hx htb
          go_wp2_with fail
          go_round
          case rel => exact ⟨i + 1, false, by omega, rfl, by go_num, HT2.out⟩
          case measure => simp [intOf]; omega
    · obtain rfl : i = n := by omega
      have hse : sb = seen a z0 := by
        have := HS.out
        rwa [show a.take i = a from by rw [← HA.out]; exact List.take_length] at this
      obtain ⟨v0, hv0⟩ : ∃ v0, v0 = (pe (zs a) z).1 := ⟨_, rfl⟩
      have ME := Lib.hid (ref_eval_b rp z z0 v0 HZ.out hv0 (by omega))
      by_cases hm : pe (zs a) z = 0
      · have hv1 : ((v0 : Int) == 0) = true := by rw [hv0, hm]; rfl
        have hs1 : sb = true := by rw [hse, HZ.out]; exact seen_end.2 hm
        subst hs1
        clear hv0 hm hse rp
        go_wp2_with fail
        refine (ME.out).mono ?_
        rintro e W2 ⟨rfl, u2⟩
        have hb2 := below_chain hb1 u2
        go_wp2_with fail
        refine (awake_b hb2).mono ?_
        rintro e W3 ⟨rfl, hb3⟩
        go_wp2_with fail
        go_ret
        exact ⟨rfl, hb3⟩
      · have hv1 : ((v0 : Int) == 0) = false := by
          have : v0 ≠ 0 := fun e => hm (F.ext (by rw [← hv0, e]; rfl))
          simp; omega
        have hs1 : sb = false := by
          rw [hse, HZ.out]
          cases h : seen a z.1 with
          | false => rfl
          | true => exact absurd (seen_end.1 h) hm
        subst hs1
        clear hv0 hm hse rp
        go_wp2_with fail
        refine (ME.out).mono ?_
        rintro e W2 ⟨rfl, u2⟩
        have hb2 := below_chain hb1 u2
        go_wp2_with fail
        refine (awake_b hb2).mono ?_
        rintro e W3 ⟨rfl, hb3⟩
        go_wp2_with fail
        go_ret
        exact ⟨rfl, hb3⟩

theorem lagrangeZeros_walk (a0 : Option Addr) (len0 cap0 : Nat) (z0 : List Int) (a1 : Int) (w : World) (w0 : IsRow .u8 w a0 len0 cap0 z0) (w1 : (Lit.int .u8 a1).wf = true) :
    Calls Try.prog 14 #[.slice a0 len0 cap0, .int .u8 a1] w fun e w' => e = .returned (.bool true) ∧ Below w.heap.size w w' := by
  obtain ⟨x0, rfl, hx0⟩ := nat_of_u8 w1
  obtain ⟨a, ra⟩ := row_of w0
  clear w0
  by_cases h0 : 40 < len0
  · have d1 : decide (40 < (len0 : Int)) = true := by simp; omega
    clear ra
    go_enter Try.func14, Try.ntmps14
    go_wp2_with (go_at_call 53; refine (awake_any _).mono ?_; rintro e w' ⟨rfl, hb⟩)
    go_ret
    exact ⟨rfl, hb⟩
  · exact zeros_ok a0 len0 cap0 x0 a ⟨x0, hx0⟩ w rfl ra (by omega)
end Go.Proofs.Ytbbikkmmdedaiaa.Pr.Lag
