/- What lagrange.Through and the reference's Through compute. -/
import Derived.Test.YtbbikkmmdedaiaaLagThr
set_option maxRecDepth 100000
namespace Go.Proofs.Ytbbikkmmdedaiaa.Pr
open Go.RowKit Go.Proofs.Ytbbikkmmdedaiaa.Gf Go.Proofs.Ytbbikkmmdedaiaa.Vec

/-- the sum of the first i parts -/
def SumOf (l m : List F) (i : Nat) (p : List F) : Prop := Trd p ∧ p.length ≤ l.length ∧ ∀ j, j < l.length → pe p (co l j) = if j < i then co m j else 0
theorem SumOf.nil (l m : List F) : SumOf l m 0 [] := ⟨Trd.nil, by simp, fun j _ => by rw [if_neg (by omega)]; rfl⟩
theorem SumOf.step {l m p q : List F} {i : Nat} (h : SumOf l m i p) (hl : q.length ≤ l.length) (hq : ∀ j, j < l.length → pe q (co l j) = if j = i then co m i else 0) : SumOf l m (i + 1) (pa p q) := by
  refine ⟨pa_trd _ _, ?_, fun j hj => ?_⟩
  · have := pa_len p q
    have := h.2.1
    omega
  · rw [pe_pa, h.2.2 j hj, hq j hj]
    rcases Nat.lt_trichotomy j i with e | e | e
    · rw [if_pos e, if_neg (by omega), if_pos (by omega), F.add_zero]
    · subst e; rw [if_neg (by omega), if_pos rfl, if_pos (by omega), F.zero_add]
    · rw [if_neg (by omega), if_neg (by omega), if_neg (by omega), F.add_zero]
theorem SumOf.thr {l m p : List F} {i : Nat} (h : SumOf l m i p) (hi : i = l.length) : Thr l m p :=
  ⟨h.1, h.2.1, fun j hj => by rw [h.2.2 j hj, if_pos (by omega)]⟩

def GvT (l m : List F) (w : World) (e : Ending) (w' : World) : Prop := ∃ p A n c, e = .returned (.tuple #[.slice A n c, .int .i64 0]) ∧ Thr l m p ∧ RowAt w' A n c p ∧ Below w.heap.size w w'

theorem through_row (A : Option Addr) (n c : Nat) (A2 : Option Addr) (n2 c2 : Nat) (l m : List F) (w : World) (h1 : RowAt w A n c l) (h2 : RowAt w A2 n2 c2 m) (hn : n ≤ 1000) (h0 : chk l m = 0) :
    Calls Try.prog 54 #[.slice A n c, .slice A2 n2 c2] w (GvT l m w) := by
  obtain ⟨hlm, hd⟩ := chk_zero h0
  have MC := Lib.hid (check_row A n c A2 n2 c2 l m w h1 h2 hn)
  rw [h0] at MC
  have hnn : n = n2 := by have := h1.1; have := h2.1; omega
  have HNN := Lib.hid hnn
  have HD := Lib.hid hd
  have HL := Lib.hid h1.1
  obtain ⟨g, hg⟩ : ∃ g, g = w.heap.size := ⟨_, rfl⟩
  have HG := Lib.hid hg
  clear hlm hd h0 hnn hg
  go_enter Try.func54, Try.ntmps54
  go_wp2_with fail
  refine (MC.out).mono ?_
  rintro e W1 ⟨rfl, u1⟩
  have r1 := h1.on u1
  have r2 := h2.on u1
  clear h1 h2 MC
  go_wp2_with fail
  refine (parts_row A n c A2 n2 c2 l m W1 r1 r2 hn).mono ?_
  rintro e W2 ⟨gA, gX, gY, rfl, hp, u2⟩
  have hb : Below g w W2 := by rw [HG.out]; exact below_chain u1 u2
  clear r1 r2 u1 u2
  go_wp2_with fail
  go_loopw [8, 21] (fun o v wr => ∃ (i : Nat) (p : List F) (Ao : Option Addr) (no co' : Nat), i ≤ n ∧ o = .slice Ao no co' ∧ v = .int .i64 i ∧ SumOf l m i p ∧ RowAt wr Ao no co' p ∧ PartsAt wr gA gX gY A n c A2 n2 c2 l m ∧ Below g w wr) (fun _ v _ => n - (intOf v).toNat)
  case atStart => exact ⟨0, [], none, 0, 0, by omega, rfl, rfl, SumOf.nil l m, RowAt.nil _, hp, hb⟩
  case round =>
    obtain ⟨i, p, Ao, no, co', hi, rfl, rfl, hs, ho, hpp, hb'⟩ := hrel
    clear hp hb
    have HS := Lib.hid hs
    clear hs
    by_cases hlt : i < n
    · go_wp2_with fail
      refine (part_row gA gX gY A n c A2 n2 c2 l m i wr hpp HD.out hlt hn HNN.out).mono ?_
      rintro e W3 ⟨q, A3, n3, c3, rfl, hq, r3, u3⟩
      have HQ := Lib.hid hq
      have ho3 := ho.on u3
      have hpp3 := hpp.on u3
      have hb3 := below_to HG.out hb' u3
      have hn3 : n3 ≤ 1000 := by have h1 := r3.1; have h2 := hq.2.1; have h3 := HL.out; omega
      have hno : no ≤ 1000 := by have h1 := ho.1; have h2 := HS.out.2.1; have h3 := HL.out; omega
      clear hq ho hpp hb' u3
      go_wp2_with fail
      refine (add_row _ _ _ _ _ _ _ _ W3 ho3 r3 (by omega) (by omega)).mono ?_
      rintro e W4 ⟨A4, n4, c4, rfl, r4, u4⟩
      have hpp4 := hpp3.on u4
      have hb4 := below_to HG.out hb3 u4
      have HS2 := Lib.hid (HS.out.step HQ.out.2.1 HQ.out.2.2)
      clear ho3 r3 hpp3 hb3 u4
      go_wp2_with fail
      go_roundw
      case rel => exact ⟨i + 1, pa p q, A4, n4, c4, by omega, rfl, by go_num, HS2.out, r4, hpp4, hb4⟩
      case measure => simp [intOf]; omega
    · obtain rfl : i = n := by omega
      have HT := Lib.hid (HS.out.thr HL.out.symm)
      go_wp2_with fail
      go_ret2
      exact ⟨p, Ao, no, co', rfl, HT.out, ho, by rw [← HG.out]; exact hb'⟩

theorem through_bad (A : Option Addr) (n c : Nat) (A2 : Option Addr) (n2 c2 : Nat) (l m : List F) (E : Int) (w : World) (h1 : RowAt w A n c l) (h2 : RowAt w A2 n2 c2 m) (hn : n ≤ 1000) (hE : E = chk l m) (h0 : chk l m ≠ 0) :
    Calls Try.prog 54 #[.slice A n c, .slice A2 n2 c2] w fun e w' => e = .returned (.tuple #[.slice none 0 0, .int .i64 E]) ∧ Below w.heap.size w w' := by
  have MC := Lib.hid (check_row A n c A2 n2 c2 l m w h1 h2 hn)
  rw [← hE] at MC h0
  have hE1 : (E == 0) = false := by simp [h0]
  have hE2 : (E != 0) = true := by simp [h0]
  clear hE h0 h1 h2
  go_enter Try.func54, Try.ntmps54
  go_wp2_with fail
  refine (MC.out).mono ?_
  rintro e W1 ⟨rfl, u1⟩
  go_wp2_with fail
  go_ret2
  exact ⟨rfl, u1⟩

/-! ### The reference -/
/-- one part of the reference, behind k of its factors -/
def RpOf (l m : List F) (i k : Nat) (p : List F) : Prop :=
  p.length ≤ 1 + (if i < k then k - 1 else k) ∧ pe p (co l i) = co m i ∧ ∀ j, j < k → j ≠ i → pe p (co l j) = 0
theorem RpOf.first (l m : List F) (i : Nat) : RpOf l m i 0 [co m i] := ⟨by simp, pe_con _ _, fun j h => by omega⟩
theorem RpOf.same {l m p : List F} {i : Nat} (h : RpOf l m i i p) : RpOf l m i (i + 1) p :=
  ⟨by have := h.1; simp at this ⊢; omega, h.2.1, fun j hj hne => h.2.2 j (by omega) hne⟩
theorem RpOf.step {l m p : List F} {i k : Nat} {c : F} (h : RpOf l m i k p) (hk : k ≠ i) (hne : co l i + co l k ≠ 0) (hc : c = F.inv (co l i + co l k)) : RpOf l m i (k + 1) (pm p [co l k * c, c]) := by
  have hv : ∀ z, pe [co l k * c, c] z = c * (co l k + z) := fun z => by
    rw [pe_cons, pe_cons, pe_nil, F.mul_zero, F.add_zero, F.mul_add, F.mul_comm c, F.mul_comm c]
  refine ⟨?_, ?_, fun j hj hji => ?_⟩
  · have h1 := pm_two_len p (co l k * c) c
    have h2 := h.1
    by_cases e : i < k
    · rw [if_pos e] at h2
      rw [if_pos (by omega)]; omega
    · rw [if_neg e] at h2
      rw [if_neg (by omega)]; omega
  · rw [pe_pm, hv, h.2.1, hc, F.add_comm (co l k), F.mul_comm (F.inv _), F.mul_inv hne, F.mul_one]
  · rw [pe_pm, hv]
    by_cases e : j = k
    · subst e; rw [F.add_self, F.mul_zero, F.mul_zero]
    · rw [h.2.2 j (by omega) hji, F.zero_mul]
theorem RpOf.last {l m p : List F} {i : Nat} (h : RpOf l m i l.length p) (hi : i < l.length) : p.length ≤ l.length ∧ ∀ j, j < l.length → pe p (co l j) = if j = i then co m i else 0 := by
  refine ⟨by have := h.1; rw [if_pos hi] at this; omega, fun j hj => ?_⟩
  by_cases e : j = i
  · subst e; rw [if_pos rfl]; exact h.2.1
  · rw [if_neg e]; exact h.2.2 j hj e

set_option maxHeartbeats 400000 in
theorem ref_through_row (A : Option Addr) (n c : Nat) (A2 : Option Addr) (n2 c2 : Nat) (l m : List F) (w : World) (h1 : RowAt w A n c l) (h2 : RowAt w A2 n2 c2 m) (hn : n ≤ 1000) (h0 : chk l m = 0) :
    Calls Try.prog 55 #[.slice A n c, .slice A2 n2 c2] w (GvT l m w) := by
  obtain ⟨hlm, hd⟩ := chk_zero h0
  have MC := Lib.hid (ref_check_row A n c A2 n2 c2 l m w h1 h2 hn)
  rw [h0] at MC
  have hnn : n2 = n := by have := h1.1; have := h2.1; omega
  subst hnn
  have HD := Lib.hid hd
  have HL := Lib.hid h1.1
  obtain ⟨g, hg⟩ : ∃ g, g = w.heap.size := ⟨_, rfl⟩
  have HG := Lib.hid hg
  have H1 := Lib.hid h1
  have H2 := Lib.hid h2
  clear hlm hd h0 hg h1 h2
  go_enter Try.func55, Try.ntmps55
  go_wp2_with fail
  refine (MC.out).mono ?_
  rintro e W1 ⟨rfl, u1⟩
  have hb : Below g w W1 := by rw [HG.out]; exact u1
  clear MC u1
  go_wp2_with fail
  go_loopw [7, 8] (fun o v wr => ∃ (i : Nat) (p : List F) (Ao : Option Addr) (no co' : Nat), i ≤ n2 ∧ o = .slice Ao no co' ∧ v = .int .i64 i ∧ SumOf l m i p ∧ RowAt wr Ao no co' p ∧ Below g w wr) (fun _ v _ => n2 - (intOf v).toNat)
  case atStart => exact ⟨0, [], none, 0, 0, by omega, rfl, rfl, SumOf.nil l m, RowAt.nil _, hb⟩
  case round =>
    obtain ⟨i, p, Ao, no, co', hi, rfl, rfl, hs, ho, hb'⟩ := hrel
    clear hb
    have HS := Lib.hid hs
    clear hs
    by_cases hlt : i < n2
    · have hno : no ≤ 1000 := by have h1 := ho.1; have h2 := HS.out.2.1; have h3 := HL.out; omega
      obtain ⟨ay, hay, _, hcy⟩ := (H2.out.on (by rw [← HG.out]; exact hb')).cell hlt
      subst hay
      obtain ⟨y, hy⟩ : ∃ y, y = (co m i).1 := ⟨_, rfl⟩
      rw [← hy] at hcy
      obtain ⟨t2, u2, _⟩ := lit_step wr [co m i] #[.int .u8 (y : Nat)] (by rw [hy]; rfl) 1 rfl
      obtain ⟨W2, hW2⟩ : ∃ WX : World, WX = wr.alloc (.cells #[.int .u8 (y : Nat)] 5) := ⟨_, rfl⟩
      rw [← hW2] at t2 u2
      have HW2 := Lib.hid hW2
      have ho2 := ho.on u2
      have hb2 := below_to HG.out hb' u2
      clear hW2 hy ho hb' u2
      go_wp2_with fail
      rw [← HW2.out]
      clear hcy
      go_loopw [9, 10] (fun o v wr => ∃ (k : Nat) (q : List F) (Aq : Option Addr) (nq0 cq : Nat), k ≤ n2 ∧ o = .slice Aq nq0 cq ∧ v = .int .i64 k ∧ RpOf l m i k q ∧ RowAt wr Aq nq0 cq q ∧ RowAt wr Ao no co' p ∧ Below g w wr) (fun _ v _ => n2 - (intOf v).toNat)
      case atStart => exact ⟨0, [co m i], _, 1, 1, by omega, rfl, rfl, RpOf.first l m i, t2, ho2, hb2⟩
      case round =>
        obtain ⟨k, q, Aq, nq0, cq, hk, rfl, rfl, hrp, hq, hp, hb⟩ := hrel
        clear t2 ho2 hb2
        have HRP := Lib.hid hrp
        have hnq0 : nq0 ≤ 1001 := by
          have h1 := hq.1
          have h2 := hrp.1
          split at h2 <;> omega
        clear hrp
        by_cases hlt2 : k < n2
        · by_cases hki : k = i
          · subst hki
            have HRP2 := Lib.hid HRP.out.same
            go_wp2_with fail
            go_roundw
            case rel => exact ⟨k + 1, q, Aq, nq0, cq, by omega, rfl, by go_num, HRP2.out, hq, hp, hb⟩
            case measure => simp [intOf]; omega
          · have hki1 : (((k : Nat) : Int) == ((i : Nat) : Int)) = false := by simp; omega
            have hki2 : (((k : Nat) : Int) != ((i : Nat) : Int)) = true := by simp; omega
            have r1 := H1.out.on (w' := wr) (by rw [← HG.out]; exact hb)
            obtain ⟨ax, hax, hxl, hcx⟩ := r1.cell hlt
            obtain ⟨ax', hax', hxl', hcx'⟩ := r1.cell hlt2
            subst hax
            injection hax' with hax'
            subst hax'
            obtain ⟨x, hx⟩ : ∃ x, x = (co l i).1 := ⟨_, rfl⟩
            obtain ⟨z, hz⟩ : ∃ z, z = (co l k).1 := ⟨_, rfl⟩
            obtain ⟨s, hs⟩ : ∃ s, s = (co l i + co l k).1 := ⟨_, rfl⟩
            obtain ⟨cf, hcf⟩ : ∃ cf, cf = F.inv (co l i + co l k) := ⟨_, rfl⟩
            obtain ⟨c0, hc0⟩ : ∃ c0, c0 = cf.1 := ⟨_, rfl⟩
            obtain ⟨d0, hd0⟩ : ∃ d0, d0 = (co l k * cf).1 := ⟨_, rfl⟩
            obtain ⟨xe, hxe⟩ : ∃ xe, xe = nought s := ⟨_, rfl⟩
            rw [← hx] at hcx
            rw [← hz] at hcx'
            have hxo : bits .xor .u8 (x : Int) (z : Int) = (s : Int) := by rw [hx, hz, hs]; exact fxor rfl
            have hne : co l i + co l k ≠ 0 := fun e => hki (nodup_co HD.out (by rw [HL.out]; exact hlt2) (by rw [HL.out]; exact hlt) (F.add_eq e).symm)
            have MI := Lib.hid (show ∀ w, Calls Try.prog 29 #[.int .u8 (s : Nat)] w fun e w' => e = .returned (.tuple #[.int .u8 (c0 : Nat), .int .i64 xe]) ∧ w = w' from fun w => by
              have h := ref_inv_any s w (by rw [hs]; exact (co l i + co l k).2)
              rw [← hxe] at h
              have e : inv s = c0 := by rw [hs, hc0, hcf]; rfl
              rw [e] at h
              exact h)
            have MM := Lib.hid (show ∀ w, Calls Try.prog 34 #[.int .u8 (z : Nat), .int .u8 (c0 : Nat)] w fun e w' => e = .returned (.int .u8 (d0 : Nat)) ∧ w = w' by
              rw [hz, hc0, hd0]; exact ref_fmul_at rfl)
            have HRP2 := Lib.hid (HRP.out.step hki hne hcf)
            have HC0 := Lib.hid hc0
            have HD0 := Lib.hid hd0
            clear hx hz hs hcf hc0 hd0 hxe hne r1
            go_wp2_with fail
            go_quiet ((go_at_call 29; exact Calls.quiet_of_same ((MI.out _).mono fun _ _ h => ⟨h.1, h.2.symm⟩)))
            obtain ⟨W4, hW4⟩ : ∃ W4, W4 = wr.drewN nq := ⟨_, rfl⟩
            rw [← hW4]
            have hb4 : Below g w W4 := by rw [hW4]; exact below_drewN hb nq
            have hq4 : RowAt W4 Aq nq0 cq q := by rw [hW4]; exact hq
            have hp4 : RowAt W4 Ao no co' p := by rw [hW4]; exact hp
            have hcz4 : W4.cell? (ax.add k) = some (.int .u8 (z : Nat)) := by rw [hW4]; exact hcx'
            clear hW4 hb hq hp hcx hcx'
            obtain ⟨t5, u5, _⟩ := lit_step W4 [co l k * cf, cf] #[.int .u8 (d0 : Nat), .int .u8 (c0 : Nat)] (by rw [HC0.out, HD0.out]; rfl) 2 rfl
            obtain ⟨W5, hW5⟩ : ∃ W5, W5 = W4.alloc (.cells #[.int .u8 (d0 : Nat), .int .u8 (c0 : Nat)] 5) := ⟨_, rfl⟩
            rw [← hW5] at t5 u5
            have HW5 := Lib.hid hW5
            have hq5 := hq4.on u5
            have hp5 := hp4.on u5
            have hb5 := below_to HG.out hb4 u5
            clear hW5 hb4 hq4 hp4 u5
            go_wp2_with ((go_at_call 34; (with_reducible refine (MM.out _).mono ?_); rintro e w' ⟨rfl, rfl⟩))
            rw [← HW5.out]
            refine (ref_mul_row _ _ _ _ _ _ _ _ W5 hq5 t5 (by omega) (by omega)).mono ?_
            rintro e W6 ⟨A6, n6, c6, rfl, r6, u6⟩
            have hp6 := hp5.on u6
            have hb6 := below_to HG.out hb5 u6
            clear hq5 t5 hp5 u6 hb5 hcz4
            go_wp2_with fail
            go_roundw
            case rel => exact ⟨k + 1, _, A6, n6, c6, by omega, rfl, by go_num, HRP2.out, r6, hp6, hb6⟩
            case measure => simp [intOf]; omega
        · obtain rfl : k = n2 := by omega
          have hrl := HRP.out
          rw [show RpOf l m i k q = RpOf l m i l.length q by rw [HL.out]] at hrl
          have HRL := Lib.hid (hrl.last (by rw [HL.out]; exact hlt))
          have HS2 := Lib.hid (HS.out.step HRL.out.1 HRL.out.2)
          clear hrl
          go_wp2_with fail
          refine (ref_add_row _ _ _ _ _ _ _ _ wr hp hq (by omega) (by omega)).mono ?_
          rintro e W6 ⟨A6, n6, c6, rfl, r6, u6⟩
          have hb6 := below_to HG.out hb u6
          clear hp hq u6 hb
          go_wp2_with fail
          go_roundw
          case rel => exact ⟨i + 1, _, A6, n6, c6, by omega, rfl, by go_num, HS2.out, r6, hb6⟩
          case measure => simp [intOf]; omega
    · obtain rfl : i = n2 := by omega
      have HT := Lib.hid (HS.out.thr HL.out.symm)
      go_wp2_with fail
      go_ret2
      exact ⟨p, Ao, no, co', rfl, HT.out, ho, by rw [← HG.out]; exact hb'⟩

theorem ref_through_bad (A : Option Addr) (n c : Nat) (A2 : Option Addr) (n2 c2 : Nat) (l m : List F) (E : Int) (w : World) (h1 : RowAt w A n c l) (h2 : RowAt w A2 n2 c2 m) (hn : n ≤ 1000) (hE : E = chk l m) (h0 : chk l m ≠ 0) :
    Calls Try.prog 55 #[.slice A n c, .slice A2 n2 c2] w fun e w' => e = .returned (.tuple #[.slice none 0 0, .int .i64 E]) ∧ Below w.heap.size w w' := by
  have MC := Lib.hid (ref_check_row A n c A2 n2 c2 l m w h1 h2 hn)
  rw [← hE] at MC h0
  have hE1 : (E == 0) = false := by simp [h0]
  have hE2 : (E != 0) = true := by simp [h0]
  clear hE h0 h1 h2
  go_enter Try.func55, Try.ntmps55
  go_wp2_with fail
  refine (MC.out).mono ?_
  rintro e W1 ⟨rfl, u1⟩
  go_wp2_with fail
  go_ret2
  exact ⟨rfl, u1⟩
end Go.Proofs.Ytbbikkmmdedaiaa.Pr
