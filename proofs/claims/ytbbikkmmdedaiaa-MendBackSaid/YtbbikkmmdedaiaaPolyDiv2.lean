/- What the reference's division of polynomials computes. -/
import Derived.Test.YtbbikkmmdedaiaaPolyDiv
set_option maxRecDepth 100000
namespace Go.Proofs.Ytbbikkmmdedaiaa.Pr
open Go.RowKit Go.Proofs.Ytbbikkmmdedaiaa.Gf Go.Proofs.Ytbbikkmmdedaiaa.Vec

theorem ref_div_bad (A : Option Addr) (n c : Nat) (A2 : Option Addr) (n2 c2 : Nat) (m : List F) (w : World) (h2 : RowAt w A2 n2 c2 m) (hn2 : n2 ≤ 100000) (hz : tr m = []) :
    Calls Try.prog 42 #[.slice A n c, .slice A2 n2 c2] w fun e w' => e = .returned (.tuple #[.slice none 0 0, .slice none 0 0, .int .i64 1]) ∧ w = w' := by
  have M1 := Lib.hid (ref_trim_row h2 (by omega))
  have HZ := Lib.hid hz
  clear hz
  go_enter Try.func42, Try.ntmps42
  go_wp2_with fail
  refine (M1.out).mono ?_
  rintro e w' ⟨⟨Ab, nb, cb, rfl, rb⟩, rfl⟩
  have h0 : ((nb : Int) == 0) = true := by
    have := rb.1
    rw [HZ.out] at this
    simp at this
    simp; omega
  go_wp2_with fail
  go_ret3
  exact ⟨rfl, rfl⟩

def sLen : Value → Nat
  | .slice _ n _ => n
  | _ => 0
/-- the state of the reference's division -/
def RdSt (a b q r : List F) : Prop := Trd q ∧ Trd r ∧ co a = ad (cv (co q) (co b)) (co r)
theorem RdSt.step {a b q r part : List F} {d : Nat} {c : F} (h : RdSt a b q r) (hp : co part = mon d c) : RdSt a b (pa q part) (pa r (pm part b)) := by
  refine ⟨pa_trd _ _, pa_trd _ _, ?_⟩
  rw [co_pa, co_pa, co_pm, hp]
  exact div_keep d c h.2.2
theorem Rd_less {b r part : List F} {d k : Nat} {c : F} (hp : co part = mon d c) (hk : Top k (co b)) (hr : r.length = d + k + 1) (hc : c = co r (d + k) * F.inv (co b k)) : (pa r (pm part b)).length ≤ d + k := by
  refine (pa_trd _ _).len_le ?_
  rw [co_pa, co_pm, hp]
  have e := co_lo r
  rw [hr] at e
  exact cut_mon_lo e hk.1 (F.mul_inv hk.2) hc
theorem divv_inv {x y : F} (h : y ≠ 0) : divv x.1 y.1 = (x * F.inv y).1 := by
  unfold divv
  rw [if_neg (show ¬ y.1 = 0 from fun e => h (F.ext e))]
  rfl
theorem co_part (d : Nat) (c : F) : co ((List.replicate (d + 1) 0).set d c) = mon d c := by
  rw [co_set_new _ d c (by simp) (by rw [co_zeros]; rfl), co_zeros, nul_ad]

set_option maxHeartbeats 800000 in
theorem ref_div_row (A : Option Addr) (n c : Nat) (A2 : Option Addr) (n2 c2 : Nat) (l m : List F) (w : World) (h1 : RowAt w A n c l) (h2 : RowAt w A2 n2 c2 m) (hn : n ≤ 40000) (hn2 : n2 ≤ 40000) (hz : tr m ≠ []) :
    Calls Try.prog 42 #[.slice A n c, .slice A2 n2 c2] w (GvQ l m w) := by
  have M1 := Lib.hid (ref_trim_row h2 (by omega))
  have M2 := Lib.hid (ref_trim_row h1 (by omega))
  have htl := tr_len l
  have htm := tr_len m
  have hl1 := h1.1
  have hm1 := h2.1
  obtain ⟨a, ha⟩ : ∃ a, a = tr l := ⟨_, rfl⟩
  obtain ⟨b, hb⟩ : ∃ b, b = tr m := ⟨_, rfl⟩
  rw [← ha] at M2 htl
  rw [← hb] at M1 htm hz
  have HA := Lib.hid ha
  have HB := Lib.hid hb
  have HZ := Lib.hid hz
  have hal : a.length ≤ 40000 := by omega
  have hbl : b.length ≤ 40000 := by omega
  clear ha hb hz h1 h2 htl htm hl1 hm1
  go_enter Try.func42, Try.ntmps42
  go_wp2_with fail
  refine (M1.out).mono ?_
  rintro e w' ⟨⟨Ab, nb, cb, rfl, rb⟩, rfl⟩
  have hnb : nb ≤ 40000 := by have := rb.1; omega
  have hnb1 : 1 ≤ nb := by
    have := rb.1
    rcases Nat.eq_zero_or_pos nb with h | h
    · exact absurd (List.eq_nil_of_length_eq_zero (by omega)) HZ.out
    · exact h
  have h0 : ((nb : Int) == 0) = false := by simp; omega
  clear M1
  go_wp2_with fail
  refine (M2.out).mono ?_
  rintro e w' ⟨⟨Aa, na, ca, rfl, ra⟩, rfl⟩
  have hna : na ≤ 40000 := by have := ra.1; omega
  have HRb := Lib.hid rb
  obtain ⟨g0, hg0⟩ : ∃ g0, g0 = w.heap.size := ⟨_, rfl⟩
  have HG0 := Lib.hid hg0
  obtain ⟨k, hk⟩ : ∃ k, k = nb - 1 := ⟨_, rfl⟩
  have HK := Lib.hid hk
  have hkn : k < nb := by omega
  obtain ⟨ab, hab, habl, hbc⟩ := rb.cell hkn
  obtain ⟨bk, hbk⟩ : ∃ bk, bk = (co b k).1 := ⟨_, rfl⟩
  rw [← hbk] at hbc
  have HBC := Lib.hid hbc
  have HBK := Lib.hid hbk
  have htop : Top k (co b) := by
    have hT : Trd b := by rw [HB.out]; exact tr_trd m
    exact hT.top (by rw [HRb.out.1]; omega)
  have HTOP := Lib.hid htop
  have hst0 : RdSt a b [] a := ⟨Trd.nil, by rw [HA.out]; exact tr_trd l, by rw [co_nil, cv_nul_left, nul_ad]⟩
  have HST0 := Lib.hid hst0
  have HAB := Lib.hid hab
  have hbW : Below g0 w w := Below.refl _ _
  clear M2 rb h0 hg0 hk hbk hbc htop hst0
  rw [hab]
  clear hab
  go_wp2_with fail
  go_loopw [7, 8] (fun vr vq wr => ∃ (q r : List F) (Aq : Option Addr) (lq cq : Nat) (Ar : Option Addr) (nr cr : Nat), nr ≤ na ∧ lq ≤ na + 1 ∧ vr = .slice Ar nr cr ∧ vq = .slice Aq lq cq ∧ RowAt wr Ar nr cr r ∧ RowAt wr Aq lq cq q ∧ RdSt a b q r ∧ Below g0 w wr) (fun vr _ _ => sLen vr)
  case atStart => exact ⟨[], a, none, 0, 0, Aa, na, ca, Nat.le_refl _, by omega, rfl, rfl, ra, RowAt.nil _, HST0.out, hbW⟩
  case round =>
    obtain ⟨q, r, Aq, lq, cq, Ar, nr, cr, hnr, hlq, rfl, rfl, hr, hq, hst, hb⟩ := hrel
    clear ra hbW
    have HST := Lib.hid hst
    clear hst
    by_cases hlen : nb ≤ nr
    · obtain ⟨d, hd⟩ : ∃ d, d = nr - nb := ⟨_, rfl⟩
      obtain ⟨u, hu⟩ : ∃ u, u = d + k := ⟨_, rfl⟩
      obtain ⟨pl, hpl⟩ : ∃ pl, pl = d + 1 := ⟨_, rfl⟩
      have hkb := HK.out
      have hun : u < nr := by omega
      have hdn : d < pl := by omega
      have hpln : pl ≤ na + 1 := by omega
      obtain ⟨ar, har, harl, hrc⟩ := hr.cell hun
      subst har
      obtain ⟨ru, hru⟩ : ∃ ru, ru = (co r u).1 := ⟨_, rfl⟩
      rw [← hru] at hrc
      obtain ⟨c, hc⟩ : ∃ c, c = co r u * F.inv (co b k) := ⟨_, rfl⟩
      obtain ⟨c0, hc0⟩ : ∃ c0, c0 = c.1 := ⟨_, rfl⟩
      obtain ⟨xe, hxe⟩ : ∃ xe, xe = nought bk := ⟨_, rfl⟩
      have MD := Lib.hid (show ∀ w, Calls Try.prog 31 #[.int .u8 (ru : Nat), .int .u8 (bk : Nat)] w fun e w' => e = .returned (.tuple #[.int .u8 (c0 : Nat), .int .i64 xe]) ∧ w = w' from fun w => by
        have := ref_div_any ru bk w (by rw [hru]; exact (co r u).2) (by rw [HBK.out]; exact (co b k).2)
        rw [← hxe] at this
        have e : divv ru bk = c0 := by rw [hru, HBK.out, divv_inv HTOP.out.2, hc0, hc]
        rw [e] at this
        exact this)
      have hbc : wr.cell? (ab.add k) = some (.int .u8 (bk : Nat)) := (hb.cell (by rw [HG0.out]; exact habl)).trans HBC.out
      have e1 : IntKind.i64.wrap ((nr : Int) - 1) = (u : Int) := by rw [IntWalk.i64_in _ ⟨by omega, by omega⟩]; omega
      have e2 : IntKind.i64.wrap ((nb : Int) - 1) = (k : Int) := by rw [IntWalk.i64_in _ ⟨by omega, by omega⟩]; omega
      have e3 : (nr : Int) - (nb : Int) = (d : Int) := by omega
      have e4 : (d : Int) + 1 = (pl : Int) := by omega
      have e5 : (pl : Int) - 1 = (d : Int) := by omega
      have e6 : (0 : Int) ≤ (u : Int) := by omega
      have e7 : (u : Int) < (nr : Int) := by omega
      have e8 : (0 : Int) ≤ (k : Int) := by omega
      have e9 : (k : Int) < (nb : Int) := by omega
      have hge : decide (nb ≤ nr) = true := by simp [hlen]
      have HD := Lib.hid hd
      have HU := Lib.hid hu
      have HPL := Lib.hid hpl
      have HC := Lib.hid hc
      have HC0 := Lib.hid hc0
      have HRr := Lib.hid hr
      have HRq := Lib.hid hq
      have HBb := Lib.hid hb
      clear hkb hd hu hpl hru hc hc0 hxe hr hq hb
      go_wp2_with fail
      go_quiet ((go_at_call 31; exact Calls.quiet_of_same ((MD.out _).mono fun _ _ h => ⟨h.1, h.2.symm⟩)))
      obtain ⟨Wq, hWq⟩ : ∃ Wq, Wq = wr.drewN nq := ⟨_, rfl⟩
      rw [← hWq]
      have hbq : Below g0 w Wq := by rw [hWq]; exact below_drewN HBb.out nq
      have hrq : RowAt Wq (some ar) nr cr r := by rw [hWq]; exact HRr.out
      have hqq : RowAt Wq Aq lq cq q := by rw [hWq]; exact HRq.out
      obtain ⟨gp, hgp⟩ : ∃ gp, gp = Wq.heap.size := ⟨_, rfl⟩
      obtain ⟨Wp, hWp⟩ : ∃ Wp, Wp = Wq.alloc (.cells (madeCells #[.int .u8 0] pl) 5) := ⟨_, rfl⟩
      have hbWq : Below Wq.heap.size Wq Wp := by rw [hWp]; exact (Below.refl _ _).alloc (Nat.le_refl _) _
      have hpp : VBF Wp gp (List.replicate pl 0) := by rw [hWp, hgp]; exact VBF.made Wq pl
      have hpd := hpp.cell d (by simp; omega)
      have hpf := hpp.frozen d
      obtain ⟨pd, hpdd⟩ : ∃ pd, pd = (co (List.replicate pl 0) d).1 := ⟨_, rfl⟩
      rw [← hpdd] at hpd
      have hmk := run_make_row' (P := Try.prog) 22 5 (.int .u8 0) 1 Try.underlying22 info5 rfl .i64 .i64 pl (by omega) (by omega)
      obtain ⟨Ws, hWs⟩ : ∃ Ws, Ws = Wp.setCell ⟨gp, d, none⟩ (.int .u8 (c0 : Nat)) := ⟨_, rfl⟩
      have hbs : Below Wq.heap.size Wq Ws := by rw [hWs]; exact hbWq.setCell (p := ⟨gp, d, none⟩) (by rw [hgp]; exact Nat.le_refl _) _
      have hps : VBF Ws gp ((List.replicate pl 0).set d c) := by rw [hWs, HC0.out]; exact hpp.set d c
      have hp2 := hps.row
      rw [show ((List.replicate pl (0 : F)).set d c).length = pl by simp] at hp2
      obtain ⟨part, hpart⟩ : ∃ part, part = (List.replicate pl 0).set d c := ⟨_, rfl⟩
      rw [← hpart] at hp2
      have HPART := Lib.hid (show co part = mon d c by rw [hpart, HPL.out]; exact co_part d c)
      have HPLEN := Lib.hid hp2.1
      have hrs : RowAt Ws (some ar) nr cr r := hrq.on hbs
      have hqs : RowAt Ws Aq lq cq q := hqq.on hbs
      have hbs2 : Below g0 w Ws := hbq.trans (hbs.mono (by have := hbq.size; have := HG0.out; omega))
      have hmd : (madeCells #[Value.int .u8 0] pl)[d]? = some (.int .u8 (pd : Nat)) := by
        have h := hpd
        rw [hWp, hgp, World.cell?_alloc_new] at h
        exact h
      have HWp := Lib.hid hWp
      have HWs := Lib.hid (show Ws = Wq.alloc (.cells ((madeCells #[.int .u8 0] pl).setIfInBounds d (.int .u8 (c0 : Nat))) 5) by
        rw [hWs, hWp, hgp, World.setCell_alloc_at _ _ _ _ _ rfl])
      have HGP := Lib.hid hgp
      clear hWq hWp hWs hgp hpp hps hpdd hpd hpf hbs hbWq hrq hqq hbq hpart hbc hrc e1 e2 e6 e7 e8 e9
      go_wp2_with fail
      rw [← HWs.out, ← HGP.out]
      clear hmk hmd e3 e4 e5 hge
      have M46 := Lib.hid (ref_add_row _ _ _ _ _ _ q part Ws hqs hp2 (by omega) (by omega))
      refine (M46.out).mono ?_
      rintro e W3 ⟨A3, n3, c3, rfl, r3, b3⟩
      have hb3 : Below g0 w W3 := hbs2.trans (b3.mono (by have := hbs2.size; have := HG0.out; omega))
      have hr3 : RowAt W3 (some ar) nr cr r := hrs.on b3
      have hp3 := hp2.on b3
      have hn3 : n3 ≤ na + 1 := by have h1 := r3.1; have h2 := pa_len q part; have h3 := hqs.1; have h4 := hp2.1; omega
      have hbb3 : RowAt W3 (some ab) nb cb b := by rw [← HAB.out]; exact HRb.out.on (by rw [← HG0.out]; exact hb3)
      clear M46 hqs hrs hp2 b3 hbs2
      go_wp2_with fail
      have M48 := Lib.hid (ref_mul_row _ _ _ _ _ _ part b W3 hp3 hbb3 (by omega) (by omega))
      refine (M48.out).mono ?_
      rintro e W4 ⟨A4, n4, c4, rfl, r4, b4⟩
      have hb4 : Below g0 w W4 := hb3.trans (b4.mono (by have := hb3.size; have := HG0.out; omega))
      have hr4 : RowAt W4 (some ar) nr cr r := hr3.on b4
      have hq4 := r3.on b4
      have hn4 : n4 ≤ 100000 := by have h1 := r4.1; have h2 := pm_len part b; have h3 := hp3.1; have h4 := hbb3.1; omega
      clear M48 r3 hr3 hp3 hbb3 b4 hb3
      go_wp2_with fail
      have M46 := Lib.hid (ref_add_row _ _ _ _ _ _ r (pm part b) W4 hr4 r4 (by omega) hn4)
      refine (M46.out).mono ?_
      rintro e W5 ⟨A5, n5, c5, rfl, r5, b5⟩
      have hb5 : Below g0 w W5 := hb4.trans (b5.mono (by have := hb4.size; have := HG0.out; omega))
      have hq5 := hq4.on b5
      have HLESS := Lib.hid (show n5 < nr by
        rw [← r5.1]
        have h1 := Rd_less (r := r) HPART.out HTOP.out (by rw [HRr.out.1]; have := HD.out; have := HK.out; omega) (by rw [HC.out, HU.out])
        have := HD.out
        have := HK.out
        omega)
      have HST2 := Lib.hid (HST.out.step HPART.out)
      clear M46 hq4 hr4 r4 b5 hb4
      go_wp2_with fail
      go_roundw
      case rel => exact ⟨pa q part, pa r (pm part b), A3, n3, c3, A5, n5, c5, by have := HLESS.out; omega, hn3, rfl, rfl, r5, hq5, HST2.out, hb5⟩
      case measure => exact HLESS.out
    · have hge : decide (nb ≤ nr) = false := by simp; omega
      go_wp2_with fail
      go_ret3
      refine ⟨q, r, _, _, _, _, _, _, rfl, ⟨HST.out.1, HST.out.2.1, ?_, ?_⟩, hq, hr, by rw [← HG0.out]; exact hb⟩
      · have := HST.out.2.2
        rw [HA.out, HB.out, co_tr, co_tr] at this
        exact this
      · rw [← HB.out, HRb.out.1, hr.1]; omega
end Go.Proofs.Ytbbikkmmdedaiaa.Pr
