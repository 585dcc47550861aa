/- What poly.Div computes. -/
import Derived.Test.YtbbikkmmdedaiaaPolyMul
import Derived.Test.YtbbikkmmdedaiaaPolyRefs2
import Derived.Test.YtbbikkmmdedaiaaWords7
set_option maxRecDepth 100000
namespace Go.Proofs.Ytbbikkmmdedaiaa.Pr
open Go.RowKit Go.Proofs.Ytbbikkmmdedaiaa.Gf Go.Proofs.Ytbbikkmmdedaiaa.Vec

/-- the first cells of a block hold the list, and may be written -/
def CF (w : World) (g : Nat) (m : List F) : Prop := g < w.heap.size ∧ (∀ i, i < m.length → w.cell? ⟨g, i, none⟩ = some (.int .u8 ((co m i).1 : Nat))) ∧ ∀ i, w.frozen? ⟨g, i, none⟩ = false
section
variable {w w' : World} {g : Nat} {m : List F}
theorem CF.set (h : CF w g m) (i : Nat) (v : F) (hi : i < m.length) : CF (w.setCell ⟨g, i, none⟩ (.int .u8 (v.1 : Nat))) g (m.set i v) := by
  refine ⟨by simpa [World.setCell] using h.1, fun j hj => ?_, fun j => (World.frozen?_setCell _ _ _ _).trans (h.2.2 j)⟩
  rw [List.length_set] at hj
  rw [co_set m i j v hi]
  by_cases e : j = i
  · subst e
    rw [if_pos rfl]
    exact World.cell?_setCell_same _ _ _ (h.2.1 j hj)
  · rw [if_neg e, World.cell?_setCell_other _ _ _ _ (fun h => e (by injection h with _ h2 _; exact h2.symm))]
    exact h.2.1 j hj
theorem CF.far (h : CF w g m) {p : Addr} (hp : p.block ≠ g) (u : Value) : CF (w.setCell p u) g m := by
  refine ⟨by simpa [World.setCell] using h.1, fun j hj => ?_, fun j => (World.frozen?_setCell _ _ _ _).trans (h.2.2 j)⟩
  rw [World.cell?_setCell_other _ _ _ _ (fun e => hp (by rw [e]))]
  exact h.2.1 j hj
theorem CF.below {B : Nat} (h : CF w g m) (hb : Below B w w') (hg : g < B) : CF w' g m :=
  ⟨by have := hb.size; have := h.1; omega, fun i hi => (hb.cell (p := ⟨g, i, none⟩) hg).trans (h.2.1 i hi), fun i => (hb.frozen (p := ⟨g, i, none⟩) hg).trans (h.2.2 i)⟩
theorem CF.row (h : CF w g m) {n c : Nat} (hn : m.length = n) (hc : n ≤ c) : RowAt w (some ⟨g, 0, none⟩) n c m := by
  subst hn
  refine ⟨rfl, hc, by rw [U8s_len, vals_len]; omega, fun _ => ⟨_, rfl, h.1, fun j u hu => ?_⟩⟩
  obtain ⟨rfl, hj⟩ := U8s_at hu
  rw [vals_len] at hj
  have e : (⟨g, 0, none⟩ : Addr).add j = ⟨g, j, none⟩ := by unfold Addr.add; split <;> simp_all
  rw [e, vals_getD]
  exact h.2.1 j hj
theorem VBF.cf (h : VBF w g m) : CF w g m := ⟨h.lt, h.cell, h.frozen⟩
end
theorem own_cf {w : World} {B g n c : Nat} {m : List F} (h : Own w B 5 (.slice (some ⟨g, 0, none⟩) n c) (U8s (vals m))) (hn : m.length = n) : CF w g m := by
  unfold Own at h
  rw [U8s_len, vals_len, hn] at h
  refine ⟨Own.lt (B := B) (e := 5) (l := U8s (vals m)) (by unfold Own; rw [U8s_len, vals_len, hn]; exact h) g rfl, fun i hi => ?_, fun i => h.frozenAt i⟩
  rw [h.cellAt i (by omega), U8s_get _ i (by rw [vals_len]; exact hi), vals_getD]

/-- what a division gives -/
def GvQ (l m : List F) (w : World) (e : Ending) (w' : World) : Prop :=
  ∃ (q r : List F) (A : Option Addr) (n c : Nat) (A' : Option Addr) (n' c' : Nat), e = .returned (.tuple #[.slice A n c, .slice A' n' c', .int .i64 0]) ∧ Qr l m q r ∧ RowAt w' A n c q ∧ RowAt w' A' n' c' r ∧ Below w.heap.size w w'

theorem div_bad (A : Option Addr) (n c : Nat) (A2 : Option Addr) (n2 c2 : Nat) (m : List F) (w : World) (h2 : RowAt w A2 n2 c2 m) (hn2 : n2 ≤ 100000) (hz : tr m = []) :
    Calls Try.prog 41 #[.slice A n c, .slice A2 n2 c2] w fun e w' => e = .returned (.tuple #[.slice none 0 0, .slice none 0 0, .int .i64 1]) ∧ w = w' := by
  have M1 := Lib.hid (trim_row h2 (by omega))
  have HZ := Lib.hid hz
  clear hz
  go_enter Try.func41, Try.ntmps41
  go_wp2_with fail
  refine (M1.out).mono ?_
  rintro e w' ⟨⟨Ab, nb, cb, rfl, rb⟩, rfl⟩
  have h0 : ((nb : Int) == 0) = true := by
    have := rb.1
    rw [HZ.out] at this
    simp at this
    simp; omega
  go_wp2_with fail
  go_ret3
  exact ⟨rfl, rfl⟩

theorem app_form {w1 : World} {g0 na : Nat} {v1 : Value} {a : List F} (h : w1.ownsRow g0 5 1 v1 (0 + na) ([] ++ U8s (vals a))) (hl : a.length = na) :
    ∃ A1 c1, v1 = .slice A1 na c1 ∧ Own w1 g0 5 (.slice A1 na c1) (U8s (vals a)) ∧ (0 < na → ∃ g, A1 = some ⟨g, 0, none⟩ ∧ g0 ≤ g) := by
  rw [Nat.zero_add, List.nil_append] at h
  have h3 : Own w1 g0 5 v1 (U8s (vals a)) := by unfold Own; rw [U8s_len, vals_len, hl]; exact h
  rcases h.2 with ⟨rfl, h0⟩ | ⟨g, cap, cur, rfl, hg, _⟩
  · subst h0
    exact ⟨none, 0, rfl, h3, fun h => absurd h (by omega)⟩
  · exact ⟨some ⟨g, 0, none⟩, cap, rfl, h3, fun _ => ⟨g, rfl, hg⟩⟩

/-- the state of a division, t steps ahead of its end -/
def DivSt (a b : List F) (nq na k t : Nat) (Q R : List F) : Prop :=
  Q.length = nq ∧ R.length = na ∧ co a = ad (cv (co Q) (co b)) (co R) ∧ Lo (t + k) (co R) ∧ ∀ j, j < t → co Q j = 0
theorem DivSt.first {a b : List F} {nq na k : Nat} (h : a.length = na) (hk : na ≤ nq + k) : DivSt a b nq na k nq (List.replicate nq 0) a :=
  ⟨by simp, h, by rw [co_zeros, cv_nul_left, nul_ad], (co_lo a).mono (by omega), fun j _ => by rw [co_zeros]; rfl⟩
theorem DivSt.step {a b Q R R' : List F} {nq na k t : Nat} {c : F} (h : DivSt a b nq na k (t + 1) Q R) (ht : t < nq) (hb : Top k (co b)) (hc : c = co R (t + k) * F.inv (co b k))
    (hR : co R' = ad (co R) (cv (mon t c) (co b))) (hl : R'.length = na) : DivSt a b nq na k t (Q.set t c) R' := by
  obtain ⟨h1, h2, h3, h4, h5⟩ := h
  refine ⟨by rw [List.length_set, h1], hl, ?_, ?_, fun j hj => ?_⟩
  · rw [co_set_new Q t c (by omega) (h5 t (by omega)), hR]
    exact div_keep t c h3
  · rw [hR]
    exact cut_mon_lo (h4.mono (by omega)) hb.1 (F.mul_inv hb.2) hc
  · rw [co_set Q t j c (by omega), if_neg (by omega)]
    exact h5 j (by omega)
theorem DivSt.last {l m a b Q R : List F} {nq na k : Nat} (h : DivSt a b nq na k 0 Q R) (ha : a = tr l) (hb : b = tr m) (hk : b.length = k + 1) : Qr l m (tr Q) (tr R) := by
  obtain ⟨h1, h2, h3, h4, h5⟩ := h
  refine ⟨tr_trd _, tr_trd _, ?_, ?_⟩
  · rw [co_tr, co_tr, ← co_tr l, ← ha, h3, hb, co_tr]
  · rw [← hb, hk]
    have := (tr_trd R).len_le (n := k) (by rw [co_tr]; exact h4.mono (by omega))
    omega

set_option maxHeartbeats 800000 in
theorem div_row (A : Option Addr) (n c : Nat) (A2 : Option Addr) (n2 c2 : Nat) (l m : List F) (w : World) (h1 : RowAt w A n c l) (h2 : RowAt w A2 n2 c2 m) (hn : n ≤ 100000) (hn2 : n2 ≤ 100000) (hz : tr m ≠ []) :
    Calls Try.prog 41 #[.slice A n c, .slice A2 n2 c2] w (GvQ l m w) := by
  obtain ⟨i0, hi0, hz0, hz1, hz2⟩ := info_parts info5
  have M1 := Lib.hid (trim_row h2 (by omega))
  have M2 := Lib.hid (trim_row h1 (by omega))
  have htl := tr_len l
  have htm := tr_len m
  have hl1 := h1.1
  have hm1 := h2.1
  obtain ⟨a, ha⟩ : ∃ a, a = tr l := ⟨_, rfl⟩
  obtain ⟨b, hb⟩ : ∃ b, b = tr m := ⟨_, rfl⟩
  rw [← ha] at M2 htl
  rw [← hb] at M1 htm hz
  have HA := Lib.hid ha
  have HB := Lib.hid hb
  have HZ := Lib.hid hz
  have hi0' := Lib.hid hi0
  have hz0' := Lib.hid hz0
  have hz1' := Lib.hid hz1
  have hz2' := Lib.hid hz2
  have hal : a.length ≤ 100000 := by omega
  have hbl : b.length ≤ 100000 := by omega
  clear ha hb hz hi0 hz0 hz1 hz2 h1 h2 htl htm hl1 hm1
  go_enter Try.func41, Try.ntmps41
  go_wp2_with fail
  refine (M1.out).mono ?_
  rintro e w' ⟨⟨Ab, nb, cb, rfl, rb⟩, rfl⟩
  have hnb : nb ≤ 100000 := by have := rb.1; omega
  have hnb1 : 1 ≤ nb := by
    have := rb.1
    rcases Nat.eq_zero_or_pos nb with h | h
    · exact absurd (List.eq_nil_of_length_eq_zero (by omega)) HZ.out
    · exact h
  have h0 : ((nb : Int) == 0) = false := by simp; omega
  clear M1
  go_wp2_with fail
  refine (M2.out).mono ?_
  rintro e w' ⟨⟨Aa, na, ca, rfl, ra⟩, rfl⟩
  have hna : na ≤ 100000 := by have := ra.1; omega
  have HRb := Lib.hid rb
  have HRa := Lib.hid ra
  clear M2 rb ra h0
  obtain ⟨g0, hg0⟩ : ∃ g0, g0 = w.heap.size := ⟨_, rfl⟩
  have HG0 := Lib.hid hg0
  obtain ⟨k, hk⟩ : ∃ k, k = nb - 1 := ⟨_, rfl⟩
  have HK := Lib.hid hk
  have hkI : (nb : Int) - 1 = (k : Int) := by omega
  have hkn : k < nb := by omega
  obtain ⟨ab, hab, habl, hbc⟩ := HRb.out.cell hkn
  obtain ⟨bk, hbk⟩ : ∃ bk, bk = (co b k).1 := ⟨_, rfl⟩
  obtain ⟨iv, hiv⟩ : ∃ iv, iv = (F.inv (co b k)).1 := ⟨_, rfl⟩
  obtain ⟨xe, hxe⟩ : ∃ xe, xe = nought bk := ⟨_, rfl⟩
  rw [← hbk] at hbc
  have HBC := Lib.hid hbc
  have MI := Lib.hid (show ∀ w, Calls Try.prog 28 #[.int .u8 (bk : Nat)] w fun e w' => e = .returned (.tuple #[.int .u8 (iv : Nat), .int .i64 xe]) ∧ w = w' from inv_at bk iv xe (by rw [hbk]; exact (co b k).2) (by rw [hiv, hbk]; rfl) hxe.symm)
  have HBK := Lib.hid hbk
  have HIV := Lib.hid hiv
  have HAB := Lib.hid hab
  clear hg0 hk hbk hiv hxe hbc
  rw [hab]
  clear hab
  go_wp2_with (at_builtin; refine wpList_append_any _ rfl (.const (.slice none 0 0)) (.tmp 21) 22 rfl g0 5 i0 _ 1 1 Try.underlying22 hi0'.out hz0'.out hz1'.out hz2'.out rfl (by omega) (.slice none 0 0) 0 [] rfl ⟨by simp, .inl ⟨rfl, rfl⟩⟩ w.heap.size Aa na ca (U8s (vals a)) rfl HRa.out.2.2 (U8s_one _) (by simp only [maxLen]; omega) (by omega) (by rw [HG0.out]; exact Nat.le_refl _) ?_; intro v1 w1 hown1 hg1 hat1; obtain ⟨A1, c1, rfl, hown, hform⟩ := app_form hown1 HRa.out.1; have hb1 : Below g0 w w1 := (Below.refl _ _).grown hg1 (by rw [HG0.out]; exact Nat.le_refl _) (by simp [Value.ownBlock]); have hc1 : w1.cell? (ab.add k) = some (.int .u8 (bk : Nat)) := (hb1.cell (by rw [HG0.out]; exact habl)).trans HBC.out; clear hown1 hg1 hat1)
  refine (MI.out _).mono ?_
  rintro e w' ⟨rfl, rfl⟩
  clear hc1 hkI
  have HI0 := Lib.hid hi0'
  clear hi0' hz0' hz1' hz2'
  have hs1 : w.heap.size ≤ w1.heap.size := by have := hb1.size; omega
  obtain ⟨gq, hgq⟩ : ∃ gq, gq = w1.heap.size := ⟨_, rfl⟩
  have HGQ := Lib.hid hgq
  by_cases hlen : na < nb
  · have hd1 : (na : Int) - (nb : Int) + 1 ≤ 0 := by omega
    have hmk := run_make_row' (P := Try.prog) 22 5 (.int .u8 0) 1 Try.underlying22 info5 rfl .i64 .i64 0 (by omega) (by omega)
    rw [show ((0 : Nat) : Int) = 0 from rfl] at hmk
    obtain ⟨W, hW⟩ : ∃ W, W = w1.alloc (.cells (madeCells #[.int .u8 0] 0) 5) := ⟨_, rfl⟩
    have HW := Lib.hid hW
    have hbW : Below g0 w W := by rw [hW]; exact hb1.alloc (by have := HG0.out; omega) _
    have hoW : Own W g0 5 (.slice A1 na c1) (U8s (vals a)) := by rw [hW]; exact hown.alloc _
    have hqW : RowAt W (some ⟨gq, 0, none⟩) 0 0 [] := by
      have := (VBF.made w1 0).row
      rw [← hW, ← hgq] at this
      exact this
    have hrW := own_row hoW HRa.out.1
    clear hW hgq hown hoW
    go_wp2_with fail
    rw [← HW.out, ← HGQ.out]
    clear hmk hd1
    have HbW := Lib.hid hbW
    clear hbW
    go_loop [11] (fun v => v = .int .i64 (-1)) (fun _ => 0)
    case atStart => rfl
    case round =>
      subst hrel
      have M3 := Lib.hid (trim_row hqW (by omega))
      have M4 := Lib.hid (trim_row hrW (by omega))
      clear hqW hrW
      go_wp2_with fail
      refine (M3.out).mono ?_
      rintro e w' ⟨⟨A3, n3, c3, rfl, r3⟩, rfl⟩
      go_wp2_with fail
      refine (M4.out).mono ?_
      rintro e w' ⟨⟨A4, n4, c4, rfl, r4⟩, rfl⟩
      go_wp2_with fail
      go_ret3
      rw [tr_of (by rw [HA.out]; exact tr_trd l)] at r4
      refine ⟨tr [], a, _, _, _, _, _, _, rfl, ⟨tr_trd _, by rw [HA.out]; exact tr_trd l, ?_, ?_⟩, r3, r4, by rw [← HG0.out]; exact HbW.out⟩
      · rw [HA.out, co_tr, co_tr, co_nil, cv_nul_left, nul_ad]
      · rw [← HB.out, HRa.out.1, HRb.out.1]; exact hlen
  · obtain ⟨nq, hnq⟩ : ∃ nq, nq = na + 1 - nb := ⟨_, rfl⟩
    have hd1 : ¬ ((na : Int) - (nb : Int) + 1 ≤ 0) := by omega
    have hd2 : (na : Int) - (nb : Int) + 1 = (nq : Int) := by omega
    have hnq1 : 1 ≤ nq := by omega
    have hnqk : nq + k = na := by have := HK.out; omega
    have hmk := run_make_row' (P := Try.prog) 22 5 (.int .u8 0) 1 Try.underlying22 info5 rfl .i64 .i64 nq (by omega) (by omega)
    obtain ⟨W, hW⟩ : ∃ W, W = w1.alloc (.cells (madeCells #[.int .u8 0] nq) 5) := ⟨_, rfl⟩
    have HW := Lib.hid hW
    have hbW : Below g0 w W := by rw [hW]; exact hb1.alloc (by have := HG0.out; omega) _
    obtain ⟨gr, hgr, hgr0⟩ := hform (by omega)
    subst hgr
    have hown' : Own W g0 5 (.slice (some ⟨gr, 0, none⟩) na c1) (U8s (vals a)) := by rw [hW]; exact hown.alloc _
    have hgrq : gr < gq := by
      rw [hgq]
      exact Own.lt hown gr rfl
    have hcr : CF W gr a := own_cf hown' HRa.out.1
    have hcap : na ≤ c1 := (own_row hown HRa.out.1).2.1
    have hcq : CF W gq (List.replicate nq 0) := by
      have := (VBF.made w1 nq).cf
      rw [← hW, ← hgq] at this
      exact this
    have hgq0 : g0 ≤ gq := by omega
    have HST0 := Lib.hid (DivSt.first (b := b) HRa.out.1 (show na ≤ nq + k by omega))
    clear hW hgq hown hform hown' hnq hb1
    go_wp2_with fail
    rw [← HW.out, ← HGQ.out]
    clear hmk hd1 hd2
    go_loopw [11] (fun v wr => ∃ (t : Nat) (Q R : List F), t ≤ nq ∧ v = .int .i64 ((t : Int) - 1) ∧ DivSt a b nq na k t Q R ∧ CF wr gq Q ∧ CF wr gr R ∧ Below g0 w wr) (fun v _ => (intOf v + 1).toNat)
    case atStart => exact ⟨nq, _, _, Nat.le_refl _, rfl, HST0.out, hcq, hcr, hbW⟩
    case round =>
      obtain ⟨t, Q, R, ht, rfl, hst, hq, hr, hb⟩ := hrel
      clear hcq hcr hbW
      have HST := Lib.hid hst
      have HQL := Lib.hid hst.1
      have HRL := Lib.hid hst.2.1
      clear hst
      cases t with
      | zero =>
        rw [show ((0 : Nat) : Int) - 1 = -1 from rfl]
        have M3 := Lib.hid (trim_row (hq.row HQL.out (Nat.le_refl _)) (by omega))
        have M4 := Lib.hid (trim_row (hr.row HRL.out hcap) (by omega))
        clear hq hr
        go_wp2_with fail
        refine (M3.out).mono ?_
        rintro e w' ⟨⟨A3, n3, c3, rfl, r3⟩, rfl⟩
        go_wp2_with fail
        refine (M4.out).mono ?_
        rintro e w' ⟨⟨A4, n4, c4, rfl, r4⟩, rfl⟩
        go_wp2_with fail
        go_ret3
        exact ⟨tr Q, tr R, _, _, _, _, _, _, rfl, HST.out.last HA.out HB.out (by rw [HRb.out.1]; have := HK.out; omega), r3, r4, by rw [← HG0.out]; exact hb⟩
      | succ t =>
        rw [show ((t + 1 : Nat) : Int) - 1 = (t : Int) by omega]
        have htq : t < nq := by omega
        obtain ⟨s, hs⟩ : ∃ s, s = t + nb := ⟨_, rfl⟩
        obtain ⟨u, hu⟩ : ∃ u, u = t + k := ⟨_, rfl⟩
        have hsI : (t : Int) + (nb : Int) = (s : Int) := by omega
        have hkb := HK.out
        have huI : (s : Int) - 1 = (u : Int) := by omega
        have hun : u < na := by omega
        obtain ⟨c, hc⟩ : ∃ c, c = co R u * F.inv (co b k) := ⟨_, rfl⟩
        obtain ⟨ru, hru⟩ : ∃ ru, ru = (co R u).1 := ⟨_, rfl⟩
        obtain ⟨c0, hc0⟩ : ∃ c0, c0 = c.1 := ⟨_, rfl⟩
        have cu := hr.2.1 u (by rw [HRL.out]; exact hun)
        rw [← hru] at cu
        have ct := hq.2.1 t (by rw [HQL.out]; exact htq)
        obtain ⟨qt, hqt⟩ : ∃ qt, qt = (co Q t).1 := ⟨_, rfl⟩
        rw [← hqt] at ct
        have ft := hq.2.2 t
        have MM := Lib.hid (show ∀ w, Calls Try.prog 33 #[.int .u8 (ru : Nat), .int .u8 (iv : Nat)] w fun e w' => e = .returned (.int .u8 (c0 : Nat)) ∧ w = w' by
          rw [hru, HIV.out, hc0]; exact fmul_at hc.symm)
        obtain ⟨W2, hW2⟩ : ∃ W2, W2 = wr.setCell ⟨gq, t, none⟩ (.int .u8 (c0 : Nat)) := ⟨_, rfl⟩
        have hq2 : CF W2 gq (Q.set t c) := by rw [hW2, hc0]; exact hq.set t c (by rw [HQL.out]; exact htq)
        have hr2 : CF W2 gr R := by rw [hW2]; exact hr.far (by show gq ≠ gr; omega) _
        have hb2 : Below g0 w W2 := by rw [hW2]; exact hb.setCell (p := ⟨gq, t, none⟩) hgq0 _
        have HW2 := Lib.hid hW2
        have HC := Lib.hid hc
        have HC0 := Lib.hid hc0
        have HU := Lib.hid hu
        clear hkb hs hu hc hru hc0 hqt hW2 hq hr hb
        go_wp2_with (go_at_call 33; with_reducible refine (MM.out _).mono ?_; rintro e w' ⟨rfl, rfl⟩)
        rw [← HW2.out]
        clear cu ct ft hsI huI
        go_loopw [64] (fun v wr => ∃ (i : Nat) (R' : List F), i ≤ nb ∧ v = .int .i64 i ∧ R'.length = na ∧ co R' = ad (co R) (cv (mon t c) (cut i (co b))) ∧ CF wr gq (Q.set t c) ∧ CF wr gr R' ∧ Below g0 w wr) (fun v _ => nb - (intOf v).toNat)
        case atStart => exact ⟨0, R, by omega, rfl, HRL.out, by rw [cut_0, cv_nul_right, ad_nul], hq2, hr2, hb2⟩
        case round =>
          obtain ⟨i, R', hi, rfl, hl', hco', hq', hr', hb'⟩ := hrel
          clear hq2 hr2 hb2
          have HL' := Lib.hid hl'
          have HCO' := Lib.hid hco'
          clear hl' hco'
          by_cases hlt : i < nb
          · obtain ⟨ab', hab', _, hbx⟩ := (HRb.out.on (by rw [← HG0.out]; exact hb')).cell hlt
            have hab2 := HAB.out
            rw [hab'] at hab2
            injection hab2 with hab2
            subst hab2
            obtain ⟨x, hx⟩ : ∃ x, x = (co b i).1 := ⟨_, rfl⟩
            rw [← hx] at hbx
            obtain ⟨s, hs⟩ : ∃ s, s = t + i := ⟨_, rfl⟩
            have hsN : s < na := by have := HK.out; omega
            obtain ⟨y, hy⟩ : ∃ y, y = (co R' s).1 := ⟨_, rfl⟩
            obtain ⟨p, hp⟩ : ∃ p, p = (c * co b i).1 := ⟨_, rfl⟩
            obtain ⟨z, hz⟩ : ∃ z, z = (co R' s + c * co b i).1 := ⟨_, rfl⟩
            have c1' := hr'.2.1 s (by rw [HL'.out]; exact hsN)
            rw [← hy] at c1'
            have f1 := hr'.2.2 s
            have M5 := Lib.hid (show ∀ w, Calls Try.prog 33 #[.int .u8 (c0 : Nat), .int .u8 (x : Nat)] w fun e w' => e = .returned (.int .u8 (p : Nat)) ∧ w = w' by
              rw [HC0.out, hx, hp]; exact fmul_at rfl)
            have hxo : bits .xor .u8 (y : Int) (p : Int) = (z : Int) := by rw [hy, hp, hz]; exact fxor rfl
            have HV2 := Lib.hid (show CF (wr.setCell ⟨gr, s, none⟩ (.int .u8 (z : Nat))) gr (R'.set s (co R' s + c * co b i)) by
              rw [hz]; exact hr'.set s _ (by rw [HL'.out]; exact hsN))
            have HV3 := Lib.hid (show CF (wr.setCell ⟨gr, s, none⟩ (.int .u8 (z : Nat))) gq (Q.set t c) from hq'.far (by show gr ≠ gq; omega) _)
            have HS := Lib.hid hs
            have es : IntKind.i64.wrap ((t : Int) + (i : Int)) = (s : Int) := by rw [hs]; exact IntWalk.i64_in _ ⟨by omega, by omega⟩
            have es0 : (0 : Int) ≤ (s : Int) := by omega
            have esN : (s : Int) < (na : Int) := by omega
            clear hx hy hp hz hs hr' hq' hab'
            go_wp2_with fail
            go_region_with (go_at_call 33; with_reducible refine (M5.out _).mono ?_; rintro e w' ⟨rfl, rfl⟩)
            clear es es0 esN
            all_goals
              go_wp2_with fail
              go_roundw
              case rel =>
                refine ⟨i + 1, R'.set s (co R' s + c * co b i), by omega, by go_num, by rw [List.length_set]; exact HL'.out, ?_, HV3.out, HV2.out, (hb'.setCell (p := ⟨gr, s, none⟩) hgr0 _).drew⟩
                rw [co_set_add R' s _ (by rw [HL'.out]; exact hsN), HCO'.out, ad_assoc, cv_cut_succ, HS.out]
              case measure => simp [intOf]; omega
          · obtain rfl : i = nb := by omega
            have HST2 := Lib.hid (show DivSt a b nq na k t (Q.set t c) R' from by
              have htop : Top k (co b) := by
                have hT : Trd b := by rw [HB.out]; exact tr_trd m
                exact hT.top (by rw [HRb.out.1]; have := HK.out; omega)
              refine HST.out.step htq htop (by rw [HC.out, HU.out]) ?_ HL'.out
              rw [HCO'.out]
              have : i = b.length := HRb.out.1.symm
              rw [this, cut_co])
            go_wp2_with fail
            go_roundw
            case rel => exact ⟨t, Q.set t c, R', by omega, rfl, HST2.out, hq', hr', hb'⟩
            case measure => simp [intOf]
end Go.Proofs.Ytbbikkmmdedaiaa.Pr
