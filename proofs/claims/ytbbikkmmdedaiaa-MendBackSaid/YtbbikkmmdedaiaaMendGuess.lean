/- What mend.guess computes. -/
import Derived.Test.YtbbikkmmdedaiaaMendPair
import Derived.Deep.LoopGhost
set_option maxRecDepth 100000
namespace Go.Proofs.Ytbbikkmmdedaiaa.Pr
open Go.RowKit Go.Proofs.Ytbbikkmmdedaiaa.Gf Go.Proofs.Ytbbikkmmdedaiaa.Vec

/-- what a guess gives -/
def GuessGv (wo : List F) (k : Nat) (w : World) (e : Ending) (w' : World) : Prop :=
  ((GuessNo wo k ∧ e = .returned (.tuple #[.slice none 0 0, .bool false])) ∨ ∃ d A n c, GuessYes wo k d ∧ e = .returned (.tuple #[.slice A n c, .bool true]) ∧ RowAt w' A n c d) ∧ Below w.heap.size w w'
theorem GvN.row {l : List F} {w : World} {e : Ending} {w' : World} (h : GvN l w e w') : Gv l w e w' := h.gv
set_option maxHeartbeats 8000000 in
theorem guess_row (A : Option Addr) (n c : Nat) (wo : List F) (k : Nat) (w : World) (h1 : RowAt w A n c wo) (hk : 1 ≤ k) (hkn : k ≤ n) (hn : n ≤ 255) :
    Calls Try.prog 75 #[.slice A n c, .int .i64 (k : Nat)] w (GuessGv wo k w) := by
  have H1 := Lib.hid h1
  have HC := Lib.hid (show chk (pls n) wo = 0 from chk_once (by rw [pls_len, h1.1]) (pls_nodup hn))
  clear h1
  go_enter Try.func75, Try.ntmps75
  go_wp2_with fail
  go_step3
  go_wp2_with fail
  refine ((places_row n w (by omega)).mono fun _ _ h => h.gv).mono ?_
  rintro e W1 ⟨Ax, nx, cx, rfl, rx, u1⟩
  have hnx : nx = n := by have h := rx.1; rw [pls_len] at h; exact h.symm
  subst hnx
  have r1 := H1.out.on u1
  go_wp2_with fail
  refine (through_row _ _ _ _ _ _ _ _ W1 rx r1 (by omega) HC.out).mono ?_
  rintro e W2 ⟨g1, A2, n2, c2, rfl, hg1, r2, u2⟩
  have rx2 := rx.on u2
  have hb2 := below_chain u1 u2
  clear rx r1 u1 u2
  go_wp2_with fail
  refine (zeros_row _ _ _ _ W2 rx2 (by omega)).mono ?_
  rintro e W3 ⟨A3, n3, c3, rfl, r3, u3⟩
  have r23 := r2.on u3
  have hb3 := below_chain hb2 u3
  clear r2 rx2 hb2 u3
  obtain ⟨W4, hW4⟩ : ∃ WX : World, WX = ((W3.alloc (.cells #[.int .u8 1] 5)).alloc (.cells #[.slice A3 n3 c3, .slice none 0 0] 90)).alloc (.cells #[.slice A2 n2 c2, .slice (some ⟨W3.heap.size, 0, none⟩) 1 1] 90) := ⟨_, rfl⟩
  have hb4 : Below W3.heap.size W3 W4 := by rw [hW4]; exact (((Below.refl _ _).alloc (Nat.le_refl _) _).alloc (by simp) _).alloc (by simp; omega) _
  have t1 : RowAt W4 (some ⟨W3.heap.size, 0, none⟩) 1 1 [1] := by
    have h := (lit_step W3 [1] #[.int .u8 1] rfl 1 rfl).1
    rw [hW4]
    exact (h.on ((Below.refl _ _).alloc (Nat.le_refl _) _)).on ((Below.refl _ _).alloc (Nat.le_refl _) _)
  have r34 := r3.on hb4
  have r24 := r23.on hb4
  have hsz : W4.heap.size = W3.heap.size + 1 + 1 + 1 := by rw [hW4]; simp
  have ka : Blk W4 (W3.heap.size + 1) 90 #[.slice A3 n3 c3, .slice none 0 0] := by
    rw [hW4]
    have h := Blk.new (W3.alloc (.cells #[.int .u8 1] 5)) 90 #[.slice A3 n3 c3, .slice none 0 0]
    rw [show (W3.alloc (.cells #[.int .u8 1] 5)).heap.size = W3.heap.size + 1 by simp] at h
    exact h.alloc _
  have kb : Blk W4 (W3.heap.size + 1 + 1) 90 #[.slice A2 n2 c2, .slice (some ⟨W3.heap.size, 0, none⟩) 1 1] := by
    rw [hW4]
    have h := Blk.new ((W3.alloc (.cells #[.int .u8 1] 5)).alloc (.cells #[.slice A3 n3 c3, .slice none 0 0] 90)) 90 #[.slice A2 n2 c2, .slice (some ⟨W3.heap.size, 0, none⟩) 1 1]
    rw [show ((W3.alloc (.cells #[.int .u8 1] 5)).alloc (.cells #[.slice A3 n3 c3, .slice none 0 0] 90)).heap.size = W3.heap.size + 1 + 1 by simp] at h
    exact h
  have pa4 : PairAt W4 (W3.heap.size + 1) (zs (pls nx)) [] := ⟨_, _, _, _, _, _, ka, r34, RowAt.nil _⟩
  have pb4 : PairAt W4 (W3.heap.size + 1 + 1) g1 [1] := ⟨_, _, _, _, _, _, kb, r24, t1⟩
  have HW4 := Lib.hid hW4
  obtain ⟨ba, hba⟩ : ∃ ba, ba = W3.heap.size + 1 := ⟨_, rfl⟩
  obtain ⟨bb, hbb⟩ : ∃ bb, bb = ba + 1 := ⟨_, rfl⟩
  have HBA := Lib.hid hba
  have HBB := Lib.hid hbb
  have hbe := below_chain hb3 hb4
  have hsg : w.heap.size ≤ W3.heap.size := hb3.size
  have hga : w.heap.size ≤ ba := by omega
  have hab : ba < bb := by omega
  have hbl : bb < W4.heap.size := by omega
  rw [← hba] at pa4
  rw [← hba, ← hbb] at pb4
  obtain ⟨g, hg⟩ : ∃ g, g = w.heap.size := ⟨_, rfl⟩
  rw [← hg] at hbe hga
  have HG := Lib.hid hg
  have hn3 : n3 = nx + 1 := by have h := r3.1; rw [zs_len, pls_len] at h; exact h.symm
  have hg1l := hg1.2.1
  rw [pls_len] at hg1l
  have HST := Lib.hid (show Gs nx (co (zs (pls nx))) (co g1) (zs (pls nx)) [] g1 [1] from by
    have h := Gs.first (x := pls nx) hg1.1 hg1.2.1
    rw [pls_len] at h
    exact h)
  have HG1 := Lib.hid hg1
  have HWL := Lib.hid (show wo.length = nx from H1.out.1)
  have hA0 : nx + k + 2 ≤ 2 * (zs (pls nx)).length := by rw [zs_len, pls_len]; omega
  clear hb4 t1 r34 r24 hsz ka kb hW4 hba hbb hb3 hsg hg hn3 r3 r23 hg1
  go_wp2_with fail
  rw [← HBA.out, ← HBB.out, ← HW4.out]
  go_step3
  go_wp2_with fail
  go_loopg [33] (nx + 2) (fun gk _ wr => ∃ ar ab br bb' : List F, Gs nx (co (zs (pls nx))) (co g1) ar ab br bb' ∧ nx + k + 2 ≤ 2 * ar.length ∧ br.length ≤ gk ∧ PairAt wr ba ar ab ∧ PairAt wr bb br bb' ∧ Below g w wr ∧ bb < wr.heap.size)
  case atStart => exact ⟨zs (pls nx), [], g1, [1], HST.out, hA0, by omega, pa4, pb4, hbe, hbl⟩
  case round =>
    obtain ⟨ar, ab, br, by', hst, hA, hgk, hpa, hpb, hb, hbl'⟩ := hrel
    clear pa4 pb4 hbe hbl hA0
    have HGS := Lib.hid hst
    obtain ⟨Aa, na, ca, Ay, ny, cy, kA, rar, rab⟩ := hpa
    obtain ⟨Ab, nb, cb, Az, nz, cz, kB, rbr, rby⟩ := hpb
    have fa0 : wr.cell? ⟨ba, 0, none⟩ = some (.slice Aa na ca) := by rw [kA.cell 0]; rfl
    have fa1 : wr.cell? ⟨ba, 1, none⟩ = some (.slice Ay ny cy) := by rw [kA.cell 1]; rfl
    have fb0 : wr.cell? ⟨bb, 0, none⟩ = some (.slice Ab nb cb) := by rw [kB.cell 0]; rfl
    have fb1 : wr.cell? ⟨bb, 1, none⟩ = some (.slice Az nz cz) := by rw [kB.cell 1]; rfl
    have hlen := hst.2.2.2.2.2
    have hna := rar.1
    have hnb := rbr.1
    have hny := rab.1
    have hnz := rby.1
    have hna' : na ≤ nx + 1 := by omega
    have hnb' : nb ≤ nx + 1 := by omega
    have hny' : ny ≤ nx + 1 := by omega
    have hnz' : nz ≤ nx + 2 := by omega
    have hnz1 : 1 ≤ nz := by omega
    have hnA : nx + k + 2 ≤ 2 * na := by omega
    have HTR := Lib.hid (show tr by' ≠ [] from fun e => by
      rw [tr_of hst.2.2.2.2.1] at e
      rw [e] at hnz; simp at hnz; omega)
    have HNA := Lib.hid hna
    have HNB := Lib.hid hnb
    clear hst hlen hA
    by_cases hend : 2 * nb < nx + k + 2
    · have ht : decide (2 * ((nb : Int) - 1) < (nx : Int) + (k : Int)) = true := by simp; omega
      go_wp2_with fail
      refine (div_row _ _ _ _ _ _ _ _ wr rbr rby (by omega) (by omega) HTR.out).mono ?_
      rintro e W5 ⟨q, r, Aq, lq, cq, Ar, lr, cr, rfl, hq, rq, rr, u5⟩
      have HALL := Lib.hid (show ∀ f, Near wo k f → q = tr f ∧ r = [] from guess_of (by rw [HWL.out]; exact hn) hk (by rw [HWL.out]; exact hkn) (by rw [HWL.out]; exact HGS.out) (by rw [HWL.out]; exact HG1.out) (by rw [HWL.out, HNA.out]; exact hnA) (by rw [HWL.out, HNB.out]; exact hend) hq)
      have hb5 : Below g w W5 := below_to HG.out hb u5
      have hlq : q.length = lq := rq.1
      have hlr : r.length = lr := rr.1
      have HLQ := Lib.hid hlq
      have HLR := Lib.hid hlr
      clear ht fa0 fa1 fb0 fb1 kA kB rar rab rbr rby u5 hb rr hq
      by_cases hcase : 0 < lr ∨ k < lq
      · have HNO := Lib.hid (guess_no HALL.out (by
          rcases hcase with h | h
          · left; intro e; rw [e] at hlr; simp at hlr; omega
          · right; omega))
        have hc2 : (decide (0 < lr) = true) ∨ (decide (0 < lr) = false ∧ decide (k < lq) = true) := by
          by_cases h : 0 < lr
          · left; simp [h]
          · right; exact ⟨by simp; omega, by simp; omega⟩
        clear hlq hlr hcase rq
        rcases hc2 with h1 | ⟨h1, h2⟩
        all_goals
          go_wp2_with fail
          try rw [Exit.noGoto_ret]
          go_ret2
          exact ⟨.inl ⟨HNO.out, rfl⟩, by rw [← HG.out]; exact hb5⟩
      · have hr0 : decide (0 < lr) = false := by simp; omega
        have hq0 : decide (k < lq) = false := by simp; omega
        have hlqk : lq ≤ k := by omega
        have HYES := Lib.hid (guess_yes HALL.out (by omega))
        have hk255 : k ≤ 255 := by omega
        have hmk := run_make_row' (P := Try.prog) 22 5 (.int .u8 0) 1 Try.underlying22 info5 rfl .i64 .i64 k (by omega) (by omega)
        obtain ⟨gm, hgm⟩ : ∃ gm, gm = W5.heap.size := ⟨_, rfl⟩
        obtain ⟨W6, hW6⟩ : ∃ W6, W6 = W5.alloc (.cells (madeCells #[.int .u8 0] k) 5) := ⟨_, rfl⟩
        have hvb : VBF W6 gm (List.replicate k 0) := by rw [hW6, hgm]; exact VBF.made W5 k
        have hbl6 : Below gm W5 W6 := by rw [hW6, hgm]; exact (Below.refl _ _).alloc (Nat.le_refl _) _
        have rq6 : RowAt W6 Aq lq cq q := rq.on (by rw [← hgm]; exact hbl6)
        have e1 : (U8s (vals q)).length = lq := by rw [U8s_len, vals_len, hlq]
        have e2 : (U8s (vals (List.replicate k (0 : F)))).length = k := by rw [U8s_len, vals_len, List.length_replicate]
        have HC5 := Lib.hid (show (U8s (vals q)).length = Nat.min lq k by rw [e1]; exact (Nat.min_eq_left hlqk).symm)
        have HP := Lib.hid (show 0 < (U8s (vals q)).length → ∃ ad, Aq = some ad ∧ ∀ j v, (U8s (vals q))[j]? = some v → W6.cell? (ad.add j) = some v from fun h => by
          rw [e1] at h
          obtain ⟨ad, e, _, hc⟩ := rq6.2.2.2 h
          exact ⟨ad, e, hc⟩)
        have HF := Lib.hid (show 0 + (U8s (vals q)).length ≤ (U8s (vals (List.replicate k 0))).length by rw [e1, e2]; omega)
        have HE := Lib.hid (show splice (U8s (vals (List.replicate k 0))) 0 (U8s (vals q)) = U8s (vals (pad k q)) by
          rw [pad_eq (by omega)]
          unfold splice
          rw [List.take_zero, List.nil_append, e1, vals_zeros]
          simp [U8s, vals, hlq, F.val_zero])
        have HV := Lib.hid (show W6.heap[gm]? = some (.cells (U8s (vals (List.replicate k 0))).toArray 5 (0, 0)) from hvb)
        have HBL := Lib.hid hbl6
        have HW6 := Lib.hid hW6
        have HGM := Lib.hid hgm
        clear hlq hlr hcase rq hvb hbl6 rq6 e1 e2 hW6 hgm
        go_wp2_with ((with_reducible show wpList _ _ _ (⟨_, Op.call { callee := .builtin .copy, args := _, argTypes := _ }, _, _, _, _⟩ :: _) _ _); rw [← HW6.out, ← HGM.out]; refine wpList_copy_splice rfl (.tmp 87) (.tmp 88) 22 22 rfl 5 Try.underlying22 size5 (some ⟨gm, 0, none⟩) _ _ _ _ _ rfl rfl gm 0 (U8s (vals (List.replicate k 0))) 5 HV.out (U8s (vals q)) HC5.out (fun h => ⟨rfl, HP.out h⟩) HF.out (U8s_one (vals q)) gm W5 HBL.out (Nat.le_refl _) ?_; intro w2 HG2 hB2)
        have hv2 : VBF w2 gm (pad k q) := by
          have h2 := HG2.out
          rw [HE.out] at h2
          exact h2
        have hr2 := hv2.row
        rw [pad_len] at hr2
        clear HG2
        try rw [Exit.noGoto_ret]
        go_ret2
        exact ⟨.inr ⟨pad k q, _, k, k, HYES.out, rfl, hr2⟩, below_chain (by rw [← HG.out]; exact hb5) (by rw [← HGM.out]; exact hB2)⟩
    · have ht : decide (2 * ((nb : Int) - 1) < (nx : Int) + (k : Int)) = false := by simp; omega
      have HTRb := Lib.hid (show tr br ≠ [] from fun e => by
        rw [tr_of HGS.out.2.2.2.1] at e
        have h := HNB.out
        rw [e] at h
        simp at h
        omega)
      go_wp2_with fail
      refine (div_row _ _ _ _ _ _ _ _ wr rar rbr (by omega) (by omega) HTRb.out).mono ?_
      rintro e W5 ⟨q, r, Aq, lq, cq, Ar, lr, cr, rfl, hq, rq, rr, u5⟩
      have HST2 := Lib.hid (HGS.out.step hq)
      have hlq : lq ≤ nx + 2 := by have h1 := qr_len_q hq; have h2 := rq.1; have h3 := HNA.out; omega
      have hlr : lr < nb := by have h1 := hq.2.2.2; have h2 := rr.1; have h3 := HNB.out; have h4 := tr_len br; omega
      have hlA : ba < wr.heap.size := by omega
      have kA5 := kA.below u5 hlA
      have kB5 := kB.below u5 hbl'
      have rbr5 := rbr.on u5
      have rby5 := rby.on u5
      have rab5 := rab.on u5
      have hb5 : Below g w W5 := below_to HG.out hb u5
      have hbl5 : bb < W5.heap.size := by have := u5.size; omega
      have fa1 : W5.cell? ⟨ba, 1, none⟩ = some (.slice Ay ny cy) := by rw [kA5.cell 1]; rfl
      have fb0 : W5.cell? ⟨bb, 0, none⟩ = some (.slice Ab nb cb) := by rw [kB5.cell 0]; rfl
      have fb1 : W5.cell? ⟨bb, 1, none⟩ = some (.slice Az nz cz) := by rw [kB5.cell 1]; rfl
      have M47 := Lib.hid (show Calls Try.prog 47 #[.slice Aq lq cq, .slice Az nz cz] W5.drew (Gv (pm q by') W5.drew) from mul_row _ _ _ _ _ _ _ _ W5.drew rq rby5 (by omega) (by omega))
      clear ht fa0 kA kB rar rab rbr rby u5 hb hq
      go_wp2_with fail
      go_region_with (first
        | (go_at_call 47
           (with_reducible refine (M47.out).mono ?_)
           rintro e W6 ⟨A6, n6, c6, rfl, r6, u6⟩
           have ga1 : W6.cell? ⟨ba, 1, none⟩ = some (.slice Ay ny cy) := (u6.cell (p := ⟨ba, 1, none⟩) (by show ba < W5.heap.size; omega)).trans fa1
           have gb0 : W6.cell? ⟨bb, 0, none⟩ = some (.slice Ab nb cb) := (u6.cell (p := ⟨bb, 0, none⟩) hbl5).trans fb0
           have gb1 : W6.cell? ⟨bb, 1, none⟩ = some (.slice Az nz cz) := (u6.cell (p := ⟨bb, 1, none⟩) hbl5).trans fb1
           have rab6 := RowAt.on (w := W5.drew) rab5 u6
           have hn6 : n6 ≤ 1000 := by have h1 := r6.1; have h2 := pm_len q by'; have h3 := rq.1; have h4 := rby5.1; omega)
        | (go_at_call 45
           ((with_reducible refine (add_row _ _ _ _ _ _ ab (pm q by') _ rab6 r6 (by omega) (by omega)).mono ?_))
           rintro e W7 ⟨A7, n7, c7, rfl, r7, u7⟩
           have kA7 := (Blk.below (w := W5.drew) kA5 u6 (by show ba < W5.heap.size; omega)).below u7 (by have h : W5.heap.size ≤ W6.heap.size := u6.size; omega)
           have kB7 := (Blk.below (w := W5.drew) kB5 u6 hbl5).below u7 (by have h : W5.heap.size ≤ W6.heap.size := u6.size; omega)
           have ga1' : W7.cell? ⟨ba, 1, none⟩ = some (.slice Ay ny cy) := by rw [kA7.cell 1]; rfl
           have ga0' : W7.cell? ⟨ba, 0, none⟩ = some (.slice Aa na ca) := by rw [kA7.cell 0]; rfl
           have gb0' : W7.cell? ⟨bb, 0, none⟩ = some (.slice Ab nb cb) := by rw [kB7.cell 0]; rfl
           have gb1' : W7.cell? ⟨bb, 1, none⟩ = some (.slice Az nz cz) := by rw [kB7.cell 1]; rfl
           have fa0' := kA7.frozen 0
           have fa1' := kA7.frozen 1
           have fb0' := kB7.frozen 0
           have fb1' := kB7.frozen 1))
      all_goals
        have rbr7 := (RowAt.on (w := W5.drew) rbr5 u6).on u7
        have rby7 := (RowAt.on (w := W5.drew) rby5 u6).on u7
        have rr7 := (RowAt.on (w := W5.drew) rr u6).on u7
        have hpp := pair_swap rfl rfl kA7 kB7 hab rbr7 rby7 rr7 r7
        have hb7 : Below g w W7 := below_to HG.out (below_to HG.out hb5.drew u6) u7
        have hb8 := (((hb7.setCell (p := ⟨ba, 0, none⟩) hga (.slice Ab nb cb)).setCell (p := ⟨ba, 1, none⟩) hga (.slice Az nz cz)).setCell (p := ⟨bb, 0, none⟩) (by show g ≤ bb; omega) (.slice Ar lr cr)).setCell (p := ⟨bb, 1, none⟩) (by show g ≤ bb; omega) (.slice A7 n7 c7)
        have hbl8 : bb < ((((W7.setCell ⟨ba, 0, none⟩ (.slice Ab nb cb)).setCell ⟨ba, 1, none⟩ (.slice Az nz cz)).setCell ⟨bb, 0, none⟩ (.slice Ar lr cr)).setCell ⟨bb, 1, none⟩ (.slice A7 n7 c7)).heap.size := by
          have h1 := kB7.lt
          simpa [World.setCell] using h1
        obtain ⟨W8, hW8⟩ : ∃ W8, W8 = (((W7.setCell ⟨ba, 0, none⟩ (.slice Ab nb cb)).setCell ⟨ba, 1, none⟩ (.slice Az nz cz)).setCell ⟨bb, 0, none⟩ (.slice Ar lr cr)).setCell ⟨bb, 1, none⟩ (.slice A7 n7 c7) := ⟨_, rfl⟩
        rw [← hW8] at hpp hb8 hbl8 ⊢
        have hlr1 : r.length ≤ lr := Nat.le_of_eq rr.1
        have hA2 : nx + k + 2 ≤ 2 * br.length := by omega
        have hms : lr < gk := by omega
        clear hW8 kA7 kB7 ga1' ga0' gb0' gb1' fa0' fa1' fb0' fb1' rbr7 rby7 rr7 r7 hb7 u7 u6
        go_wp2_with fail
        go_roundg lr
        case measure => exact hms
        case rel => exact ⟨br, by', r, pa ab (pm q by'), HST2.out, hA2, hlr1, hpp.1, hpp.2, hb8, hbl8⟩
end Go.Proofs.Ytbbikkmmdedaiaa.Pr
