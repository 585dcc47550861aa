/- What poly.Add computes. -/
import Derived.Test.YtbbikkmmdedaiaaPolyRow
import Derived.Test.YtbbikkmmdedaiaaPolyEval
set_option maxRecDepth 100000
namespace Go.Proofs.Ytbbikkmmdedaiaa.Pr
open Go.RowKit Go.Proofs.Ytbbikkmmdedaiaa.Gf Go.Proofs.Ytbbikkmmdedaiaa.Vec

theorem add_row (A : Option Addr) (n c : Nat) (A2 : Option Addr) (n2 c2 : Nat) (l m : List F) (w : World) (h1 : RowAt w A n c l) (h2 : RowAt w A2 n2 c2 m) (hn : n ≤ 100000) (hn2 : n2 ≤ 100000) :
    Calls Try.prog 45 #[.slice A n c, .slice A2 n2 c2] w (Gv (pa l m) w) := by
  -- the longer one first
  obtain ⟨AL, nL, cL, L, AM, nM, cM, M, hLM, rL, rM, hle, hnL, hcase⟩ : ∃ (AL : Option Addr) (nL cL : Nat) (L : List F) (AM : Option Addr) (nM cM : Nat) (M : List F), pa l m = mk nL (ad (co L) (co M)) ∧ RowAt w AL nL cL L ∧ RowAt w AM nM cM M ∧ nM ≤ nL ∧ nL ≤ 100000 ∧
      ((decide (n < n2) = false ∧ AL = A ∧ nL = n ∧ cL = c ∧ AM = A2 ∧ nM = n2 ∧ cM = c2) ∨ (decide (n < n2) = true ∧ AL = A2 ∧ nL = n2 ∧ cL = c2 ∧ AM = A ∧ nM = n ∧ cM = c)) := by
    by_cases h : n < n2
    · refine ⟨A2, n2, c2, m, A, n, c, l, ?_, h2, h1, by omega, hn2, .inr ⟨by simp [h], rfl, rfl, rfl, rfl, rfl, rfl⟩⟩
      rw [pa, h1.1, h2.1, ad_comm]
      congr 1; omega
    · refine ⟨A, n, c, l, A2, n2, c2, m, ?_, h1, h2, by omega, hn, .inl ⟨by simp [h], rfl, rfl, rfl, rfl, rfl, rfl⟩⟩
      rw [pa, h1.1, h2.1]
      congr 1; omega
  rw [hLM]
  clear hLM h1 h2 hn hn2
  obtain ⟨g, hg⟩ : ∃ g, g = w.heap.size := ⟨_, rfl⟩
  obtain ⟨W, hW⟩ : ∃ W, W = w.alloc (.cells (madeCells #[.int .u8 0] nL) 5) := ⟨_, rfl⟩
  have hvb : VBF W g (List.replicate nL 0) := by rw [hW, hg]; exact VBF.made w nL
  have hbl : Below g w W := by rw [hW, hg]; exact (Below.refl _ w).alloc (Nat.le_refl _) _
  have rLW : RowAt W AL nL cL L := rL.on (by rw [← hg]; exact hbl)
  have hmk := run_make_row' (P := Try.prog) 22 5 (.int .u8 0) 1 Try.underlying22 info5 rfl .i64 .i64 nL (by omega) (by omega)
  have HW := Lib.hid hW
  have HG := Lib.hid hg
  have HV := Lib.hid (show W.heap[g]? = some (.cells (U8s (vals (List.replicate nL 0))).toArray 5 (0, 0)) from hvb)
  have e1 : (U8s (vals L)).length = nL := by rw [U8s_len, vals_len, rL.1]
  have e2 : (U8s (vals (List.replicate nL (0 : F)))).length = nL := by rw [U8s_len, vals_len, List.length_replicate]
  have HC := Lib.hid (show (U8s (vals L)).length = Nat.min nL nL by rw [e1]; exact (Nat.min_self nL).symm)
  have HP := Lib.hid (show 0 < (U8s (vals L)).length → some (⟨g, 0, none⟩ : Addr) = some ⟨g, 0, none⟩ ∧ ∃ ad, AL = some ad ∧ ∀ j v, (U8s (vals L))[j]? = some v → W.cell? (ad.add j) = some v from fun h => by
    rw [e1] at h
    obtain ⟨ad, e, _, hc⟩ := rLW.2.2.2 h
    exact ⟨rfl, ad, e, hc⟩)
  have HF := Lib.hid (show 0 + (U8s (vals L)).length ≤ (U8s (vals (List.replicate nL 0))).length by rw [e1, e2]; omega)
  have HBL := Lib.hid hbl
  have HE := Lib.hid (show splice (U8s (vals (List.replicate nL 0))) 0 (U8s (vals L)) = U8s (vals L) by
    unfold splice
    rw [List.take_zero, List.nil_append, List.drop_eq_nil_of_le (by rw [e1, e2]; omega), List.append_nil])
  have HL := Lib.hid rL.1
  have HM := Lib.hid rM
  clear hvb hbl rLW e1 e2 hW hg rL rM
  rcases hcase with ⟨hd, e1, e2, e3, e4, e5, e6⟩ | ⟨hd, e1, e2, e3, e4, e5, e6⟩
  all_goals
    rw [← e1, ← e2, ← e3, ← e4, ← e5, ← e6]
    rw [← e2, ← e5] at hd
    clear e1 e2 e3 e4 e5 e6
    go_enter Try.func45, Try.ntmps45
    go_wp2_with ((with_reducible show wpList _ _ _ (⟨_, Op.call { callee := .builtin .copy, args := _, argTypes := _ }, _, _, _, _⟩ :: _) _ _); rw [← HW.out, ← HG.out]; refine wpList_copy_splice rfl (.tmp 18) (.tmp 19) 22 22 rfl 5 Try.underlying22 size5 (some ⟨g, 0, none⟩) _ _ _ _ _ rfl rfl g 0 (U8s (vals (List.replicate _ 0))) 5 HV.out (U8s (vals L)) HC.out HP.out HF.out (U8s_one (vals L)) g w HBL.out (Nat.le_refl _) ?_; intro w2 HG2 hB2)
    have hv2 : VBF w2 g L := by
      have h2 := HG2.out
      rw [HE.out] at h2
      exact h2
    clear HG2
    go_loopw [23] (fun v wr => ∃ (i : Nat) (q : List F), i ≤ nM ∧ v = .int .i64 i ∧ q.length = nL ∧ co q = ad (co L) (cut i (co M)) ∧ VBF wr g q ∧ Below g w wr) (fun v _ => nM - (intOf v).toNat)
    case atStart => exact ⟨0, L, by omega, rfl, HL.out, by rw [cut_0, ad_nul], hv2, hB2⟩
    case round =>
      obtain ⟨i, q, hi, rfl, hq, hco, hv, hb⟩ := hrel
      clear hv2 hB2
      have HQ := Lib.hid hq
      have HCO := Lib.hid hco
      clear hq hco
      by_cases hlt : i < nM
      · have hrow := HM.out.on (by rw [← HG.out]; exact hb)
        obtain ⟨ad', had, _, hc⟩ := hrow.cell hlt
        subst had
        obtain ⟨b, hb0⟩ : ∃ b, b = (co M i).1 := ⟨_, rfl⟩
        obtain ⟨y, hy⟩ : ∃ y, y = (co q i).1 := ⟨_, rfl⟩
        obtain ⟨z, hz⟩ : ∃ z, z = (co q i + co M i).1 := ⟨_, rfl⟩
        rw [← hb0] at hc
        have c1 := hv.cell i (by rw [HQ.out]; omega)
        rw [← hy] at c1
        have f1 := hv.frozen i
        have hiL : i < nL := by omega
        have M1 := Lib.hid (show ∀ w, Calls Try.prog 32 #[.int .u8 (y : Nat), .int .u8 (b : Nat)] w fun e w' => e = .returned (.int .u8 (z : Nat)) ∧ w = w' by
          rw [hy, hb0, hz]; exact fadd_at rfl)
        have HV2 := Lib.hid (show VBF (wr.setCell ⟨g, i, none⟩ (.int .u8 (z : Nat))) g (q.set i (co q i + co M i)) by
          rw [hz]; exact hv.set i _)
        have HZ := Lib.hid hz
        clear hrow hb0 hy hz
        go_wp2_with (go_at_call 32; with_reducible refine (M1.out _).mono ?_; rintro e w' ⟨rfl, rfl⟩)
        go_roundw
        case rel =>
          refine ⟨i + 1, q.set i (co q i + co M i), by omega, by go_num, by rw [List.length_set]; exact HQ.out, ?_, HV2.out, hb.setCell (p := ⟨g, i, none⟩) (Nat.le_refl _) _⟩
          have hqi : co q i + co M i = co q i + co M i := rfl
          rw [co_set_add q i (co M i) (by rw [HQ.out]; omega), HCO.out, ad_assoc, ← cut_succ]
        case measure => simp [intOf]; omega
      · obtain rfl : i = nM := by omega
        have HR := Lib.hid hv.row
        have hqn : q.length = nL := HQ.out
        have hr2 := hv.row
        rw [hqn] at hr2
        have HT := Lib.hid (show tr q = mk nL (ad (co L) (co M)) from tr_co (by
          have e1 := co_lo L
          have e2 := co_lo M
          rw [HL.out] at e1
          rw [HM.out.1] at e2
          exact e1.ad (e2.mono hle)) (by
          rw [HCO.out]
          have : i = M.length := HM.out.1.symm
          rw [this, cut_co]))
        have M2 := Lib.hid (trim_row hr2 (by omega))
        clear hr2 hqn
        go_wp2_with (go_at_call 43; with_reducible refine (M2.out).mono ?_; rintro e w' ⟨⟨A', n', c', rfl, hrr⟩, rfl⟩)
        go_ret
        rw [HT.out] at hrr
        exact ⟨A', n', c', rfl, hrr, by rw [← HG.out]; exact hb⟩
end Go.Proofs.Ytbbikkmmdedaiaa.Pr
