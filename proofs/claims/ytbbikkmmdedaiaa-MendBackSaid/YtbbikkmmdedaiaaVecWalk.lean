/- What vector.Scale and the reference's Scale compute. -/
import Derived.Test.YtbbikkmmdedaiaaGfLaws
import Derived.Test.YtbbikkmmdedaiaaVecPlain
import Derived.Laws.CopyOwn
set_option maxRecDepth 100000
namespace Go.Proofs.Ytbbikkmmdedaiaa.Vec
open Go.RowKit Go.Proofs.Ytbbikkmmdedaiaa.Gf

theorem info5 : (Try.prog.info? 5).map (fun i => (i.zero, i.size, i.bytes)) = some (some (.int .u8 0), 1, 1) := by kernel_rfl
theorem size5 : (Try.prog.info? 5).map (·.size) = some 1 := by kernel_rfl

theorem scale_any (k : Nat) (A : Option Addr) (c B : Nat) (l : List Nat) (w : World) (hk : k < 256) (hr : Reads w B 1 A l.length (U8s l)) (hl : Bytes l) (hn : l.length ≤ 1000000) (hB : B ≤ w.heap.size) :
    Calls Try.prog 26 #[.int .u8 k, .slice A l.length c] w fun e w' => e = .returned (.slice (some ⟨w.heap.size, 0, none⟩) l.length l.length) ∧ VB w' w.heap.size (scale k l) ∧ Below w.heap.size w w' := by
  obtain ⟨n, hnn⟩ : ∃ n, n = l.length := ⟨_, rfl⟩
  rw [← hnn]
  have hmk := run_make_row' (P := Try.prog) 22 5 (.int .u8 0) 1 Try.underlying22 info5 rfl .i64 .i64 n (by omega) (by omega)
  obtain ⟨g, hg⟩ : ∃ g, g = w.heap.size := ⟨_, rfl⟩
  obtain ⟨W, hW⟩ : ∃ W, W = w.alloc (.cells (madeCells #[.int .u8 0] n) 5) := ⟨_, rfl⟩
  have hvb : VB W g (List.replicate n 0) := by rw [hW, hg]; exact VB.made w n
  have hbl : Below g w W := by rw [hW, hg]; exact (Below.refl _ w).alloc (Nat.le_refl _) _
  have hr0 : Reads W B 1 A n (U8s l) := by rw [hnn, hW]; exact hr.alloc hB _
  have HW := Lib.hid hW
  have HG := Lib.hid hg
  have HN := Lib.hid hnn
  have HRd := Lib.hid (show Reads w B 1 A n (U8s l) by rw [hnn]; exact hr)
  have hBg : B ≤ g := by omega
  rw [← hg]
  clear hW hg hnn hr hB
  by_cases h0 : k = 0
  · have HS := Lib.hid (show scale k l = List.replicate n 0 by
      apply ext_getD
      · rw [scale_len, HN.out, List.length_replicate]
      · intro i hi
        rw [scale_len] at hi
        rw [scale_getD k l i hi, h0, Gf.mul_comm 0 _ (by omega) (hl.at_ i), mul_zero _ (hl.at_ i)]
        rw [getD_zeros])
    have hz : (((k : Nat) : Int) == 0) = true := by simp [h0]
    clear h0
    go_enter Try.func26, Try.ntmps26
    go_wp2_with fail
    rw [← HW.out, ← HG.out]
    go_ret
    exact ⟨rfl, by rw [HS.out]; exact hvb, hbl⟩
  · have hz : (((k : Nat) : Int) == 0) = false := by simp; omega
    by_cases h1 : k = 1
    · have HS := Lib.hid (show scale k l = l by
        apply ext_getD (scale_len k l)
        intro i hi
        rw [scale_len] at hi
        rw [scale_getD k l i hi, h1, Gf.mul_comm 1 _ (by omega) (hl.at_ i), mul_one _ (hl.at_ i)])
      have h1' : (((k : Nat) : Int) == 1) = true := by simp [h1]
      clear h0 h1
      have HV := Lib.hid (show W.heap[g]? = some (.cells (U8s (List.replicate n 0)).toArray 5 (0, 0)) from hvb)
      have HC := Lib.hid (show (U8s l).length = Nat.min n n by rw [U8s_len, ← HN.out]; exact (Nat.min_self n).symm)
      have HP := Lib.hid (show 0 < (U8s l).length → some (⟨g, 0, none⟩ : Addr) = some ⟨g, 0, none⟩ ∧ ∃ ad, A = some ad ∧ ∀ j v, (U8s l)[j]? = some v → W.cell? (ad.add j) = some v from fun h => by
        rw [U8s_len, ← HN.out] at h
        obtain ⟨ad, e, _, hc⟩ := hr0.2 h
        exact ⟨rfl, ad, e, hc⟩)
      have HF := Lib.hid (show 0 + (U8s l).length ≤ (U8s (List.replicate n 0)).length by rw [U8s_len, U8s_len, List.length_replicate, HN.out]; omega)
      have HBL := Lib.hid hbl
      have HE := Lib.hid (show splice (U8s (List.replicate n 0)) 0 (U8s l) = U8s l by
        unfold splice
        rw [List.take_zero, List.nil_append, List.drop_eq_nil_of_le (by rw [U8s_len, U8s_len, List.length_replicate, HN.out]; omega), List.append_nil])
      clear hvb hbl hr0
      go_enter Try.func26, Try.ntmps26
      go_wp2_with ((with_reducible show wpList _ _ _ (⟨_, Op.call { callee := .builtin .copy, args := _, argTypes := _ }, _, _, _, _⟩ :: _) _ _); rw [← HW.out, ← HG.out]; refine wpList_copy_splice rfl (.tmp 17) (.tmp 18) 22 22 rfl 5 Try.underlying22 size5 (some ⟨g, 0, none⟩) A n n n c rfl rfl g 0 (U8s (List.replicate n 0)) 5 HV.out (U8s l) HC.out HP.out HF.out (U8s_one l) g w HBL.out (Nat.le_refl _) ?_; intro w2 HG2 hB2)
      go_ret
      refine ⟨rfl, ?_, hB2⟩
      rw [HS.out]
      have h2 := HG2.out
      rw [HE.out] at h2
      exact h2
    · have h1' : (((k : Nat) : Int) == 1) = false := by simp; omega
      clear h0 h1
      go_enter Try.func26, Try.ntmps26
      go_wp2_with fail
      rw [← HW.out, ← HG.out]
      have HL := Lib.hid hl
      have hnb : n ≤ 1000000 := by rw [HN.out]; exact hn
      clear hl hn hmk hr0
      go_loopw [23] (fun v wr => ∃ (i : Nat) (m : List Nat), i ≤ n ∧ v = .int .i64 i ∧ m.length = n ∧ (∀ j, j < i → m.getD j 0 = mul k (l.getD j 0)) ∧ VB wr g m ∧ Below g w wr) (fun v _ => n - (intOf v).toNat)
      case atStart => exact ⟨0, List.replicate n 0, by omega, rfl, by simp, fun j h => by omega, hvb, hbl⟩
      case round =>
        obtain ⟨i, m, hi, rfl, hm, hj, hv, hb⟩ := hrel
        clear hvb hbl
        have HJ := Lib.hid hj
        have HM := Lib.hid hm
        clear hj hm
        by_cases hlt : i < n
        · have hrw := HRd.out.below (hb.mono hBg)
          obtain ⟨ad, u, rfl, hadb, hu, hc⟩ := hrw.at_ hlt
          obtain ⟨rfl, hkl2⟩ := U8s_at hu
          obtain ⟨x, hx⟩ : ∃ x, x = l.getD i 0 := ⟨_, rfl⟩
          rw [← hx] at hc
          have hxl : x < 256 := by rw [hx]; exact HL.out.at_ i
          obtain ⟨Y, hY⟩ : ∃ Y, Y = mul k x := ⟨_, rfl⟩
          have M1 := Lib.hid (show ∀ w, Calls Try.prog 33 #[.int .u8 k, .int .u8 x] w fun e w' => e = .returned (.int .u8 Y) ∧ w = w' from mul_at k x Y hk hxl hY.symm)
          have HX := Lib.hid hx
          have HY := Lib.hid hY
          have c1 := hv.cell i (by rw [HM.out]; exact hlt)
          have f1 := hv.frozen i
          clear hx hY hrw hu hkl2
          go_wp2_with (go_at_call 33; refine (M1.out _).mono ?_; rintro e w' ⟨rfl, rfl⟩)
          go_roundw
          case rel =>
            refine ⟨i + 1, m.set i Y, by omega, by go_num, by rw [List.length_set]; exact HM.out, ?_, hv.set i Y, hb.setCell (p := ⟨g, i, none⟩) (Nat.le_refl _) _⟩
            intro j hj
            rw [getD_set m i j Y (by rw [HM.out]; exact hlt)]
            by_cases e : j = i
            · subst e; rw [if_pos rfl, HY.out, HX.out]
            · rw [if_neg e]; exact HJ.out j (by omega)
          case measure => simp [intOf]; omega
        · obtain rfl : i = n := by omega
          go_wp2_with fail
          go_ret
          refine ⟨rfl, ?_, hb⟩
          have e : scale k l = m := by
            apply ext_getD
            · rw [scale_len, HM.out, HN.out]
            · intro j hj
              rw [scale_len] at hj
              rw [scale_getD k l j hj, HJ.out j (by rw [HN.out]; exact hj)]
          rw [e]; exact hv
end Go.Proofs.Ytbbikkmmdedaiaa.Vec
