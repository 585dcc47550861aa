/- What the reference's Dot, vector.MulAdd, Add and the reference's MulAdd compute; where lengths differ. -/
import Derived.Test.YtbbikkmmdedaiaaVecDot
set_option maxRecDepth 100000
namespace Go.Proofs.Ytbbikkmmdedaiaa.Vec
open Go.RowKit Go.Proofs.Ytbbikkmmdedaiaa.Gf

theorem ref_dot_any (A : Option Addr) (c B : Nat) (A2 : Option Addr) (c2 B2 : Nat) (l m : List Nat) (w : World) (hr : Reads w B 1 A l.length (U8s l)) (hr2 : Reads w B2 1 A2 m.length (U8s m)) (hl : Bytes l) (hm : Bytes m) (hn : l.length ≤ 1000000) (hlm : l.length = m.length) :
    Calls Try.prog 24 #[.slice A l.length c, .slice A2 m.length c2] w fun e w' => e = .returned (.tuple #[.int .u8 (dot l m : Nat), .int .i64 0]) ∧ ∃ k, w' = w.drewN k := by
  rw [← hlm] at hr2 ⊢
  obtain ⟨n, hnn⟩ : ∃ n, n = l.length := ⟨_, rfl⟩
  have HLM := Lib.hid hlm
  rw [← hnn] at hr hr2 ⊢
  have hnb : n ≤ 1000000 := by omega
  have HN := Lib.hid hnn
  have HR := Lib.hid hr
  have HR2 := Lib.hid hr2
  have HL := Lib.hid hl
  have HM := Lib.hid hm
  clear hr hr2 hnn hn hl hm hlm
  go_enter Try.func24, Try.ntmps24
  go_wp2_with fail
  go_loopw [6, 7] (fun s v wr => ∃ i : Nat, i ≤ n ∧ s = .int .u8 (dot (l.take i) (m.take i) : Nat) ∧ v = .int .i64 i ∧ ∃ q, wr = w.drewN q) (fun _ v _ => n - (intOf v).toNat)
  case atStart => exact ⟨0, by omega, rfl, rfl, 0, rfl⟩
  case round =>
    obtain ⟨i, hi, rfl, rfl, q, hq⟩ := hrel
    have hR1 : Reads wr B 1 A n (U8s l) := by rw [hq]; exact HR.out.drewN q
    have hR2 : Reads wr B2 1 A2 n (U8s m) := by rw [hq]; exact HR2.out.drewN q
    have HQ := Lib.hid hq
    clear hq
    by_cases hlt : i < n
    · obtain ⟨ad, u, rfl, _, hu, hc⟩ := hR1.at_ hlt
      obtain ⟨rfl, _⟩ := U8s_at hu
      obtain ⟨ad2, u2, rfl, _, hu2, hc2⟩ := hR2.at_ hlt
      obtain ⟨rfl, _⟩ := U8s_at hu2
      obtain ⟨x, hx⟩ : ∃ x, x = l.getD i 0 := ⟨_, rfl⟩
      obtain ⟨y, hy⟩ : ∃ y, y = m.getD i 0 := ⟨_, rfl⟩
      obtain ⟨D, hD⟩ : ∃ D, D = dot (l.take i) (m.take i) := ⟨_, rfl⟩
      obtain ⟨Y, hY⟩ : ∃ Y, Y = mul x y := ⟨_, rfl⟩
      obtain ⟨E, hE⟩ : ∃ E, E = D ^^^ Y := ⟨_, rfl⟩
      have hxl : x < 256 := by rw [hx]; exact HL.out.at_ i
      have hyl : y < 256 := by rw [hy]; exact HM.out.at_ i
      have hDl : D < 256 := by rw [hD]; exact dot_lt _ _ (HL.out.take i)
      have hYl : Y < 256 := by rw [hY]; exact mul_lt x y hxl
      have hxo : bits .xor .u8 (D : Int) (Y : Int) = (E : Int) := by rw [hE]; exact u8_xor_nat D Y hDl hYl
      have HE := Lib.hid (show dot (l.take (i + 1)) (m.take (i + 1)) = E by rw [dot_snoc l m i (by rw [← HN.out]; exact hlt) HLM.out, hE, hD, hY, hx, hy])
      have M1 := Lib.hid (show ∀ w, Calls Try.prog 34 #[.int .u8 x, .int .u8 y] w fun e w' => e = .returned (.int .u8 Y) ∧ w = w' by
        intro w; rw [hY]; exact ref_mul_any x y w hxl hyl)
      rw [← hD]
      rw [← hx] at hc
      rw [← hy] at hc2
      clear hx hy hD hY hE hu hu2 hR1 hR2
      go_wp2_with fail
      go_quiet ((go_at_call 34; exact Calls.quiet_of_same ((M1.out _).mono fun _ _ h => ⟨h.1, h.2.symm⟩)))
      go_wp2_with fail
      go_roundw
      case rel => exact ⟨i + 1, by omega, by rw [HE.out], by go_num, q + _, by rw [HQ.out, World.drewN_drewN]⟩
      case measure => simp [intOf]; omega
    · obtain rfl : i = n := by omega
      have e1 : l.take i = l := by rw [HN.out]; exact List.take_length
      have e2 : m.take i = m := by rw [HN.out, HLM.out]; exact List.take_length
      rw [e1, e2]
      clear e1 e2
      go_wp2_with fail
      go_ret2
      exact ⟨rfl, q, HQ.out⟩

theorem dot_bad (A : Option Addr) (n c : Nat) (A2 : Option Addr) (n2 c2 : Nat) (w : World) (h : n ≠ n2) :
    Calls Try.prog 23 #[.slice A n c, .slice A2 n2 c2] w fun e w' => e = .returned (.tuple #[.int .u8 0, .int .i64 16]) ∧ w = w' := by
  have hb : (((n : Nat) : Int) == ((n2 : Nat) : Int)) = false := by simp; omega
  have hb2 : (((n : Nat) : Int) != ((n2 : Nat) : Int)) = true := by simp; omega
  clear h
  go_enter Try.func23, Try.ntmps23
  go_wp2_with fail
  go_ret2
  exact ⟨rfl, rfl⟩
theorem ref_dot_bad (A : Option Addr) (n c : Nat) (A2 : Option Addr) (n2 c2 : Nat) (w : World) (h : n ≠ n2) :
    Calls Try.prog 24 #[.slice A n c, .slice A2 n2 c2] w fun e w' => e = .returned (.tuple #[.int .u8 0, .int .i64 16]) ∧ w = w' := by
  have hb : (((n : Nat) : Int) == ((n2 : Nat) : Int)) = false := by simp; omega
  have hb2 : (((n : Nat) : Int) != ((n2 : Nat) : Int)) = true := by simp; omega
  clear h
  go_enter Try.func24, Try.ntmps24
  go_wp2_with fail
  go_ret2
  exact ⟨rfl, rfl⟩
theorem muladd_bad (A : Option Addr) (n c : Nat) (k : Nat) (A2 : Option Addr) (n2 c2 : Nat) (w : World) (h : n ≠ n2) :
    Calls Try.prog 21 #[.slice A n c, .int .u8 k, .slice A2 n2 c2] w fun e w' => e = .returned (.tuple #[.slice none 0 0, .int .i64 16]) ∧ w = w' := by
  have hb : (((n : Nat) : Int) == ((n2 : Nat) : Int)) = false := by simp; omega
  have hb2 : (((n : Nat) : Int) != ((n2 : Nat) : Int)) = true := by simp; omega
  clear h
  go_enter Try.func21, Try.ntmps21
  go_wp2_with fail
  go_ret2
  exact ⟨rfl, rfl⟩

theorem muladd_any (A : Option Addr) (c B : Nat) (k : Nat) (A2 : Option Addr) (c2 B2 : Nat) (l m : List Nat) (w : World) (hk : k < 256) (hr : Reads w B 1 A l.length (U8s l)) (hr2 : Reads w B2 1 A2 m.length (U8s m)) (hl : Bytes l) (hm : Bytes m)
    (hn : l.length ≤ 1000000) (hlm : l.length = m.length) (hB : B ≤ w.heap.size) (hB2 : B2 ≤ w.heap.size) :
    Calls Try.prog 21 #[.slice A l.length c, .int .u8 k, .slice A2 m.length c2] w fun e w' => e = .returned (.tuple #[.slice (some ⟨w.heap.size, 0, none⟩) l.length l.length, .int .i64 0]) ∧ VB w' w.heap.size (add l (scale k m)) ∧ Below w.heap.size w w' := by
  have M1 := Lib.hid (scale_any k A2 c2 B2 m w hk hr2 hm (by omega) hB2)
  rw [← hlm] at M1 ⊢
  obtain ⟨n, hnn⟩ : ∃ n, n = l.length := ⟨_, rfl⟩
  have HLM := Lib.hid hlm
  rw [← hnn] at hr M1 ⊢
  have hnb : n ≤ 1000000 := by omega
  have HN := Lib.hid hnn
  have HR := Lib.hid hr
  have HL := Lib.hid hl
  have HM := Lib.hid hm
  obtain ⟨g, hg⟩ : ∃ g, g = w.heap.size := ⟨_, rfl⟩
  have hBg : B ≤ g := by omega
  rw [← hg] at M1 ⊢
  clear hr hr2 hnn hn hl hm hlm hg hB hB2
  go_enter Try.func21, Try.ntmps21
  go_wp2_with (go_at_call 26; refine (M1.out).mono ?_; rintro e W ⟨rfl, hv0, hbl0⟩)
  go_loopw [26] (fun v wr => ∃ (i : Nat) (q : List Nat), i ≤ n ∧ v = .int .i64 i ∧ q.length = n ∧ (∀ j, q.getD j 0 = if j < i then l.getD j 0 ^^^ (scale k m).getD j 0 else (scale k m).getD j 0) ∧ VB wr g q ∧ Below g w wr) (fun v _ => n - (intOf v).toNat)
  case atStart => exact ⟨0, scale k m, by omega, rfl, by rw [scale_len, HN.out]; exact HLM.out.symm, fun j => by simp, hv0, hbl0⟩
  case round =>
    obtain ⟨i, q, hi, rfl, hq, hj, hv, hb⟩ := hrel
    clear hv0 hbl0
    have HJ := Lib.hid hj
    have HQ := Lib.hid hq
    clear hj hq
    by_cases hlt : i < n
    · have hrw := HR.out.below (hb.mono hBg)
      obtain ⟨ad, u, rfl, hadb, hu, hc⟩ := hrw.at_ hlt
      obtain ⟨rfl, hkl2⟩ := U8s_at hu
      obtain ⟨x, hx⟩ : ∃ x, x = l.getD i 0 := ⟨_, rfl⟩
      obtain ⟨y, hy⟩ : ∃ y, y = q.getD i 0 := ⟨_, rfl⟩
      obtain ⟨Y, hY⟩ : ∃ Y, Y = y ^^^ x := ⟨_, rfl⟩
      have hy2 : y = (scale k m).getD i 0 := by rw [hy, HJ.out i, if_neg (by omega)]
      rw [← hx] at hc
      have hxl : x < 256 := by rw [hx]; exact HL.out.at_ i
      have hyl : y < 256 := by rw [hy2]; exact (scale_bytes k m hk).at_ i
      have hxo : bits .xor .u8 (y : Int) (x : Int) = (Y : Int) := by rw [hY]; exact u8_xor_nat y x hyl hxl
      have HY := Lib.hid (show Y = l.getD i 0 ^^^ (scale k m).getD i 0 by rw [hY, ← hx, ← hy2, Nat.xor_comm])
      have c1 := hv.cell i (by rw [HQ.out]; exact hlt)
      rw [← hy] at c1
      have f1 := hv.frozen i
      clear hx hy hY hy2 hrw hu hkl2
      go_wp2_with fail
      go_roundw
      case rel =>
        refine ⟨i + 1, q.set i Y, by omega, by go_num, by rw [List.length_set]; exact HQ.out, ?_, hv.set i Y, hb.setCell (p := ⟨g, i, none⟩) (Nat.le_refl _) _⟩
        intro j
        rw [getD_set q i j Y (by rw [HQ.out]; exact hlt), HJ.out j]
        by_cases e : j = i
        · subst e; rw [if_pos rfl, if_pos (by omega), HY.out]
        · rw [if_neg e]
          by_cases e2 : j < i
          · rw [if_pos e2, if_pos (by omega)]
          · rw [if_neg e2, if_neg (by omega)]
      case measure => simp [intOf]; omega
    · obtain rfl : i = n := by omega
      go_wp2_with fail
      go_ret2
      refine ⟨rfl, ?_, hb⟩
      have e0 : l.length = (scale k m).length := by rw [scale_len]; exact HLM.out
      have e : add l (scale k m) = q := by
        apply ext_getD
        · rw [add_len l _ e0, HQ.out, HN.out]
        · intro j hj
          rw [add_len l _ e0, ← HN.out] at hj
          rw [add_getD l _ j e0, HJ.out j, if_pos hj]
      rw [e]; exact hv
end Go.Proofs.Ytbbikkmmdedaiaa.Vec
