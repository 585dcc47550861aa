/- What delta.Read computes; condition: the text is a text. -/
import Derived.Test.YtfghllgkbdfedaaDelNum
set_option maxRecDepth 100000
namespace Go.Proofs.Ytfghllgkbdfedaa.Dl
open Go.RowKit

theorem info30 : (Try.prog.info? 30).map (fun i => (i.zero, i.size, i.bytes)) = some (some (.int .u64 0), 1, 8) := by kernel_rfl
def GvD (w : World) (er : Nat) (c : List Nat) (e : Ending) (w' : World) : Prop := ∃ (A : Option Addr) (cap : Nat), e = .returned (.tuple #[.slice A c.length cap, .int .i64 er]) ∧ RowU w' A c.length c ∧ Below w.heap.size w w'
theorem extract_drop (s : ByteArray) (k : Nat) : (s.extract k s.size).data.toList = s.data.toList.drop k := by
  rw [ByteArray.data_extract, Array.toList_extract]
  show (s.data.toList.drop k).take (s.size - k) = _
  apply List.take_of_length_le
  rw [List.length_drop]
  exact Nat.le_refl _
theorem extract_le (s : ByteArray) (k : Nat) (h : s.size ≤ maxLen) : (s.extract k s.size).size ≤ maxLen := by
  rw [ByteArray.size_extract]; omega
theorem row_of_own {w : World} {B n cap : Nat} {A : Option Addr} {l : List Nat} (hn : l.length = n) (h : Own w B 30 (.slice A n cap) (Us l)) (h6 : Ok64 l) : RowU w A n l := by
  subst hn
  have hr := h
  have e : (Us l).length = l.length := Us_len l
  rw [← e] at hr
  have h2 := hr.reads
  rw [e] at h2
  exact ⟨rfl, h2, h6⟩

set_option maxHeartbeats 4000000 in
theorem read57_any (s : ByteArray) (w : World) (hs : s.size ≤ maxLen) (er : Nat) (c : List Nat) (hrd : rd s.data.toList = (er, c)) :
    Calls Try.prog 44 #[.string s] w fun e w' => GvD w er c e w' := by
  obtain ⟨x, k, e, hx⟩ : ∃ x k e, Var.read s.data.toList = (x, k, e) := ⟨_, _, _, rfl⟩
  obtain ⟨g, hg⟩ : ∃ g, g = w.heap.size := ⟨_, rfl⟩
  have M := num_any g s (w.alloc (.cells #[.string s] 104)) hs (by rw [hg]; exact Blk.new w 104 _) x k e hx
  have hk0 : Blk ((w.alloc (.cells #[.string s] 104)).setCell ⟨g, 0, none⟩ (.string (s.extract k s.size))) g 104 #[.string (s.extract k s.size)] :=
    (show Blk (w.alloc (.cells #[.string s] 104)) g 104 #[.string s] by rw [hg]; exact Blk.new w 104 _).set_ 0 _
  have hb0 : Below g w ((w.alloc (.cells #[.string s] 104)).setCell ⟨g, 0, none⟩ (.string (s.extract k s.size))) :=
    ((Below.refl g w).alloc (by omega) _).setCell (p := ⟨g, 0, none⟩) (Nat.le_refl _) _
  obtain ⟨t0, ht0⟩ : ∃ t0, t0 = s.extract k s.size := ⟨_, rfl⟩
  have ht1 : t0.data.toList = s.data.toList.drop k := by rw [ht0]; exact extract_drop s k
  have ht2 : t0.size ≤ maxLen := by rw [ht0]; exact extract_le s k hs
  rw [← ht0] at M hk0 hb0
  unfold rd at hrd
  rw [hx] at hrd
  simp only at hrd
  rw [← ht1] at hrd
  have M0 := Lib.hid M
  have HG := Lib.hid hg
  clear ht0 ht1 hx hs hg M
  by_cases he : e = 0
  case neg =>
    rw [if_pos he] at hrd
    obtain ⟨rfl, rfl⟩ : e = er ∧ [] = c := by injection hrd with h1 h2; exact ⟨h1, h2⟩
    have he2 : ¬ ((e : Int) = 0) := by omega
    go_enter Try.func44, Try.ntmps44
    go_wp2_with (go_at_call 56; rw [← HG.out]; (with_reducible refine M0.out.mono ?_); rintro en W0 ⟨rfl, rfl⟩)
    go_ret2
    exact ⟨none, 0, rfl, RowU.none_ _, by rw [← HG.out]; exact hb0⟩
  subst he
  rw [if_neg (by simp)] at hrd
  by_cases h4 : 4096 < x
  · rw [if_pos h4] at hrd
    obtain ⟨rfl, rfl⟩ : 3 = er ∧ [] = c := by injection hrd with h1 h2; exact ⟨h1, h2⟩
    have h42 : (4096 : Int) < x := by omega
    go_enter Try.func44, Try.ntmps44
    go_wp2_with (go_at_call 56; rw [← HG.out]; (with_reducible refine M0.out.mono ?_); rintro en W0 ⟨rfl, rfl⟩)
    go_ret2
    exact ⟨none, 0, rfl, RowU.none_ _, by rw [← HG.out]; exact hb0⟩
  rw [if_neg h4] at hrd
  have HR0 := Lib.hid hrd
  have HT0 := Lib.hid ht2
  have HK0 := Lib.hid hk0
  have h42 : (x : Int) ≤ 4096 := by omega
  clear hrd ht2 hk0 h4
  go_enter Try.func44, Try.ntmps44
  go_wp2_with (go_at_call 56; rw [← HG.out]; (with_reducible refine M0.out.mono ?_); rintro en W0 ⟨rfl, rfl⟩)
  obtain ⟨W0, hW0⟩ : ∃ W0, W0 = (w.alloc (.cells #[.string s] 104)).setCell ⟨g, 0, none⟩ (.string t0) := ⟨_, rfl⟩
  rw [← hW0] at hb0 HK0 ⊢
  clear hW0 M0
  go_loopw [7, 29] (fun v7 v29 wr => ∃ (i : Nat) (A : Option Addr) (cap : Nat) (c' : List Nat) (t : ByteArray), (i : Int) ≤ x ∧ v7 = .slice A i cap ∧ v29 = .int .i64 i ∧ Hid (c'.length = i) ∧ Hid (rdT (x - i) c' t.data.toList = (er, c)) ∧ Hid (Ok64 c') ∧ Hid (t.size ≤ maxLen) ∧ Hid (Blk wr g 104 #[.string t]) ∧ Hid (Own wr g 30 (.slice A i cap) (Us c')) ∧ Hid (Below g w wr)) (fun _ v _ => x - (intOf v).toNat)
  case atStart => exact ⟨0, none, 0, [], t0, by omega, rfl, rfl, Lib.hid rfl, HR0, Lib.hid (fun y hy => by simp at hy), HT0, HK0, Lib.hid (Own.nil _ _ _), Lib.hid hb0⟩
  case round =>
    obtain ⟨i, A, cap, c', t, hi, rfl, rfl, HL, HR, H6, HT, HK, HO, HB⟩ := hrel
    clear HR0 HT0 HK0 hb0
    by_cases hlt : i < x
    · obtain ⟨y, k2, e2, hy⟩ : ∃ y k2 e2, Var.read t.data.toList = (y, k2, e2) := ⟨_, _, _, rfl⟩
      have M := Lib.hid (num_any g t wr HT.out HK.out y k2 e2 hy)
      obtain ⟨t', ht'⟩ : ∃ t', t' = t.extract k2 t.size := ⟨_, rfl⟩
      have ht1 : t'.data.toList = t.data.toList.drop k2 := by rw [ht']; exact extract_drop t k2
      have HT' := Lib.hid (show t'.size ≤ maxLen by rw [ht']; exact extract_le t k2 HT.out)
      rw [← ht'] at M
      obtain ⟨m, hm⟩ : ∃ m, x - i = m + 1 := ⟨x - i - 1, by omega⟩
      have hrd := HR.out
      rw [hm] at hrd
      unfold rdT at hrd
      rw [hy] at hrd
      simp only at hrd
      rw [← ht1] at hrd
      have HM := Lib.hid (show x - (i + 1) = m by omega)
      obtain ⟨W1, hW1⟩ : ∃ W1, W1 = wr.setCell ⟨g, 0, none⟩ (.string t') := ⟨_, rfl⟩
      have HK1 := Lib.hid (show Blk W1 g 104 #[.string t'] by rw [hW1]; exact HK.out.set_ 0 _)
      have HO1 := Lib.hid (show Own W1 g 30 (.slice A i cap) (Us c') by rw [hW1]; exact HO.out.far (only_setCell (World.grownBy.refl _ _) (.inl rfl) _) HK.out (by decide))
      have HB1 := Lib.hid (show Below g w W1 by rw [hW1]; exact HB.out.setCell (p := ⟨g, 0, none⟩) (Nat.le_refl _) _)
      rw [← hW1] at M
      have HRD := Lib.hid (fun (h : e2 = 0) => Var.put_read t.data.toList y k2 (by rw [hy, h]))
      clear ht' ht1 hm hy hW1 HR
      by_cases he : e2 = 0
      case neg =>
        rw [if_pos he] at hrd
        obtain ⟨rfl, rfl⟩ : e2 = er ∧ [] = c := by injection hrd with h1 h2; exact ⟨h1, h2⟩
        have he2 : ¬ ((e2 : Int) = 0) := by omega
        clear hrd
        go_wp2_with (go_at_call 56; (with_reducible refine M.out.mono ?_); rintro en W1 ⟨rfl, rfl⟩)
        go_ret2
        exact ⟨none, 0, rfl, RowU.none_ _, by rw [← HG.out]; exact HB1.out⟩
      subst he
      rw [if_neg (by simp), HL.out] at hrd
      obtain ⟨hk1, hk2, hp1, hy6⟩ := HRD.out rfl
      clear hk1 hk2 hp1
      obtain ⟨S, hS⟩ : ∃ S, S = Us c' := ⟨_, rfl⟩
      have HS := Lib.hid hS
      have HSL := Lib.hid (show S.length = i by rw [hS, Us_len]; exact HL.out)
      have HRW := Lib.hid (row_of_own HL.out HO1.out H6.out)
      rw [← hS] at HO1
      clear hS HO
      by_cases h0 : i = 0
      · rw [if_pos h0] at hrd
        have e0 : c' = [] := List.eq_nil_of_length_eq_zero (by rw [HL.out]; exact h0)
        have HRn := Lib.hid (show rdT (x - (i + 1)) (c' ++ [y]) t'.data.toList = (er, c) by rw [HM.out, e0]; exact hrd)
        have H6n := Lib.hid (show Ok64 (c' ++ [y]) by
          intro z hz
          rcases List.mem_append.1 hz with h1 | h1
          · exact H6.out z h1
          · simp at h1; rw [h1]; exact hy6)
        have hix : (0 : Int) < x := by omega
        clear hrd e0 hy6
        subst h0
        go_wp2_with (first | (go_at_call 56; (with_reducible refine M.out.mono ?_); rintro en W1 ⟨rfl, rfl⟩) | (at_builtin; refine wpList_app1 _ rfl (.tmp 59) (.tmp 61) 41 rfl g 30 (.int .u64 0) 8 Try.underlying41 info30 rfl _ S rfl (HO1.out.alloc _) ⟨W1.heap.size, 0, none⟩ 1 (.int .u64 (y : Int)) rfl (by go_simp) rfl (by rw [HSL.out]; omega) (by rw [HSL.out]; omega) (by have := HB1.out.size; have := HG.out; simp; omega) ?_; rw [HSL.out]; intro g2 cap2 w2 hown2 hbel2 hgr2 hge2 hlt2; have hne := own_blk_ne (HO1.out.alloc (.cells #[.int .u64 (y : Int)] 30)) (HK1.out.alloc _) (by decide); have hkk := (HK1.out.alloc (.cells #[.int .u64 (y : Int)] 30)).grown hgr2 (Ne.symm hne); have hbb := (HB1.out.alloc (by have := HB1.out.size; have := HG.out; omega) (.cells #[.int .u64 (y : Int)] 30)).trans hbel2))
        go_roundw
        case rel => exact ⟨0 + 1, some ⟨g2, 0, none⟩, cap2, c' ++ [y], t', by omega, rfl, by go_num, Lib.hid (by rw [List.length_append, HL.out]; rfl), HRn, H6n, HT', Lib.hid hkk, Lib.hid (by rw [Us_snoc, ← HS.out]; exact hown2), Lib.hid hbb⟩
        case measure => simp [intOf]; omega
      · rw [if_neg h0] at hrd
        obtain ⟨p, hp⟩ : ∃ p : Nat, i = p + 1 := ⟨i - 1, by omega⟩
        have es : IntKind.i64.wrap ((i : Int) - 1) = (p : Int) := by rw [IntWalk.i64_in _ ⟨by omega, by omega⟩]; omega
        obtain ⟨ad, had, hab, cL⟩ := HRW.out.cell (show p < i by omega)
        obtain ⟨L, hL⟩ : ∃ L, L = c'.getD p 0 := ⟨_, rfl⟩
        rw [← hL] at cL
        have hL2 : lastOf c' = L := by
          unfold lastOf
          rw [HL.out, hL, hp]
          rfl
        have hL6 : L < 18446744073709551616 := by rw [hL]; exact H6.out.at_ p
        rw [hL2] at hrd
        have hpi : p < i := by omega
        have hi0 : (0 : Int) < i := by omega
        have hix : (i : Int) < x := by omega
        have HPI := Lib.hid hp
        subst had
        clear hL hL2 hab h0 hp
        by_cases hq : L = 18446744073709551615 ∨ 18446744073709551614 - L < y
        · rw [if_pos hq] at hrd
          obtain ⟨rfl, rfl⟩ : 2 = er ∧ [] = c := by injection hrd with h1 h2; exact ⟨h1, h2⟩
          clear hrd
          by_cases hq1 : L = 18446744073709551615
          · have hb1 : ((L : Int) == 18446744073709551615) = true := by simp; omega
            clear hq hq1
            go_wp2_with (go_at_call 56; (with_reducible refine M.out.mono ?_); rintro en W1 ⟨rfl, rfl⟩)
            go_ret2
            exact ⟨none, 0, rfl, RowU.none_ _, by rw [← HG.out]; exact HB1.out⟩
          · have hb1 : ((L : Int) == 18446744073709551615) = false := by simp; omega
            obtain ⟨D, hD⟩ : ∃ D : Nat, D = 18446744073709551614 - L := ⟨_, rfl⟩
            have hD2 : IntKind.u64.wrap (18446744073709551614 - (L : Int)) = (D : Int) := by rw [IntWalk.u64_in _ ⟨by omega, by omega⟩]; omega
            have hDy : (D : Int) < y := by omega
            clear hq hq1 hD
            go_wp2_with (go_at_call 56; (with_reducible refine M.out.mono ?_); rintro en W1 ⟨rfl, rfl⟩)
            go_ret2
            exact ⟨none, 0, rfl, RowU.none_ _, by rw [← HG.out]; exact HB1.out⟩
        · rw [if_neg hq] at hrd
          have hb1 : ((L : Int) == 18446744073709551615) = false := by simp; omega
          obtain ⟨D, hD⟩ : ∃ D : Nat, D = 18446744073709551614 - L := ⟨_, rfl⟩
          have hD2 : IntKind.u64.wrap (18446744073709551614 - (L : Int)) = (D : Int) := by rw [IntWalk.u64_in _ ⟨by omega, by omega⟩]; omega
          have hDy : (y : Int) ≤ D := by omega
          obtain ⟨P, hP⟩ : ∃ P : Nat, P = L + 1 := ⟨_, rfl⟩
          have hP2 : IntKind.u64.wrap ((L : Int) + 1) = (P : Int) := by rw [IntWalk.u64_in _ ⟨by omega, by omega⟩]; omega
          obtain ⟨Y, hY⟩ : ∃ Y : Nat, Y = L + 1 + y := ⟨_, rfl⟩
          have hY2 : IntKind.u64.wrap ((y : Int) + P) = (Y : Int) := by rw [IntWalk.u64_in _ ⟨by omega, by omega⟩]; omega
          rw [← hY] at hrd
          have HRn := Lib.hid (show rdT (x - (i + 1)) (c' ++ [Y]) t'.data.toList = (er, c) by rw [HM.out]; exact hrd)
          have H6n := Lib.hid (show Ok64 (c' ++ [Y]) by
            intro z hz
            rcases List.mem_append.1 hz with h1 | h1
            · exact H6.out z h1
            · simp at h1; rw [h1]; omega)
          clear hrd hq hD hP hY hL6
          go_wp2_with (first | (go_at_call 56; (with_reducible refine M.out.mono ?_); rintro en W1 ⟨rfl, rfl⟩) | (at_builtin; refine wpList_app1 _ rfl (.tmp 59) (.tmp 61) 41 rfl g 30 (.int .u64 0) 8 Try.underlying41 info30 rfl _ S rfl (HO1.out.alloc _) ⟨W1.heap.size, 0, none⟩ 1 (.int .u64 (Y : Int)) rfl (by go_simp) rfl (by rw [HSL.out]; omega) (by rw [HSL.out]; omega) (by have := HB1.out.size; have := HG.out; simp; omega) ?_; rw [HSL.out]; intro g2 cap2 w2 hown2 hbel2 hgr2 hge2 hlt2; have hne := own_blk_ne (HO1.out.alloc (.cells #[.int .u64 (Y : Int)] 30)) (HK1.out.alloc _) (by decide); have hkk := (HK1.out.alloc (.cells #[.int .u64 (Y : Int)] 30)).grown hgr2 (Ne.symm hne); have hbb := (HB1.out.alloc (by have := HB1.out.size; have := HG.out; omega) (.cells #[.int .u64 (Y : Int)] 30)).trans hbel2))
          go_roundw
          case rel => exact ⟨i + 1, some ⟨g2, 0, none⟩, cap2, c' ++ [Y], t', by omega, rfl, by go_num, Lib.hid (by rw [List.length_append, HL.out]; rfl), HRn, H6n, HT', Lib.hid hkk, Lib.hid (by rw [Us_snoc, ← HS.out]; exact hown2), Lib.hid hbb⟩
          case measure => simp [intOf]; omega
    · obtain rfl : i = x := by omega
      have hrd := HR.out
      rw [Nat.sub_self] at hrd
      unfold rdT at hrd
      have c0 : wr.cell? ⟨g, 0, none⟩ = some (.string t) := HK.out.cell 0
      have htl : t.toList = t.data.toList := by
        cases t with
        | mk d =>
          cases d with
          | mk l => exact ByteArray.toList_mk l
      by_cases ht : t.data.toList = []
      · rw [if_pos ht] at hrd
        obtain ⟨rfl, rfl⟩ : 0 = er ∧ c' = c := by injection hrd with h1 h2; exact ⟨h1, h2⟩
        have hte : t.toList.isEmpty = true := by rw [htl, ht]; rfl
        have HRW := Lib.hid (row_of_own HL.out HO.out H6.out)
        clear hrd ht htl
        go_wp2_with fail
        go_ret2
        exact ⟨A, cap, by rw [HL.out]; rfl, by rw [HL.out]; exact HRW.out, by rw [← HG.out]; exact HB.out⟩
      · rw [if_neg ht] at hrd
        obtain ⟨rfl, rfl⟩ : 5 = er ∧ [] = c := by injection hrd with h1 h2; exact ⟨h1, h2⟩
        have hte : t.toList.isEmpty = false := by
          rw [htl]
          cases h : t.data.toList with
          | nil => exact absurd h ht
          | cons _ _ => rfl
        clear hrd ht htl
        go_wp2_with fail
        go_ret2
        exact ⟨none, 0, rfl, RowU.none_ _, by rw [← HG.out]; exact HB.out⟩
end Go.Proofs.Ytfghllgkbdfedaa.Dl
