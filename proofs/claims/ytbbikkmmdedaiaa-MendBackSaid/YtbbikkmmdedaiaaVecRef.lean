/- What the reference's Scale, Add and Same compute. -/
import Derived.Test.YtbbikkmmdedaiaaVecWalk
set_option maxRecDepth 100000
namespace Go.Proofs.Ytbbikkmmdedaiaa.Vec
open Go.RowKit Go.Proofs.Ytbbikkmmdedaiaa.Gf

theorem take_snoc (l : List Nat) (i : Nat) (h : i < l.length) : l.take (i + 1) = l.take i ++ [l.getD i 0] := by
  rw [List.take_succ_eq_append_getElem h]
  simp [List.getD, List.getElem?_eq_getElem h]
theorem scale_snoc (k : Nat) (l : List Nat) (x : Nat) : scale k (l ++ [x]) = scale k l ++ [mul k x] := by simp [scale]

/-- a row of a call's own, as the call gives it back -/
def Gives (w0 w' : World) (e : Ending) (m : List Nat) : Prop :=
  ∃ A c, e = .returned (.slice A m.length c) ∧ Own w' w0.heap.size 5 (.slice A m.length c) (U8s m)

theorem ref_scale_any (k : Nat) (A : Option Addr) (c B : Nat) (l : List Nat) (w : World) (hk : k < 256) (hr : Reads w B 1 A l.length (U8s l)) (hl : Bytes l) (hn : l.length ≤ 1000000) (hB : B ≤ w.heap.size) :
    Calls Try.prog 27 #[.int .u8 k, .slice A l.length c] w fun e w' => Gives w w' e (scale k l) ∧ Below w.heap.size w w' := by
  obtain ⟨n, hnn⟩ : ∃ n, n = l.length := ⟨_, rfl⟩
  rw [← hnn]
  have hnb : n ≤ 1000000 := by omega
  have HN := Lib.hid hnn
  have HRd := Lib.hid (show Reads w B 1 A n (U8s l) by rw [hnn]; exact hr)
  have HL := Lib.hid hl
  obtain ⟨g, hg⟩ : ∃ g, g = w.heap.size := ⟨_, rfl⟩
  have HG := Lib.hid hg
  have hBg : B ≤ g := by omega
  have hb0 : Below g w w := Below.refl _ _
  have hgw : g ≤ w.heap.size := by omega
  clear hr hl hn hB hnn hg
  go_enter Try.func27, Try.ntmps27
  go_wp2_with fail
  go_loopw [5, 6] (fun o v wr => ∃ (i : Nat) (A : Option Addr) (c : Nat), i ≤ n ∧ o = .slice A i c ∧ v = .int .i64 i ∧ Own wr g 5 (.slice A i c) (U8s (scale k (l.take i))) ∧ Below g w wr) (fun _ v _ => n - (intOf v).toNat)
  case atStart => exact ⟨0, none, 0, by omega, rfl, rfl, Own.nil _ _ _, hb0⟩
  case round =>
    obtain ⟨i, A1, c1, hi, rfl, rfl, ho, hb⟩ := hrel
    by_cases hlt : i < n
    · have hrw := HRd.out.below (hb.mono hBg)
      obtain ⟨ad, u, rfl, hadb, hu, hc⟩ := hrw.at_ hlt
      obtain ⟨rfl, hkl2⟩ := U8s_at hu
      obtain ⟨x, hx⟩ : ∃ x, x = l.getD i 0 := ⟨_, rfl⟩
      rw [← hx] at hc
      have hxl : x < 256 := by rw [hx]; exact HL.out.at_ i
      obtain ⟨Y, hY⟩ : ∃ Y, Y = mul k x := ⟨_, rfl⟩
      have M1 := Lib.hid (show ∀ w, Calls Try.prog 34 #[.int .u8 k, .int .u8 x] w fun e w' => e = .returned (.int .u8 Y) ∧ w = w' by
        intro w; rw [hY]; exact ref_mul_any k x w hk hxl)
      obtain ⟨S, hS⟩ : ∃ S, S = U8s (scale k (l.take i)) := ⟨_, rfl⟩
      have hSl : S.length = i := by rw [hS, U8s_len, scale_len, List.length_take]; omega
      have HS := Lib.hid (show U8s (scale k (l.take (i + 1))) = S ++ [.int .u8 Y] by
        rw [take_snoc l i hkl2, scale_snoc, U8s_snoc, hS, ← hx, hY])
      rw [← hS] at ho
      have HSL := Lib.hid hSl
      have hsz := hb.size
      clear hx hY hS hrw hu hkl2 hSl
      go_wp2_with (first
        | (go_at_call 34; refine (M1.out _).mono ?_; rintro e w' ⟨rfl, rfl⟩)
        | (at_builtin; refine wpList_app1 _ rfl (.tmp 13) (.tmp 20) 22 rfl g 5 (.int .u8 0) 1 Try.underlying22 info5 rfl _ S rfl (ho.alloc _) ⟨wr.heap.size, 0, none⟩ 1 (.int .u8 Y) rfl (by go_simp) rfl (by rw [HSL.out]; omega) (by rw [HSL.out]; omega) (by simp; omega) ?_; rw [HSL.out]; intro g2 cap w2 hown2 hbel2 hgr2 hge2 hlt2))
      go_roundw
      case rel => exact ⟨i + 1, some ⟨g2, 0, none⟩, cap, by omega, rfl, by go_num, by rw [HS.out]; exact hown2, (hb.alloc (by omega) _).trans hbel2⟩
      case measure => simp [intOf]; omega
    · obtain rfl : i = n := by omega
      go_wp2_with fail
      go_ret
      have e : l.take i = l := by rw [HN.out]; exact List.take_length
      rw [e] at ho
      have hl2 : (scale k l).length = i := by rw [scale_len]; exact HN.out.symm
      refine ⟨⟨A1, c1, by rw [hl2]; rfl, by rw [hl2, ← HG.out]; exact ho⟩, by rw [← HG.out]; exact hb⟩
end Go.Proofs.Ytbbikkmmdedaiaa.Vec
