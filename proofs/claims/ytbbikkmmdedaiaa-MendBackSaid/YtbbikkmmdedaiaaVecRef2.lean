/- What the reference's Add and Same compute. -/
import Derived.Test.YtbbikkmmdedaiaaVecRef
import Derived.Test.YtbbikkmmdedaiaaWords6
set_option maxRecDepth 100000
namespace Go.Proofs.Ytbbikkmmdedaiaa.Vec
open Go.RowKit Go.Proofs.Ytbbikkmmdedaiaa.Gf

attribute [local go_sem ↓] Go.wp_at_zero Go.wp_at_succ

theorem ref_add_any (A : Option Addr) (c B : Nat) (l : List Nat) (A2 : Option Addr) (c2 : Nat) (m : List Nat) (w : World) (hr : Reads w B 1 A l.length (U8s l)) (hr2 : Reads w B 1 A2 m.length (U8s m))
    (hl : Bytes l) (hm : Bytes m) (hn : l.length ≤ 1000000) (hB : B ≤ w.heap.size) (hlm : l.length = m.length) :
    Calls Try.prog 20 #[.slice A l.length c, .slice A2 m.length c2] w fun e w' => (∃ A' c', e = .returned (.tuple #[.slice A' l.length c', .int .i64 0]) ∧ Own w' w.heap.size 5 (.slice A' l.length c') (U8s (add l m))) ∧ Below w.heap.size w w' := by
  rw [← hlm]
  rw [← hlm] at hr2
  obtain ⟨n, hnn⟩ : ∃ n, n = l.length := ⟨_, rfl⟩
  rw [← hnn]
  rw [← hnn] at hr hr2
  have hnb : n ≤ 1000000 := by omega
  have HN := Lib.hid hnn
  have HN2 := Lib.hid (hnn.trans hlm)
  have HRd := Lib.hid hr
  have HRd2 := Lib.hid hr2
  have HL := Lib.hid hl
  have HM := Lib.hid hm
  obtain ⟨g, hg⟩ : ∃ g, g = w.heap.size := ⟨_, rfl⟩
  have HG := Lib.hid hg
  have hBg : B ≤ g := by omega
  have hb0 : Below g w w := Below.refl _ _
  have hgw : g ≤ w.heap.size := by omega
  clear hr hr2 hl hm hn hB hnn hg hlm
  go_enter Try.func20, Try.ntmps20
  go_wp2_with fail
  go_loopw [6, 7] (fun o v wr => ∃ (i : Nat) (A : Option Addr) (c : Nat), i ≤ n ∧ o = .slice A i c ∧ v = .int .i64 i ∧ Own wr g 5 (.slice A i c) (U8s ((add l m).take i)) ∧ Below g w wr) (fun _ v _ => n - (intOf v).toNat)
  case atStart => exact ⟨0, none, 0, by omega, rfl, rfl, Own.nil _ _ _, hb0⟩
  case round =>
    obtain ⟨i, A1, c1, hi, rfl, rfl, ho, hb⟩ := hrel
    by_cases hlt : i < n
    · have hrw := HRd.out.below (hb.mono hBg)
      obtain ⟨ad, u, rfl, hadb, hu, hc⟩ := hrw.at_ hlt
      obtain ⟨rfl, hkl2⟩ := U8s_at hu
      have hrw2 := HRd2.out.below (hb.mono hBg)
      obtain ⟨ad2, u2, rfl, hadb2, hu2, hc2⟩ := hrw2.at_ hlt
      obtain ⟨rfl, hkl3⟩ := U8s_at hu2
      obtain ⟨x, hx⟩ : ∃ x, x = l.getD i 0 := ⟨_, rfl⟩
      obtain ⟨y, hy⟩ : ∃ y, y = m.getD i 0 := ⟨_, rfl⟩
      rw [← hx] at hc
      rw [← hy] at hc2
      have hxl : x < 256 := by rw [hx]; exact HL.out.at_ i
      have hyl : y < 256 := by rw [hy]; exact HM.out.at_ i
      obtain ⟨Y, hY⟩ : ∃ Y, Y = x ^^^ y := ⟨_, rfl⟩
      have hxo : bits .xor .u8 (x : Int) (y : Int) = (Y : Int) := by rw [hY]; exact u8_xor_nat x y hxl hyl
      obtain ⟨S, hS⟩ : ∃ S, S = U8s ((add l m).take i) := ⟨_, rfl⟩
      have hal : (add l m).length = n := by rw [add_len l m (HN.out.symm.trans HN2.out)]; exact HN.out.symm
      have hSl : S.length = i := by rw [hS, U8s_len, List.length_take]; omega
      have HS := Lib.hid (show U8s ((add l m).take (i + 1)) = S ++ [.int .u8 Y] by
        rw [take_snoc _ i (by omega), U8s_snoc, hS, add_getD l m i (HN.out.symm.trans HN2.out), ← hx, ← hy, hY])
      rw [← hS] at ho
      have HSL := Lib.hid hSl
      have hsz := hb.size
      have hadd : (ad.add i).block < g := by rw [block_of_add]; omega
      have hadd2 : (ad2.add i).block < g := by rw [block_of_add]; omega
      have HC0 := Lib.hid (show w.cell? (ad.add i) = some (Value.int IntKind.u8 (x : Int)) from (hb.cell hadd).symm.trans hc)
      have HC1 := Lib.hid (show w.cell? (ad2.add i) = some (Value.int IntKind.u8 (y : Int)) from (hb.cell hadd2).symm.trans hc2)
      have HB := Lib.hid hb
      clear hx hy hY hS hrw hu hkl2 hSl hrw2 hu2 hkl3 hal
      go_wp2_with fail
      go_region_held3 (fun w' => w'.cell? (ad.add i) = some (Value.int IntKind.u8 (x : Int)) ∧ w'.cell? (ad2.add i) = some (Value.int IntKind.u8 (y : Int))) (first | go_keep | exact ⟨(hbX.cell hadd).trans HC0.out, (hbX.cell hadd2).trans HC1.out⟩)
        ((refine step_app1h (by rfl) (.tmp 19) (.tmp 29) 22 (by rfl) g 5 (.int .u8 0) 1 Try.underlying22 info5 (by rfl) _ S (by rfl) (by exact (ho.drew).alloc _) ⟨wr.heap.size, 0, none⟩ 1 (.int .u8 Y) (by rfl) (by go_simp) (by rfl) (by rw [HSL.out]; omega) (by rw [HSL.out]; omega) (by simp; omega) ?_; rw [HSL.out]; intro g2 cap w2 hown2 hbel2 hgr2 hge2 hlt2; have hbX := (HB.out.drew.alloc (by simp; omega) _).trans hbel2))
      go_wp2_with fail
      go_roundw
      case rel => exact ⟨i + 1, some ⟨g2, 0, none⟩, cap, by omega, rfl, by go_num, by rw [HS.out]; exact hown2, hbX⟩
      case measure => simp [intOf]; omega
    · obtain rfl : i = n := by omega
      go_wp2_with fail
      go_ret2
      have hal : (add l m).length = i := by rw [add_len l m (HN.out.symm.trans HN2.out)]; exact HN.out.symm
      have e : (add l m).take i = add l m := by rw [← hal]; exact List.take_length
      rw [e] at ho
      exact ⟨⟨A1, c1, rfl, by rw [← HG.out]; exact ho⟩, by rw [← HG.out]; exact hb⟩
end Go.Proofs.Ytbbikkmmdedaiaa.Vec
