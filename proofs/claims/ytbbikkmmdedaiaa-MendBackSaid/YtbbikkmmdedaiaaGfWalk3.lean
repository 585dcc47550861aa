/- What gf.Div and the references' Inv, Div compute. -/
import Derived.Test.YtbbikkmmdedaiaaGfWalk2
set_option maxRecDepth 100000
namespace Go.Proofs.Ytbbikkmmdedaiaa.Gf
open Go.RowKit

def divv (a b : Nat) : Nat := if b = 0 then 0 else mul a (inv b)
theorem divv_lt (a b : Nat) (ha : a < 256) : divv a b < 256 := by
  unfold divv; split
  · omega
  · exact mul_lt _ _ ha

theorem div_any (a b : Nat) (w : World) (ha : a < 256) (hb : b < 256) :
    Calls Try.prog 30 #[.int .u8 a, .int .u8 b] w fun e w' => e = .returned (.tuple #[.int .u8 (divv a b : Nat), .int .i64 (nought b)]) ∧ w = w' := by
  go_enter Try.func30, Try.ntmps30
  by_cases h0 : b = 0
  · subst h0
    go_wp2_with (go_at_call 28; refine (inv_any 0 _ (by omega)).mono ?_; rintro e w' ⟨rfl, rfl⟩)
    go_ret2
    exact ⟨rfl, rfl⟩
  · have hn := nought_pos h0
    obtain ⟨I, hI⟩ : ∃ I, I = inv b := ⟨_, rfl⟩
    have hIl : I < 256 := by rw [hI]; exact inv_lt b hb
    have M1 := Lib.hid (show ∀ w, Calls Try.prog 28 #[.int .u8 b] w fun e w' => e = .returned (.tuple #[.int .u8 I, .int .i64 0]) ∧ w = w' by
      intro w; rw [hI, ← hn]; exact inv_any b w hb)
    obtain ⟨Y, hY⟩ : ∃ Y, Y = divv a b := ⟨_, rfl⟩
    have M2 := Lib.hid (show ∀ w, Calls Try.prog 33 #[.int .u8 a, .int .u8 I] w fun e w' => e = .returned (.int .u8 Y) ∧ w = w' by
      intro w; rw [hY, hI, divv, if_neg h0]; exact mul_any a (inv b) w ha (inv_lt b hb))
    rw [← hY, hn]
    clear hY hI hn h0
    go_wp2_with (first | (go_at_call 28; refine (M1.out _).mono ?_; rintro e w' ⟨rfl, rfl⟩) | (go_at_call 33; refine (M2.out _).mono ?_; rintro e w' ⟨rfl, rfl⟩))
    go_ret2
    exact ⟨rfl, rfl⟩

theorem ref_inv_any (a : Nat) (w : World) (ha : a < 256) :
    Calls Try.prog 29 #[.int .u8 a] w fun e w' => e = .returned (.tuple #[.int .u8 (inv a : Nat), .int .i64 (nought a)]) ∧ w = w' := by
  go_enter Try.func29, Try.ntmps29
  go_wp2_with fail
  go_loop [4] (fun i => ∃ k : Nat, 1 ≤ k ∧ k ≤ 256 ∧ i = .int .i64 k ∧ ∀ j, 1 ≤ j → j < k → mul a j ≠ 1) (fun i => 256 - (intOf i).toNat)
  case atStart => exact ⟨1, by omega, by omega, rfl, fun j h1 h2 => by omega⟩
  case round =>
    obtain ⟨k, h1, hk, rfl, hm⟩ := hrel
    have HM := Lib.hid hm
    clear hm
    by_cases hlt : k < 256
    · obtain ⟨Y, hY⟩ : ∃ Y, Y = mul a k := ⟨_, rfl⟩
      have M1 := Lib.hid (show ∀ w, Calls Try.prog 34 #[.int .u8 a, .int .u8 k] w fun e w' => e = .returned (.int .u8 Y) ∧ w = w' by
        intro w; rw [hY]; exact ref_mul_any a k w ha hlt)
      by_cases hy : Y = 1
      · have e1 : k = inv a := inv_unique a k ha hlt (by rw [← hY, hy])
        have e2 : nought a = 0 := nought_pos (by
          intro e; subst e
          have : ∀ b : Fin 256, mul 0 b.val ≠ 1 := by decide +kernel
          exact this ⟨k, hlt⟩ (by rw [← hY, hy]))
        have E1 := Lib.hid e1
        have E2 := Lib.hid e2
        subst hy
        clear hY e1 e2
        go_wp2_with (go_at_call 34; refine (M1.out _).mono ?_; rintro e w' ⟨rfl, rfl⟩)
        go_ret2
        exact ⟨by rw [← E1.out, E2.out]; rfl, rfl⟩
      · have hn : (((Y : Nat) : Int) == 1) = false := by simp; omega
        have HM2 := Lib.hid (show ∀ j, 1 ≤ j → j < k + 1 → mul a j ≠ 1 by
          intro j h1 h2
          by_cases e : j = k
          · subst e; rw [← hY]; exact hy
          · exact HM.out j h1 (by omega))
        clear hY hy
        go_wp2_with (go_at_call 34; refine (M1.out _).mono ?_; rintro e w' ⟨rfl, rfl⟩)
        go_round
        case rel =>
          go_light
          exact ⟨k + 1, by omega, by omega, by go_num, HM2.out⟩
        case measure => simp [intOf]; omega
    · obtain rfl : k = 256 := by omega
      have h0 : a = 0 := by
        apply Classical.byContradiction
        intro h0
        have hi := mul_inv a ha h0
        refine HM.out (inv a) ?_ (inv_lt a ha) hi
        apply Classical.byContradiction
        intro h
        rw [show inv a = 0 by omega, mul_zero a ha] at hi
        omega
      subst h0
      go_wp2
      go_ret2
      exact ⟨rfl, rfl⟩

theorem ref_div_any (a b : Nat) (w : World) (ha : a < 256) (hb : b < 256) :
    Calls Try.prog 31 #[.int .u8 a, .int .u8 b] w fun e w' => e = .returned (.tuple #[.int .u8 (divv a b : Nat), .int .i64 (nought b)]) ∧ w = w' := by
  go_enter Try.func31, Try.ntmps31
  by_cases h0 : b = 0
  · subst h0
    go_wp2_with (go_at_call 29; refine (ref_inv_any 0 _ (by omega)).mono ?_; rintro e w' ⟨rfl, rfl⟩)
    go_ret2
    exact ⟨rfl, rfl⟩
  · have hn := nought_pos h0
    obtain ⟨I, hI⟩ : ∃ I, I = inv b := ⟨_, rfl⟩
    have hIl : I < 256 := by rw [hI]; exact inv_lt b hb
    have M1 := Lib.hid (show ∀ w, Calls Try.prog 29 #[.int .u8 b] w fun e w' => e = .returned (.tuple #[.int .u8 I, .int .i64 0]) ∧ w = w' by
      intro w; rw [hI, ← hn]; exact ref_inv_any b w hb)
    obtain ⟨Y, hY⟩ : ∃ Y, Y = divv a b := ⟨_, rfl⟩
    have M2 := Lib.hid (show ∀ w, Calls Try.prog 34 #[.int .u8 a, .int .u8 I] w fun e w' => e = .returned (.int .u8 Y) ∧ w = w' by
      intro w; rw [hY, hI, divv, if_neg h0]; exact ref_mul_any a (inv b) w ha (inv_lt b hb))
    rw [← hY, hn]
    clear hY hI hn h0
    go_wp2_with (first | (go_at_call 29; refine (M1.out _).mono ?_; rintro e w' ⟨rfl, rfl⟩) | (go_at_call 34; refine (M2.out _).mono ?_; rintro e w' ⟨rfl, rfl⟩))
    go_ret2
    exact ⟨rfl, rfl⟩
end Go.Proofs.Ytbbikkmmdedaiaa.Gf
