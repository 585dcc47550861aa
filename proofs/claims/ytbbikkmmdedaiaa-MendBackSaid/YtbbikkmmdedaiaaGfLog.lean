/- What gf.Exp, Log and the references' Exp, Log compute. -/
import Derived.Test.YtbbikkmmdedaiaaGfMade
set_option maxRecDepth 100000
namespace Go.Proofs.Ytbbikkmmdedaiaa.Gf
open Go.RowKit

def turn (n : Int) : Nat := (n % 255).toNat
def expp (n : Int) : Nat := pow2 (turn n)
theorem turn_lt (n : Int) : turn n < 255 := by unfold turn; omega
theorem turn_walk (n : Int) : (n.tmod 255 + 255).tmod 255 = (turn n : Int) := by
  have h1 : -255 < n.tmod 255 := by
    have := Int.lt_tmod_of_pos n (show (0 : Int) < 255 by omega)
    omega
  have h2 : n.tmod 255 < 255 := Int.tmod_lt_of_pos n (by omega)
  have h3 : n.tmod 255 % 255 = n % 255 := by
    have := Int.tmod_add_mul_tdiv n 255
    omega
  rw [Int.tmod_eq_emod_of_nonneg (by omega)]
  unfold turn
  omega

/-- the table, stored into a new block -/
def put (w : World) (P L : Nat → Nat) : World := (w.alloc (.cells (tab z0 z0) 76)).setCells w.heap.size 0 (tab P L).toList
theorem put_there (w : World) (P L : Nat → Nat) : (w.alloc (.cells (tab z0 z0) 76)).there w.heap.size 0 (tab P L).size := by
  have h := Blk.new w 76 (tab z0 z0)
  intro j hj
  rw [tab_size] at hj
  rw [Nat.zero_add]
  refine ⟨?_, Blk.frozen h j⟩
  rw [Blk.cell h j, Array.getElem?_eq_getElem (by rw [tab_size]; exact hj)]; rfl
theorem put_cell (w : World) (P L : Nat → Nat) (j : Nat) (v : Value) (h : (tab P L)[j]? = some v) : (put w P L).cell? ⟨w.heap.size, j, none⟩ = some v := by
  have hr := World.rangeAt_setCells_same (w.alloc (.cells (tab z0 z0) 76)) w.heap.size 0 (tab P L).toList (by rw [Array.length_toList]; exact put_there w P L)
  have := hr j v (by rw [← h]; simp)
  rw [Nat.zero_add] at this
  exact this
theorem put_below (w w1 : World) (P L : Nat → Nat) (h : Below w.heap.size w w1) : Below w.heap.size w (put w1 P L) := by
  unfold put
  have h2 : Below w.heap.size w (w1.alloc (.cells (tab z0 z0) 76)) := h.alloc h.size _
  exact below_setCells w.heap.size w1.heap.size h.size (tab P L).toList 0 _ h2

theorem exp_any (n : Int) (w : World) :
    Calls Try.prog 38 #[.int .i64 n] w fun e w' => e = .returned (.int .u8 (expp n : Nat)) ∧ Below w.heap.size w w' := by
  have hz := zero76
  have ht := turn_walk n
  have hl := turn_lt n
  have b1 : -255 < n.tmod 255 := by
    have := Int.lt_tmod_of_pos n (show (0 : Int) < 255 by omega)
    omega
  have b2 : n.tmod 255 < 255 := Int.tmod_lt_of_pos n (by omega)
  have hx : expp n = pow2 (turn n) := rfl
  revert ht hl hx b1 b2
  generalize turn n = t
  generalize expp n = E
  obtain ⟨m, hm⟩ : ∃ m, m = n.tmod 255 := ⟨_, rfl⟩
  rw [← hm]
  intro b1 b2 ht hl hx
  have HE := Lib.hid hx
  have HM := Lib.hid hm
  clear hx hm
  go_enter Try.func38, Try.ntmps38
  go_wp2_with fail
  refine (made_any _).mono ?_
  rintro e w1 ⟨⟨P, L, rfl, hP, hL⟩, hbl⟩
  have HP := Lib.hid hP
  clear hP hL
  have hpb := put_below w w1 P L hbl
  have HT := Lib.hid (put_there w1 P L)
  have hc := put_cell w1 P L t _ (tab_pow P L t (by omega))
  have hc2 : (put w1 P L).cell? ⟨w1.heap.size, t, none⟩ = some (.int .u8 E) := by rw [hc, HP.out t (by omega), HE.out]
  clear hc hbl
  unfold put at hpb hc2
  obtain ⟨W, hW⟩ : ∃ W, W = (w1.alloc (.cells (tab z0 z0) 76)).setCells w1.heap.size 0 (tab P L).toList := ⟨_, rfl⟩
  rw [← hW] at hpb hc2
  have HW := Lib.hid hW
  have HB := Lib.hid hpb
  clear hW hpb
  have hm2 := HM.out.symm
  go_wp2_with ((with_reducible show wpList _ _ _ (⟨none, Op.store 76 (.tmp 3) (.tmp 4), _, _, _, _⟩ :: _) _ _); refine wpList_store_mid rfl 76 (.tmp 3) (.tmp 4) rfl w1.heap.size 0 (tab P L) rfl rfl HT.out (info76' P L) (tab_one P L) ?_; rw [← HW.out])
  go_wp2_with fail
  go_ret
  exact ⟨rfl, HB.out⟩

theorem log_any (a : Nat) (w : World) (ha : a < 256) :
    Calls Try.prog 36 #[.int .u8 a] w fun e w' => e = .returned (.tuple #[.int .i64 (log a : Nat), .int .i64 (nought a)]) ∧ Below w.heap.size w w' := by
  by_cases h0 : a = 0
  · subst h0
    have hl : log 0 = 0 := by decide +kernel
    rw [hl]
    clear hl
    go_enter Try.func36, Try.ntmps36
    go_wp2_with fail
    go_ret2
    exact ⟨rfl, Below.refl _ _⟩
  · have hz := zero76
    have hn : (((a : Nat) : Int) == 0) = false := by simp; omega
    have hn1 := nought_pos h0
    have hx := pow2_log a ha h0
    have hl := log_lt a ha
    rw [hn1]
    revert hx hl
    generalize log a = E
    intro hx hl
    have HX := Lib.hid hx
    have HE := Lib.hid hl
    clear hx h0 hn1 hl
    go_enter Try.func36, Try.ntmps36
    go_wp2_with fail
    refine (made_any _).mono ?_
    rintro e w1 ⟨⟨P, L, rfl, hP, hL⟩, hbl⟩
    have hpb := put_below w w1 P L hbl
    have HT := Lib.hid (put_there w1 P L)
    have hc := put_cell w1 P L (510 + a) _ (tab_log P L a ha)
    have hc2 : (put w1 P L).cell? ⟨w1.heap.size, 510 + a, none⟩ = some (.int .i64 E) := by
      have h := hL E HE.out
      rw [HX.out] at h
      rw [hc, h]
    clear hc hbl hP hL
    unfold put at hpb hc2
    obtain ⟨W, hW⟩ : ∃ W, W = (w1.alloc (.cells (tab z0 z0) 76)).setCells w1.heap.size 0 (tab P L).toList := ⟨_, rfl⟩
    rw [← hW] at hpb hc2
    have HW := Lib.hid hW
    have HB := Lib.hid hpb
    clear hW hpb
    go_wp2_with ((with_reducible show wpList _ _ _ (⟨none, Op.store 76 (.tmp 4) (.tmp 7), _, _, _, _⟩ :: _) _ _); refine wpList_store_mid rfl 76 (.tmp 4) (.tmp 7) rfl w1.heap.size 0 (tab P L) rfl rfl HT.out (info76' P L) (tab_one P L) ?_; rw [← HW.out])
    go_wp2_with fail
    go_ret2
    exact ⟨rfl, HB.out⟩

theorem ref_log_any (a : Nat) (w : World) (ha : a < 256) :
    Calls Try.prog 37 #[.int .u8 a] w fun e w' => e = .returned (.tuple #[.int .i64 (log a : Nat), .int .i64 (nought a)]) ∧ w = w' := by
  have HL := Lib.hid (show ∀ k, k < 255 → pow2 k = a → log a = k ∧ nought a = 0 from fun k hk e => by
    refine ⟨by rw [← e]; exact log_pow2 k hk, nought_pos ?_⟩
    rw [← e]; exact pow2_ne k)
  have HN := Lib.hid (show (∀ j, j < 255 → pow2 j ≠ a) → log a = 0 ∧ nought a = 1 from fun h => by
    have h0 : a = 0 := by
      apply Classical.byContradiction
      intro h0
      exact h (log a) (log_lt a ha) (pow2_log a ha h0)
    subst h0
    decide +kernel)
  go_enter Try.func37, Try.ntmps37
  go_wp2_with fail
  go_loop [4, 5] (fun x i => ∃ k : Nat, k ≤ 255 ∧ x = .int .u8 (pow2 k : Nat) ∧ i = .int .i64 k ∧ ∀ j, j < k → pow2 j ≠ a) (fun _ i => 255 - (intOf i).toNat)
  case atStart => exact ⟨0, by omega, rfl, rfl, fun j h => by omega⟩
  case round =>
    obtain ⟨k, hk, rfl, rfl, hm⟩ := hrel
    have HM := Lib.hid hm
    clear hm
    by_cases hlt : k < 255
    · obtain ⟨X, hX⟩ : ∃ X, X = pow2 k := ⟨_, rfl⟩
      have hXl : X < 256 := by rw [hX]; exact pow2_lt k
      by_cases hy : X = a
      · have H2 := Lib.hid (HL.out k hlt (by rw [← hX, hy]))
        rw [← hX]
        clear hX HL HN HM
        subst hy
        go_wp2_with fail
        go_ret2
        exact ⟨by rw [H2.out.1, H2.out.2]; rfl, rfl⟩
      · have hn : (((X : Nat) : Int) == ((a : Nat) : Int)) = false := by simp; omega
        have HM2 := Lib.hid (show ∀ j, j < k + 1 → pow2 j ≠ a by
          intro j h
          by_cases e : j = k
          · subst e; rw [← hX]; exact hy
          · exact HM.out j (by omega))
        obtain ⟨Y, hY⟩ : ∃ Y, Y = mul X 2 := ⟨_, rfl⟩
        have M1 := Lib.hid (show ∀ w, Calls Try.prog 34 #[.int .u8 X, .int .u8 2] w fun e w' => e = .returned (.int .u8 Y) ∧ w = w' by
          intro w; rw [hY]; exact ref_mul_any X 2 w hXl (by omega))
        have HY := Lib.hid (show Y = pow2 (k + 1) by rw [hY, mul_two X hXl, hX, pow2])
        rw [← hX]
        clear hX hY hy
        go_wp2_with (go_at_call 34; refine (M1.out _).mono ?_; rintro e w' ⟨rfl, rfl⟩)
        go_round
        case rel =>
          go_light
          exact ⟨k + 1, by omega, by rw [HY.out], by go_num, HM2.out⟩
        case measure => simp [intOf]; omega
    · obtain rfl : k = 255 := by omega
      have H2 := Lib.hid (HN.out HM.out)
      clear HN HL HM
      generalize pow2 255 = X
      go_wp2
      go_ret2
      exact ⟨by rw [H2.out.1, H2.out.2]; rfl, rfl⟩

theorem ref_exp_any (n : Int) (w : World) :
    Calls Try.prog 39 #[.int .i64 n] w fun e w' => e = .returned (.int .u8 (expp n : Nat)) ∧ w = w' := by
  have ht := turn_walk n
  have hl := turn_lt n
  have b1 : -255 < n.tmod 255 := by
    have := Int.lt_tmod_of_pos n (show (0 : Int) < 255 by omega)
    omega
  have b2 : n.tmod 255 < 255 := Int.tmod_lt_of_pos n (by omega)
  have hx : expp n = pow2 (turn n) := rfl
  revert ht hl hx b1 b2
  generalize turn n = t
  generalize expp n = E
  obtain ⟨m, hm⟩ : ∃ m, m = n.tmod 255 := ⟨_, rfl⟩
  rw [← hm]
  intro b1 b2 ht hl hx
  have HE := Lib.hid hx
  have hm2 := hm.symm
  clear hx hm
  go_enter Try.func39, Try.ntmps39
  go_wp2_with fail
  go_loop [3, 4] (fun x i => ∃ k : Nat, k ≤ t ∧ x = .int .u8 (pow2 k : Nat) ∧ i = .int .i64 k) (fun _ i => t - (intOf i).toNat)
  case atStart => exact ⟨0, by omega, rfl, rfl⟩
  case round =>
    obtain ⟨k, hk, rfl, rfl⟩ := hrel
    obtain ⟨X, hX⟩ : ∃ X, X = pow2 k := ⟨_, rfl⟩
    have hXl : X < 256 := by rw [hX]; exact pow2_lt k
    rw [← hX]
    by_cases hlt : k < t
    · obtain ⟨Y, hY⟩ : ∃ Y, Y = mul X 2 := ⟨_, rfl⟩
      have M1 := Lib.hid (show ∀ w, Calls Try.prog 34 #[.int .u8 X, .int .u8 2] w fun e w' => e = .returned (.int .u8 Y) ∧ w = w' by
        intro w; rw [hY]; exact ref_mul_any X 2 w hXl (by omega))
      have HY := Lib.hid (show Y = pow2 (k + 1) by rw [hY, mul_two X hXl, hX, pow2])
      clear hX hY
      go_wp2_with (go_at_call 34; refine (M1.out _).mono ?_; rintro e w' ⟨rfl, rfl⟩)
      go_round
      case rel =>
        go_light
        exact ⟨k + 1, by omega, by rw [HY.out], by go_num⟩
      case measure => simp [intOf]; omega
    · obtain rfl : k = t := by omega
      have H2 := Lib.hid (hX.trans HE.out.symm)
      clear hX
      go_wp2
      go_ret
      exact ⟨by rw [← H2.out]; rfl, rfl⟩
end Go.Proofs.Ytbbikkmmdedaiaa.Gf
