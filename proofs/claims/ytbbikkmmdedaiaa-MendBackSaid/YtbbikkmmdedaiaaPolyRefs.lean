/- What the reference's Add, Mul and Slope of polynomials compute. -/
import Derived.Test.YtbbikkmmdedaiaaPolyEval
set_option maxRecDepth 100000
namespace Go.Proofs.Ytbbikkmmdedaiaa.Pr
open Go.RowKit Go.Proofs.Ytbbikkmmdedaiaa.Gf Go.Proofs.Ytbbikkmmdedaiaa.Vec

theorem cells_len (n : Nat) (p : Po) : (U8s (vals (firsts n p))).length = n := by rw [U8s_len, vals_len, firsts_len]
theorem cells_succ (n : Nat) (p : Po) {x : Nat} (h : x = (p n).1) : U8s (vals (firsts (n + 1) p)) = U8s (vals (firsts n p)) ++ [.int .u8 (x : Int)] := by
  rw [firsts_succ, vals_snoc, U8s_snoc, h]

theorem own_row {w : World} {B : Nat} {A : Option Addr} {n c : Nat} {l : List F} (h : Own w B 5 (.slice A n c) (U8s (vals l))) (hl : l.length = n) : RowAt w A n c l := by
  refine row_own h hl ?_
  rcases h.2 with ⟨hv, h0⟩ | ⟨g, cap, cur, hv, _, _, h1, _⟩
  · injection hv with _ h2 h3; omega
  · injection hv with _ h2 h3
    rw [U8s_len, vals_len, hl] at h1
    omega

theorem ref_add_row (A : Option Addr) (n c : Nat) (A2 : Option Addr) (n2 c2 : Nat) (l m : List F) (w : World) (h1 : RowAt w A n c l) (h2 : RowAt w A2 n2 c2 m) (hn : n ≤ 100000) (hn2 : n2 ≤ 100000) :
    Calls Try.prog 46 #[.slice A n c, .slice A2 n2 c2] w (Gv (pa l m) w) := by
  obtain ⟨g, hg⟩ : ∃ g, g = w.heap.size := ⟨_, rfl⟩
  obtain ⟨p, hp⟩ : ∃ p, p = ad (co l) (co m) := ⟨_, rfl⟩
  obtain ⟨N, hN⟩ : ∃ N, N = max n n2 := ⟨_, rfl⟩
  have hb0 : Below g w w := Below.refl _ _
  have hgw : g ≤ w.heap.size := by omega
  have HG := Lib.hid hg
  have HPP := Lib.hid hp
  have HNN := Lib.hid hN
  have H1 := Lib.hid h1
  have H2 := Lib.hid h2
  have hNb : N ≤ 100000 := by omega
  clear hg hp hN h1 h2
  go_enter Try.func46, Try.ntmps46
  go_wp2_with fail
  go_loopw [5, 6] (fun o v wr => ∃ (i : Nat) (A' : Option Addr) (c' : Nat), i ≤ N ∧ o = .slice A' i c' ∧ v = .int .i64 i ∧ Own wr g 5 (.slice A' i c') (U8s (vals (firsts i p))) ∧ Below g w wr) (fun _ v _ => N - (intOf v).toNat)
  case atStart => exact ⟨0, none, 0, by omega, rfl, rfl, Own.nil _ _ _, hb0⟩
  case round =>
    obtain ⟨i, A1, c1, hi, rfl, rfl, ho, hb⟩ := hrel
    by_cases hlt : i < N
    · obtain ⟨x, hx⟩ : ∃ x, x = (co l i).1 := ⟨_, rfl⟩
      obtain ⟨y, hy⟩ : ∃ y, y = (co m i).1 := ⟨_, rfl⟩
      obtain ⟨z, hz⟩ : ∃ z, z = (p i).1 := ⟨_, rfl⟩
      have hsz := hb.size
      have M1 := Lib.hid (show Calls Try.prog 68 #[.slice A n c, .int .i64 (i : Nat)] wr fun e w' => e = .returned (.int .u8 (x : Nat)) ∧ wr = w' by
        rw [hx]; exact at_row A n c l i wr (H1.out.on (by rw [← HG.out]; exact hb)))
      have M2 := Lib.hid (show Calls Try.prog 68 #[.slice A2 n2 c2, .int .i64 (i : Nat)] wr fun e w' => e = .returned (.int .u8 (y : Nat)) ∧ wr = w' by
        rw [hy]; exact at_row A2 n2 c2 m i wr (H2.out.on (by rw [← HG.out]; exact hb)))
      have hxo : bits .xor .u8 (x : Int) (y : Int) = (z : Int) := by rw [hx, hy, hz, HPP.out]; exact fxor rfl
      obtain ⟨S, hS⟩ : ∃ S, S = U8s (vals (firsts i p)) := ⟨_, rfl⟩
      have HS := Lib.hid (show U8s (vals (firsts (i + 1) p)) = S ++ [.int .u8 (z : Int)] by rw [hS]; exact cells_succ i p hz)
      have HSL := Lib.hid (show S.length = i by rw [hS]; exact cells_len i p)
      rw [← hS] at ho
      clear hx hy hz hS
      have hcases : (decide (i < n) = true) ∨ (decide (i < n) = false ∧ decide (i < n2) = true) := by
        by_cases h : i < n
        · left; simp [h]
        · right
          have := HNN.out
          exact ⟨by simp [h], by simp; omega⟩
      rcases hcases with hd1 | ⟨hd1, hd2⟩
      all_goals
        go_wp2_with (first
          | (go_at_call 68; first | (with_reducible refine (M1.out).mono ?_; rintro e w' ⟨rfl, rfl⟩) | (with_reducible refine (M2.out).mono ?_; rintro e w' ⟨rfl, rfl⟩))
          | (at_builtin; refine wpList_app1 _ rfl (.tmp 19) (.tmp 27) 22 rfl g 5 (.int .u8 0) 1 Try.underlying22 info5 rfl _ S rfl (ho.alloc _) ⟨wr.heap.size, 0, none⟩ 1 (.int .u8 z) rfl (by go_simp) rfl (by rw [HSL.out]; omega) (by rw [HSL.out]; omega) (by simp; omega) ?_; rw [HSL.out]; intro g2 cap w2 hown2 hbel2 hgr2 hge2 hlt2))
        go_roundw
        case rel => exact ⟨i + 1, some ⟨g2, 0, none⟩, cap, by omega, rfl, by go_num, by rw [HS.out]; exact hown2, (hb.alloc (by omega) _).trans hbel2⟩
        case measure => simp [intOf]; omega
    · obtain rfl : i = N := by omega
      have hd1 : decide (i < n) = false := by have := HNN.out; simp; omega
      have hd2 : decide (i < n2) = false := by have := HNN.out; simp; omega
      have hr := own_row ho (firsts_len i p)
      have hlo : Lo i (ad (co l) (co m)) := by
        have e := pa_lo l m
        rw [H1.out.1, H2.out.1, ← HNN.out] at e
        exact e
      have HT := Lib.hid (show tr (firsts i p) = pa l m from by
        rw [HPP.out]
        exact tr_firsts hlo (pa_lo l m))
      have M3 := Lib.hid (ref_trim_row hr (by omega))
      clear hr hlo
      go_wp2_with (go_at_call 44; with_reducible refine (M3.out).mono ?_; rintro e w' ⟨⟨A', n', c', rfl, hrr⟩, rfl⟩)
      go_ret
      rw [HT.out] at hrr
      exact ⟨A', n', c', rfl, hrr, by rw [← HG.out]; exact hb⟩
end Go.Proofs.Ytbbikkmmdedaiaa.Pr
