/- What pacer.New, Take, When, Left and the inner on and ticks do with a pacer in memory; conditions: the pacer lies in a block of its own, its numbers are such as New gives. -/
import Derived.Test.YtfghllgkbdfedaaProg
import Derived.Test.YtfghllgkbdfedaaWords
import Derived.Test.YtfghllgkbdfedaaPacPlain
import Derived.WalkKit
import Derived.WalkSpells
import Derived.WalkLawsBesides
import Derived.Outline
import Derived.Deep.Light
import Derived.BigQuiet
import Derived.RegionTactic
import Derived.BigRegion
import Derived.Deep.RegionHeld3
namespace Go.Proofs.Ytfghllgkbdfedaa.Pac
open Go.RowKit
set_option maxRecDepth 100000

def Pw (w : World) (g : Nat) (p : P) : Prop := Blk w g 89 #[.int .i64 p.rate, .int .i64 p.most, .int .i64 p.left, .int .i64 p.at_]
section
variable {w : World} {g : Nat} {p : P}
theorem Pw.c0 (h : Pw w g p) : w.cell? ⟨g, 0, none⟩ = some (.int .i64 p.rate) := Blk.cell h 0
theorem Pw.c1 (h : Pw w g p) : w.cell? ⟨g, 1, none⟩ = some (.int .i64 p.most) := Blk.cell h 1
theorem Pw.c2 (h : Pw w g p) : w.cell? ⟨g, 2, none⟩ = some (.int .i64 p.left) := Blk.cell h 2
theorem Pw.c3 (h : Pw w g p) : w.cell? ⟨g, 3, none⟩ = some (.int .i64 p.at_) := Blk.cell h 3
theorem Pw.set2 (h : Pw w g p) (x : Int) : Pw (w.setCell ⟨g, 2, none⟩ (.int .i64 x)) g { p with left := x } := Blk.set_ h 2 _
theorem Pw.set3 (h : Pw w g p) (x : Int) : Pw (w.setCell ⟨g, 3, none⟩ (.int .i64 x)) g { p with at_ := x } := Blk.set_ h 3 _
theorem Pw.drew (h : Pw w g p) : Pw w.drew g p := h
theorem Pw.drewN (h : Pw w g p) (n : Nat) : Pw (w.drewN n) g p := h
end
theorem grown_trans2 {a b c : World} {r : Option Nat} (h : a.grownBy b r) (k : b.grownBy c r) : a.grownBy c r :=
  ⟨k.os.trans h.os, k.tape.trans h.tape, k.output.trans h.output, Nat.le_trans h.size k.size, fun i hi hne => (k.block i (Nat.lt_of_lt_of_le hi h.size) hne).trans (h.block i hi hne)⟩

theorem ticks_any (g : Nat) (r more : Int) (w : World) (c0 : w.cell? ⟨g, 0, none⟩ = some (.int .i64 r)) (r1 : 1 ≤ r) (r2 : r ≤ 1048576) (h1 : 0 ≤ more) (h2 : more ≤ 1073741824) :
    Calls Try.prog 52 #[.pointer (some ⟨g, 0, none⟩), .int .i64 more] w fun e w' => e = .returned (.int .i64 (ticks r more)) ∧ ∃ n, w' = w.drewN n := by
  obtain ⟨a, ha⟩ : ∃ a, a = more + r := ⟨_, rfl⟩
  obtain ⟨b, hb⟩ : ∃ b, b = a - 1 := ⟨_, rfl⟩
  obtain ⟨q, hq⟩ : ∃ q, q = b / r := ⟨_, rfl⟩
  have hqt : q = ticks r more := by rw [hq, hb, ha]; rfl
  have hqb := ticks_bound r1 h1 h2
  have hqn := ticks_nonneg r1 h1
  have e1 : IntKind.i64.wrap (more + r) = a := by rw [IntWalk.i64_in _ (by omega)]; exact ha.symm
  have e2 : IntKind.i64.wrap (a - 1) = b := by rw [IntWalk.i64_in _ (by omega)]; exact hb.symm
  have e3 : IntKind.i64.wrap (b.tdiv r) = q := by
    rw [Int.tdiv_eq_ediv_of_nonneg (by omega), ← hq, IntWalk.i64_in _ (by omega)]
  have e4 : (r == 0) = false := by rw [beq_eq_false_iff_ne]; omega
  have HQ := Lib.hid hqt
  clear ha hb hq hqt
  go_enter Try.func52, Try.ntmps52
  go_wp2
  go_quiet (fail)
  go_wp2
  go_ret
  exact ⟨by rw [← HQ.out]; rfl, _, rfl⟩

theorem on_any (g : Nat) (p : P) (now : Int) (w : World) (h : Pw w g p) (hp : Ok p) (n1 : -9223372036854775808 ≤ now) (n2 : now ≤ 9223372036854775807) :
    Calls Try.prog 51 #[.pointer (some ⟨g, 0, none⟩), .int .i64 now] w fun e w' => e = .returned (.tuple #[]) ∧ Pw w' g (onP p now) ∧ w.grownBy w' (some g) := by
  have hbound := passed_bound p now hp
  have HF := Lib.hid (on_full p now hp)
  have HS := Lib.hid (on_some p now hp)
  have hle := nowC_le p now hp
  have hge := nowC_ge p now
  obtain ⟨r, m, l, a⟩ := p
  obtain ⟨r1, r2, m1, m2, l1, l2, a1, a2⟩ := hp
  simp only at r1 r2 m1 m2 l1 l2 a1 a2 hbound hle hge HF HS
  have c0 := h.c0
  have c1 := h.c1
  have c2 := h.c2
  have c3 := h.c3
  simp only at c0 c1 c2 c3
  have f2 := Blk.frozen h 2
  have f3 := Blk.frozen h 3
  obtain ⟨N, hN⟩ : ∃ N, N = nowC ⟨r, m, l, a⟩ now := ⟨_, rfl⟩
  rw [← hN] at HF HS hbound hle hge
  obtain ⟨Z, hZ⟩ : ∃ Z, Z = min now T := ⟨_, rfl⟩
  have q1 : (if (1099511627776 : Int) < now then 1099511627776 else now) = Z := by rw [hZ]; unfold T; split <;> omega
  have q2 : (if a < Z then Z else a) = N := by rw [hN]; unfold nowC; simp only; rw [← hZ]; split <;> omega
  unfold T at hle
  have H := Lib.hid h
  obtain ⟨d, hd⟩ : ∃ d, d = m - l := ⟨_, rfl⟩
  have e1 : IntKind.i64.wrap (m - l) = d := by rw [IntWalk.i64_in _ (by omega)]; exact hd.symm
  have hd1 : 0 ≤ d := by omega
  have hd2 : d ≤ 1073741824 := by omega
  rw [← hd] at HF HS
  obtain ⟨X, hX⟩ : ∃ X, X = (N - a) * r := ⟨_, rfl⟩
  obtain ⟨s, hs⟩ : ∃ s, s = N - a := ⟨_, rfl⟩
  have e0 : IntKind.i64.wrap (N - a) = s := by rw [IntWalk.i64_in _ (by omega)]; exact hs.symm
  have e2 : IntKind.i64.wrap (s * r) = X := by rw [hs, ← hX, IntWalk.i64_in _ (by omega)]
  obtain ⟨Y, hY⟩ : ∃ Y, Y = l + X := ⟨_, rfl⟩
  have e3 : IntKind.i64.wrap (l + X) = Y := by rw [← hX] at hbound; rw [IntWalk.i64_in _ (by omega)]; exact hY.symm
  have s1 : 0 ≤ s := by omega
  have s2 : s ≤ 1099511627776 := by omega
  rw [← hX, ← hY] at HS
  rw [← hs] at HF HS
  clear hZ hN hd hs hX hY h hbound
  go_enter Try.func51, Try.ntmps51
  go_wp2_with fail
  obtain ⟨W1, hW1⟩ : ∃ W1, W1 = w.setCell ⟨g, 3, none⟩ (.int .i64 N) := ⟨_, rfl⟩
  have hw1 : Pw W1 g ⟨r, m, l, N⟩ := by rw [hW1]; exact H.out.set3 N
  have hG1 : w.grownBy W1 (some g) := by rw [hW1]; exact only_setCell (World.grownBy.refl _ _) (.inl rfl) _
  rw [← hW1]
  clear hW1
  have k0 := hw1.c0
  have k1 := hw1.c1
  have k2 := hw1.c2
  have g2 := Blk.frozen hw1 2
  simp only at k0 k1 k2
  by_cases hfull : ticks r d ≤ s
  · have HX := HF.out hfull
    have hb : decide (ticks r d ≤ s) = true := by simp [hfull]
    have HX2 := Lib.hid HX
    clear HX hfull e2 e3
    go_quiet ((go_at_call 52; exact Calls.quiet_of (ticks_any g r d _ k0 r1 r2 hd1 hd2)))
    go_wp2_with fail
    refine bodyPost_ret (results_none rfl _ _ _) rfl ?_
    exact ⟨rfl, by rw [HX2.out]; exact (hw1.drewN _).set2 m, only_setCell (only_drewN hG1 _) (.inl rfl) _⟩
  · have HX := HS.out (by omega)
    have hb : decide (ticks r d ≤ s) = false := by simp [hfull]
    have HX2 := Lib.hid HX
    clear HX hfull
    go_quiet ((go_at_call 52; exact Calls.quiet_of (ticks_any g r d _ k0 r1 r2 hd1 hd2)))
    go_wp2_with fail
    go_region
    go_wp2_with fail
    go_end0
    refine ⟨rfl, ?_, ?_⟩
    · rw [HX2.out]; exact (hw1.drewN _).set2 Y
    · exact only_setCell (only_drewN hG1 _) (.inl rfl) _

theorem left_any (g : Nat) (p : P) (now : Int) (w : World) (h : Pw w g p) (hp : Ok p) (n1 : -9223372036854775808 ≤ now) (n2 : now ≤ 9223372036854775807) :
    Calls Try.prog 40 #[.pointer (some ⟨g, 0, none⟩), .int .i64 now] w fun e w' => e = .returned (.int .i64 (onP p now).left) ∧ Pw w' g (onP p now) ∧ w.grownBy w' (some g) := by
  go_enter Try.func40, Try.ntmps40
  go_wp2_with fail
  refine (on_any g p now _ h hp n1 n2).mono ?_; rintro e w1 ⟨rfl, hw1, hg1⟩
  have k2 := hw1.c2
  go_wp2_with fail
  go_ret
  exact ⟨rfl, hw1, hg1⟩

theorem take_any (g : Nat) (p : P) (n now : Int) (w : World) (h : Pw w g p) (hp : Ok p) (n1 : -9223372036854775808 ≤ now) (n2 : now ≤ 9223372036854775807) (m1 : -9223372036854775808 ≤ n) (m2 : n ≤ 9223372036854775807) :
    Calls Try.prog 36 #[.pointer (some ⟨g, 0, none⟩), .int .i64 n, .int .i64 now] w fun e w' => e = .returned (.bool (takeB (onP p now) n)) ∧ Pw w' g (takeP p n now) ∧ w.grownBy w' (some g) := by
  have hok := onP_ok p now hp
  have l1 := hok.l1
  have l2 := hok.l2
  have l3 := hok.m2
  obtain ⟨L, hL⟩ : ∃ L, L = (onP p now).left := ⟨_, rfl⟩
  rw [← hL] at l1 l2
  have HL := Lib.hid hL
  have hL3 : L ≤ 1073741824 := by omega
  clear l2 l3 hok hL
  by_cases h1 : L < n
  · have HB := Lib.hid (show takeB (onP p now) n = false by unfold takeB; rw [← HL.out]; simp [h1])
    go_enter Try.func36, Try.ntmps36
    go_wp2_with fail
    refine (left_any g p now _ h hp n1 n2).mono ?_; rintro e w1 ⟨rfl, hw1, hg1⟩
    rw [← HL.out]
    go_wp2_with fail
    go_ret
    exact ⟨by rw [HB.out]; rfl, by unfold takeP; rw [HB.out]; exact hw1, hg1⟩
  · by_cases h2 : n < 1
    · have HB := Lib.hid (show takeB (onP p now) n = false by unfold takeB; rw [← HL.out]; simp [h2])
      go_enter Try.func36, Try.ntmps36
      go_wp2_with fail
      refine (left_any g p now _ h hp n1 n2).mono ?_; rintro e w1 ⟨rfl, hw1, hg1⟩
      rw [← HL.out]
      go_wp2_with fail
      go_ret
      exact ⟨by rw [HB.out]; rfl, by unfold takeP; rw [HB.out]; exact hw1, hg1⟩
    · have HB := Lib.hid (show takeB (onP p now) n = true by unfold takeB; rw [← HL.out]; simp; omega)
      go_enter Try.func36, Try.ntmps36
      go_wp2_with fail
      refine (left_any g p now _ h hp n1 n2).mono ?_; rintro e w1 ⟨rfl, hw1, hg1⟩
      rw [← HL.out]
      have k2 := hw1.c2
      rw [← HL.out] at k2
      have f2 := Blk.frozen hw1 2
      go_wp2_with fail
      go_ret
      refine ⟨by rw [HB.out]; rfl, ?_, only_setCell hg1 (.inl rfl) _⟩
      unfold takeP
      rw [HB.out, ← HL.out]
      exact hw1.set2 _

theorem onP_rate (p : P) (now : Int) : (onP p now).rate = p.rate ∧ (onP p now).most = p.most := ⟨rfl, rfl⟩
theorem when_any (g : Nat) (p : P) (n now : Int) (w : World) (h : Pw w g p) (hp : Ok p) (n1 : -9223372036854775808 ≤ now) (n2 : now ≤ 9223372036854775807) (m1 : -9223372036854775808 ≤ n) (m2 : n ≤ 9223372036854775807) :
    Calls Try.prog 38 #[.pointer (some ⟨g, 0, none⟩), .int .i64 n, .int .i64 now] w fun e w' => e = .returned (.tuple #[.int .i64 (whenP p n now).1, .bool (whenP p n now).2]) ∧ Pw w' g (whenS p n now) ∧ w.grownBy w' (some g) := by
  have c1 := h.c1
  by_cases h1 : n < 1
  · have HB := Lib.hid (show whenP p n now = (0, false) by unfold whenP; rw [if_pos (.inl h1)])
    have HS := Lib.hid (show whenS p n now = p by unfold whenS; rw [if_pos (.inl h1)])
    go_enter Try.func38, Try.ntmps38
    go_wp2_with fail
    go_ret2
    exact ⟨by rw [HB.out]; rfl, by rw [HS.out]; exact h, World.grownBy.refl _ _⟩
  by_cases h2 : p.most < n
  · have HB := Lib.hid (show whenP p n now = (0, false) by unfold whenP; rw [if_pos (.inr h2)])
    have HS := Lib.hid (show whenS p n now = p by unfold whenS; rw [if_pos (.inr h2)])
    go_enter Try.func38, Try.ntmps38
    go_wp2_with fail
    go_ret2
    exact ⟨by rw [HB.out]; rfl, by rw [HS.out]; exact h, World.grownBy.refl _ _⟩
  have hok := onP_ok p now hp
  have hm2 := hp.m2
  obtain ⟨M, hM⟩ : ∃ M, M = max 0 (n - (onP p now).left) := ⟨_, rfl⟩
  obtain ⟨L, hL⟩ : ∃ L, L = (onP p now).left := ⟨_, rfl⟩
  obtain ⟨A, hA⟩ : ∃ A, A = (onP p now).at_ := ⟨_, rfl⟩
  obtain ⟨r, hr⟩ : ∃ r, r = p.rate := ⟨_, rfl⟩
  obtain ⟨k, hk⟩ : ∃ k, k = ticks r M := ⟨_, rfl⟩
  have hW : whenP p n now = if T - A < k then (0, false) else (A + k, true) := by
    unfold whenP; rw [if_neg (by omega), ← hM, ← hA, ← hr, ← hk]
  have HS := Lib.hid (show whenS p n now = onP p now by unfold whenS; rw [if_neg (by omega)])
  have l1 := hok.l1
  have l2 := hok.l2
  have a1 := hok.a1
  have a2 := hok.a2
  have r1 := hok.r1
  have r2 := hok.r2
  rw [(onP_rate p now).1, ← hr] at r1 r2
  rw [(onP_rate p now).2] at l2
  rw [← hL] at l1 l2 hM
  rw [← hA] at a1 a2
  have hM1 : 0 ≤ M := by omega
  have hM2 : M ≤ 1073741824 := by omega
  have q1 : (if 0 < n - L then n - L else 0) = M := by rw [hM]; split <;> omega
  have kb := ticks_bound r1 hM1 hM2
  have kn := ticks_nonneg r1 hM1
  rw [← hk] at kb kn
  have HK := Lib.hid hk
  have HL := Lib.hid hL
  have HA := Lib.hid hA
  have HR := Lib.hid hr
  obtain ⟨y, hy⟩ : ∃ y, y = n - L := ⟨_, rfl⟩
  have e1 : IntKind.i64.wrap (n - L) = y := by rw [IntWalk.i64_in _ (by omega)]; exact hy.symm
  rw [← hy] at q1
  clear hk hL hA hr hM hok hm2 hy
  unfold T at hW
  by_cases hb : 1099511627776 - A < k
  · rw [if_pos hb] at hW
    have HW := Lib.hid hW
    clear hW
    go_enter Try.func38, Try.ntmps38
    go_wp2_with fail
    refine (on_any g p now _ h hp n1 n2).mono ?_; rintro e w1 ⟨rfl, hw1, hg1⟩
    have k0 := hw1.c0
    have k2 := hw1.c2
    have k3 := hw1.c3
    rw [(onP_rate p now).1, ← HR.out] at k0
    rw [← HL.out] at k2
    rw [← HA.out] at k3
    go_wp2_with fail
    refine (ticks_any g r M _ k0 r1 r2 hM1 hM2).mono ?_; rintro e w' ⟨rfl, nq, rfl⟩
    rw [← HK.out]
    go_wp2_with fail
    go_ret2
    exact ⟨by rw [HW.out]; rfl, by rw [HS.out]; exact hw1.drewN nq, only_drewN hg1 nq⟩
  · rw [if_neg hb] at hW
    have HW := Lib.hid hW
    clear hW
    go_enter Try.func38, Try.ntmps38
    go_wp2_with fail
    refine (on_any g p now _ h hp n1 n2).mono ?_; rintro e w1 ⟨rfl, hw1, hg1⟩
    have k0 := hw1.c0
    have k2 := hw1.c2
    have k3 := hw1.c3
    rw [(onP_rate p now).1, ← HR.out] at k0
    rw [← HL.out] at k2
    rw [← HA.out] at k3
    go_wp2_with fail
    refine (ticks_any g r M _ k0 r1 r2 hM1 hM2).mono ?_; rintro e w' ⟨rfl, nq, rfl⟩
    rw [← HK.out]
    go_wp2_with fail
    go_ret2
    exact ⟨by rw [HW.out]; rfl, by rw [HS.out]; exact hw1.drewN nq, only_drewN hg1 nq⟩

def newBad (r m : Int) : Prop := r < 1 ∨ 1048576 < r ∨ m < 1 ∨ 1073741824 < m
theorem new_bad (r m : Int) (w : World) (h : newBad r m) :
    Calls Try.prog 34 #[.int .i64 r, .int .i64 m] w fun e w' => e = .returned (.tuple #[.pointer none, .int .i64 1]) ∧ w = w' := by
  by_cases a1 : r < 1
  · clear h
    go_enter Try.func34, Try.ntmps34
    go_wp2_with fail
    go_ret2
    exact ⟨rfl, rfl⟩
  by_cases a2 : 1048576 < r
  · clear h
    go_enter Try.func34, Try.ntmps34
    go_wp2_with fail
    go_ret2
    exact ⟨rfl, rfl⟩
  by_cases a3 : m < 1
  · clear h
    go_enter Try.func34, Try.ntmps34
    go_wp2_with fail
    go_ret2
    exact ⟨rfl, rfl⟩
  have a4 : 1073741824 < m := by unfold newBad at h; omega
  clear h
  go_enter Try.func34, Try.ntmps34
  go_wp2_with fail
  go_ret2
  exact ⟨rfl, rfl⟩
theorem new_ok (r m : Int) (w : World) (h : ¬ newBad r m) :
    Calls Try.prog 34 #[.int .i64 r, .int .i64 m] w fun e w' => e = .returned (.tuple #[.pointer (some ⟨w.heap.size, 0, none⟩), .int .i64 0]) ∧ w' = w.alloc (.cells #[.int .i64 r, .int .i64 m, .int .i64 m, .int .i64 0] 89) := by
  unfold newBad at h
  have a1 : ¬ r < 1 := by omega
  have a2 : ¬ 1048576 < r := by omega
  have a3 : ¬ m < 1 := by omega
  have a4 : ¬ 1073741824 < m := by omega
  clear h
  go_enter Try.func34, Try.ntmps34
  go_wp2_with fail
  go_ret2
  exact ⟨rfl, rfl⟩
theorem new_win (r m : Int) (w : World) : Pw (w.alloc (.cells #[.int .i64 r, .int .i64 m, .int .i64 m, .int .i64 0] 89)) w.heap.size ⟨r, m, m, 0⟩ := Blk.new _ _ _
theorem new_is (r m : Int) (h : ¬ newBad r m) : Ok ⟨r, m, m, 0⟩ := by
  unfold newBad at h
  exact ⟨by simp only; omega, by simp only; omega, by simp only; omega, by simp only; omega, by simp only; omega, by simp only; omega, by simp only; omega, by simp only; omega⟩
end Go.Proofs.Ytfghllgkbdfedaa.Pac
