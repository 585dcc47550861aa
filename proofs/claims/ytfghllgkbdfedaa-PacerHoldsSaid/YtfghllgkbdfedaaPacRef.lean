/- What the reference's Go, Take and When of layer 46 compute; conditions: the numbers are such as New gives, the time is one of its kind. -/
import Derived.Test.YtfghllgkbdfedaaPacWalk
import Derived.Deep.LoopGhost
import Derived.Deep.Cut
namespace Go.Proofs.Ytfghllgkbdfedaa.Pac
open Go.RowKit
set_option maxRecDepth 100000

def pc (p : P) : Array Value := #[.int .i64 p.rate, .int .i64 p.most, .int .i64 p.left, .int .i64 p.at_]
def cellInt (w : World) (a : Addr) : Int := match w.cell? a with | some (.int _ n) => n | _ => 0

theorem go_any (p : P) (now : Int) (w : World) (hp : Ok p) (n1 : -9223372036854775808 ≤ now) (n2 : now ≤ 9223372036854775807) :
    Calls Try.prog 39 #[.agg #[.int .i64 p.rate, .int .i64 p.most, .int .i64 p.left, .int .i64 p.at_], .int .i64 now] w fun e w' => e = .returned (.agg (pc (onP p now))) ∧ Below w.heap.size w w' := by
  obtain ⟨r, m, l, a⟩ := p
  have hle := nowC_le _ now hp
  have hge := nowC_ge ⟨r, m, l, a⟩ now
  have HP := Lib.hid hp
  obtain ⟨r1, r2, m1, m2, l1, l2, a1, a2⟩ := hp
  simp only at r1 r2 m1 m2 l1 l2 a1 a2 hge
  obtain ⟨N, hN⟩ : ∃ N, N = nowC ⟨r, m, l, a⟩ now := ⟨_, rfl⟩
  rw [← hN] at hle hge
  obtain ⟨Z, hZ⟩ : ∃ Z, Z = min now T := ⟨_, rfl⟩
  have q1 : (if (1099511627776 : Int) < now then 1099511627776 else now) = Z := by rw [hZ]; unfold T; split <;> omega
  have q2 : (if a < Z then Z else a) = N := by rw [hN]; unfold nowC; simp only; rw [← hZ]; split <;> omega
  unfold T at hle
  have HN := Lib.hid hN
  clear hN hZ
  go_enter Try.func39, Try.ntmps39
  go_wp2_with fail
  obtain ⟨B, hB⟩ : ∃ B, B = w.heap.size := ⟨_, rfl⟩
  obtain ⟨W0, hW0⟩ : ∃ W0, W0 = (w.alloc (.cells #[.int .i64 r, .int .i64 m, .int .i64 l, .int .i64 a] 56)).alloc (.cells #[.int .i64 0, .int .i64 0, .int .i64 0, .int .i64 0] 56) := ⟨_, rfl⟩
  have hb0 : Blk W0 B 56 #[.int .i64 r, .int .i64 m, .int .i64 l, .int .i64 a] := by rw [hW0, hB]; exact (Blk.new _ _ _).alloc _
  have hb1 : Blk W0 (B + 1) 56 #[.int .i64 0, .int .i64 0, .int .i64 0, .int .i64 0] := by rw [hW0, hB]; simpa using Blk.new (w.alloc (.cells #[.int .i64 r, .int .i64 m, .int .i64 l, .int .i64 a] 56)) 56 #[.int .i64 0, .int .i64 0, .int .i64 0, .int .i64 0]
  have hbel : Below B w W0 := by rw [hW0, hB]; exact ((Below.refl _ _).alloc (Nat.le_refl _) _).alloc (by simp) _
  rw [← hW0, ← hB]
  have HB := Lib.hid hB
  clear hW0 hB
  go_loopg [5] ((N - a).toNat) (fun k _ wr => ∃ L A : Int, Ok ⟨r, m, L, A⟩ ∧ onP ⟨r, m, L, A⟩ now = onP ⟨r, m, l, a⟩ now ∧ nowC ⟨r, m, L, A⟩ now = N ∧ A ≤ N ∧ N - A ≤ k ∧
    Blk wr B 56 #[.int .i64 r, .int .i64 m, .int .i64 L, .int .i64 A] ∧ Blk wr (B + 1) 56 #[.int .i64 0, .int .i64 0, .int .i64 0, .int .i64 0] ∧ Below B w wr)
  case atStart => exact ⟨l, a, HP.out, rfl, HN.out.symm, hge, by omega, hb0, hb1, hbel⟩
  case round =>
    obtain ⟨L, A, hok, hon, hnw, hA, hk, hb, hc, hbl⟩ := hrel
    have c0 : wr.cell? ⟨B, 0, none⟩ = some (.int .i64 r) := Blk.cell hb 0
    have c1 : wr.cell? ⟨B, 1, none⟩ = some (.int .i64 m) := Blk.cell hb 1
    have c2 : wr.cell? ⟨B, 2, none⟩ = some (.int .i64 L) := Blk.cell hb 2
    have c3 : wr.cell? ⟨B, 3, none⟩ = some (.int .i64 A) := Blk.cell hb 3
    have f2 := Blk.frozen hb 2
    have f3 := Blk.frozen hb 3
    have HO := Lib.hid hon
    have HNW := Lib.hid hnw
    have HOK := Lib.hid hok
    have l3 := hok.l1
    have l4 := hok.l2
    have a3 := hok.a1
    simp only at l3 l4 a3
    clear hon hnw hok
    by_cases hc1 : A < N
    · by_cases hc2 : L < m
      · obtain ⟨s, hs⟩ : ∃ s, s = N - A := ⟨_, rfl⟩
        have e1 : IntKind.i64.wrap (N - A) = s := by rw [IntWalk.i64_in _ (by omega)]; exact hs.symm
        obtain ⟨d, hd⟩ : ∃ d, d = m - L := ⟨_, rfl⟩
        have e2 : IntKind.i64.wrap (m - L) = d := by rw [IntWalk.i64_in _ (by omega)]; exact hd.symm
        obtain ⟨q, hq⟩ : ∃ q, q = d / r := ⟨_, rfl⟩
        have hq0 : 0 ≤ q := by rw [hq]; exact Int.ediv_nonneg (by omega) (by omega)
        have hq1 : q ≤ d := by rw [hq]; exact Int.ediv_le_self _ (by omega)
        have e3 : IntKind.i64.wrap (d.tdiv r) = q := by rw [Int.tdiv_eq_ediv_of_nonneg (by omega), ← hq, IntWalk.i64_in _ (by omega)]
        obtain ⟨u, hu⟩ : ∃ u, u = q + 1 := ⟨_, rfl⟩
        have e4 : IntKind.i64.wrap (q + 1) = u := by rw [IntWalk.i64_in _ (by omega)]; exact hu.symm
        obtain ⟨n, hn⟩ : ∃ n, n = min s u := ⟨_, rfl⟩
        have e5 : (if u < s then u else s) = n := by rw [hn]; split <;> omega
        have e6 : (r == 0) = false := by rw [beq_eq_false_iff_ne]; omega
        have hn1 : 1 ≤ n := by omega
        have hn2 : n ≤ N - A := by omega
        obtain ⟨X, hX⟩ : ∃ X, X = n * r := ⟨_, rfl⟩
        have hX1 : 0 ≤ X := by rw [hX]; exact mul_nonneg (by omega) (by omega)
        have hX2 : X ≤ 1152921504606846976 := by
          rw [hX]
          have := mul_le_of (a := n) (b := r) (c := 1099511627776) (d := 1048576) (by omega) (by omega) (by omega) (by omega)
          omega
        have e7 : IntKind.i64.wrap (n * r) = X := by rw [← hX, IntWalk.i64_in _ (by omega)]
        obtain ⟨Y, hY⟩ : ∃ Y, Y = L + X := ⟨_, rfl⟩
        have e8 : IntKind.i64.wrap (L + X) = Y := by rw [IntWalk.i64_in _ (by omega)]; exact hY.symm
        obtain ⟨L2, hL2⟩ : ∃ L2, L2 = min m (L + n * r) := ⟨_, rfl⟩
        have e9 : (if Y < m then Y else m) = L2 := by rw [hL2, ← hX, ← hY]; split <;> omega
        obtain ⟨A2, hA2⟩ : ∃ A2, A2 = A + n := ⟨_, rfl⟩
        have e10 : IntKind.i64.wrap (A + n) = A2 := by rw [IntWalk.i64_in _ (by omega)]; exact hA2.symm
        have hpart := onP_part ⟨r, m, L, A⟩ now n (by omega) (by simp only; omega) (by rw [HNW.out]; simp only; omega)
        simp only at hpart
        rw [← hL2, ← hA2] at hpart
        have hok2 : Ok ⟨r, m, L2, A2⟩ := by
          rw [← hX] at hL2
          exact ⟨by simp only; omega, by simp only; omega, by simp only; omega, by simp only; omega, by simp only; omega, by simp only; omega, by simp only; omega, by simp only; omega⟩
        have hnw2 : nowC ⟨r, m, L2, A2⟩ now = N := by
          have := HNW.out
          unfold nowC at this ⊢
          simp only at this ⊢
          omega
        have HK2 := Lib.hid (show onP ⟨r, m, L2, A2⟩ now = onP ⟨r, m, l, a⟩ now ∧ Ok ⟨r, m, L2, A2⟩ ∧ nowC ⟨r, m, L2, A2⟩ now = N ∧ A2 ≤ N ∧ N - A2 ≤ ((gk - 1 : Nat) : Int) ∧ gk - 1 < gk from
          ⟨hpart.trans HO.out, hok2, hnw2, by omega, by omega, by omega⟩)
        have hs0 : 0 ≤ s := by omega
        have hd0 : 0 ≤ d := by omega
        clear hpart hok2 hnw2 hs hd hq hu hn hX hY hL2 hA2
        go_wp2_with fail
        go_quiet (fail)
        go_wp2_with fail
        obtain ⟨k1, k2, k3, k4, k5, k6⟩ := HK2.out
        go_roundg (gk - 1)
        case measure => exact k6
        case rel => exact ⟨L2, A2, k2, k1, k3, k4, k5, ((hb.drewN _).set_ 2 _).set_ 3 _, ((hc.drewN _).far (p := ⟨B, 2, none⟩) (by simp) _).far (p := ⟨B, 3, none⟩) (by simp) _, ((below_drewN hbl _).setCell (p := ⟨B, 2, none⟩) (Nat.le_refl _) _).setCell (p := ⟨B, 3, none⟩) (Nat.le_refl _) _⟩
      · have HF := Lib.hid (show onP ⟨r, m, l, a⟩ now = ⟨r, m, L, N⟩ by
          rw [← HO.out]; unfold onP; rw [HNW.out]; simp only [P.mk.injEq, true_and, and_true]
          have := mul_nonneg (a := N - A) (b := r) (by omega) (by omega)
          omega)
        have d0 := Blk.cell hc 0
        have d1 := Blk.cell hc 1
        have d2 := Blk.cell hc 2
        have d3 := Blk.cell hc 3
        have g0 := Blk.frozen hc 0
        have g1 := Blk.frozen hc 1
        have g2 := Blk.frozen hc 2
        have g3 := Blk.frozen hc 3
        go_wp2_with fail
        refine bodyPost_ret (v := .agg (pc (onP ⟨r, m, l, a⟩ now))) ?_ rfl ⟨rfl, ?_⟩
        · rw [HF.out]
          simp [results, Try.results39, go_sem, pc, d0, d1, d2, d3]
        · rw [← HB.out]
          exact ((((hbl.setCell (p := ⟨B, 3, none⟩) (Nat.le_refl _) _).setCell (p := ⟨B + 1, 0, none⟩) (by simp) _).setCell (p := ⟨B + 1, 1, none⟩) (by simp) _).setCell (p := ⟨B + 1, 2, none⟩) (by simp) _).setCell (p := ⟨B + 1, 3, none⟩) (by simp) _
    · obtain rfl : A = N := by omega
      have HF := Lib.hid (show onP ⟨r, m, l, a⟩ now = ⟨r, m, L, A⟩ by
        rw [← HO.out]; unfold onP; rw [HNW.out]; simp only [P.mk.injEq, true_and, and_true]
        rw [Int.sub_self, Int.zero_mul]; omega)
      have d0 := Blk.cell hc 0
      have d1 := Blk.cell hc 1
      have d2 := Blk.cell hc 2
      have d3 := Blk.cell hc 3
      have g0 := Blk.frozen hc 0
      have g1 := Blk.frozen hc 1
      have g2 := Blk.frozen hc 2
      have g3 := Blk.frozen hc 3
      go_wp2_with fail
      refine bodyPost_ret (v := .agg (pc (onP ⟨r, m, l, a⟩ now))) ?_ rfl ⟨rfl, ?_⟩
      · rw [HF.out]
        simp [results, Try.results39, go_sem, pc, d0, d1, d2, d3]
      · rw [← HB.out]
        exact ((((hbl.setCell (p := ⟨B, 3, none⟩) (Nat.le_refl _) _).setCell (p := ⟨B + 1, 0, none⟩) (by simp) _).setCell (p := ⟨B + 1, 1, none⟩) (by simp) _).setCell (p := ⟨B + 1, 2, none⟩) (by simp) _).setCell (p := ⟨B + 1, 3, none⟩) (by simp) _

theorem four {w : World} {g : Nat} {t : TypeId} {x0 x1 x2 x3 : Value} (h : Blk w g t #[x0, x1, x2, x3]) :
    (w.cell? ⟨g, 0, none⟩ = some x0 ∧ w.cell? ⟨g, 1, none⟩ = some x1 ∧ w.cell? ⟨g, 2, none⟩ = some x2 ∧ w.cell? ⟨g, 3, none⟩ = some x3) ∧
    (w.frozen? ⟨g, 0, none⟩ = false ∧ w.frozen? ⟨g, 1, none⟩ = false ∧ w.frozen? ⟨g, 2, none⟩ = false ∧ w.frozen? ⟨g, 3, none⟩ = false) :=
  ⟨⟨Blk.cell h 0, Blk.cell h 1, Blk.cell h 2, Blk.cell h 3⟩, Blk.frozen h 0, Blk.frozen h 1, Blk.frozen h 2, Blk.frozen h 3⟩
theorem set4 {B : Nat} {a w : World} (h : Below B a w) {g : Nat} (hg : B ≤ g) (x0 x1 x2 x3 : Value) :
    Below B a ((((w.setCell ⟨g, 0, none⟩ x0).setCell ⟨g, 1, none⟩ x1).setCell ⟨g, 2, none⟩ x2).setCell ⟨g, 3, none⟩ x3) :=
  (((h.setCell (p := ⟨g, 0, none⟩) hg _).setCell (p := ⟨g, 1, none⟩) hg _).setCell (p := ⟨g, 2, none⟩) hg _).setCell (p := ⟨g, 3, none⟩) hg _
theorem four_ints {w : World} {g : Nat} {t : TypeId} {x0 x1 x2 x3 : Value} (h : Blk w g t #[x0, x1, x2, x3]) (y0 y1 y2 y3 : Value) :
    Blk ((((w.setCell ⟨g, 0, none⟩ y0).setCell ⟨g, 1, none⟩ y1).setCell ⟨g, 2, none⟩ y2).setCell ⟨g, 3, none⟩ y3) g t #[y0, y1, y2, y3] := by
  have := (((h.set_ 0 y0).set_ 1 y1).set_ 2 y2).set_ 3 y3
  simpa using this
theorem far4 {w : World} {g g' : Nat} {t : TypeId} {cs : Array Value} (h : Blk w g t cs) (hne : g ≠ g') (y0 y1 y2 y3 : Value) :
    Blk ((((w.setCell ⟨g', 0, none⟩ y0).setCell ⟨g', 1, none⟩ y1).setCell ⟨g', 2, none⟩ y2).setCell ⟨g', 3, none⟩ y3) g t cs :=
  (((h.far (p := ⟨g', 0, none⟩) hne _).far (p := ⟨g', 1, none⟩) hne _).far (p := ⟨g', 2, none⟩) hne _).far (p := ⟨g', 3, none⟩) hne _

set_option maxHeartbeats 1000000 in
theorem reftake_any (p : P) (n now : Int) (w : World) (hp : Ok p) (n1 : -9223372036854775808 ≤ now) (n2 : now ≤ 9223372036854775807) (m1 : -9223372036854775808 ≤ n) (m2 : n ≤ 9223372036854775807) :
    Calls Try.prog 35 #[.agg #[.int .i64 p.rate, .int .i64 p.most, .int .i64 p.left, .int .i64 p.at_], .int .i64 n, .int .i64 now] w fun e w' => e = .returned (.tuple #[.agg (pc (takeP p n now)), .bool (takeB (onP p now) n)]) ∧ Below w.heap.size w w' := by
  have hok := onP_ok p now hp
  have l1 := hok.l1
  have l2 := hok.l2
  have l3 := hok.m2
  obtain ⟨r, hr⟩ : ∃ r, r = (onP p now).rate := ⟨_, rfl⟩
  obtain ⟨m, hm⟩ : ∃ m, m = (onP p now).most := ⟨_, rfl⟩
  obtain ⟨L, hL⟩ : ∃ L, L = (onP p now).left := ⟨_, rfl⟩
  obtain ⟨A, hA⟩ : ∃ A, A = (onP p now).at_ := ⟨_, rfl⟩
  rw [← hL] at l1 l2
  rw [← hm] at l2 l3
  have hq : onP p now = ⟨r, m, L, A⟩ := by rw [hr, hm, hL, hA]
  have HQ := Lib.hid hq
  clear hr hm hL hA hq hok
  go_enter Try.func35, Try.ntmps35
  go_wp2_with fail
  obtain ⟨B, hB⟩ : ∃ B, B = w.heap.size := ⟨_, rfl⟩
  obtain ⟨W0, hW0⟩ : ∃ W0, W0 = (w.alloc (.cells #[.int .i64 p.rate, .int .i64 p.most, .int .i64 p.left, .int .i64 p.at_] 56)).alloc (.cells #[.int .i64 0, .int .i64 0, .int .i64 0, .int .i64 0] 56) := ⟨_, rfl⟩
  have hb0 : Blk W0 B 56 #[.int .i64 p.rate, .int .i64 p.most, .int .i64 p.left, .int .i64 p.at_] := by rw [hW0, hB]; exact (Blk.new _ _ _).alloc _
  have hb1 : Blk W0 (B + 1) 56 #[.int .i64 0, .int .i64 0, .int .i64 0, .int .i64 0] := by rw [hW0, hB]; simpa using Blk.new (w.alloc (.cells #[.int .i64 p.rate, .int .i64 p.most, .int .i64 p.left, .int .i64 p.at_] 56)) 56 #[.int .i64 0, .int .i64 0, .int .i64 0, .int .i64 0]
  have hbel : Below B w W0 := by rw [hW0, hB]; exact ((Below.refl _ _).alloc (Nat.le_refl _) _).alloc (by simp) _
  rw [← hW0, ← hB]
  have HB := Lib.hid hB
  clear hW0 hB
  refine (go_any p now _ hp n1 n2).mono ?_; rintro e w1 ⟨rfl, hbw⟩
  rw [HQ.out]
  unfold pc
  have hb0' := hb0.below hbw hb0.lt
  have hb1' := hb1.below hbw hb1.lt
  have hbel1 : Below B w w1 := hbel.trans (hbw.mono (Nat.le_of_lt hb0.lt))
  obtain ⟨⟨c0, c1, c2, c3⟩, f0, f1, f2, f3⟩ := four hb0'
  obtain ⟨⟨d0, d1, d2, d3⟩, g0, g1, g2, g3⟩ := four hb1'
  go_upto_region 2 with fail
  obtain ⟨W1, hW1⟩ : ∃ W1, W1 = (((w1.setCell ⟨B, 0, none⟩ (.int .i64 r)).setCell ⟨B, 1, none⟩ (.int .i64 m)).setCell ⟨B, 2, none⟩ (.int .i64 L)).setCell ⟨B, 3, none⟩ (.int .i64 A) := ⟨_, rfl⟩
  have hv0 : Blk W1 B 56 #[.int .i64 r, .int .i64 m, .int .i64 L, .int .i64 A] := by rw [hW1]; exact four_ints hb0' _ _ _ _
  have hv1 : Blk W1 (B + 1) 56 #[.int .i64 0, .int .i64 0, .int .i64 0, .int .i64 0] := by rw [hW1]; exact far4 hb1' (by simp) _ _ _ _
  have hbel2 : Below B w W1 := by rw [hW1]; exact set4 hbel1 (Nat.le_refl _) _ _ _ _
  rw [← hW1]
  clear hW1 hbel1 hb0' hb1' hbw hbel hb0 hb1 c0 c1 c2 c3 f0 f1 f2 f3 d0 d1 d2 d3 g0 g1 g2 g3
  obtain ⟨⟨c0, c1, c2, c3⟩, f0, f1, f2, f3⟩ := four hv0
  obtain ⟨⟨d0, d1, d2, d3⟩, g0, g1, g2, g3⟩ := four hv1
  by_cases h1 : n < 1
  · have hT : takeB (onP p now) n = false := by unfold takeB; rw [HQ.out]; simp [h1]
    have hT2 : takeP p n now = ⟨r, m, L, A⟩ := by unfold takeP; rw [hT, HQ.out]; simp
    have HT := Lib.hid hT
    have HT2 := Lib.hid hT2
    clear hT hT2
    go_wp2_with fail
    refine bodyPost_ret (v := .tuple #[.agg (pc (takeP p n now)), .bool (takeB (onP p now) n)]) ?_ rfl ⟨rfl, ?_⟩
    · rw [HT.out, HT2.out]
      simp [results, Try.results35, go_sem, pc, d0, d1, d2, d3]
    · rw [← HB.out]
      exact set4 hbel2 (by simp) _ _ _ _
  by_cases h2 : L < n
  · have hT : takeB (onP p now) n = false := by unfold takeB; rw [HQ.out]; simp [h2]
    have hT2 : takeP p n now = ⟨r, m, L, A⟩ := by unfold takeP; rw [hT, HQ.out]; simp
    have HT := Lib.hid hT
    have HT2 := Lib.hid hT2
    clear hT hT2
    go_wp2_with fail
    refine bodyPost_ret (v := .tuple #[.agg (pc (takeP p n now)), .bool (takeB (onP p now) n)]) ?_ rfl ⟨rfl, ?_⟩
    · rw [HT.out, HT2.out]
      simp [results, Try.results35, go_sem, pc, d0, d1, d2, d3]
    · rw [← HB.out]
      exact set4 hbel2 (by simp) _ _ _ _
  · have hT : takeB (onP p now) n = true := by unfold takeB; rw [HQ.out]; simp; omega
    have hT2 : takeP p n now = ⟨r, m, L - n, A⟩ := by unfold takeP; rw [hT, HQ.out]; simp
    have HT := Lib.hid hT
    have HT2 := Lib.hid hT2
    clear hT hT2
    go_wp2_with fail
    refine bodyPost_ret (v := .tuple #[.agg (pc (takeP p n now)), .bool (takeB (onP p now) n)]) ?_ rfl ⟨rfl, ?_⟩
    · rw [HT.out, HT2.out]
      simp [results, Try.results35, go_sem, pc, d0, d1, d2, d3]
    · rw [← HB.out]
      exact set4 (hbel2.setCell (p := ⟨B, 2, none⟩) (Nat.le_refl _) _) (by simp) _ _ _ _

set_option maxHeartbeats 1000000 in
theorem refwhen_any (p : P) (n now : Int) (w : World) (hp : Ok p) (n1 : -9223372036854775808 ≤ now) (n2 : now ≤ 9223372036854775807) (m1 : -9223372036854775808 ≤ n) (m2 : n ≤ 9223372036854775807) :
    Calls Try.prog 37 #[.agg #[.int .i64 p.rate, .int .i64 p.most, .int .i64 p.left, .int .i64 p.at_], .int .i64 n, .int .i64 now] w fun e w' => e = .returned (.tuple #[.int .i64 (whenP p n now).1, .bool (whenP p n now).2]) ∧ Below w.heap.size w w' := by
  by_cases h1 : n < 1
  · have HB := Lib.hid (show whenP p n now = (0, false) by unfold whenP; rw [if_pos (.inl h1)])
    go_enter Try.func37, Try.ntmps37
    go_wp2_with fail
    go_ret2
    exact ⟨by rw [HB.out]; rfl, (Below.refl _ _).alloc (Nat.le_refl _) _⟩
  by_cases h2 : p.most < n
  · have HB := Lib.hid (show whenP p n now = (0, false) by unfold whenP; rw [if_pos (.inr h2)])
    go_enter Try.func37, Try.ntmps37
    go_wp2_with fail
    go_ret2
    exact ⟨by rw [HB.out]; rfl, (Below.refl _ _).alloc (Nat.le_refl _) _⟩
  have hok := onP_ok p now hp
  have hm2 := hp.m2
  have l1 := hok.l1
  have l2 := hok.l2
  have a1 := hok.a1
  have a2 := hok.a2
  have r1 := hok.r1
  have r2 := hok.r2
  have l3 := hok.m2
  have hmm := (onP_rate p now).2
  have hrr := (onP_rate p now).1
  obtain ⟨r, hr⟩ : ∃ r, r = (onP p now).rate := ⟨_, rfl⟩
  obtain ⟨m, hm⟩ : ∃ m, m = (onP p now).most := ⟨_, rfl⟩
  obtain ⟨L, hL⟩ : ∃ L, L = (onP p now).left := ⟨_, rfl⟩
  obtain ⟨A, hA⟩ : ∃ A, A = (onP p now).at_ := ⟨_, rfl⟩
  have hW : whenP p n now = if T - A < ticks r (max 0 (n - L)) then (0, false) else (A + ticks r (max 0 (n - L)), true) := by
    unfold whenP; rw [if_neg (by omega), ← hL, ← hA, hr, hrr]
  rw [← hL] at l1 l2
  rw [← hm] at l2 l3 hmm
  rw [← hA] at a1 a2
  rw [← hr] at r1 r2
  have hq : onP p now = ⟨r, m, L, A⟩ := by rw [hr, hm, hL, hA]
  have HQ := Lib.hid hq
  have hnm : n ≤ m := by omega
  clear hr hm hL hA hq hok hmm hrr hm2
  go_enter Try.func37, Try.ntmps37
  go_wp2_with fail
  obtain ⟨B, hB⟩ : ∃ B, B = w.heap.size := ⟨_, rfl⟩
  obtain ⟨W0, hW0⟩ : ∃ W0, W0 = w.alloc (.cells #[.int .i64 p.rate, .int .i64 p.most, .int .i64 p.left, .int .i64 p.at_] 56) := ⟨_, rfl⟩
  have hb0 : Blk W0 B 56 #[.int .i64 p.rate, .int .i64 p.most, .int .i64 p.left, .int .i64 p.at_] := by rw [hW0, hB]; exact Blk.new _ _ _
  have hbel : Below B w W0 := by rw [hW0, hB]; exact (Below.refl _ _).alloc (Nat.le_refl _) _
  rw [← hW0]
  have HB := Lib.hid hB
  try rw [← hB]
  clear hW0 hB
  refine (go_any p now _ hp n1 n2).mono ?_; rintro e w1 ⟨rfl, hbw⟩
  rw [HQ.out]
  unfold pc
  have hb0' := hb0.below hbw hb0.lt
  have hbel1 : Below B w w1 := hbel.trans (hbw.mono (Nat.le_of_lt hb0.lt))
  obtain ⟨⟨c0, c1, c2, c3⟩, f0, f1, f2, f3⟩ := four hb0'
  have HW := Lib.hid hW
  clear hW
  by_cases h3 : n ≤ L
  · have HV := Lib.hid (show whenP p n now = (A, true) by
      rw [HW.out, show max 0 (n - L) = 0 by omega]
      have : ticks r 0 = 0 := by unfold ticks; rw [Int.zero_add]; exact Int.ediv_eq_zero_of_lt (by omega) (by omega)
      rw [this, if_neg (by unfold T; omega)]; simp)
    go_wp2_with fail
    go_ret2
    exact ⟨by rw [HV.out]; rfl, by rw [← HB.out]; exact set4 hbel1 (Nat.le_refl _) _ _ _ _⟩
  · obtain ⟨M, hM⟩ : ∃ M, M = n - L := ⟨_, rfl⟩
    have e1 : IntKind.i64.wrap (n - L) = M := by rw [IntWalk.i64_in _ (by omega)]; exact hM.symm
    obtain ⟨a, ha⟩ : ∃ a, a = M + r := ⟨_, rfl⟩
    have e2 : IntKind.i64.wrap (M + r) = a := by rw [IntWalk.i64_in _ (by omega)]; exact ha.symm
    obtain ⟨b, hb⟩ : ∃ b, b = a - 1 := ⟨_, rfl⟩
    have e3 : IntKind.i64.wrap (a - 1) = b := by rw [IntWalk.i64_in _ (by omega)]; exact hb.symm
    obtain ⟨q, hq⟩ : ∃ q, q = ticks r M := ⟨_, rfl⟩
    have hqb := ticks_bound (rate := r) (more := M) r1 (by omega) (by omega)
    have hqn := ticks_nonneg (rate := r) (more := M) r1 (by omega)
    rw [← hq] at hqb hqn
    have hq2 : b / r = q := by rw [hq, hb, ha]; rfl
    have e4 : IntKind.i64.wrap (b.tdiv r) = q := by rw [Int.tdiv_eq_ediv_of_nonneg (by omega), hq2, IntWalk.i64_in _ (by omega)]
    have e5 : (r == 0) = false := by rw [beq_eq_false_iff_ne]; omega
    have hb0 : 0 ≤ b := by omega
    have hV : whenP p n now = if T - A < q then (0, false) else (A + q, true) := by
      rw [HW.out, show max 0 (n - L) = M by omega, ← hq]
    unfold T at hV
    clear hM ha hb hq
    by_cases h4 : 1099511627776 - A < q
    · rw [if_pos h4] at hV
      have HV := Lib.hid hV
      clear hV
      go_wp2_with fail
      go_ret2
      exact ⟨by rw [HV.out]; rfl, by rw [← HB.out]; exact set4 hbel1 (Nat.le_refl _) _ _ _ _⟩
    · rw [if_neg h4] at hV
      have HV := Lib.hid hV
      clear hV
      go_wp2_with fail
      go_ret2
      exact ⟨by rw [HV.out]; rfl, by rw [← HB.out]; exact set4 hbel1 (Nat.le_refl _) _ _ _ _⟩
end Go.Proofs.Ytfghllgkbdfedaa.Pac
