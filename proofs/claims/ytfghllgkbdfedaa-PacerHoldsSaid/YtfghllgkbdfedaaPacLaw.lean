/- PacerPlays, walked: it returns true; no condition but that the arguments are of their kinds. -/
import Derived.Test.YtfghllgkbdfedaaPacRef
import Derived.Test.YtfghllgkbdfedaaWords3
import Derived.Deep.RegionWith
import Derived.Deep.DrawnRows
namespace Go.Proofs.Ytfghllgkbdfedaa.Pac
open Go.RowKit
set_option maxRecDepth 100000

theorem take_is (g : Nat) (p p' : P) (n now : Int) (b : Bool) (w : World) (h : Pw w g p) (hp : Ok p) (n1 : -9223372036854775808 ≤ now) (n2 : now ≤ 9223372036854775807) (m1 : -9223372036854775808 ≤ n) (m2 : n ≤ 9223372036854775807)
    (hb : takeB (onP p now) n = b) (hs : takeP p n now = p') :
    Calls Try.prog 36 #[.pointer (some ⟨g, 0, none⟩), .int .i64 n, .int .i64 now] w fun e w' => e = .returned (.bool b) ∧ Pw w' g p' ∧ w.grownBy w' (some g) := by
  subst hb hs; exact take_any g p n now w h hp n1 n2 m1 m2
theorem left_is (g : Nat) (p p' : P) (now l : Int) (w : World) (h : Pw w g p) (hp : Ok p) (n1 : -9223372036854775808 ≤ now) (n2 : now ≤ 9223372036854775807) (hs : onP p now = p') (hl : p'.left = l) :
    Calls Try.prog 40 #[.pointer (some ⟨g, 0, none⟩), .int .i64 now] w fun e w' => e = .returned (.int .i64 l) ∧ Pw w' g p' ∧ w.grownBy w' (some g) := by
  subst hs hl; exact left_any g p now w h hp n1 n2
theorem when_is (g : Nat) (p p' : P) (n now t : Int) (b : Bool) (w : World) (h : Pw w g p) (hp : Ok p) (n1 : -9223372036854775808 ≤ now) (n2 : now ≤ 9223372036854775807) (m1 : -9223372036854775808 ≤ n) (m2 : n ≤ 9223372036854775807)
    (hw : whenP p n now = (t, b)) (hs : whenS p n now = p') :
    Calls Try.prog 38 #[.pointer (some ⟨g, 0, none⟩), .int .i64 n, .int .i64 now] w fun e w' => e = .returned (.tuple #[.int .i64 t, .bool b]) ∧ Pw w' g p' ∧ w.grownBy w' (some g) := by
  have := when_any g p n now w h hp n1 n2 m1 m2
  rw [hw, hs] at this
  exact this
theorem below_of_grown {B g : Nat} {a w w' : World} (h : Below B a w) (hg : w.grownBy w' (some g)) (hB : B ≤ g) (hw : B ≤ w.heap.size) : Below B a w' :=
  h.grown hg hw (fun k hk => by injection hk with hk; omega)

theorem awake_any (w : World) : Calls Try.prog 33 #[] w fun e w' => e = .returned (.bool true) ∧ Below w.heap.size w w' := by
  have o0 : Ok ⟨2, 5, 5, 0⟩ := ⟨by decide, by decide, by decide, by decide, by decide, by decide, by decide, by decide⟩
  have o1 : Ok ⟨2, 5, 0, 0⟩ := ⟨by decide, by decide, by decide, by decide, by decide, by decide, by decide, by decide⟩
  have o2 : Ok ⟨2, 5, 2, 1⟩ := ⟨by decide, by decide, by decide, by decide, by decide, by decide, by decide, by decide⟩
  have o3 : Ok ⟨2, 5, 0, 1⟩ := ⟨by decide, by decide, by decide, by decide, by decide, by decide, by decide, by decide⟩
  go_enter Try.func33, Try.ntmps33
  go_wp2_with fail
  refine (new_ok 2 5 _ (by unfold newBad; omega)).mono ?_; rintro e w' ⟨rfl, rfl⟩
  have hw0 := new_win 2 5 w
  have hb0 : Below w.heap.size w (w.alloc (.cells #[.int .i64 2, .int .i64 5, .int .i64 5, .int .i64 0] 89)) := (Below.refl _ _).alloc (Nat.le_refl _) _
  obtain ⟨W0, hW0⟩ : ∃ W0, W0 = w.alloc (.cells #[.int .i64 2, .int .i64 5, .int .i64 5, .int .i64 0] 89) := ⟨_, rfl⟩
  rw [← hW0] at hw0 hb0 ⊢
  clear hW0
  go_wp2_with fail
  refine (new_bad 0 5 _ (by unfold newBad; omega)).mono ?_; rintro e w' ⟨rfl, rfl⟩
  go_wp2_with fail
  refine (take_is _ _ ⟨2, 5, 0, 0⟩ 5 0 true _ hw0 o0 (by decide) (by decide) (by decide) (by decide) (by rfl) (by rfl)).mono ?_; rintro e w1 ⟨rfl, hw1, hg1⟩
  go_wp2_with fail
  refine (left_is _ _ ⟨2, 5, 2, 1⟩ 1 2 _ hw1 o1 (by decide) (by decide) (by rfl) (by rfl)).mono ?_; rintro e w2 ⟨rfl, hw2, hg2⟩
  go_wp2_with fail
  refine (when_is _ _ ⟨2, 5, 2, 1⟩ 3 1 2 true _ hw2 o2 (by decide) (by decide) (by decide) (by decide) (by rfl) (by rfl)).mono ?_; rintro e w3 ⟨rfl, hw3, hg3⟩
  go_wp2_with fail
  refine (when_is _ _ ⟨2, 5, 2, 1⟩ 6 1 0 false _ hw3 o2 (by decide) (by decide) (by decide) (by decide) (by rfl) (by rfl)).mono ?_; rintro e w4 ⟨rfl, hw4, hg4⟩
  go_wp2_with fail
  refine (take_is _ _ ⟨2, 5, 2, 1⟩ 3 1 false _ hw4 o2 (by decide) (by decide) (by decide) (by decide) (by rfl) (by rfl)).mono ?_; rintro e w5 ⟨rfl, hw5, hg5⟩
  go_wp2_with fail
  refine (take_is _ _ ⟨2, 5, 0, 1⟩ 2 0 true _ hw5 o2 (by decide) (by decide) (by decide) (by decide) (by rfl) (by rfl)).mono ?_; rintro e w6 ⟨rfl, hw6, hg6⟩
  go_wp2_with fail
  refine (left_is _ _ ⟨2, 5, 5, 9⟩ 9 5 _ hw6 o3 (by decide) (by decide) (by rfl) (by rfl)).mono ?_; rintro e w7 ⟨rfl, hw7, hg7⟩
  go_wp2_with fail
  go_ret
  have hg := grown_trans2 (grown_trans2 (grown_trans2 (grown_trans2 (grown_trans2 (grown_trans2 hg1 hg2) hg3) hg4) hg5) hg6) hg7
  exact ⟨rfl, below_of_grown hb0 hg (Nat.le_refl _) hb0.size⟩

/-- a deed -/
structure D where
  kind : Int
  n : Int
  now : Int
def dv (d : D) : List Value := [.int .i64 d.kind, .int .i64 d.n, .int .i64 d.now]
/-- a row of deeds in memory -/
def Deeds (w : World) (a : Option Addr) (len : Nat) (ds : List D) : Prop := ds.length = len ∧ Reads w w.heap.size 3 a len (ds.flatMap dv) ∧ ∀ d ∈ ds, (-9223372036854775808 ≤ d.n ∧ d.n ≤ 9223372036854775807) ∧ (-9223372036854775808 ≤ d.now ∧ d.now ≤ 9223372036854775807)
theorem Deeds.at_ {w : World} {a : Option Addr} {len k : Nat} {ds : List D} (h : Deeds w a len ds) (hk : k < len) : ∃ ad d q, a = some ad ∧ ds[k]? = some d ∧ ad.add (k * 3) = q ∧ q.block < w.heap.size ∧
    w.cell? q = some (.int .i64 d.kind) ∧ w.cell? ⟨q.block, q.off + 1, none⟩ = some (.int .i64 d.n) ∧ w.cell? ⟨q.block, q.off + 2, none⟩ = some (.int .i64 d.now) := by
  obtain ⟨hl, hr, _⟩ := h
  obtain ⟨ad, e, hb, hc⟩ := hr.2 (by omega)
  have hd : ds[k]? = some ds[k] := List.getElem?_eq_getElem (by omega)
  have hf := flat_at dv 3 (fun _ => rfl) ds k
  refine ⟨ad, ds[k], _, e, hd, rfl, by rw [block_of_add]; exact hb, hc _ _ (hf 0 _ hd (by omega)), ?_, ?_⟩
  · have := hc _ _ (hf 1 _ hd (by omega))
    rw [← add_of_add, add_one] at this
    exact this
  · have := hc _ _ (hf 2 _ hd (by omega))
    rw [← add_of_add, add_two] at this
    exact this

/-- what a round holds: the pacer, the reference's struct, the deed -/
structure Hold (B G : Nat) (w wr : World) (p q : P) (K N X : Int) : Prop where
  pw : Pw wr B p
  xw : Blk wr (B + 1) 56 #[.int .i64 q.rate, .int .i64 q.most, .int .i64 q.left, .int .i64 q.at_]
  dw : Blk wr G 58 #[.int .i64 K, .int .i64 N, .int .i64 X]
  bel : Below B w wr
  hG : B + 1 < G
section
variable {B G : Nat} {w wr wr' : World} {p p' q q' : P} {K N X : Int}
theorem Hold.dc (h : Hold B G w wr p q K N X) : wr.cell? ⟨G, 0, none⟩ = some (.int .i64 K) ∧ wr.cell? ⟨G, 1, none⟩ = some (.int .i64 N) ∧ wr.cell? ⟨G, 2, none⟩ = some (.int .i64 X) :=
  ⟨Blk.cell h.dw 0, Blk.cell h.dw 1, Blk.cell h.dw 2⟩
theorem Hold.size (h : Hold B G w wr p q K N X) : G < wr.heap.size := Blk.lt h.dw
theorem Hold.pacer (h : Hold B G w wr p q K N X) (hp : Pw wr' B p') (hg : wr.grownBy wr' (some B)) : Hold B G w wr' p' q K N X :=
  ⟨hp, h.xw.grown hg (by simp), h.dw.grown hg (by have := h.hG; simp; omega), below_of_grown h.bel hg (Nat.le_refl _) (by have := h.size; have := h.hG; omega), h.hG⟩
theorem Hold.below (h : Hold B G w wr p q K N X) (hb : Below wr.heap.size wr wr') : Hold B G w wr' p q K N X :=
  ⟨Blk.below h.pw hb (Blk.lt h.pw), h.xw.below hb h.xw.lt, h.dw.below hb h.dw.lt, h.bel.trans (hb.mono (Nat.le_of_lt (Blk.lt h.pw))), h.hG⟩
theorem Hold.alloc (h : Hold B G w wr p q K N X) (o : Obj) : Hold B G w (wr.alloc o) p q K N X := h.below ((Below.refl _ _).alloc (Nat.le_refl _) _)
theorem Hold.drew (h : Hold B G w wr p q K N X) : Hold B G w wr.drew p q K N X := ⟨h.pw, h.xw, h.dw, h.bel.drew, h.hG⟩
theorem Hold.drewN (h : Hold B G w wr p q K N X) (n : Nat) : Hold B G w (wr.drewN n) p q K N X := ⟨h.pw, h.xw, h.dw, below_drewN h.bel n, h.hG⟩
theorem Hold.setx (h : Hold B G w wr p q K N X) (q' : P) : Hold B G w ((((wr.setCell ⟨B + 1, 0, none⟩ (.int .i64 q'.rate)).setCell ⟨B + 1, 1, none⟩ (.int .i64 q'.most)).setCell ⟨B + 1, 2, none⟩ (.int .i64 q'.left)).setCell ⟨B + 1, 3, none⟩ (.int .i64 q'.at_)) p q' K N X :=
  ⟨far4 h.pw (by omega) _ _ _ _, four_ints h.xw _ _ _ _, far4 h.dw (by have := h.hG; omega) _ _ _ _, set4 h.bel (by omega) _ _ _ _, h.hG⟩
end

set_option maxHeartbeats 4000000 in
theorem pacerPlays_walk (a0 a1 : Int) (a2 : Option Addr) (len2 cap2 : Nat) (ds : List D) (w : World) (hi0 : -9223372036854775808 ≤ a0 ∧ a0 ≤ 9223372036854775807) (hi1 : -9223372036854775808 ≤ a1 ∧ a1 ≤ 9223372036854775807) (hd : Deeds w a2 len2 ds) :
    Calls Try.prog 11 #[.int .i64 a0, .int .i64 a1, .slice a2 len2 cap2] w fun e w' => e = .returned (.bool true) ∧ Below w.heap.size w w' := by
  by_cases hl : 60 < len2
  · go_enter Try.func11, Try.ntmps11
    go_wp2_with (go_at_call 33; refine (awake_any _).mono ?_; rintro e w' ⟨rfl, hb⟩)
    go_ret
    exact ⟨rfl, hb⟩
  by_cases hbad : newBad a0 a1
  · have HB := Lib.hid hbad
    unfold newBad at hbad
    by_cases b1 : a0 < 1
    · clear hbad
      go_enter Try.func11, Try.ntmps11
      go_wp2_with fail
      refine (new_bad _ _ _ HB.out).mono ?_; rintro e w' ⟨rfl, rfl⟩
      go_wp2_with (go_at_call 33; refine (awake_any _).mono ?_; rintro e w' ⟨rfl, hb⟩)
      go_ret
      exact ⟨rfl, hb⟩
    by_cases b2 : 1048576 < a0
    · clear hbad
      go_enter Try.func11, Try.ntmps11
      go_wp2_with fail
      refine (new_bad _ _ _ HB.out).mono ?_; rintro e w' ⟨rfl, rfl⟩
      go_wp2_with (go_at_call 33; refine (awake_any _).mono ?_; rintro e w' ⟨rfl, hb⟩)
      go_ret
      exact ⟨rfl, hb⟩
    by_cases b3 : a1 < 1
    · clear hbad
      go_enter Try.func11, Try.ntmps11
      go_wp2_with fail
      refine (new_bad _ _ _ HB.out).mono ?_; rintro e w' ⟨rfl, rfl⟩
      go_wp2_with (go_at_call 33; refine (awake_any _).mono ?_; rintro e w' ⟨rfl, hb⟩)
      go_ret
      exact ⟨rfl, hb⟩
    have b4 : 1073741824 < a1 := by omega
    clear hbad
    go_enter Try.func11, Try.ntmps11
    go_wp2_with fail
    refine (new_bad _ _ _ HB.out).mono ?_; rintro e w' ⟨rfl, rfl⟩
    go_wp2_with (go_at_call 33; refine (awake_any _).mono ?_; rintro e w' ⟨rfl, hb⟩)
    go_ret
    exact ⟨rfl, hb⟩
  have hok := new_is a0 a1 hbad
  have HNB := Lib.hid hbad
  unfold newBad at hbad
  have d1 : decide (a0 < 1) = false := by simp; omega
  have d2 : decide (1048576 < a0) = false := by simp; omega
  have d3 : decide (a1 < 1) = false := by simp; omega
  have d4 : decide (1073741824 < a1) = false := by simp; omega
  have d5 : decide (60 < (len2 : Int)) = false := by simp; omega
  clear hbad hi0 hi1
  go_enter Try.func11, Try.ntmps11
  go_wp2_with fail
  refine (new_ok _ _ _ HNB.out).mono ?_; rintro e w' ⟨rfl, rfl⟩
  obtain ⟨B, hB⟩ : ∃ B, B = w.heap.size := ⟨_, rfl⟩
  have hw0 := new_win a0 a1 w
  rw [← hB] at hw0 ⊢
  have hb0 : Below B w (w.alloc (.cells #[.int .i64 a0, .int .i64 a1, .int .i64 a1, .int .i64 0] 89)) := by rw [hB]; exact (Below.refl _ _).alloc (Nat.le_refl _) _
  have hz0 : (w.alloc (.cells #[.int .i64 a0, .int .i64 a1, .int .i64 a1, .int .i64 0] 89)).heap.size = B + 1 := by rw [hB]; simp
  obtain ⟨W0, hW0⟩ : ∃ W0, W0 = w.alloc (.cells #[.int .i64 a0, .int .i64 a1, .int .i64 a1, .int .i64 0] 89) := ⟨_, rfl⟩
  rw [← hW0] at hw0 hb0 hz0 ⊢
  have HB := Lib.hid hB
  clear hW0 hB
  go_wp2_with fail
  obtain ⟨W1, hW1⟩ : ∃ W1, W1 = W0.alloc (.cells #[.int .i64 a0, .int .i64 a1, .int .i64 a1, .int .i64 0] 56) := ⟨_, rfl⟩
  have hx1 : Blk W1 (B + 1) 56 #[.int .i64 a0, .int .i64 a1, .int .i64 a1, .int .i64 0] := by rw [hW1, ← hz0]; exact Blk.new _ _ _
  have hw1 : Pw W1 B ⟨a0, a1, a1, 0⟩ := by rw [hW1]; exact Blk.alloc hw0 _
  have hb1 : Below B w W1 := by rw [hW1]; exact hb0.alloc (by omega) _
  rw [← hW1]
  clear hW1 hw0 hb0 hz0
  go_loopw [10] (fun i wr => ∃ (k : Nat) (p : P), k ≤ len2 ∧ i = .int .i64 k ∧ Ok p ∧ Pw wr B p ∧ Blk wr (B + 1) 56 #[.int .i64 p.rate, .int .i64 p.most, .int .i64 p.left, .int .i64 p.at_] ∧ Below B w wr) (fun i _ => len2 - (intOf i).toNat)
  case atStart => exact ⟨0, ⟨a0, a1, a1, 0⟩, by omega, rfl, hok, hw1, hx1, hb1⟩
  case round =>
    obtain ⟨k, p, hk, rfl, hpo, hpw, hxw, hbel⟩ := hrel
    by_cases hkl : k < len2
    · obtain ⟨ad, d, q, rfl, hdk, hq, hqb, hc0, hc1, hc2⟩ := hd.at_ hkl
      rw [← HB.out] at hqb
      obtain ⟨hin1, hin2⟩ := hd.2.2 d (List.mem_of_getElem? hdk)
      have k0 := (hbel.cell (p := q) hqb).trans hc0
      have k1 := (hbel.cell (p := ⟨q.block, q.off + 1, none⟩) hqb).trans hc1
      have k2 := (hbel.cell (p := ⟨q.block, q.off + 2, none⟩) hqb).trans hc2
      obtain ⟨K, N, X⟩ := d
      simp only at hin1 hin2 k0 k1 k2
      clear hdk hc0 hc1 hc2
      go_upto_region 13 with fail
      obtain ⟨G, hG⟩ : ∃ G, G = wr.heap.size := ⟨_, rfl⟩
      obtain ⟨W2, hW2⟩ : ∃ W2, W2 = wr.alloc (.cells #[.int .i64 K, .int .i64 N, .int .i64 X] 58) := ⟨_, rfl⟩
      have H2 : Hold B G w W2 p p K N X := by
        rw [hW2]
        exact ⟨Blk.alloc hpw _, hxw.alloc _, by rw [hG]; exact Blk.new _ _ _, hbel.alloc (Nat.le_of_lt (Blk.lt hpw)) _, by rw [hG]; exact hxw.lt⟩
      rw [← hW2, ← hG]
      clear hW2 hG k0 k1 k2 hpw hxw hbel hq
      obtain ⟨u0, u1, u2⟩ := H2.dc
      obtain ⟨⟨v0, v1, v2, v3⟩, g0, g1, g2, g3⟩ := four H2.xw
      obtain ⟨K0, hK0⟩ : ∃ b, b = (K == 0) := ⟨_, rfl⟩
      obtain ⟨K1, hK1⟩ : ∃ b, b = (K == 1) := ⟨_, rfl⟩
      cases K0 with
      | true =>
        have hk0 : (K == 0) = true := hK0.symm
        clear hK0 hK1
        go_wp2_with fail
        refine (reftake_any p N X _ hpo hin2.1 hin2.2 hin1.1 hin1.2).mono ?_; rintro e w3 ⟨rfl, hb3⟩
        have H3 := H2.below hb3
        clear u0 u1 u2 v0 v1 v2 v3 g0 g1 g2 g3
        unfold pc
        obtain ⟨qS, hqS⟩ : ∃ qS : P, qS = takeP p N X := ⟨_, rfl⟩
        obtain ⟨bS, hbS⟩ : ∃ bS : Bool, bS = takeB (onP p X) N := ⟨_, rfl⟩
        rw [← hqS, ← hbS]
        have okq : Ok qS := by rw [hqS]; exact takeP_ok p N X hpo
        have HqS := Lib.hid hqS
        have HbS := Lib.hid hbS
        clear hqS hbS
        have H3b := H3.alloc (.cells #[.int .i64 qS.rate, .int .i64 qS.most, .int .i64 qS.left, .int .i64 qS.at_] 56)
        obtain ⟨⟨v0, v1, v2, v3⟩, g0, g1, g2, g3⟩ := four H3b.xw
        go_upto_region 17 with fail
        obtain ⟨W4, hW4⟩ : ∃ W4, W4 = ((((w3.alloc (.cells #[.int .i64 qS.rate, .int .i64 qS.most, .int .i64 qS.left, .int .i64 qS.at_] 56)).setCell ⟨B + 1, 0, none⟩ (.int .i64 qS.rate)).setCell ⟨B + 1, 1, none⟩ (.int .i64 qS.most)).setCell ⟨B + 1, 2, none⟩ (.int .i64 qS.left)).setCell ⟨B + 1, 3, none⟩ (.int .i64 qS.at_) := ⟨_, rfl⟩
        have H4 : Hold B G w W4 p qS K N X := by rw [hW4]; exact H3b.setx qS
        rw [← hW4]
        clear hW4 v0 v1 v2 v3 g0 g1 g2 g3 H3 H3b
        obtain ⟨u0, u1, u2⟩ := H4.dc
        have okp : Ok qS := okq
        go_wp2_with fail
        refine (take_is B p qS N X bS _ H4.pw hpo hin2.1 hin2.2 hin1.1 hin1.2 HbS.out.symm HqS.out.symm).mono ?_; rintro e w5 ⟨rfl, hp5, hg5⟩
        have HT := H4.pacer hp5 hg5
        clear u0 u1 u2
        obtain ⟨u0, u1, u2⟩ := HT.dc
        obtain ⟨⟨v0, v1, v2, v3⟩, g0, g1, g2, g3⟩ := four HT.xw
        go_wp2_with fail
        refine (go_any _ X _ okq hin2.1 hin2.2).mono ?_; rintro e wa ⟨rfl, hba⟩
        have HA := HT.below hba
        clear u0 u1 u2 v0 v1 v2 v3 g0 g1 g2 g3
        unfold pc
        obtain ⟨rS, hrS⟩ : ∃ rS : P, rS = onP qS X := ⟨_, rfl⟩
        rw [← hrS]
        have heq : onP qS X = rS := hrS.symm
        have okr : Ok rS := by rw [hrS]; exact onP_ok qS X okq
        clear hrS
        obtain ⟨⟨v0, v1, v2, v3⟩, g0, g1, g2, g3⟩ := four HA.xw
        go_upto_region 26 with fail
        obtain ⟨W6, hW6⟩ : ∃ W6, W6 = (((wa.setCell ⟨B + 1, 0, none⟩ (.int .i64 rS.rate)).setCell ⟨B + 1, 1, none⟩ (.int .i64 rS.most)).setCell ⟨B + 1, 2, none⟩ (.int .i64 rS.left)).setCell ⟨B + 1, 3, none⟩ (.int .i64 rS.at_) := ⟨_, rfl⟩
        have H6 : Hold B G w W6 qS rS K N X := by rw [hW6]; exact HA.setx rS
        rw [← hW6]
        clear hW6 v0 v1 v2 v3 g0 g1 g2 g3 HA HT
        obtain ⟨u0, u1, u2⟩ := H6.dc
        obtain ⟨⟨v0, v1, v2, v3⟩, g0, g1, g2, g3⟩ := four H6.xw
        have Heq := Lib.hid heq
        have hlt6 := H6.xw.lt
        clear heq
        go_region_with (first | (go_at_call 40; refine (left_is B qS rS X rS.left _ (by exact H6.pw) okp hin2.1 hin2.2 Heq.out rfl).mono ?_; rintro e w7 ⟨rfl, hp7, hg7⟩; have hx7 := hg7.cell_far ⟨B + 1, 2, none⟩ (by simpa using hlt6) (by simp)))
        all_goals
          go_wp2_with fail
          have H7 := H6.drew.pacer hp7 hg7
          go_roundw
          case rel => exact ⟨k + 1, rS, by omega, by go_num, okr, H7.pw, H7.xw, H7.bel⟩
          case measure => simp [intOf]; omega
      | false =>
        cases K1 with
        | true =>
          have hk0 : (K == 0) = false := hK0.symm
          have hk1 : (K == 1) = true := hK1.symm
          clear hK0 hK1
          go_wp2_with fail
          refine (refwhen_any p N X _ hpo hin2.1 hin2.2 hin1.1 hin1.2).mono ?_; rintro e w3 ⟨rfl, hb3⟩
          have H3 := H2.below hb3
          clear u0 u1 u2 v0 v1 v2 v3 g0 g1 g2 g3
          obtain ⟨u0, u1, u2⟩ := H3.dc
          obtain ⟨tS, htS⟩ : ∃ tS : Int, tS = (whenP p N X).1 := ⟨_, rfl⟩
          obtain ⟨bS, hbS⟩ : ∃ bS : Bool, bS = (whenP p N X).2 := ⟨_, rfl⟩
          obtain ⟨pS, hpS⟩ : ∃ pS : P, pS = whenS p N X := ⟨_, rfl⟩
          rw [← htS, ← hbS]
          have hW : whenP p N X = (tS, bS) := by rw [htS, hbS]
          have HW := Lib.hid hW
          have HpS := Lib.hid hpS
          have okp : Ok pS := by rw [hpS]; exact whenS_ok p N X hpo
          clear hW hpS htS hbS
          go_wp2_with fail
          refine (when_is B p pS N X tS bS _ H3.pw hpo hin2.1 hin2.2 hin1.1 hin1.2 HW.out HpS.out.symm).mono ?_; rintro e w5 ⟨rfl, hp5, hg5⟩
          have H5 := H3.pacer hp5 hg5
          clear u0 u1 u2
          obtain ⟨u0, u1, u2⟩ := H5.dc
          obtain ⟨⟨v0, v1, v2, v3⟩, g0, g1, g2, g3⟩ := four H5.xw
          go_wp2_with fail
          refine (go_any p X _ hpo hin2.1 hin2.2).mono ?_; rintro e w6 ⟨rfl, hb6⟩
          have H6 := H5.below hb6
          clear u0 u1 u2 v0 v1 v2 v3 g0 g1 g2 g3
          unfold pc
          obtain ⟨qS, hqS⟩ : ∃ qS : P, qS = onP p X := ⟨_, rfl⟩
          rw [← hqS]
          have okq : Ok qS := by rw [hqS]; exact onP_ok p X hpo
          have heq : onP pS X = onP qS X := by
            rw [HpS.out, hqS, onP_twice p X hpo]; unfold whenS; split
            · rfl
            · exact onP_twice p X hpo
          have HE := Lib.hid heq
          clear heq
          clear hqS
          obtain ⟨⟨v0, v1, v2, v3⟩, g0, g1, g2, g3⟩ := four H6.xw
          go_upto_region 23 with fail
          obtain ⟨W4, hW4⟩ : ∃ W4, W4 = (((w6.setCell ⟨B + 1, 0, none⟩ (.int .i64 qS.rate)).setCell ⟨B + 1, 1, none⟩ (.int .i64 qS.most)).setCell ⟨B + 1, 2, none⟩ (.int .i64 qS.left)).setCell ⟨B + 1, 3, none⟩ (.int .i64 qS.at_) := ⟨_, rfl⟩
          have HT : Hold B G w W4 pS qS K N X := by rw [hW4]; exact H6.setx qS
          rw [← hW4]
          clear hW4 v0 v1 v2 v3 g0 g1 g2 g3 H6
          obtain ⟨u0, u1, u2⟩ := HT.dc
          obtain ⟨⟨v0, v1, v2, v3⟩, g0, g1, g2, g3⟩ := four HT.xw
          go_wp2_with fail
          refine (go_any _ X _ okq hin2.1 hin2.2).mono ?_; rintro e wa ⟨rfl, hba⟩
          have HA := HT.below hba
          clear u0 u1 u2 v0 v1 v2 v3 g0 g1 g2 g3
          unfold pc
          obtain ⟨rS, hrS⟩ : ∃ rS : P, rS = onP qS X := ⟨_, rfl⟩
          rw [← hrS]
          have heq : onP pS X = rS := HE.out.trans hrS.symm
          have okr : Ok rS := by rw [hrS]; exact onP_ok qS X okq
          clear hrS
          obtain ⟨⟨v0, v1, v2, v3⟩, g0, g1, g2, g3⟩ := four HA.xw
          go_upto_region 26 with fail
          obtain ⟨W6, hW6⟩ : ∃ W6, W6 = (((wa.setCell ⟨B + 1, 0, none⟩ (.int .i64 rS.rate)).setCell ⟨B + 1, 1, none⟩ (.int .i64 rS.most)).setCell ⟨B + 1, 2, none⟩ (.int .i64 rS.left)).setCell ⟨B + 1, 3, none⟩ (.int .i64 rS.at_) := ⟨_, rfl⟩
          have H6 : Hold B G w W6 pS rS K N X := by rw [hW6]; exact HA.setx rS
          rw [← hW6]
          clear hW6 v0 v1 v2 v3 g0 g1 g2 g3 HA HT
          obtain ⟨u0, u1, u2⟩ := H6.dc
          obtain ⟨⟨v0, v1, v2, v3⟩, g0, g1, g2, g3⟩ := four H6.xw
          have Heq := Lib.hid heq
          have hlt6 := H6.xw.lt
          clear heq
          go_region_with (first | (go_at_call 40; refine (left_is B pS rS X rS.left _ (by exact H6.pw) okp hin2.1 hin2.2 Heq.out rfl).mono ?_; rintro e w7 ⟨rfl, hp7, hg7⟩; have hx7 := hg7.cell_far ⟨B + 1, 2, none⟩ (by simpa using hlt6) (by simp)))
          all_goals
            go_wp2_with fail
            have H7 := H6.drew.pacer hp7 hg7
            go_roundw
            case rel => exact ⟨k + 1, rS, by omega, by go_num, okr, H7.pw, H7.xw, H7.bel⟩
            case measure => simp [intOf]; omega
        | false =>
          have hk0 : (K == 0) = false := hK0.symm
          have hk1 : (K == 1) = false := hK1.symm
          clear hK0 hK1
          go_wp2_with fail
          have HT := H2
          have okp := hpo
          have okq := hpo
          refine (go_any _ X _ okq hin2.1 hin2.2).mono ?_; rintro e wa ⟨rfl, hba⟩
          have HA := HT.below hba
          clear u0 u1 u2 v0 v1 v2 v3 g0 g1 g2 g3
          unfold pc
          obtain ⟨rS, hrS⟩ : ∃ rS : P, rS = onP p X := ⟨_, rfl⟩
          rw [← hrS]
          have heq : onP p X = rS := hrS.symm
          have okr : Ok rS := by rw [hrS]; exact onP_ok p X okq
          clear hrS
          obtain ⟨⟨v0, v1, v2, v3⟩, g0, g1, g2, g3⟩ := four HA.xw
          go_upto_region 26 with fail
          obtain ⟨W6, hW6⟩ : ∃ W6, W6 = (((wa.setCell ⟨B + 1, 0, none⟩ (.int .i64 rS.rate)).setCell ⟨B + 1, 1, none⟩ (.int .i64 rS.most)).setCell ⟨B + 1, 2, none⟩ (.int .i64 rS.left)).setCell ⟨B + 1, 3, none⟩ (.int .i64 rS.at_) := ⟨_, rfl⟩
          have H6 : Hold B G w W6 p rS K N X := by rw [hW6]; exact HA.setx rS
          rw [← hW6]
          clear hW6 v0 v1 v2 v3 g0 g1 g2 g3 HA HT
          obtain ⟨u0, u1, u2⟩ := H6.dc
          obtain ⟨⟨v0, v1, v2, v3⟩, g0, g1, g2, g3⟩ := four H6.xw
          have Heq := Lib.hid heq
          have hlt6 := H6.xw.lt
          clear heq
          go_region_with (first | (go_at_call 40; refine (left_is B p rS X rS.left _ (by exact H6.pw) okp hin2.1 hin2.2 Heq.out rfl).mono ?_; rintro e w7 ⟨rfl, hp7, hg7⟩; have hx7 := hg7.cell_far ⟨B + 1, 2, none⟩ (by simpa using hlt6) (by simp)))
          all_goals
            go_wp2_with fail
            have H7 := H6.drew.pacer hp7 hg7
            go_roundw
            case rel => exact ⟨k + 1, rS, by omega, by go_num, okr, H7.pw, H7.xw, H7.bel⟩
            case measure => simp [intOf]; omega
    · have hd : decide (k < len2) = false := by simp; omega
      go_wp2_with fail
      refine (awake_any _).mono ?_; rintro e w' ⟨rfl, hb⟩
      go_wp2_with fail
      go_ret
      exact ⟨rfl, by rw [← HB.out]; exact hbel.trans (hb.mono (Nat.le_of_lt (Blk.lt hpw)))⟩
end Go.Proofs.Ytfghllgkbdfedaa.Pac
