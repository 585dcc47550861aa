/- Law 02 on rows of bytes: the calls are awake; VectorReckons; no condition. -/
import Derived.Test.YtbbikkmmdedaiaaVecAdd2
set_option maxRecDepth 100000
namespace Go.Proofs.Ytbbikkmmdedaiaa.Vec
open Go.RowKit Go.Proofs.Ytbbikkmmdedaiaa.Gf

theorem VB.alloc {w : World} {g : Nat} {m : List Nat} (h : VB w g m) (o : Obj) : VB (w.alloc o) g m := Blk.alloc h o
theorem VB.lit1 (W : World) (a : Nat) : VB (W.alloc (.cells #[.int .u8 (a : Int)] 5)) W.heap.size [a] := Blk.new _ _ _
theorem VB.lit2 (W : World) (a b : Nat) : VB (W.alloc (.cells #[.int .u8 (a : Int), .int .u8 (b : Int)] 5)) W.heap.size [a, b] := Blk.new _ _ _
theorem bytes_of {l : List Nat} (h : l.all (fun x => decide (x < 256)) = true) : Bytes l := by
  intro x hx
  have := List.all_eq_true.1 h x hx
  simpa using this

theorem lit1 (W : World) (a : Nat) (a' : Int) (ha : a' = a) {B : Nat} {w0 : World} (ab : Below B w0 W) (hs : B ≤ W.heap.size) :
    VB (W.alloc (.cells #[.int .u8 a'] 5)) W.heap.size [a] ∧ Below B w0 (W.alloc (.cells #[.int .u8 a'] 5)) ∧ (W.alloc (.cells #[.int .u8 a'] 5)).heap.size = W.heap.size + 1 := by
  subst ha
  exact ⟨VB.lit1 W a, ab.alloc hs _, by simp⟩
theorem lit2 (W : World) (a b : Nat) (a' b' : Int) (ha : a' = a) (hb : b' = b) {B : Nat} {w0 : World} (ab : Below B w0 W) (hs : B ≤ W.heap.size) :
    VB (W.alloc (.cells #[.int .u8 a', .int .u8 b'] 5)) W.heap.size [a, b] ∧ Below B w0 (W.alloc (.cells #[.int .u8 a', .int .u8 b'] 5)) ∧ (W.alloc (.cells #[.int .u8 a', .int .u8 b'] 5)).heap.size = W.heap.size + 1 := by
  subst ha hb
  exact ⟨VB.lit2 W a b, ab.alloc hs _, by simp⟩
theorem lits2 (W : World) (a b c d : Nat) (a' b' c' d' : Int) (ha : a' = a) (hb : b' = b) (hc : c' = c) (hd : d' = d) {B : Nat} {w0 : World} (ab : Below B w0 W) (hs : B ≤ W.heap.size) :
    VB ((W.alloc (.cells #[.int .u8 a', .int .u8 b'] 5)).alloc (.cells #[.int .u8 c', .int .u8 d'] 5)) W.heap.size [a, b] ∧ VB ((W.alloc (.cells #[.int .u8 a', .int .u8 b'] 5)).alloc (.cells #[.int .u8 c', .int .u8 d'] 5)) (W.heap.size + 1) [c, d] ∧
      Below B w0 ((W.alloc (.cells #[.int .u8 a', .int .u8 b'] 5)).alloc (.cells #[.int .u8 c', .int .u8 d'] 5)) := by
  subst ha hb hc hd
  refine ⟨(VB.lit2 W a b).alloc _, ?_, (ab.alloc hs _).alloc (by simp; omega) _⟩
  have := VB.lit2 (W.alloc (.cells #[.int .u8 (a : Int), .int .u8 (b : Int)] 5)) c d
  rw [show (W.alloc (.cells #[.int .u8 (a : Int), .int .u8 (b : Int)] 5)).heap.size = W.heap.size + 1 by simp] at this
  exact this

set_option maxHeartbeats 400000 in
theorem awake_any (w : World) : Calls Try.prog 18 #[] w fun e w' => e = .returned (.bool true) ∧ Below w.heap.size w w' := by
  go_enter Try.func18, Try.ntmps18
  go_wp2_with fail
  have a1 : VB ((w.alloc (.cells #[.int .u8 1, .int .u8 2] 5)).alloc (.cells #[.int .u8 3, .int .u8 4] 5)) w.heap.size [1, 2] := (VB.lit2 w 1 2).alloc _
  have a2 : VB ((w.alloc (.cells #[.int .u8 1, .int .u8 2] 5)).alloc (.cells #[.int .u8 3, .int .u8 4] 5)) (w.heap.size + 1) [3, 4] := by
    have := VB.lit2 (w.alloc (.cells #[.int .u8 1, .int .u8 2] 5)) 3 4
    rw [show (w.alloc (.cells #[.int .u8 1, .int .u8 2] 5)).heap.size = w.heap.size + 1 by simp] at this
    exact this
  have ab : Below w.heap.size w ((w.alloc (.cells #[.int .u8 1, .int .u8 2] 5)).alloc (.cells #[.int .u8 3, .int .u8 4] 5)) := ((Below.refl _ w).alloc (Nat.le_refl _) _).alloc (by simp) _
  revert a1 a2 ab
  generalize (w.alloc (.cells #[.int .u8 1, .int .u8 2] 5)).alloc (.cells #[.int .u8 3, .int .u8 4] 5) = W1
  obtain ⟨B, hB⟩ : ∃ B, B = w.heap.size := ⟨_, rfl⟩
  rw [← hB]
  intro a1 a2 ab
  have hs1 := ab.size
  have s1 := a1.lt
  have s2 := a2.lt
  have c1 : Calls Try.prog 23 #[.slice (some ⟨B, 0, none⟩) 2 2, .slice (some ⟨B + 1, 0, none⟩) 2 2] W1 fun e w' => e = .returned (.tuple #[.int .u8 11, .int .i64 0]) ∧ ∃ k, w' = W1.drewN k := by
    have := dot_any (some ⟨B, 0, none⟩) 2 W1.heap.size (some ⟨B + 1, 0, none⟩) 2 W1.heap.size [1, 2] [3, 4] W1 (a1.reads _ s1) (a2.reads _ s2) (bytes_of (by decide)) (bytes_of (by decide)) (by simp) rfl
    rw [show dot [1, 2] [3, 4] = 11 by decide +kernel] at this
    exact this
  refine c1.mono ?_
  rintro e w' ⟨rfl, q, rfl⟩
  have ab1 : Below B w (W1.drewN q) := below_drewN ab q
  have hs1 : B ≤ (W1.drewN q).heap.size := by have := ab1.size; omega
  revert ab1 hs1
  generalize W1.drewN q = W2
  intro ab1 hs1
  clear c1 a1 a2 ab s1 s2
  go_wp2_with fail
  refine (add_bad _ 1 _ _ 0 _ _ (by omega)).mono ?_
  rintro e w' ⟨rfl, rfl⟩
  have ab2 : Below B w (W2.alloc (.cells #[.int .u8 1] 5)) := ab1.alloc hs1 _
  have hs2 : B ≤ (W2.alloc (.cells #[.int .u8 1] 5)).heap.size := by simp; omega
  revert ab2 hs2
  generalize W2.alloc (.cells #[.int .u8 1] 5) = W3
  intro ab2 hs2
  go_wp2_with fail
  obtain ⟨a1, a2, ab⟩ := lits2 W3 1 2 3 4 1 2 3 4 rfl rfl rfl rfl ab2 hs2
  obtain ⟨W4, hW4⟩ : ∃ W4, W4 = (W3.alloc (.cells #[.int .u8 1, .int .u8 2] 5)).alloc (.cells #[.int .u8 3, .int .u8 4] 5) := ⟨_, rfl⟩
  rw [← hW4] at a1 a2 ab ⊢
  clear hW4
  have s1 := a1.lt
  have s2 := a2.lt
  obtain ⟨g3, hg3⟩ : ∃ g3, g3 = W3.heap.size := ⟨_, rfl⟩
  rw [← hg3] at a1 a2 s1 s2 ⊢
  have hs4 : B ≤ W4.heap.size := by omega
  obtain ⟨g, hg⟩ : ∃ g, g = W4.heap.size := ⟨_, rfl⟩
  have c1 : Calls Try.prog 21 #[.slice (some ⟨g3, 0, none⟩) 2 2, .int .u8 2, .slice (some ⟨g3 + 1, 0, none⟩) 2 2] W4 fun e w' => e = .returned (.tuple #[.slice (some ⟨g, 0, none⟩) 2 2, .int .i64 0]) ∧ VB w' g [7, 10] ∧ Below g W4 w' := by
    have := muladd_any (some ⟨g3, 0, none⟩) 2 W4.heap.size 2 (some ⟨g3 + 1, 0, none⟩) 2 W4.heap.size [1, 2] [3, 4] W4 (by omega) (a1.reads _ s1) (a2.reads _ s2) (bytes_of (by decide)) (bytes_of (by decide)) (by simp) rfl (Nat.le_refl _) (Nat.le_refl _)
    rw [show add [1, 2] (scale 2 [3, 4]) = [7, 10] by decide +kernel, ← hg] at this
    exact this
  refine c1.mono ?_
  rintro e W5 ⟨rfl, v5, b5⟩
  have ab5 : Below B w W5 := ab.trans (b5.mono (by omega))
  have hs5 := v5.lt
  have hgB : B ≤ g := by omega
  have hs5B : B ≤ W5.heap.size := by omega
  clear c1 a1 a2 s1 s2 ab b5 hs4 hg hg3 ab2 hs2
  go_wp2_with fail
  obtain ⟨a1, ab6, sz6⟩ := lit2 W5 7 10 7 10 rfl rfl ab5 hs5B
  have a2 := v5.alloc (.cells #[.int .u8 7, .int .u8 10] 5)
  obtain ⟨W6, hW6⟩ : ∃ W6, W6 = W5.alloc (.cells #[.int .u8 7, .int .u8 10] 5) := ⟨_, rfl⟩
  rw [← hW6] at a1 a2 ab6 sz6 ⊢
  clear hW6
  have c3 : Calls Try.prog 25 #[.slice (some ⟨g, 0, none⟩) 2 2, .slice (some ⟨W5.heap.size, 0, none⟩) 2 2] W6 fun e w' => e = .returned (.bool true) ∧ ∃ k, w' = W6.drewN k :=
    same_any (some ⟨g, 0, none⟩) 2 W6.heap.size (some ⟨W5.heap.size, 0, none⟩) 2 W6.heap.size [7, 10] W6 (a2.reads _ a2.lt) (a1.reads _ a1.lt) (by simp)
  refine c3.mono ?_
  rintro e w' ⟨rfl, q2, rfl⟩
  have ab7 : Below B w (W6.drewN q2) := below_drewN ab6 q2
  have hs7 : B ≤ (W6.drewN q2).heap.size := by show B ≤ W6.heap.size; omega
  revert ab7 hs7
  generalize W6.drewN q2 = W7
  intro ab7 hs7
  clear c3 a1 a2 ab6 sz6 ab5 v5 hs5 hs5B
  go_wp2_with fail
  obtain ⟨a1, ab8, sz8⟩ := lit1 W7 5 5 rfl ab7 hs7
  obtain ⟨W8, hW8⟩ : ∃ W8, W8 = W7.alloc (.cells #[.int .u8 5] 5) := ⟨_, rfl⟩
  rw [← hW8] at a1 ab8 sz8 ⊢
  clear hW8
  have hs8 : B ≤ W8.heap.size := by omega
  obtain ⟨g8, hg8⟩ : ∃ g8, g8 = W8.heap.size := ⟨_, rfl⟩
  have c2 : Calls Try.prog 26 #[.int .u8 0, .slice (some ⟨W7.heap.size, 0, none⟩) 1 1] W8 fun e w' => e = .returned (.slice (some ⟨g8, 0, none⟩) 1 1) ∧ VB w' g8 [0] ∧ Below g8 W8 w' := by
    have := scale_any 0 (some ⟨W7.heap.size, 0, none⟩) 1 W8.heap.size [5] W8 (by omega) (a1.reads _ a1.lt) (bytes_of (by decide)) (by simp) (Nat.le_refl _)
    rw [show scale 0 [5] = [0] by decide +kernel, ← hg8] at this
    exact this
  refine c2.mono ?_
  rintro e W9 ⟨rfl, v9, b9⟩
  have ab9 : Below B w W9 := ab8.trans (b9.mono (by omega))
  have hs9 : B ≤ W9.heap.size := by have := v9.lt; omega
  clear c2 a1 ab8 b9 ab7 hs7 hg8 sz8 hs8
  go_wp2_with fail
  obtain ⟨a1, ab10, sz10⟩ := lit1 W9 0 0 rfl ab9 hs9
  have a2 := v9.alloc (.cells #[.int .u8 0] 5)
  obtain ⟨W10, hW10⟩ : ∃ W10, W10 = W9.alloc (.cells #[.int .u8 0] 5) := ⟨_, rfl⟩
  rw [← hW10] at a1 a2 ab10 sz10 ⊢
  clear hW10
  have c4 : Calls Try.prog 25 #[.slice (some ⟨g8, 0, none⟩) 1 1, .slice (some ⟨W9.heap.size, 0, none⟩) 1 1] W10 fun e w' => e = .returned (.bool true) ∧ ∃ k, w' = W10.drewN k :=
    same_any (some ⟨g8, 0, none⟩) 1 W10.heap.size (some ⟨W9.heap.size, 0, none⟩) 1 W10.heap.size [0] W10 (a2.reads _ a2.lt) (a1.reads _ a1.lt) (by simp)
  refine c4.mono ?_
  rintro e w' ⟨rfl, q3, rfl⟩
  have ab11 : Below B w (W10.drewN q3) := below_drewN ab10 q3
  revert ab11
  generalize W10.drewN q3 = W11
  intro ab11
  have HB := Lib.hid hB
  clear c4 a1 a2 ab10 sz10 ab9 v9 hB
  go_wp2_with fail
  go_ret
  exact ⟨rfl, by rw [← HB.out]; exact ab11⟩
end Go.Proofs.Ytbbikkmmdedaiaa.Vec
