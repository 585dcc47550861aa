/- VectorBack: the plain law; no condition but that the bytes are below 256. -/
import Derived.Test.YtbbikkmmdedaiaaVecLaw1
set_option maxRecDepth 100000
namespace Go.Proofs.Ytbbikkmmdedaiaa.Vec
open Go.RowKit Go.Proofs.Ytbbikkmmdedaiaa.Gf

theorem add_back (l m : List Nat) (h : l.length = m.length) : add (add l m) m = l := by
  have e : (add l m).length = l.length := add_len l m h
  apply ext_getD (by rw [add_len _ m (by rw [e]; exact h), e])
  intro i _
  rw [add_getD _ m i (by rw [e]; exact h), add_getD l m i h, Nat.xor_assoc, Nat.xor_self, Nat.xor_zero]
theorem dot_left (k : Nat) (hk : k < 256) : ∀ l m : List Nat, Bytes l → Bytes m → dot (scale k l) m = mul k (dot l m)
  | [], m, _, _ => by simp [scale, dot, mul_zero k hk]
  | _ :: _, [], _, _ => by simp [scale, dot, mul_zero k hk]
  | a :: l, b :: m, hl, hm => by
    have ih := dot_left k hk l m (fun x hx => hl x (by simp [hx])) (fun x hx => hm x (by simp [hx]))
    have ha := hl a (by simp)
    unfold scale at ih ⊢
    simp only [List.map_cons, dot]
    rw [ih, mul_xor_right, Gf.mul_assoc k a b hk ha]
theorem dot_comm : ∀ l m : List Nat, Bytes l → Bytes m → dot l m = dot m l
  | [], [], _, _ => rfl
  | [], _ :: _, _, _ => rfl
  | _ :: _, [], _, _ => rfl
  | a :: l, b :: m, hl, hm => by
    rw [dot, dot, dot_comm l m (fun x hx => hl x (by simp [hx])) (fun x hx => hm x (by simp [hx])), Gf.mul_comm a b (hl a (by simp)) (hm b (by simp))]
theorem dot_right (k : Nat) (hk : k < 256) (l m : List Nat) (hl : Bytes l) (hm : Bytes m) : dot l (scale k m) = mul k (dot l m) := by
  rw [dot_comm l _ hl (scale_bytes k m hk), dot_left k hk m l hm hl, dot_comm m l hm hl]

set_option maxHeartbeats 4000000 in
theorem back_eq (a0 : Option Addr) (n cap0 : Nat) (a1 : Option Addr) (cap1 : Nat) (k : Nat) (l m : List Nat) (w : World) (hk : k < 256) (hl : l.length = n) (hm : m.length = n) (bl : Bytes l) (bm : Bytes m) (hn : n ≤ 200)
    (r0 : Reads w w.heap.size 1 a0 n (U8s l)) (r1 : Reads w w.heap.size 1 a1 n (U8s m)) :
    Calls Try.prog 4 #[.slice a0 n cap0, .slice a1 n cap1, .int .u8 k] w fun e w' => e = .returned (.bool true) ∧ Below w.heap.size w w' := by
  obtain ⟨T, hT⟩ : ∃ T, T = add l (scale k m) := ⟨_, rfl⟩
  obtain ⟨D, hD⟩ : ∃ D, D = dot l m := ⟨_, rfl⟩
  obtain ⟨C, hC⟩ : ∃ C, C = scale k l := ⟨_, rfl⟩
  obtain ⟨M, hM⟩ : ∃ M, M = scale k m := ⟨_, rfl⟩
  obtain ⟨E, hE⟩ : ∃ E, E = mul k D := ⟨_, rfl⟩
  have bM : Bytes M := by rw [hM]; exact scale_bytes k m hk
  have bC : Bytes C := by rw [hC]; exact scale_bytes k l hk
  have hMl : M.length = n := by rw [hM, scale_len, hm]
  have hCl : C.length = n := by rw [hC, scale_len, hl]
  have bT : Bytes T := by rw [hT, ← hM]; exact add_bytes l M bl bM (by omega)
  have hTl : T.length = n := by rw [hT, add_len l _ (by rw [scale_len]; omega), hl]
  have hDl : D < 256 := by rw [hD]; exact dot_lt l m bl
  have hEl : E < 256 := by rw [hE]; exact mul_lt k D hk
  have e4 : add T (scale k m) = l := by rw [hT]; exact add_back l _ (by rw [scale_len]; omega)
  have e6 : dot C m = E := by rw [hC, hE, hD]; exact dot_left k hk l m bl bm
  have e7 : dot l M = E := by rw [hM, hE, hD]; exact dot_right k hk l m bl bm
  have G3 := Lib.hid (fun (w1 : World) (q0 : Reads w1 w1.heap.size 1 a0 n (U8s l)) (q1 : Reads w1 w1.heap.size 1 a1 n (U8s m)) => by
    have := muladd_any a0 cap0 w1.heap.size k a1 cap1 w1.heap.size l m w1 hk (by rw [hl]; exact q0) (by rw [hm]; exact q1) bl bm (by omega) (by omega) (Nat.le_refl _) (Nat.le_refl _)
    rw [hm, hl, ← hT] at this
    exact this)
  have G4 := Lib.hid (fun (w1 : World) (A : Option Addr) (q0 : Reads w1 w1.heap.size 1 A n (U8s T)) (q1 : Reads w1 w1.heap.size 1 a1 n (U8s m)) => by
    have := muladd_any A n w1.heap.size k a1 cap1 w1.heap.size T m w1 hk (by rw [hTl]; exact q0) (by rw [hm]; exact q1) bT bm (by omega) (by omega) (Nat.le_refl _) (Nat.le_refl _)
    rw [hm, hTl, e4] at this
    exact this)
  have G5 := Lib.hid (fun (w1 : World) (q0 : Reads w1 w1.heap.size 1 a0 n (U8s l)) (q1 : Reads w1 w1.heap.size 1 a1 n (U8s m)) => by
    have := dot_any a0 cap0 w1.heap.size a1 cap1 w1.heap.size l m w1 (by rw [hl]; exact q0) (by rw [hm]; exact q1) bl bm (by omega) (by omega)
    rw [hm, hl, ← hD] at this
    exact this)
  have G6 := Lib.hid (fun (w1 : World) (q0 : Reads w1 w1.heap.size 1 a0 n (U8s l)) => by
    have := scale_any k a0 cap0 w1.heap.size l w1 hk (by rw [hl]; exact q0) bl (by omega) (Nat.le_refl _)
    rw [hl, ← hC] at this
    exact this)
  have G6b := Lib.hid (fun (w1 : World) (A : Option Addr) (q0 : Reads w1 w1.heap.size 1 A n (U8s C)) (q1 : Reads w1 w1.heap.size 1 a1 n (U8s m)) => by
    have := dot_any A n w1.heap.size a1 cap1 w1.heap.size C m w1 (by rw [hCl]; exact q0) (by rw [hm]; exact q1) bC bm (by omega) (by omega)
    rw [hm, hCl, e6] at this
    exact this)
  have G7 := Lib.hid (fun (w1 : World) (q0 : Reads w1 w1.heap.size 1 a1 n (U8s m)) => by
    have := scale_any k a1 cap1 w1.heap.size m w1 hk (by rw [hm]; exact q0) bm (by omega) (Nat.le_refl _)
    rw [hm, ← hM] at this
    exact this)
  have G7b := Lib.hid (fun (w1 : World) (A : Option Addr) (q0 : Reads w1 w1.heap.size 1 a0 n (U8s l)) (q1 : Reads w1 w1.heap.size 1 A n (U8s M)) => by
    have := dot_any a0 cap0 w1.heap.size A n w1.heap.size l M w1 (by rw [hl]; exact q0) (by rw [hMl]; exact q1) bl bM (by omega) (by omega)
    rw [hMl, hl, e7] at this
    exact this)
  have HB := Lib.hid (show ∀ (w1 : World), Below w.heap.size w w1 → Reads w1 w1.heap.size 1 a0 n (U8s l) ∧ Reads w1 w1.heap.size 1 a1 n (U8s m) from fun w1 hb => ⟨Reads.on r0 hb (Nat.le_refl _), Reads.on r1 hb (Nat.le_refl _)⟩)
  have HT := Lib.hid hTl
  have HC := Lib.hid hCl
  have HM := Lib.hid hMl
  have HL := Lib.hid hl
  have HE := Lib.hid hE
  have d1 : decide (200 < (n : Int)) = false := by simp; omega
  have hb0 := Below.refl w.heap.size w
  clear hT hD hC hM hE bM bC hMl hCl bT hTl e4 e6 e7 r0 r1 hm hl bl bm
  go_enter Try.func4, Try.ntmps4
  go_wp2_with fail
  refine (G3.out w (HB.out w hb0).1 (HB.out w hb0).2).mono ?_
  rintro e W1 ⟨rfl, v1, b1⟩
  have rT : Reads W1 W1.heap.size 1 (some ⟨w.heap.size, 0, none⟩) n (U8s T) := by have := v1.reads W1.heap.size v1.lt; rw [HT.out] at this; exact this
  obtain ⟨A1, hA1⟩ : ∃ A1 : Option Addr, A1 = some ⟨w.heap.size, 0, none⟩ := ⟨_, rfl⟩
  rw [← hA1] at rT ⊢
  clear hA1 v1
  have hbW1 : Below w.heap.size w W1 := below_chain hb0 b1
  clear b1 hb0
  go_wp2_with fail
  refine (G4.out W1 A1 rT (HB.out W1 hbW1).2).mono ?_
  rintro e W2 ⟨rfl, v2, b2⟩
  have rL : Reads W2 W2.heap.size 1 (some ⟨W1.heap.size, 0, none⟩) n (U8s l) := by have := v2.reads W2.heap.size v2.lt; rw [HL.out] at this; exact this
  obtain ⟨A2, hA2⟩ : ∃ A2 : Option Addr, A2 = some ⟨W1.heap.size, 0, none⟩ := ⟨_, rfl⟩
  rw [← hA2] at rL ⊢
  clear hA2 v2
  have hbW2 : Below w.heap.size w W2 := below_chain hbW1 b2
  replace rT := Reads.on rT b2 (Nat.le_refl _)
  clear b2 hbW1
  go_wp2_with fail
  refine (G5.out W2 (HB.out W2 hbW2).1 (HB.out W2 hbW2).2).mono ?_
  rintro e W3 ⟨rfl, q3, hq3⟩
  have b3 : Below W2.heap.size W2 W3 := by rw [hq3]; exact below_drewN (Below.refl _ _) _
  clear hq3
  have hbW3 : Below w.heap.size w W3 := below_chain hbW2 b3
  replace rT := Reads.on rT b3 (Nat.le_refl _)
  replace rL := Reads.on rL b3 (Nat.le_refl _)
  clear b3 hbW2
  go_wp2_with fail
  refine (G6.out W3 (HB.out W3 hbW3).1).mono ?_
  rintro e W4 ⟨rfl, v4, b4⟩
  have rC : Reads W4 W4.heap.size 1 (some ⟨W3.heap.size, 0, none⟩) n (U8s C) := by have := v4.reads W4.heap.size v4.lt; rw [HC.out] at this; exact this
  obtain ⟨A4, hA4⟩ : ∃ A4 : Option Addr, A4 = some ⟨W3.heap.size, 0, none⟩ := ⟨_, rfl⟩
  rw [← hA4] at rC ⊢
  clear hA4 v4
  have hbW4 : Below w.heap.size w W4 := below_chain hbW3 b4
  replace rT := Reads.on rT b4 (Nat.le_refl _)
  replace rL := Reads.on rL b4 (Nat.le_refl _)
  clear b4 hbW3
  go_wp2_with fail
  refine (G6b.out W4 A4 rC (HB.out W4 hbW4).2).mono ?_
  rintro e W5 ⟨rfl, q5, hq5⟩
  have b5 : Below W4.heap.size W4 W5 := by rw [hq5]; exact below_drewN (Below.refl _ _) _
  clear hq5
  have hbW5 : Below w.heap.size w W5 := below_chain hbW4 b5
  replace rT := Reads.on rT b5 (Nat.le_refl _)
  replace rL := Reads.on rL b5 (Nat.le_refl _)
  replace rC := Reads.on rC b5 (Nat.le_refl _)
  clear b5 hbW4
  go_wp2_with fail
  refine (G7.out W5 (HB.out W5 hbW5).2).mono ?_
  rintro e W6 ⟨rfl, v6, b6⟩
  have rM : Reads W6 W6.heap.size 1 (some ⟨W5.heap.size, 0, none⟩) n (U8s M) := by have := v6.reads W6.heap.size v6.lt; rw [HM.out] at this; exact this
  obtain ⟨A6, hA6⟩ : ∃ A6 : Option Addr, A6 = some ⟨W5.heap.size, 0, none⟩ := ⟨_, rfl⟩
  rw [← hA6] at rM ⊢
  clear hA6 v6
  have hbW6 : Below w.heap.size w W6 := below_chain hbW5 b6
  replace rT := Reads.on rT b6 (Nat.le_refl _)
  replace rL := Reads.on rL b6 (Nat.le_refl _)
  replace rC := Reads.on rC b6 (Nat.le_refl _)
  clear b6 hbW5
  go_wp2_with fail
  refine (G7b.out W6 A6 (HB.out W6 hbW6).1 rM).mono ?_
  rintro e W7 ⟨rfl, q7, hq7⟩
  have b7 : Below W6.heap.size W6 W7 := by rw [hq7]; exact below_drewN (Below.refl _ _) _
  clear hq7
  have hbW7 : Below w.heap.size w W7 := below_chain hbW6 b7
  replace rT := Reads.on rT b7 (Nat.le_refl _)
  replace rL := Reads.on rL b7 (Nat.le_refl _)
  replace rC := Reads.on rC b7 (Nat.le_refl _)
  replace rM := Reads.on rM b7 (Nat.le_refl _)
  clear b7 hbW6
  go_wp2_with fail
  obtain ⟨a8, hbW8, sz8⟩ := lit1 W7 D D rfl hbW7 hbW7.size
  obtain ⟨W8, hW8⟩ : ∃ W8, W8 = W7.alloc (.cells #[.int .u8 (D : Int)] 5) := ⟨_, rfl⟩
  have b8 : Below W7.heap.size W7 W8 := by rw [hW8]; exact (Below.refl _ _).alloc (Nat.le_refl _) _
  rw [← hW8] at a8 hbW8 sz8 ⊢
  replace rL := Reads.on rL b8 (Nat.le_refl _)
  obtain ⟨g8, hg8⟩ : ∃ g8, g8 = W8.heap.size := ⟨_, rfl⟩
  obtain ⟨g7, hg7⟩ : ∃ g7, g7 = W7.heap.size := ⟨_, rfl⟩
  rw [← hg7] at a8 ⊢
  have c8 : Calls Try.prog 26 #[.int .u8 k, .slice (some ⟨g7, 0, none⟩) 1 1] W8 fun e w' => e = .returned (.slice (some ⟨g8, 0, none⟩) 1 1) ∧ VB w' g8 [E] ∧ Below W8.heap.size W8 w' := by
    have := scale_any k (some ⟨g7, 0, none⟩) 1 W8.heap.size [D] W8 hk (a8.reads _ a8.lt) (fun x hx => by simp at hx; omega) (by simp) (Nat.le_refl _)
    rw [show scale k [D] = [E] by rw [HE.out]; rfl] at this
    rw [hg8]
    exact this
  refine c8.mono ?_
  rintro e W9 ⟨rfl, v9, b9⟩
  have hbW9 : Below w.heap.size w W9 := below_chain hbW8 b9
  replace rL := Reads.on rL b9 (Nat.le_refl _)
  clear c8 a8 hbW8 sz8 hW8 b8 hg8 hg7 b9 hbW7
  go_wp2_with fail
  refine (same_at _ _ _ _ l W9 HL.out hn rL (HB.out W9 hbW9).1).mono ?_
  rintro e W10 ⟨rfl, q10, hq10⟩
  have b10 : Below W9.heap.size W9 W10 := by rw [hq10]; exact below_drewN (Below.refl _ _) _
  have v10 : VB W10 g8 [E] := by rw [hq10]; exact v9.drewN _
  have hbW10 : Below w.heap.size w W10 := below_chain hbW9 b10
  have c10 : W10.cell? ⟨g8, 0, none⟩ = some (.int .u8 (E : Int)) := v10.cell 0 (by simp)
  clear hq10 b10 v9 hbW9 v10
  go_wp2_with fail
  refine (awake_b hbW10).mono ?_
  rintro e W12 ⟨rfl, hb12⟩
  go_wp2_with fail
  go_ret
  exact ⟨rfl, hb12⟩

theorem vectorBack_walk (a0 : Option Addr) (len0 cap0 : Nat) (z0 : List Int) (a1 : Option Addr) (len1 cap1 : Nat) (z1 : List Int) (a2 : Int) (w : World) (w0 : IsRow .u8 w a0 len0 cap0 z0) (w1 : IsRow .u8 w a1 len1 cap1 z1) (w2 : (Lit.int .u8 a2).wf = true) :
    Calls Try.prog 4 #[.slice a0 len0 cap0, .slice a1 len1 cap1, .int .u8 a2] w fun e w' => e = .returned (.bool true) ∧ Below w.heap.size w w' := by
  obtain ⟨k, rfl, hk⟩ := nat_of_u8 w2
  obtain ⟨l, hl, r0, bl⟩ := row_bytes w0
  obtain ⟨m, hm, r1, bm⟩ := row_bytes w1
  clear w0 w1 w2
  by_cases h0 : 200 < len0
  · have d1 : decide (200 < (len0 : Int)) = true := by simp; omega
    clear r0 r1 bl bm hl hm
    go_enter Try.func4, Try.ntmps4
    go_wp2_with (go_at_call 18; refine (awake_any _).mono ?_; rintro e w' ⟨rfl, hb⟩)
    go_ret
    exact ⟨rfl, hb⟩
  · have d1 : decide (200 < (len0 : Int)) = false := by simp; omega
    by_cases he : len0 = len1
    · subst he
      exact back_eq a0 len0 cap0 a1 cap1 k l m w hk hl hm bl bm (by omega) r0 r1
    · have d2 : (((len0 : Nat) : Int) == ((len1 : Nat) : Int)) = false := by simp; omega
      have d3 : (((len0 : Nat) : Int) != ((len1 : Nat) : Int)) = true := by simp; omega
      clear r0 r1 bl bm hl hm he
      go_enter Try.func4, Try.ntmps4
      go_wp2_with (go_at_call 18; refine (awake_any _).mono ?_; rintro e w' ⟨rfl, hb⟩)
      go_ret
      exact ⟨rfl, hb⟩
end Go.Proofs.Ytbbikkmmdedaiaa.Vec
