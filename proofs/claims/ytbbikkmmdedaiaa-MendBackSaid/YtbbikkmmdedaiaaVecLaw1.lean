/- VectorReckons, walked: it returns true; no condition. -/
import Derived.Test.YtbbikkmmdedaiaaVecLaws
set_option maxRecDepth 100000
namespace Go.Proofs.Ytbbikkmmdedaiaa.Vec
open Go.RowKit Go.Proofs.Ytbbikkmmdedaiaa.Gf

theorem u8_nat {a : Int} (h : (Lit.int .u8 a).wf = true) : 0 ≤ a ∧ a < 256 := by
  have hx : 0 ≤ a ∧ a ≤ 255 := by simpa [Lit.wf, IntKind.min, IntKind.max, IntKind.signed, IntKind.bits] using h
  omega
/-- the bytes of a row that came in -/
theorem row_bytes {w : World} {a : Option Addr} {len cap : Nat} {zs : List Int} (h : IsRow .u8 w a len cap zs) : ∃ l : List Nat, l.length = len ∧ Reads w w.heap.size 1 a len (U8s l) ∧ Bytes l := by
  obtain ⟨h1, _, h3⟩ := h.reads
  have hw := h.wf
  refine ⟨(zs.take len).map Int.toNat, by simpa using h3, ?_, ?_⟩
  · have e : U8s ((zs.take len).map Int.toNat) = (zs.take len).map (Value.int .u8) := by
      unfold U8s
      rw [List.map_map]
      apply List.map_congr_left
      intro n hn
      have := u8_nat (hw n (List.mem_of_mem_take hn))
      simp; omega
    rw [e]; exact h1
  · intro x hx
    obtain ⟨n, hn, rfl⟩ := List.mem_map.1 hx
    have := u8_nat (hw n (List.mem_of_mem_take hn))
    omega
theorem Reads.on {w w' : World} {B n : Nat} {A : Option Addr} {xs : List Value} (h : Reads w B 1 A n xs) (hb : Below w.heap.size w w') (hB : B ≤ w.heap.size) : Reads w' w'.heap.size 1 A n xs :=
  (h.below (hb.mono hB)).more (by have := hb.size; omega)
theorem awake_b {w0 w : World} (hb : Below w0.heap.size w0 w) : Calls Try.prog 18 #[] w fun e w' => e = .returned (.bool true) ∧ Below w0.heap.size w0 w' :=
  (awake_any w).mono fun _ _ ⟨h1, h2⟩ => ⟨h1, below_chain hb h2⟩
theorem own_reads {w : World} {B : Nat} {A : Option Addr} {n c : Nat} {l : List Nat} (h : Own w B 5 (.slice A n c) (U8s l)) (hl : l.length = n) : Reads w w.heap.size 1 A n (U8s l) := by
  have := h.reads
  rw [U8s_len, hl] at this
  exact this

theorem same_at (A A2 : Option Addr) (c c2 : Nat) (l : List Nat) (w : World) {n : Nat} (hl : l.length = n) (hn : n ≤ 200) (hr : Reads w w.heap.size 1 A n (U8s l)) (hr2 : Reads w w.heap.size 1 A2 n (U8s l)) :
    Calls Try.prog 25 #[.slice A n c, .slice A2 n c2] w fun e w' => e = .returned (.bool true) ∧ ∃ k, w' = w.drewN k := by
  subst hl
  exact same_any A c w.heap.size A2 c2 w.heap.size l w hr hr2 (by omega)

set_option maxHeartbeats 4000000 in
theorem reckons_eq (a0 : Option Addr) (n cap0 : Nat) (a1 : Option Addr) (cap1 : Nat) (k : Nat) (l m : List Nat) (w : World) (hk : k < 256) (hl : l.length = n) (hm : m.length = n) (bl : Bytes l) (bm : Bytes m) (hn : n ≤ 200)
    (r0 : Reads w w.heap.size 1 a0 n (U8s l)) (r1 : Reads w w.heap.size 1 a1 n (U8s m)) :
    Calls Try.prog 3 #[.slice a0 n cap0, .slice a1 n cap1, .int .u8 k] w fun e w' => e = .returned (.bool true) ∧ Below w.heap.size w w' := by
  subst hl
  obtain ⟨S, hS⟩ : ∃ S, S = add l m := ⟨_, rfl⟩
  obtain ⟨T, hT⟩ : ∃ T, T = add l (scale k m) := ⟨_, rfl⟩
  obtain ⟨D, hD⟩ : ∃ D, D = dot l m := ⟨_, rfl⟩
  obtain ⟨C, hC⟩ : ∃ C, C = scale k l := ⟨_, rfl⟩
  have hSl : S.length = l.length := by rw [hS, add_len l m hm.symm]
  have hTl : T.length = l.length := by rw [hT, add_len l _ (by rw [scale_len, hm])]
  have hCl : C.length = l.length := by rw [hC, scale_len]
  have F1 := Lib.hid (fun (w1 : World) (q0 : Reads w1 w1.heap.size 1 a0 l.length (U8s l)) (q1 : Reads w1 w1.heap.size 1 a1 l.length (U8s m)) => by
    have := add_ok a0 cap0 w1.heap.size a1 cap1 w1.heap.size l m w1 q0 (by rw [hm]; exact q1) bl bm (by omega) hm.symm (Nat.le_refl _) (Nat.le_refl _)
    rw [hm, ← hS] at this
    exact this)
  have F2 := Lib.hid (fun (w1 : World) (q0 : Reads w1 w1.heap.size 1 a0 l.length (U8s l)) (q1 : Reads w1 w1.heap.size 1 a1 l.length (U8s m)) => by
    have := ref_add_any a0 cap0 w1.heap.size l a1 cap1 m w1 q0 (by rw [hm]; exact q1) bl bm (by omega) (Nat.le_refl _) hm.symm
    rw [hm, ← hS] at this
    exact this)
  have F3 := Lib.hid (fun (w1 : World) (q0 : Reads w1 w1.heap.size 1 a0 l.length (U8s l)) (q1 : Reads w1 w1.heap.size 1 a1 l.length (U8s m)) => by
    have := muladd_any a0 cap0 w1.heap.size k a1 cap1 w1.heap.size l m w1 hk q0 (by rw [hm]; exact q1) bl bm (by omega) hm.symm (Nat.le_refl _) (Nat.le_refl _)
    rw [hm, ← hT] at this
    exact this)
  have F4 := Lib.hid (fun (w1 : World) (q0 : Reads w1 w1.heap.size 1 a0 l.length (U8s l)) (q1 : Reads w1 w1.heap.size 1 a1 l.length (U8s m)) => by
    have := ref_muladd_any a0 cap0 w1.heap.size k a1 cap1 w1.heap.size l m w1 hk q0 (by rw [hm]; exact q1) bl bm (by omega) hm.symm (Nat.le_refl _) (Nat.le_refl _)
    rw [hm, ← hT] at this
    exact this)
  have F5 := Lib.hid (fun (w1 : World) (q0 : Reads w1 w1.heap.size 1 a0 l.length (U8s l)) (q1 : Reads w1 w1.heap.size 1 a1 l.length (U8s m)) => by
    have := dot_any a0 cap0 w1.heap.size a1 cap1 w1.heap.size l m w1 q0 (by rw [hm]; exact q1) bl bm (by omega) hm.symm
    rw [hm, ← hD] at this
    exact this)
  have F6 := Lib.hid (fun (w1 : World) (q0 : Reads w1 w1.heap.size 1 a0 l.length (U8s l)) (q1 : Reads w1 w1.heap.size 1 a1 l.length (U8s m)) => by
    have := ref_dot_any a0 cap0 w1.heap.size a1 cap1 w1.heap.size l m w1 q0 (by rw [hm]; exact q1) bl bm (by omega) hm.symm
    rw [hm, ← hD] at this
    exact this)
  have F7 := Lib.hid (fun (w1 : World) (q0 : Reads w1 w1.heap.size 1 a0 l.length (U8s l)) => by
    have := scale_any k a0 cap0 w1.heap.size l w1 hk q0 bl (by omega) (Nat.le_refl _)
    rw [← hC] at this
    exact this)
  have F8 := Lib.hid (fun (w1 : World) (q0 : Reads w1 w1.heap.size 1 a0 l.length (U8s l)) => by
    have := ref_scale_any k a0 cap0 w1.heap.size l w1 hk q0 bl (by omega) (Nat.le_refl _)
    rw [← hC] at this
    exact this)
  have HB := Lib.hid (show ∀ (w1 : World), Below w.heap.size w w1 → Reads w1 w1.heap.size 1 a0 l.length (U8s l) ∧ Reads w1 w1.heap.size 1 a1 l.length (U8s m) from fun w1 hb => ⟨Reads.on r0 hb (Nat.le_refl _), Reads.on r1 hb (Nat.le_refl _)⟩)
  obtain ⟨n, hnn⟩ : ∃ n, n = l.length := ⟨_, rfl⟩
  rw [← hnn] at hSl hTl hCl F1 F2 F3 F4 F5 F6 F7 F8 HB hn ⊢
  have HS := Lib.hid hSl
  have HT := Lib.hid hTl
  have HC := Lib.hid hCl
  have d1 : decide (200 < (n : Int)) = false := by simp; omega
  have hb0 := Below.refl w.heap.size w
  clear hS hT hD hC hSl hTl hCl r0 r1 hnn hm bl bm
  go_enter Try.func3, Try.ntmps3
  go_wp2_with fail
  refine (F1.out w (HB.out w hb0).1 (HB.out w hb0).2).mono ?_
  rintro e W1 ⟨rfl, v1, b1⟩
  have rS1 : Reads W1 W1.heap.size 1 (some ⟨w.heap.size, 0, none⟩) n (U8s S) := by have := v1.reads W1.heap.size v1.lt; rw [HS.out] at this; exact this
  obtain ⟨A1, hA1⟩ : ∃ A1 : Option Addr, A1 = some ⟨w.heap.size, 0, none⟩ := ⟨_, rfl⟩
  rw [← hA1] at rS1 ⊢
  clear hA1 v1
  have hbW1 : Below w.heap.size w W1 := below_chain hb0 b1
  clear b1
  go_wp2_with fail
  refine (F2.out W1 (HB.out W1 hbW1).1 (HB.out W1 hbW1).2).mono ?_
  rintro e W2 ⟨⟨A2, c2, rfl, o2⟩, b2⟩
  have rS2 : Reads W2 W2.heap.size 1 A2 n (U8s S) := own_reads o2 HS.out
  clear o2
  have hbW2 : Below w.heap.size w W2 := below_chain hbW1 b2
  replace rS1 := Reads.on rS1 b2 (Nat.le_refl _)
  clear b2 hbW1
  go_wp2_with fail
  refine (F3.out W2 (HB.out W2 hbW2).1 (HB.out W2 hbW2).2).mono ?_
  rintro e W3 ⟨rfl, v3, b3⟩
  have rT3 : Reads W3 W3.heap.size 1 (some ⟨W2.heap.size, 0, none⟩) n (U8s T) := by have := v3.reads W3.heap.size v3.lt; rw [HT.out] at this; exact this
  obtain ⟨A3, hA3⟩ : ∃ A3 : Option Addr, A3 = some ⟨W2.heap.size, 0, none⟩ := ⟨_, rfl⟩
  rw [← hA3] at rT3 ⊢
  clear hA3 v3
  have hbW3 : Below w.heap.size w W3 := below_chain hbW2 b3
  replace rS1 := Reads.on rS1 b3 (Nat.le_refl _)
  replace rS2 := Reads.on rS2 b3 (Nat.le_refl _)
  clear b3 hbW2
  go_wp2_with fail
  refine (F4.out W3 (HB.out W3 hbW3).1 (HB.out W3 hbW3).2).mono ?_
  rintro e W4 ⟨⟨A4, c4, rfl, o4⟩, b4⟩
  have rT4 : Reads W4 W4.heap.size 1 A4 n (U8s T) := own_reads o4 HT.out
  clear o4
  have hbW4 : Below w.heap.size w W4 := below_chain hbW3 b4
  replace rS1 := Reads.on rS1 b4 (Nat.le_refl _)
  replace rS2 := Reads.on rS2 b4 (Nat.le_refl _)
  replace rT3 := Reads.on rT3 b4 (Nat.le_refl _)
  clear b4 hbW3
  go_wp2_with fail
  refine (F5.out W4 (HB.out W4 hbW4).1 (HB.out W4 hbW4).2).mono ?_
  rintro e W5 ⟨rfl, q5, hq5⟩
  have b5 : Below W4.heap.size W4 W5 := by rw [hq5]; exact below_drewN (Below.refl _ _) _
  clear hq5
  have hbW5 : Below w.heap.size w W5 := below_chain hbW4 b5
  replace rS1 := Reads.on rS1 b5 (Nat.le_refl _)
  replace rS2 := Reads.on rS2 b5 (Nat.le_refl _)
  replace rT3 := Reads.on rT3 b5 (Nat.le_refl _)
  replace rT4 := Reads.on rT4 b5 (Nat.le_refl _)
  clear b5 hbW4
  go_wp2_with fail
  refine (F6.out W5 (HB.out W5 hbW5).1 (HB.out W5 hbW5).2).mono ?_
  rintro e W6 ⟨rfl, q6, hq6⟩
  have b6 : Below W5.heap.size W5 W6 := by rw [hq6]; exact below_drewN (Below.refl _ _) _
  clear hq6
  have hbW6 : Below w.heap.size w W6 := below_chain hbW5 b6
  replace rS1 := Reads.on rS1 b6 (Nat.le_refl _)
  replace rS2 := Reads.on rS2 b6 (Nat.le_refl _)
  replace rT3 := Reads.on rT3 b6 (Nat.le_refl _)
  replace rT4 := Reads.on rT4 b6 (Nat.le_refl _)
  clear b6 hbW5
  go_wp2_with fail
  refine (same_at _ _ _ _ S W6 HS.out hn rS1 rS2).mono ?_
  rintro e W7 ⟨rfl, q7, hq7⟩
  have b7 : Below W6.heap.size W6 W7 := by rw [hq7]; exact below_drewN (Below.refl _ _) _
  clear hq7
  have hbW7 : Below w.heap.size w W7 := below_chain hbW6 b7
  replace rS1 := Reads.on rS1 b7 (Nat.le_refl _)
  replace rS2 := Reads.on rS2 b7 (Nat.le_refl _)
  replace rT3 := Reads.on rT3 b7 (Nat.le_refl _)
  replace rT4 := Reads.on rT4 b7 (Nat.le_refl _)
  clear b7 hbW6
  go_wp2_with fail
  refine (same_at _ _ _ _ T W7 HT.out hn rT3 rT4).mono ?_
  rintro e W8 ⟨rfl, q8, hq8⟩
  have b8 : Below W7.heap.size W7 W8 := by rw [hq8]; exact below_drewN (Below.refl _ _) _
  clear hq8
  have hbW8 : Below w.heap.size w W8 := below_chain hbW7 b8
  replace rS1 := Reads.on rS1 b8 (Nat.le_refl _)
  replace rS2 := Reads.on rS2 b8 (Nat.le_refl _)
  replace rT3 := Reads.on rT3 b8 (Nat.le_refl _)
  replace rT4 := Reads.on rT4 b8 (Nat.le_refl _)
  clear b8 hbW7
  go_wp2_with fail
  refine (F7.out W8 (HB.out W8 hbW8).1).mono ?_
  rintro e W9 ⟨rfl, v9, b9⟩
  have rC9 : Reads W9 W9.heap.size 1 (some ⟨W8.heap.size, 0, none⟩) n (U8s C) := by have := v9.reads W9.heap.size v9.lt; rw [HC.out] at this; exact this
  obtain ⟨A9, hA9⟩ : ∃ A9 : Option Addr, A9 = some ⟨W8.heap.size, 0, none⟩ := ⟨_, rfl⟩
  rw [← hA9] at rC9 ⊢
  clear hA9 v9
  have hbW9 : Below w.heap.size w W9 := below_chain hbW8 b9
  replace rS1 := Reads.on rS1 b9 (Nat.le_refl _)
  replace rS2 := Reads.on rS2 b9 (Nat.le_refl _)
  replace rT3 := Reads.on rT3 b9 (Nat.le_refl _)
  replace rT4 := Reads.on rT4 b9 (Nat.le_refl _)
  clear b9 hbW8
  go_wp2_with fail
  refine (F8.out W9 (HB.out W9 hbW9).1).mono ?_
  rintro e W10 ⟨⟨A10, c10, rfl, o10⟩, b10⟩
  rw [HC.out] at o10 ⊢
  have rC10 : Reads W10 W10.heap.size 1 A10 n (U8s C) := own_reads o10 HC.out
  clear o10
  have hbW10 : Below w.heap.size w W10 := below_chain hbW9 b10
  replace rS1 := Reads.on rS1 b10 (Nat.le_refl _)
  replace rS2 := Reads.on rS2 b10 (Nat.le_refl _)
  replace rT3 := Reads.on rT3 b10 (Nat.le_refl _)
  replace rT4 := Reads.on rT4 b10 (Nat.le_refl _)
  replace rC9 := Reads.on rC9 b10 (Nat.le_refl _)
  clear b10 hbW9
  go_wp2_with fail
  refine (same_at _ _ _ _ C W10 HC.out hn rC9 rC10).mono ?_
  rintro e W11 ⟨rfl, q11, hq11⟩
  have b11 : Below W10.heap.size W10 W11 := by rw [hq11]; exact below_drewN (Below.refl _ _) _
  clear hq11
  have hbW11 : Below w.heap.size w W11 := below_chain hbW10 b11
  replace rS1 := Reads.on rS1 b11 (Nat.le_refl _)
  replace rS2 := Reads.on rS2 b11 (Nat.le_refl _)
  replace rT3 := Reads.on rT3 b11 (Nat.le_refl _)
  replace rT4 := Reads.on rT4 b11 (Nat.le_refl _)
  replace rC9 := Reads.on rC9 b11 (Nat.le_refl _)
  replace rC10 := Reads.on rC10 b11 (Nat.le_refl _)
  clear b11 hbW10
  go_wp2_with fail
  refine (awake_b hbW11).mono ?_
  rintro e W12 ⟨rfl, hb12⟩
  go_wp2_with fail
  go_ret
  exact ⟨rfl, hb12⟩

theorem none_reads (w : World) : Reads w w.heap.size 1 none 0 (U8s []) := Reads.none_
set_option maxHeartbeats 4000000 in
theorem reckons_ne (a0 : Option Addr) (n cap0 : Nat) (a1 : Option Addr) (n1 cap1 : Nat) (k : Nat) (l m : List Nat) (w : World) (hk : k < 256) (hl : l.length = n) (hm : m.length = n1) (bl : Bytes l) (bm : Bytes m) (hn : n ≤ 200) (hn1 : n1 ≤ 200) (hne : n ≠ n1)
    (r0 : Reads w w.heap.size 1 a0 n (U8s l)) (r1 : Reads w w.heap.size 1 a1 n1 (U8s m)) :
    Calls Try.prog 3 #[.slice a0 n cap0, .slice a1 n1 cap1, .int .u8 k] w fun e w' => e = .returned (.bool true) ∧ Below w.heap.size w w' := by
  obtain ⟨C, hC⟩ : ∃ C, C = scale k l := ⟨_, rfl⟩
  have hCl : C.length = n := by rw [hC, scale_len, hl]
  have F4 := Lib.hid (fun (w1 : World) (q1 : Reads w1 w1.heap.size 1 a1 n1 (U8s m)) => by
    have := ref_muladd_bad a0 n cap0 k a1 cap1 w1.heap.size m w1 hk (by rw [hm]; exact q1) bm (by omega) (by omega) (Nat.le_refl _)
    rw [hm] at this
    exact this)
  have F7 := Lib.hid (fun (w1 : World) (q0 : Reads w1 w1.heap.size 1 a0 n (U8s l)) => by
    have := scale_any k a0 cap0 w1.heap.size l w1 hk (by rw [hl]; exact q0) bl (by omega) (Nat.le_refl _)
    rw [← hC, hl] at this
    exact this)
  have F8 := Lib.hid (fun (w1 : World) (q0 : Reads w1 w1.heap.size 1 a0 n (U8s l)) => by
    have := ref_scale_any k a0 cap0 w1.heap.size l w1 hk (by rw [hl]; exact q0) bl (by omega) (Nat.le_refl _)
    rw [← hC, hl] at this
    exact this)
  have HB := Lib.hid (show ∀ (w1 : World), Below w.heap.size w w1 → Reads w1 w1.heap.size 1 a0 n (U8s l) ∧ Reads w1 w1.heap.size 1 a1 n1 (U8s m) from fun w1 hb => ⟨Reads.on r0 hb (Nat.le_refl _), Reads.on r1 hb (Nat.le_refl _)⟩)
  have HC := Lib.hid hCl
  have HNE := Lib.hid hne
  have d1 : decide (200 < (n : Int)) = false := by simp; omega
  have d2 : decide (200 < (n1 : Int)) = false := by simp; omega
  have hb0 := Below.refl w.heap.size w
  clear hC hCl r0 r1 hm bl bm hne
  go_enter Try.func3, Try.ntmps3
  go_wp2_with fail
  refine (add_bad _ n _ _ n1 _ _ HNE.out).mono ?_; rintro e w' ⟨rfl, rfl⟩
  go_wp2_with fail
  refine (ref_add_bad _ n _ _ n1 _ _ HNE.out).mono ?_; rintro e w' ⟨rfl, rfl⟩
  go_wp2_with fail
  refine (muladd_bad _ n _ _ _ n1 _ _ HNE.out).mono ?_; rintro e w' ⟨rfl, rfl⟩
  go_wp2_with fail
  refine (F4.out w (HB.out w hb0).2).mono ?_; rintro e W4 ⟨rfl, b4⟩
  have hbW4 : Below w.heap.size w W4 := below_chain hb0 b4
  clear b4 hb0
  go_wp2_with fail
  refine (dot_bad _ n _ _ n1 _ _ HNE.out).mono ?_; rintro e w' ⟨rfl, rfl⟩
  go_wp2_with fail
  refine (ref_dot_bad _ n _ _ n1 _ _ HNE.out).mono ?_; rintro e w' ⟨rfl, rfl⟩
  go_wp2_with fail
  refine (same_at none none 0 0 [] W4 (n := 0) rfl (by omega) (none_reads _) (none_reads _)).mono ?_
  rintro e W7 ⟨rfl, q7, hq7⟩
  have b7 : Below W4.heap.size W4 W7 := by rw [hq7]; exact below_drewN (Below.refl _ _) _
  clear hq7
  have hbW7 : Below w.heap.size w W7 := below_chain hbW4 b7
  clear b7 hbW4
  go_wp2_with fail
  refine (same_at none none 0 0 [] W7 (n := 0) rfl (by omega) (none_reads _) (none_reads _)).mono ?_
  rintro e W8 ⟨rfl, q8, hq8⟩
  have b8 : Below W7.heap.size W7 W8 := by rw [hq8]; exact below_drewN (Below.refl _ _) _
  clear hq8
  have hbW8 : Below w.heap.size w W8 := below_chain hbW7 b8
  clear b8 hbW7
  go_wp2_with fail
  refine (F7.out W8 (HB.out W8 hbW8).1).mono ?_
  rintro e W9 ⟨rfl, v9, b9⟩
  have rC9 : Reads W9 W9.heap.size 1 (some ⟨W8.heap.size, 0, none⟩) n (U8s C) := by have := v9.reads W9.heap.size v9.lt; rw [HC.out] at this; exact this
  obtain ⟨A9, hA9⟩ : ∃ A9 : Option Addr, A9 = some ⟨W8.heap.size, 0, none⟩ := ⟨_, rfl⟩
  rw [← hA9] at rC9 ⊢
  clear hA9 v9
  have hbW9 : Below w.heap.size w W9 := below_chain hbW8 b9
  clear b9 hbW8
  go_wp2_with fail
  refine (F8.out W9 (HB.out W9 hbW9).1).mono ?_
  rintro e W10 ⟨⟨A10, c10, rfl, o10⟩, b10⟩
  rw [HC.out] at o10 ⊢
  have rC10 : Reads W10 W10.heap.size 1 A10 n (U8s C) := own_reads o10 HC.out
  clear o10
  have hbW10 : Below w.heap.size w W10 := below_chain hbW9 b10
  replace rC9 := Reads.on rC9 b10 (Nat.le_refl _)
  clear b10 hbW9
  go_wp2_with fail
  refine (same_at _ _ _ _ C W10 HC.out hn rC9 rC10).mono ?_
  rintro e W11 ⟨rfl, q11, hq11⟩
  have b11 : Below W10.heap.size W10 W11 := by rw [hq11]; exact below_drewN (Below.refl _ _) _
  clear hq11
  have hbW11 : Below w.heap.size w W11 := below_chain hbW10 b11
  replace rC9 := Reads.on rC9 b11 (Nat.le_refl _)
  replace rC10 := Reads.on rC10 b11 (Nat.le_refl _)
  clear b11 hbW10
  go_wp2_with fail
  refine (awake_b hbW11).mono ?_
  rintro e W12 ⟨rfl, hb12⟩
  go_wp2_with fail
  go_ret
  exact ⟨rfl, hb12⟩

theorem vectorReckons_walk (a0 : Option Addr) (len0 cap0 : Nat) (z0 : List Int) (a1 : Option Addr) (len1 cap1 : Nat) (z1 : List Int) (a2 : Int) (w : World) (w0 : IsRow .u8 w a0 len0 cap0 z0) (w1 : IsRow .u8 w a1 len1 cap1 z1) (w2 : (Lit.int .u8 a2).wf = true) :
    Calls Try.prog 3 #[.slice a0 len0 cap0, .slice a1 len1 cap1, .int .u8 a2] w fun e w' => e = .returned (.bool true) ∧ Below w.heap.size w w' := by
  obtain ⟨k, rfl, hk⟩ := nat_of_u8 w2
  obtain ⟨l, hl, r0, bl⟩ := row_bytes w0
  obtain ⟨m, hm, r1, bm⟩ := row_bytes w1
  clear w0 w1 w2
  by_cases h0 : 200 < len0
  · have d1 : decide (200 < (len0 : Int)) = true := by simp; omega
    clear r0 r1 bl bm hl hm
    go_enter Try.func3, Try.ntmps3
    go_wp2_with (go_at_call 18; refine (awake_any _).mono ?_; rintro e w' ⟨rfl, hb⟩)
    go_ret
    exact ⟨rfl, hb⟩
  · have d1 : decide (200 < (len0 : Int)) = false := by simp; omega
    by_cases h1 : 200 < len1
    · have d2 : decide (200 < (len1 : Int)) = true := by simp; omega
      clear r0 r1 bl bm hl hm
      go_enter Try.func3, Try.ntmps3
      go_wp2_with (go_at_call 18; refine (awake_any _).mono ?_; rintro e w' ⟨rfl, hb⟩)
      go_ret
      exact ⟨rfl, hb⟩
    · by_cases he : len0 = len1
      · subst he
        exact reckons_eq a0 len0 cap0 a1 cap1 k l m w hk hl hm bl bm (by omega) r0 r1
      · exact reckons_ne a0 len0 cap0 a1 len1 cap1 k l m w hk hl hm bl bm (by omega) (by omega) he r0 r1
end Go.Proofs.Ytbbikkmmdedaiaa.Vec
