/- The three laws of layer 53, walked: each returns true; no condition but that the arguments are of their kinds. -/
import Derived.Test.YtfghllgkbdfedaaVarPutRef
import Derived.Test.YtfghllgkbdfedaaVarRef
import Derived.ProofKit
import Derived.OpenShut
import Derived.BigQuiet
import Derived.Deep.RegionHeld3
namespace Go.Proofs.Ytfghllgkbdfedaa.Var
open Go.RowKit
set_option maxRecDepth 100000

theorem read_is (s : ByteArray) (n k e : Nat) (hr : read s.data.toList = (n, k, e)) (hs : s.size ≤ maxLen) (w : World) :
    Calls Try.prog 21 #[.string s] w fun en w' => en = .returned (.tuple #[.int .u64 n, .int .i64 k, .int .i64 e]) ∧ w = w' := by
  have := read_any s w hs
  rw [hr] at this
  exact this
theorem put_is (n : Nat) (l : List UInt8) (h : put n = l) (hn : n < 18446744073709551616) (w : World) :
    Calls Try.prog 23 #[.int .u64 n] w fun en w' => en = .returned (.string ⟨l.toArray⟩) ∧ Below w.heap.size w w' := by
  rw [← h]; exact put_any n w hn
theorem zig_is (n : Int) (k : Nat) (h : zig n = k) (h1 : -9223372036854775808 ≤ n) (h2 : n ≤ 9223372036854775807) (w : World) :
    Calls Try.prog 25 #[.int .i64 n] w fun en w' => en = .returned (.int .u64 k) ∧ w = w' := by
  rw [← h]; exact zig_any n w h1 h2
theorem zag_is (n : Nat) (k : Int) (h : zag n = k) (hn : n < 18446744073709551616) (w : World) :
    Calls Try.prog 26 #[.int .u64 n] w fun en w' => en = .returned (.int .i64 k) ∧ w = w' := by
  rw [← h]; exact zag_any n w hn

theorem awake_any (w : World) : Calls Try.prog 20 #[] w fun e w' => e = .returned (.bool true) ∧ Below w.heap.size w w' := by
  go_enter Try.func20, Try.ntmps20
  go_wp2_with fail
  refine (read_is _ 300 2 0 (by decide +kernel) (by decide +kernel) _).mono ?_; rintro e w' ⟨rfl, rfl⟩
  go_wp2_with fail
  refine (read_is _ 0 0 4 (by decide +kernel) (by decide +kernel) _).mono ?_; rintro e w' ⟨rfl, rfl⟩
  go_wp2_with fail
  refine (read_is _ 0 0 5 (by decide +kernel) (by decide +kernel) _).mono ?_; rintro e w' ⟨rfl, rfl⟩
  go_wp2_with fail
  refine (read_is _ 0 0 2 (by decide +kernel) (by decide +kernel) _).mono ?_; rintro e w' ⟨rfl, rfl⟩
  go_wp2_with fail
  refine (put_is 300 [172, 2] (by decide +kernel) (by decide) _).mono ?_; rintro e w1 ⟨rfl, hb⟩
  go_wp2_with fail
  refine (zig_is (-1) 1 (by decide +kernel) (by decide) (by decide) _).mono ?_; rintro e w' ⟨rfl, rfl⟩
  go_wp2_with fail
  refine (zig_is 1 2 (by decide +kernel) (by decide) (by decide) _).mono ?_; rintro e w' ⟨rfl, rfl⟩
  go_wp2_with fail
  refine (zag_is 3 (-2) (by decide +kernel) (by decide) _).mono ?_; rintro e w' ⟨rfl, rfl⟩
  go_wp2_with fail
  go_ret
  exact ⟨rfl, hb⟩

theorem u64_of_wf {a : Int} (h : (Lit.int .u64 a).wf = true) : ∃ n : Nat, a = n ∧ n < 18446744073709551616 := by
  have hx : 0 ≤ a ∧ a ≤ 18446744073709551615 := by simpa [Lit.wf, IntKind.min, IntKind.max, IntKind.signed, IntKind.bits] using h
  exact ⟨a.toNat, by omega, by omega⟩
theorem i64_of_wf {a : Int} (h : (Lit.int .i64 a).wf = true) : -9223372036854775808 ≤ a ∧ a ≤ 9223372036854775807 := by
  simpa [Lit.wf, IntKind.min, IntKind.max, IntKind.signed, IntKind.bits] using h

theorem varintReads_walk (a0 : Int) (a1 : ByteArray) (w0 : (Lit.int .u64 a0).wf = true) (w1 : a1.size ≤ maxLen) (w : World) :
    Calls Try.prog 6 #[.int .u64 a0, .string a1] w fun e w' => e = .returned (.bool true) ∧ Below w.heap.size w w' := by
  obtain ⟨n, rfl, hn⟩ := u64_of_wf w0
  clear w0
  by_cases hl : 300 < a1.size
  · go_enter Try.func6, Try.ntmps6
    go_wp2_with (go_at_call 20; refine (awake_any _).mono ?_; rintro e w' ⟨rfl, hb⟩)
    go_ret
    exact ⟨rfl, hb⟩
  · have HN := Lib.hid hn
    clear hn
    go_enter Try.func6, Try.ntmps6
    go_wp2_with fail
    refine (read_any _ _ w1).mono ?_; rintro e w' ⟨rfl, rfl⟩
    go_wp2_with fail
    refine (refread_any _ _ w1).mono ?_; rintro e w' ⟨rfl, rfl⟩
    go_wp2_with fail
    refine (put_any n _ HN.out).mono ?_; rintro e w' ⟨rfl, hb1⟩
    go_wp2_with fail
    refine (refput_put n _ HN.out).mono ?_; rintro e w' ⟨rfl, hb2⟩
    go_wp2_with fail
    refine (awake_any _).mono ?_; rintro e w' ⟨rfl, hb3⟩
    go_wp2_with fail
    go_ret
    exact ⟨rfl, hb1.trans ((hb2.mono hb1.size).trans (hb3.mono (Nat.le_trans hb1.size hb2.size)))⟩

set_option maxHeartbeats 1000000 in
theorem varintBack_walk (a0 : Int) (a1 : ByteArray) (w0 : (Lit.int .u64 a0).wf = true) (w1 : a1.size ≤ maxLen) (w : World) :
    Calls Try.prog 7 #[.int .u64 a0, .string a1] w fun e w' => e = .returned (.bool true) ∧ Below w.heap.size w w' := by
  obtain ⟨n, rfl, hn⟩ := u64_of_wf w0
  clear w0
  by_cases hl : 300 < a1.size
  · go_enter Try.func7, Try.ntmps7
    go_wp2_with (go_at_call 20; refine (awake_any _).mono ?_; rintro e w' ⟨rfl, hb⟩)
    go_ret
    exact ⟨rfl, hb⟩
  · have HN := Lib.hid hn
    clear hn
    have hpl := putF_length 9 n
    obtain ⟨p, hp⟩ : ∃ p : ByteArray, p = ⟨(put n).toArray⟩ := ⟨_, rfl⟩
    have hps : p.size = (put n).length := by rw [hp]; simp [ByteArray.size]
    have hpl : 1 ≤ p.size ∧ p.size ≤ 10 := by rw [hps]; exact hpl
    have hrd : read (p ++ a1).data.toList = (n, p.size, 0) := by
      have := read_put n a1.data.toList HN.out
      rw [hps, ← this, hp]; simp
    have HP := Lib.hid hp
    have HR := Lib.hid hrd
    clear hp hps hrd
    have hmx : (p ++ a1).size ≤ maxLen := by unfold maxLen; simp; omega
    have HX := Lib.hid hmx
    clear hmx
    go_enter Try.func7, Try.ntmps7
    go_wp2_with fail
    refine (put_any n _ HN.out).mono ?_; rintro e w' ⟨rfl, hb1⟩
    rw [← HP.out]
    go_wp2_with fail
    refine (read_is _ n p.size 0 HR.out HX.out _).mono ?_; rintro e w' ⟨rfl, rfl⟩
    go_wp2_with fail
    obtain ⟨b, m, f, hbm⟩ : ∃ b m f, read a1.data.toList = (b, m, f) := ⟨_, _, _, rfl⟩
    have HB := Lib.hid hbm
    refine (read_is _ b m f hbm w1 _).mono ?_; rintro e w' ⟨rfl, rfl⟩
    clear hbm
    by_cases hf : f = 0
    · subst hf
      have hq := put_read _ _ _ HB.out
      obtain ⟨q1, q2, q3, q4⟩ := hq
      have q2 : m ≤ a1.size := by simpa using q2
      have hex : (⟨(put b).toArray⟩ : ByteArray) = a1.extract 0 m := by
        rw [q3]; apply ByteArray.ext; rw [← Array.toList_inj]; simp
      have HQ := Lib.hid hex
      clear q3 hex
      have HL := Lib.hid q4
      clear q4
      have g1 : decide ((m : Int) < 1) = false := by simp; omega
      have g2 : decide (a1.size < m) = false := by simp; omega
      have g3 : (0 : Int) ≤ (m : Int) := by omega
      have g4 : (m : Int) ≤ (a1.size : Int) := by omega
      go_wp2_with fail
      go_region_held3 (fun _ => True) (trivial) (first | (go_at_call 23; refine (put_any b _ HL.out).mono ?_; rintro e w2 ⟨rfl, hb2⟩; rw [HQ.out]))
      go_wp2_with fail
      refine (awake_any _).mono ?_; rintro e w' ⟨rfl, hb⟩
      go_wp2_with fail
      go_ret
      have hz1 := hb1.size
      have hz2 := hb2.size
      simp at hz2
      exact ⟨rfl, (hb1.drew.trans (hb2.mono (by simpa using hz1))).trans (hb.mono (by omega))⟩
    · have hf0 : ((f : Int) == 0) = false := by simp; omega
      go_wp2_with fail
      go_quiet (fail)
      go_wp2_with fail
      refine (awake_any _).mono ?_; rintro e w' ⟨rfl, hb⟩
      go_wp2_with fail
      go_ret
      have hz1 := hb1.size
      exact ⟨rfl, ((below_drewN hb1 _).trans (hb.mono (by simpa using hz1)))⟩

theorem varintZig_walk (a0 a1 : Int) (w0 : (Lit.int .i64 a0).wf = true) (w1 : (Lit.int .u64 a1).wf = true) (w : World) :
    Calls Try.prog 8 #[.int .i64 a0, .int .u64 a1] w fun e w' => e = .returned (.bool true) ∧ Below w.heap.size w w' := by
  obtain ⟨m, rfl, hm⟩ := u64_of_wf w1
  obtain ⟨h1, h2⟩ := i64_of_wf w0
  clear w0 w1
  have hz := zig_lt a0 h1 h2
  have hzm := zag_in m hm
  have hpos : 0 ≤ a0 → (((zig a0 : Nat) : Int) == 2 * a0) = true := by
    intro h
    unfold zig
    rw [if_pos h]; simp; omega
  have hneg : a0 < 0 → (((zig a0 : Nat) : Int) % 2 == 1) = true := by
    intro h
    unfold zig
    rw [if_neg (by omega)]; simp; omega
  have HP := Lib.hid hpos
  have HN := Lib.hid hneg
  clear hpos hneg
  go_enter Try.func8, Try.ntmps8
  go_wp2_with fail
  refine (zig_any a0 _ h1 h2).mono ?_; rintro e w' ⟨rfl, rfl⟩
  go_wp2_with fail
  refine (zag_is _ _ (zag_zig a0) hz _).mono ?_; rintro e w' ⟨rfl, rfl⟩
  go_wp2_with fail
  refine (zag_any m _ hm).mono ?_; rintro e w' ⟨rfl, rfl⟩
  go_wp2_with fail
  refine (zig_is _ _ (zig_zag m) hzm.1 hzm.2 _).mono ?_; rintro e w' ⟨rfl, rfl⟩
  by_cases h : 0 ≤ a0
  · have h3 := HP.out h
    go_wp2_with fail
    refine (awake_any _).mono ?_; rintro e w' ⟨rfl, hb⟩
    go_wp2_with fail
    go_ret
    exact ⟨rfl, hb⟩
  · have h3 := HN.out (by omega)
    go_wp2_with fail
    refine (awake_any _).mono ?_; rintro e w' ⟨rfl, hb⟩
    go_wp2_with fail
    go_ret
    exact ⟨rfl, hb⟩
end Go.Proofs.Ytfghllgkbdfedaa.Var
