/- lightshiplaw57.DeltaBack returns true; condition: the arguments are a row of words and a text. Printed by a program of ours. -/
import Derived.Test.YtfghllgkbdfedaaDelAwake
import Derived.Test.YtfghllgkbdfedaaDelIn
set_option maxRecDepth 100000
namespace Go.Proofs.Ytfghllgkbdfedaa.Dl
open Go.RowKit

theorem str_back {s : ByteArray} {l : List UInt8} (h : l = s.data.toList) : (⟨l.toArray⟩ : ByteArray) = s := by
  subst h
  cases s
  rfl
theorem rise_nil : Rise [] := by intro i hi; simp at hi
theorem rd_nil : rd [] = (4, []) := by decide
theorem enc_small {l : List Nat} {n : Nat} (h : l.length = n) (hn : n ≤ 4096) : (⟨(enc l).toArray⟩ : ByteArray).size ≤ maxLen := by
  have := enc_len l
  show (enc l).toArray.size ≤ maxLen
  rw [List.size_toArray]
  unfold maxLen
  omega
set_option maxHeartbeats 8000000 in
theorem deltaback_walk (A : Option Addr) (n c0 : Nat) (l : List Nat) (s : ByteArray) (w : World) (hr : RowU w A n l) (hs : s.size ≤ maxLen) :
    Calls Try.prog 14 #[.slice A n c0, .string s] w fun e w' => e = .returned (.bool true) ∧ Below w.heap.size w w' := by
  have HA := Lib.hid awake57
  have HR := Lib.hid hr
  have hl := hr.1
  have h6 := hr.2.2
  have hs2 : s.size ≤ 9223372036854775807 := hs
  by_cases h2 : 200 < n
  · have h22 : (200 : Int) < n := by omega
    clear h2 hl h6 hr hs
    go_enter Try.func14, Try.ntmps14
    go_wp2_with (go_at_call 41; refine (HA.out _).mono ?_; rintro e W1 ⟨rfl, b1⟩)
    go_ret
    exact ⟨rfl, b1⟩
  have h22 : (n : Int) ≤ 200 := by omega
  by_cases h5 : 500 < s.size
  · have h52 : (500 : Int) < s.size := by omega
    clear h2 h5 hl h6 hr hs
    go_enter Try.func14, Try.ntmps14
    go_wp2_with (go_at_call 41; refine (HA.out _).mono ?_; rintro e W1 ⟨rfl, b1⟩)
    go_ret
    exact ⟨rfl, b1⟩
  have h52 : (s.size : Int) ≤ 500 := by omega
  obtain ⟨er, c, hrd⟩ : ∃ er c, rd s.data.toList = (er, c) := ⟨_, _, rfl⟩
  have C3 := Lib.hid (fun W => read57_any s W hs er c hrd)
  by_cases hR : Rise l
  · by_cases he : er = 0
    · subst he
      have C1 := put57_rise A n c0 l w hr (by omega) hR
      have C2 := fun W => read57_any ⟨(enc l).toArray⟩ W (enc_small hl (by omega)) 0 l (rd_enc hR h6 (by omega))
      generalize (⟨(enc l).toArray⟩ : ByteArray) = T at C1 C2
      have C1 := Lib.hid C1
      have C2 := Lib.hid C2
      obtain ⟨g1, g2, g3, g4⟩ := rd_ok hrd
      have C4 := Lib.hid (show ∀ W A2 cap, RowU W A2 c.length c → Calls Try.prog 42 #[.slice A2 c.length cap] W fun e w' => e = .returned (.tuple #[.string s, .int .i64 0]) ∧ Below W.heap.size W w' from
        fun W A2 cap hw => by have h := put57_rise A2 c.length cap c W hw g3 g1; rw [str_back g4] at h; exact h)
      have Z := Lib.hid (fun W A2 cap (hw : RowU W A2 c.length c) => rises_any A2 c.length cap c true (by simp [g1]) g3 W hw)
      clear g1 g2 g3 g4
      clear hrd hR hr hs h2 h5 hs2
      go_enter Try.func14, Try.ntmps14
      go_wp2_with (first
        | (go_at_call 42; (with_reducible refine C1.out.mono ?_); rintro e W1 ⟨rfl, b1⟩)
        | (go_at_call 44; (with_reducible refine (C2.out W1).mono ?_); rintro e W2 ⟨A1, cap1, rfl, hrow1, b2⟩; rw [hl] at hrow1 ⊢; have b2' := bel_next b1 b2)
        | (go_at_call 44; (with_reducible refine (C3.out W2).mono ?_); rintro e W3 ⟨A2, cap2, rfl, hrow2, b3⟩; have b3' := bel_next b2' b3; have C4' := Lib.hid (C4.out W3 A2 cap2 hrow2))
        | (go_at_call 42; (with_reducible refine C4'.out.mono ?_); rintro e W4 ⟨rfl, b4⟩; have b4' := bel_next b3' b4; have S := Lib.hid (same_any A1 n cap1 l A n c0 l true (by simp) (by omega) W4 (hrow1.on (bel_next b3 b4)) (HR.out.on b4')))
        | (go_at_call 45; (with_reducible refine S.out.mono ?_); rintro e W5 ⟨rfl, b5⟩; have b5' := bel_next b4' b5)
        | (go_at_call 43; (with_reducible refine (Z.out W5 A2 cap2 (hrow2.on (bel_next b4 b5))).mono ?_); rintro e W6 ⟨rfl, b6⟩; have b6' := bel_next b5' b6)
        | (go_at_call 41; (with_reducible refine (HA.out W6).mono ?_); rintro e W7 ⟨rfl, b7⟩; have b7' := bel_next b6' b7))
      go_ret
      exact ⟨rfl, b7'⟩
    · have C1 := put57_rise A n c0 l w hr (by omega) hR
      have C2 := fun W => read57_any ⟨(enc l).toArray⟩ W (enc_small hl (by omega)) 0 l (rd_enc hR h6 (by omega))
      generalize (⟨(enc l).toArray⟩ : ByteArray) = T at C1 C2
      have C1 := Lib.hid C1
      have C2 := Lib.hid C2
      have hc : c = [] := by have h := rd_err (s := s.data.toList) (by rw [hrd]; exact he); rw [hrd] at h; exact h
      subst hc
      obtain ⟨D, hD⟩ : ∃ D : ByteArray, D = ⟨(enc []).toArray⟩ := ⟨_, rfl⟩
      have C4 := Lib.hid (show ∀ W A2 cap, RowU W A2 0 [] → Calls Try.prog 42 #[.slice A2 0 cap] W fun e w' => e = .returned (.tuple #[.string D, .int .i64 0]) ∧ Below W.heap.size W w' from
        fun W A2 cap hw => by rw [hD]; exact put57_rise A2 0 cap [] W hw (by omega) rise_nil)
      have he2 : ¬ ((er : Int) = 0) := by omega
      clear hD he
      clear hrd hR hr hs h2 h5 hs2
      go_enter Try.func14, Try.ntmps14
      go_wp2_with (first
        | (go_at_call 42; (with_reducible refine C1.out.mono ?_); rintro e W1 ⟨rfl, b1⟩)
        | (go_at_call 44; (with_reducible refine (C2.out W1).mono ?_); rintro e W2 ⟨A1, cap1, rfl, hrow1, b2⟩; rw [hl] at hrow1 ⊢; have b2' := bel_next b1 b2)
        | (go_at_call 44; (with_reducible refine (C3.out W2).mono ?_); rintro e W3 ⟨A2, cap2, rfl, hrow2, b3⟩; have b3' := bel_next b2' b3; have C4' := Lib.hid (C4.out W3 A2 cap2 hrow2))
        | (go_at_call 42; (with_reducible refine C4'.out.mono ?_); rintro e W4 ⟨rfl, b4⟩; have b4' := bel_next b3' b4; have S := Lib.hid (same_any A1 n cap1 l A n c0 l true (by simp) (by omega) W4 (hrow1.on (bel_next b3 b4)) (HR.out.on b4')))
        | (go_at_call 45; (with_reducible refine S.out.mono ?_); rintro e W5 ⟨rfl, b5⟩; have b5' := bel_next b4' b5)
        | (go_at_call 41; (with_reducible refine (HA.out W5).mono ?_); rintro e W7 ⟨rfl, b7⟩; have b7' := bel_next b5' b7))
      go_ret
      exact ⟨rfl, b7'⟩
  · by_cases he : er = 0
    · subst he
      have C1 := Lib.hid (put57_bad A n c0 l w hr (by omega) hR)
      have C2 := Lib.hid (fun W => read57_any ⟨#[]⟩ W (by decide) 4 [] rd_nil)
      obtain ⟨g1, g2, g3, g4⟩ := rd_ok hrd
      have C4 := Lib.hid (show ∀ W A2 cap, RowU W A2 c.length c → Calls Try.prog 42 #[.slice A2 c.length cap] W fun e w' => e = .returned (.tuple #[.string s, .int .i64 0]) ∧ Below W.heap.size W w' from
        fun W A2 cap hw => by have h := put57_rise A2 c.length cap c W hw g3 g1; rw [str_back g4] at h; exact h)
      have Z := Lib.hid (fun W A2 cap (hw : RowU W A2 c.length c) => rises_any A2 c.length cap c true (by simp [g1]) g3 W hw)
      clear g1 g2 g3 g4
      clear hrd hR hr hs h2 h5 hs2
      go_enter Try.func14, Try.ntmps14
      go_wp2_with (first
        | (go_at_call 42; (with_reducible refine C1.out.mono ?_); rintro e W1 ⟨rfl, b1⟩)
        | (go_at_call 44; (with_reducible refine (C2.out W1).mono ?_); rintro e W2 ⟨A1, cap1, rfl, _, b2⟩; have b2' := bel_next b1 b2)
        | (go_at_call 44; (with_reducible refine (C3.out W2).mono ?_); rintro e W3 ⟨A2, cap2, rfl, hrow2, b3⟩; have b3' := bel_next b2' b3; have C4' := Lib.hid (C4.out W3 A2 cap2 hrow2))
        | (go_at_call 42; (with_reducible refine C4'.out.mono ?_); rintro e W4 ⟨rfl, b4⟩; have b4' := bel_next b3' b4)
        | (go_at_call 43; (with_reducible refine (Z.out W4 A2 cap2 (hrow2.on (b4))).mono ?_); rintro e W6 ⟨rfl, b6⟩; have b6' := bel_next b4' b6)
        | (go_at_call 41; (with_reducible refine (HA.out W6).mono ?_); rintro e W7 ⟨rfl, b7⟩; have b7' := bel_next b6' b7))
      go_ret
      exact ⟨rfl, b7'⟩
    · have C1 := Lib.hid (put57_bad A n c0 l w hr (by omega) hR)
      have C2 := Lib.hid (fun W => read57_any ⟨#[]⟩ W (by decide) 4 [] rd_nil)
      have hc : c = [] := by have h := rd_err (s := s.data.toList) (by rw [hrd]; exact he); rw [hrd] at h; exact h
      subst hc
      obtain ⟨D, hD⟩ : ∃ D : ByteArray, D = ⟨(enc []).toArray⟩ := ⟨_, rfl⟩
      have C4 := Lib.hid (show ∀ W A2 cap, RowU W A2 0 [] → Calls Try.prog 42 #[.slice A2 0 cap] W fun e w' => e = .returned (.tuple #[.string D, .int .i64 0]) ∧ Below W.heap.size W w' from
        fun W A2 cap hw => by rw [hD]; exact put57_rise A2 0 cap [] W hw (by omega) rise_nil)
      have he2 : ¬ ((er : Int) = 0) := by omega
      clear hD he
      clear hrd hR hr hs h2 h5 hs2
      go_enter Try.func14, Try.ntmps14
      go_wp2_with (first
        | (go_at_call 42; (with_reducible refine C1.out.mono ?_); rintro e W1 ⟨rfl, b1⟩)
        | (go_at_call 44; (with_reducible refine (C2.out W1).mono ?_); rintro e W2 ⟨A1, cap1, rfl, _, b2⟩; have b2' := bel_next b1 b2)
        | (go_at_call 44; (with_reducible refine (C3.out W2).mono ?_); rintro e W3 ⟨A2, cap2, rfl, hrow2, b3⟩; have b3' := bel_next b2' b3; have C4' := Lib.hid (C4.out W3 A2 cap2 hrow2))
        | (go_at_call 42; (with_reducible refine C4'.out.mono ?_); rintro e W4 ⟨rfl, b4⟩; have b4' := bel_next b3' b4)
        | (go_at_call 41; (with_reducible refine (HA.out W4).mono ?_); rintro e W7 ⟨rfl, b7⟩; have b7' := bel_next b4' b7))
      go_ret
      exact ⟨rfl, b7'⟩
theorem deltaBack_walk (a0 : Option Addr) (len0 cap0 : Nat) (z0 : List Int) (a1 : ByteArray) (w : World) (w0 : IsRow .u64 w a0 len0 cap0 z0) (w1 : a1.size ≤ maxLen) :
    Calls Try.prog 14 #[.slice a0 len0 cap0, .string a1] w fun e w' => e = .returned (.bool true) ∧ Below w.heap.size w w' := by
  obtain ⟨l, hl⟩ := row_in w0
  exact deltaback_walk a0 len0 cap0 l a1 w hl w1
end Go.Proofs.Ytfghllgkbdfedaa.Dl
