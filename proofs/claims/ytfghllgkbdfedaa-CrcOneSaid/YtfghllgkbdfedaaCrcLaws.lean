/- The three laws of layer 7, walked: each returns true. -/
import Derived.Test.YtfghllgkbdfedaaCrcWalk
import Derived.ProofKit
import Derived.OpenShut
import Derived.Deep.RegionWith
import Derived.Deep.RegionHeld3
import Derived.Deep.DrawnRows
namespace Go.Proofs.Ytfghllgkbdfedaa.Crc
open Go.RowKit

theorem u32_of_wf {a : Int} (h : (Lit.int .u32 a).wf = true) : ∃ n : Nat, a = n ∧ n < 4294967296 := by
  have hx : 0 ≤ a ∧ a ≤ 4294967295 := by simpa [Lit.wf, IntKind.min, IntKind.max, IntKind.signed, IntKind.bits] using h
  exact ⟨a.toNat, by omega, by omega⟩

theorem crcSums_walk (a0 : Int) (a1 : ByteArray) (w0 : (Lit.int .u32 a0).wf = true) (w1 : a1.size ≤ maxLen) (w : World) :
    Calls Try.prog 3 #[.int .u32 a0, .string a1] w fun e w' => e = .returned (.bool true) ∧ Grown w w' := by
  obtain ⟨n, rfl, hn⟩ := u32_of_wf w0
  clear w0
  by_cases hl : 3000 < a1.size
  · go_enter Try.func3, Try.ntmps3
    go_wp2_with (go_at_call 15; refine (awake_any _).mono ?_; rintro e w' ⟨rfl, rfl⟩)
    go_ret
    exact ⟨rfl, Grown.refl _⟩
  · go_enter Try.func3, Try.ntmps3
    go_wp2_with (first | (go_at_call 15; refine (awake_any _).mono ?_; rintro e w' ⟨rfl, rfl⟩) | (go_at_call 16; refine (add_any _ _ _ (by assumption) (by assumption)).mono ?_; rintro e w' ⟨rfl, rfl⟩) | (go_at_call 17; refine (ref_add _ _ _ (by assumption) (by assumption)).mono ?_; rintro e w' ⟨rfl, rfl⟩) | (go_at_call 18; refine (sum_any _ _ (by assumption)).mono ?_; rintro e w' ⟨rfl, rfl⟩) | (go_at_call 19; refine (ref_sum _ _ (by assumption)).mono ?_; rintro e w' ⟨rfl, rfl⟩))
    go_ret
    exact ⟨rfl, Grown.refl _⟩

theorem sum_cat (a b : ByteArray) (w : World) (h : (a ++ b).size ≤ maxLen) :
    Calls Try.prog 18 #[.string (a ++ b)] w fun e w' => e = .returned (.int .u32 (add (add 0 a.data.toList) b.data.toList)) ∧ w = w' := by
  have e : (a ++ b).data.toList = a.data.toList ++ b.data.toList := by simp
  have := sum_any (a ++ b) w h
  rw [e, ← add_parts] at this
  exact this

theorem crcParts_walk (a0 : ByteArray) (a1 : ByteArray) (w0 : a0.size ≤ maxLen) (w1 : a1.size ≤ maxLen) (w : World) :
    Calls Try.prog 4 #[.string a0, .string a1] w fun e w' => e = .returned (.bool true) ∧ Grown w w' := by
  by_cases hl : 3000 < a0.size
  · go_enter Try.func4, Try.ntmps4
    go_wp2_with (go_at_call 15; refine (awake_any _).mono ?_; rintro e w' ⟨rfl, rfl⟩)
    go_ret
    exact ⟨rfl, Grown.refl _⟩
  · by_cases hm : 3000 < a1.size
    · go_enter Try.func4, Try.ntmps4
      go_wp2_with (go_at_call 15; refine (awake_any _).mono ?_; rintro e w' ⟨rfl, rfl⟩)
      go_ret
      exact ⟨rfl, Grown.refl _⟩
    · have hs : (a0 ++ a1).size ≤ maxLen := by unfold maxLen; simp; omega
      go_enter Try.func4, Try.ntmps4
      go_wp2_with fail
      refine (sum_any _ _ (by assumption)).mono ?_; rintro e w' ⟨rfl, rfl⟩
      go_wp2_with fail
      refine (add_any _ _ _ (add_lt _ _) (by assumption)).mono ?_; rintro e w' ⟨rfl, rfl⟩
      go_wp2_with fail
      refine (sum_cat _ _ _ (by assumption)).mono ?_; rintro e w' ⟨rfl, rfl⟩
      go_wp2_with (go_at_call 15; refine (awake_any _).mono ?_; rintro e w' ⟨rfl, rfl⟩)
      go_ret
      exact ⟨rfl, Grown.refl _⟩

theorem u8_of_wf {a : Int} (h : (Lit.int .u8 a).wf = true) : ∃ n : Nat, a = n ∧ n < 256 := by
  have hx : 0 ≤ a ∧ a ≤ 255 := by simpa [Lit.wf, IntKind.min, IntKind.max, IntKind.signed, IntKind.bits] using h
  exact ⟨a.toNat, by omega, by omega⟩

theorem one_string (W : World) (b c cap : Nat) (hc : c < 256) (h : W.cell? ⟨b, 0, none⟩ = some (.int .u8 c)) :
    (convert 28 9 (.slice (some ⟨b, 0, none⟩) 1 cap)).run Try.prog W = .ok (.string ⟨#[UInt8.ofNat c]⟩) W := by
  have := run_convert_bytes_back (P := Try.prog) W 28 9 5 ⟨b, 0, none⟩ cap [UInt8.ofNat c] Try.underlying28 Try.underlying5 Try.underlying9 (by
    intro j hj
    obtain rfl : j = 0 := by simpa using hj
    have e : (UInt8.ofNat c).toNat = c := by simp [UInt8.toNat_ofNat']; omega
    simpa [Addr.add, e] using h)
  exact this

/-- of a row that is another one at one place, the sum is another one -/
theorem sum_unlike (t s : ByteArray) (a b : List UInt8) (x y : UInt8) (hs : s.data.toList = a ++ y :: b) (hne : x ≠ y) (w : World) (hm : t.size ≤ maxLen) (ht : t.data.toList = a ++ x :: b) :
    Calls Try.prog 18 #[.string t] w fun e w' => ∃ n : Nat, (((n : Int) != ((add 0 s.data.toList : Nat) : Int)) = true) ∧ e = .returned (.int .u32 n) ∧ w = w' := by
  refine (sum_any t w hm).mono fun e w' ⟨he, hw⟩ => ⟨_, ?_, he, hw⟩
  have := add_one a b x y hne
  rw [ht, hs]
  simp only [bne_iff_ne, ne_eq]
  omega

theorem split_at (s : ByteArray) (k : Nat) (h : k < s.size) : s.data.toList = s.data.toList.take k ++ s[k] :: s.data.toList.drop (k + 1) := by
  have : s[k] = s.data.toList[k]'(by simpa using h) := by simp; rfl
  rw [this, ← List.drop_eq_getElem_cons, List.take_append_drop]

attribute [local go_sem ↓] Go.wp_at_zero Go.wp_at_succ
set_option maxRecDepth 100000 in
theorem crcOne_walk (a0 : ByteArray) (a1 : Int) (a2 : Int) (w0 : a0.size ≤ maxLen) (_w1 : (Lit.int .i64 a1).wf = true) (w2 : (Lit.int .u8 a2).wf = true) (w : World) :
    Calls Try.prog 5 #[.string a0, .int .i64 a1, .int .u8 a2] w fun e w' => e = .returned (.bool true) ∧ Grown w w' := by
  obtain ⟨c, rfl, hc⟩ := u8_of_wf w2
  clear _w1 w2
  have w0' := w0
  unfold maxLen at w0
  by_cases hl : 3000 < a0.size
  · go_enter Try.func5, Try.ntmps5
    go_wp2_with (go_at_call 15; refine (awake_any _).mono ?_; rintro e w' ⟨rfl, rfl⟩)
    go_ret
    exact ⟨rfl, Grown.refl _⟩
  by_cases h1 : a1 < 0
  · go_enter Try.func5, Try.ntmps5
    go_wp2_with (go_at_call 15; refine (awake_any _).mono ?_; rintro e w' ⟨rfl, rfl⟩)
    go_ret
    exact ⟨rfl, Grown.refl _⟩
  obtain ⟨k, rfl⟩ := Int.eq_ofNat_of_zero_le (by omega : 0 ≤ a1)
  by_cases h2 : a0.size ≤ k
  · go_enter Try.func5, Try.ntmps5
    go_wp2_with (go_at_call 15; refine (awake_any _).mono ?_; rintro e w' ⟨rfl, rfl⟩)
    go_ret
    exact ⟨rfl, Grown.refl _⟩
  have h3 : k < a0.size := by omega
  by_cases h4 : a0[k].toNat = c
  · have h5 : ((a0[k].toNat : Int) == (c : Int)) = true := by simp; omega
    go_enter Try.func5, Try.ntmps5
    go_wp2_with (go_at_call 15; refine (awake_any _).mono ?_; rintro e w' ⟨rfl, rfl⟩)
    go_ret
    exact ⟨rfl, Grown.refl _⟩
  · have h5 : ((a0[k].toNat : Int) == (c : Int)) = false := by simp; omega
    have i1 : (0 : Int) ≤ (k : Int) := by omega
    have i2 : (k : Int) ≤ (a0.size : Int) := by omega
    have i3 : IntKind.i64.wrap ((k : Int) + 1) = (k : Int) + 1 := IntWalk.i64_in _ (by omega)
    have i4 : (0 : Int) ≤ (k : Int) + 1 := by omega
    have i5 : (k : Int) + 1 ≤ (a0.size : Int) := by omega
    have hcv := one_string (w.alloc (.cells #[.int .u8 (c : Int)] 5)).drew w.heap.size c 1 hc (by simp [go_sem])
    have hne : UInt8.ofNat c ≠ a0[k] := by
      intro e
      have := congrArg UInt8.toNat e
      simp [UInt8.toNat_ofNat'] at this
      omega
    have H1 := Lib.hid (fun W => sum_unlike (a0.extract 0 k ++ ⟨#[UInt8.ofNat c]⟩ ++ a0.extract (k + 1) a0.size) a0 _ _ _ _ (split_at a0 k h3) hne W
      (by unfold maxLen; have : (⟨#[UInt8.ofNat c]⟩ : ByteArray).size = 1 := rfl; simp [this]; omega)
      (by simp; exact List.take_of_length_le (by simp)))
    clear hne
    go_enter Try.func5, Try.ntmps5
    go_wp2_with fail
    go_region_with (first | (go_at_call 18; (with_reducible refine (H1.out _).mono ?_); rintro e w' ⟨n, hn, rfl, rfl⟩) | (go_at_call 18; (with_reducible refine (sum_any a0 _ w0').mono ?_); rintro e w' ⟨rfl, rfl⟩) | (go_at_call 15; refine (awake_any _).mono ?_; rintro e w' ⟨rfl, rfl⟩))
    go_wp2
    go_ret
    exact ⟨rfl, by repeat (first | exact Grown.refl _ | apply Grown.drew | apply Grown.alloc)⟩
end Go.Proofs.Ytfghllgkbdfedaa.Crc
