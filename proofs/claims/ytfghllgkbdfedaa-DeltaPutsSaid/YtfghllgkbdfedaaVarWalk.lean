/- What varint.end, varint.Read, varint.Zig, varint.Zag and the reference's Read compute: the plain functions of layer 53; conditions: each string is one of the model's, each number one of its kind. -/
import Derived.Test.YtfghllgkbdfedaaProg
import Derived.Test.YtfghllgkbdfedaaVarPlain
import Derived.WalkKit
import Derived.WalkSpells
import Derived.WalkLawsBesides
import Derived.Outline
import Derived.Lib.Hide
import Derived.Below
import Derived.Deep.Light
import Derived.Laws.BitsAllLaws
namespace Go.Proofs.Ytfghllgkbdfedaa.Var
open Go.RowKit
set_option maxRecDepth 100000

theorem getD_byte (s : ByteArray) (k : Nat) (h : k < s.size) : s.data.toList.getD k 0 = s[k] := by
  have : k < s.data.toList.length := by simpa using h
  simp only [List.getD, List.getElem?_eq_getElem this, Option.getD_some]
  simp; rfl

theorem end_some (s : ByteArray) (e : Nat) (he : ends s.data.toList = some e) (w : World) (hs : s.size ≤ maxLen) :
    Calls Try.prog 47 #[.string s] w fun en w' => en = .returned (.tuple #[.int .i64 e, .bool true]) ∧ w = w' := by
  unfold maxLen at hs
  obtain ⟨h1, h2, h3⟩ := ends_some he
  clear he
  have h1 : e < s.size := by simpa using h1
  rw [getD_byte s e h1] at h2
  have H3 := Lib.hid (fun i (hi : i < e) => (getD_byte s i (by omega)) ▸ h3 i hi)
  clear h3
  go_enter Try.func47, Try.ntmps47
  go_wp2_with fail
  go_loop [7] (fun i => ∃ k : Nat, k ≤ e ∧ i = .int .i64 k) (fun i => e - (intOf i).toNat)
  case atStart => exact ⟨0, by omega, rfl⟩
  case round =>
    obtain ⟨k, hk, rfl⟩ := hrel
    by_cases hlt : k < e
    · have hks : k < s.size := by omega
      go_wp2
      · have hb := H3.out k hlt
        exfalso
        have hc : ((s[k].toNat : Nat) : Int) < 128 := by assumption
        omega
      · go_round
        case rel => exact ⟨k + 1, by omega, by go_num⟩
        case measure => simp [intOf]; omega
    · obtain rfl : k = e := by omega
      have H2 := Lib.hid h2
      clear h2
      go_wp2
      · go_ret2
        exact ⟨rfl, rfl⟩
      · have hb := H2.out
        exfalso
        have hc : (128 : Int) ≤ ((s[k].toNat : Nat) : Int) := by assumption
        omega

theorem end_none (s : ByteArray) (he : ends s.data.toList = none) (w : World) (hs : s.size ≤ maxLen) :
    Calls Try.prog 47 #[.string s] w fun en w' => en = .returned (.tuple #[.int .i64 0, .bool false]) ∧ w = w' := by
  unfold maxLen at hs
  have H3 := Lib.hid (fun i (hi : i < s.size) => (getD_byte s i hi) ▸ none_ends he i (by simpa using hi))
  clear he
  go_enter Try.func47, Try.ntmps47
  go_wp2_with fail
  go_loop [7] (fun i => ∃ k : Nat, k ≤ s.size ∧ i = .int .i64 k) (fun i => s.size - (intOf i).toNat)
  case atStart => exact ⟨0, by omega, rfl⟩
  case round =>
    obtain ⟨k, hk, rfl⟩ := hrel
    by_cases hlt : k < s.size
    · go_wp2
      · have hb := H3.out k hlt
        exfalso
        have hc : ((s[k].toNat : Nat) : Int) < 128 := by assumption
        omega
      · go_round
        case rel => exact ⟨k + 1, by omega, by go_num⟩
        case measure => simp [intOf]; omega
    · go_wp2
      go_ret2
      exact ⟨rfl, rfl⟩

theorem read_none (s : ByteArray) (he : ends s.data.toList = none) (w : World) (hs : s.size ≤ maxLen) :
    Calls Try.prog 21 #[.string s] w fun en w' => en = .returned (.tuple #[.int .u64 0, .int .i64 0, .int .i64 4]) ∧ w = w' := by
  have HE := Lib.hid he
  clear he
  go_enter Try.func21, Try.ntmps21
  go_wp2_with (go_at_call 47; refine (end_none _ HE.out _ hs).mono ?_; rintro e w' ⟨rfl, rfl⟩)
  go_ret3
  exact ⟨rfl, rfl⟩

theorem read_range (s : ByteArray) (e : Nat) (he : ends s.data.toList = some e) (w : World) (hs : s.size ≤ maxLen) (hr : 9 < e ∨ e = 9 ∧ 1 < (s.data.toList.getD 9 0).toNat) :
    Calls Try.prog 21 #[.string s] w fun en w' => en = .returned (.tuple #[.int .u64 0, .int .i64 0, .int .i64 2]) ∧ w = w' := by
  have h1 := (ends_some he).1
  have h1 : e < s.size := by simpa using h1
  have HE := Lib.hid he
  clear he
  have hs' := hs
  unfold maxLen at hs
  rcases hr with hr | ⟨rfl, hr⟩
  · go_enter Try.func21, Try.ntmps21
    go_wp2_with (go_at_call 47; refine (end_some _ _ HE.out _ hs').mono ?_; rintro e w' ⟨rfl, rfl⟩)
    go_ret3
    exact ⟨rfl, rfl⟩
  · rw [getD_byte s 9 h1] at hr
    go_enter Try.func21, Try.ntmps21
    go_wp2_with (go_at_call 47; refine (end_some _ _ HE.out _ hs').mono ?_; rintro e w' ⟨rfl, rfl⟩)
    go_ret3
    exact ⟨rfl, rfl⟩

theorem read_form (s : ByteArray) (e : Nat) (he : ends s.data.toList = some e) (w : World) (hs : s.size ≤ maxLen) (hr : ¬ (9 < e ∨ e = 9 ∧ 1 < (s.data.toList.getD 9 0).toNat))
    (hf : 0 < e ∧ (s.data.toList.getD e 0).toNat = 0) :
    Calls Try.prog 21 #[.string s] w fun en w' => en = .returned (.tuple #[.int .u64 0, .int .i64 0, .int .i64 5]) ∧ w = w' := by
  have h1 := (ends_some he).1
  have h1 : e < s.size := by simpa using h1
  have HE := Lib.hid he
  clear he
  have hs' := hs
  unfold maxLen at hs
  obtain ⟨hf1, hf2⟩ := hf
  rw [getD_byte s e h1] at hf2
  have hz : ((s[e].toNat : Int) == 0) = true := by simp; omega
  by_cases he9 : e = 9
  · subst he9
    have h9 : ¬ 1 < s[9].toNat := by omega
    have HZ := Lib.hid hf2
    clear hf2 hr
    go_enter Try.func21, Try.ntmps21
    go_wp2_with (go_at_call 47; refine (end_some _ _ HE.out _ hs').mono ?_; rintro e w' ⟨rfl, rfl⟩)
    go_ret3
    exact ⟨rfl, rfl⟩
  · have h9 : e < 9 := by omega
    clear hf2 hr
    go_enter Try.func21, Try.ntmps21
    go_wp2_with (go_at_call 47; refine (end_some _ _ HE.out _ hs').mono ?_; rintro e w' ⟨rfl, rfl⟩)
    go_ret3
    exact ⟨rfl, rfl⟩

end Go.Proofs.Ytfghllgkbdfedaa.Var
