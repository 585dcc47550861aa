/- What the reference's Read of layer 53 computes: the same plain function; condition: the string is one of the model's. -/
import Derived.Test.YtfghllgkbdfedaaVarWalk2
namespace Go.Proofs.Ytfghllgkbdfedaa.Var
open Go.RowKit
set_option maxRecDepth 100000

theorem val_drop_le (l : List UInt8) (j : Nat) : val (l.drop j) ≤ val l := by
  induction l generalizing j with
  | nil => simp
  | cons x l ih =>
    cases j with
    | zero => simp
    | succ j => simp only [List.drop_succ_cons, val]; have := ih j; omega
theorem val_drop_pred (l : List UInt8) (j : Nat) (h : j < l.length) : val (l.drop j) = (l.getD j 0).toNat % 128 + 128 * val (l.drop (j + 1)) := by
  rw [List.drop_eq_getElem_cons h]
  simp [val, List.getD, List.getElem?_eq_getElem h]

theorem refread_none (s : ByteArray) (he : ends s.data.toList = none) (w : World) (hs : s.size ≤ maxLen) :
    Calls Try.prog 22 #[.string s] w fun en w' => en = .returned (.tuple #[.int .u64 0, .int .i64 0, .int .i64 4]) ∧ w = w' := by
  unfold maxLen at hs
  have H3 := Lib.hid (fun i (hi : i < s.size) => (getD_byte s i hi) ▸ none_ends he i (by simpa using hi))
  clear he
  go_enter Try.func22, Try.ntmps22
  go_wp2_with fail
  go_loop [5] (fun i => ∃ k : Nat, k ≤ s.size ∧ i = .int .i64 k) (fun i => s.size - (intOf i).toNat)
  case atStart => exact ⟨0, by omega, rfl⟩
  case round =>
    obtain ⟨k, hk, rfl⟩ := hrel
    by_cases hlt : k < s.size
    · have hb := H3.out k hlt
      go_wp2
      go_round
      case rel => exact ⟨k + 1, by omega, by go_num⟩
      case measure => simp [intOf]; omega
    · have hn : ((k : Int) == (s.size : Int)) = true := by simp; omega
      go_wp2
      go_ret3
      exact ⟨rfl, rfl⟩

/-- the first loop's end is at e -/
theorem refread_some (s : ByteArray) (e : Nat) (he : ends s.data.toList = some e) (w : World) (hs : s.size ≤ maxLen) :
    Calls Try.prog 22 #[.string s] w fun en w' => en = .returned (.tuple #[.int .u64 (read s.data.toList).1, .int .i64 (read s.data.toList).2.1, .int .i64 (read s.data.toList).2.2]) ∧ w = w' := by
  have hs' := hs
  unfold maxLen at hs
  obtain ⟨h1, h2, h3⟩ := ends_some he
  have h1 : e < s.size := by simpa using h1
  rw [getD_byte s e h1] at h2
  have H3 := Lib.hid (fun i (hi : i < e) => (getD_byte s i (by omega)) ▸ h3 i hi)
  clear h3
  have hnl : ((e : Int) == (s.size : Int)) = false := by simp; omega
  have hread : read s.data.toList = if 9 < e ∨ e = 9 ∧ 1 < (s.data.toList.getD 9 0).toNat then (0, 0, 2)
    else if 0 < e ∧ (s.data.toList.getD e 0).toNat = 0 then (0, 0, 5) else (val (s.data.toList.take (e + 1)), e + 1, 0) := by
    unfold read; rw [he]
  have HR := Lib.hid hread
  have HE := Lib.hid he
  clear hread he
  go_enter Try.func22, Try.ntmps22
  go_wp2_with fail
  go_loop [5] (fun i => ∃ k : Nat, k ≤ e ∧ i = .int .i64 k) (fun i => e - (intOf i).toNat)
  case atStart => exact ⟨0, by omega, rfl⟩
  case round =>
    obtain ⟨k, hk, rfl⟩ := hrel
    by_cases hlt : k < e
    · have hb := H3.out k hlt
      have hks : k < s.size := by omega
      go_wp2
      go_round
      case rel => exact ⟨k + 1, by omega, by go_num⟩
      case measure => simp [intOf]; omega
    · obtain rfl : k = e := by omega
      have hr := HR.out
      clear hlt
      by_cases c1 : 9 < k ∨ k = 9 ∧ 1 < (s.data.toList.getD 9 0).toNat
      · rw [if_pos c1] at hr
        have HQ := Lib.hid hr
        clear hr
        rcases c1 with c1 | ⟨rfl, c1⟩
        · go_wp2
          go_ret3
          exact ⟨by rw [HQ.out]; rfl, rfl⟩
        · rw [getD_byte s 9 h1] at c1
          go_wp2
          go_ret3
          exact ⟨by rw [HQ.out]; rfl, rfl⟩
      · rw [if_neg c1] at hr
        have hb9 : k ≤ 9 := by omega
        have c4 : (h9 : k = 9) → ¬ 1 < (s[9]'(by omega)).toNat := by
          intro h9; subst h9; rw [getD_byte s 9 h1] at c1; omega
        clear c1
        by_cases c2 : 0 < k ∧ (s.data.toList.getD k 0).toNat = 0
        · rw [if_pos c2] at hr
          have HQ := Lib.hid hr
          clear hr
          obtain ⟨c2, c3⟩ := c2
          rw [getD_byte s k h1] at c3
          have hz : ((s[k].toNat : Int) == 0) = true := by simp; omega
          clear c3
          by_cases hk9 : k = 9
          · subst hk9
            have c5 := c4 rfl
            clear c4
            go_wp2
            go_ret3
            exact ⟨by rw [HQ.out]; rfl, rfl⟩
          · have hne : ((k : Int) == 9) = false := by simp; omega
            clear c4
            go_wp2
            go_ret3
            exact ⟨by rw [HQ.out]; rfl, rfl⟩
        · rw [if_neg c2] at hr
          have hlim := (put_read _ _ _ hr).2.2.2
          have HQ := Lib.hid hr
          clear hr
          rw [getD_byte s k h1] at c2
          have HB := Lib.hid (fun j (hj : j < k + 1) => val_drop_pred (s.data.toList.take (k + 1)) j (by simp; omega))
          have HL := Lib.hid (fun j => val_drop_le (s.data.toList.take (k + 1)) j)
          have HG := Lib.hid (fun j (hj : j < k + 1) => show (s.data.toList.take (k + 1)).getD j 0 = s[j] by
            rw [← getD_byte s j (by omega)]; simp [List.getD, hj])
          have HN := Lib.hid (show (s.data.toList.take (k + 1)).drop (k + 1) = [] by simp)
          have hkd : k = 0 ∨ (k = 9 ∧ 0 < k) ∨ (0 < k ∧ k < 9) := by omega
          rcases hkd with hk0 | ⟨hk9, hk0⟩ | ⟨hk0, hk9⟩
          all_goals first
            | (have hk1 : ¬ 0 < k := (by have q : k = 0 := hk0; omega)
               have hk2 : k < 9 := (by omega)
               clear hk0 c2 c4
               go_wp2)
            | (have q : k = 9 := hk9
               have hz : ((s[k].toNat : Int) == 0) = false := (by simp; omega)
               have hne : ((k : Int) == 9) = true := (by simp; omega)
               have hks9 : 9 < s.size := (by omega)
               have c5 : ¬ 1 < (s[9]'hks9).toNat := c4 hk9
               clear hk9 c2 c4 q
               go_wp2)
            | (have q : k < 9 := hk9
               have hz : ((s[k].toNat : Int) == 0) = false := (by simp; omega)
               have hne : ((k : Int) == 9) = false := (by simp; omega)
               clear c2 c4
               go_wp2)
          all_goals
            go_loop [6, 7] (fun v i => ∃ j : Nat, j ≤ k + 1 ∧ i = .int .i64 ((j : Int) - 1) ∧ v = .int .u64 (val ((s.data.toList.take (k + 1)).drop j) : Nat)) (fun _ i => (intOf i + 1).toNat)
            case atStart => exact ⟨k + 1, by omega, by go_num, by rw [HN.out]; rfl⟩
            case round =>
              obtain ⟨j, hj, rfl, rfl⟩ := hrel
              by_cases hj0 : j = 0
              · have hj1 : ¬ (0 : Int) ≤ (j : Int) - 1 := by omega
                go_wp2
                go_ret3
                exact ⟨by rw [HQ.out]; rfl, rfl⟩
              · obtain ⟨i, rfl⟩ : ∃ i, j = i + 1 := ⟨j - 1, by omega⟩
                have hi1 : ((i + 1 : Nat) : Int) - 1 = (i : Int) := by omega
                rw [hi1]
                clear hi1
                have his : i < s.size := by omega
                have hb := HB.out i (by omega)
                rw [HG.out i (by omega)] at hb
                have hl := HL.out i
                have HV := Lib.hid hb
                have hbb := UInt8.toNat_lt s[i]
                have hmm : val ((s.data.toList.take (k + 1)).drop (i + 1)) * 128 + s[i].toNat % 128 < 18446744073709551616 := by omega
                clear hb hl
                go_wp2
                go_round
                case rel => exact ⟨i, by omega, rfl, by rw [HV.out]; go_num⟩
                case measure => simp [intOf]

theorem refread_any (s : ByteArray) (w : World) (hs : s.size ≤ maxLen) :
    Calls Try.prog 22 #[.string s] w fun en w' => en = .returned (.tuple #[.int .u64 (read s.data.toList).1, .int .i64 (read s.data.toList).2.1, .int .i64 (read s.data.toList).2.2]) ∧ w = w' := by
  cases he : ends s.data.toList with
  | none =>
    have hr : read s.data.toList = (0, 0, 4) := by unfold read; rw [he]
    rw [hr]
    exact refread_none s he w hs
  | some e => exact refread_some s e he w hs
end Go.Proofs.Ytfghllgkbdfedaa.Var
