/- What poly.Trim and the reference's Trim give back: the row without its last zeros, in the same cells. -/
import Derived.Test.YtbbikkmmdedaiaaPolyPlain
import Derived.Test.YtbbikkmmdedaiaaVecLaw2
set_option maxRecDepth 100000
namespace Go.Proofs.Ytbbikkmmdedaiaa.Poly
open Go.RowKit Go.Proofs.Ytbbikkmmdedaiaa.Gf Go.Proofs.Ytbbikkmmdedaiaa.Vec

theorem U8s_take (l : List Nat) (k : Nat) : U8s (l.take k) = (U8s l).take k := by simp [U8s]
theorem reads_take {w : World} {B n : Nat} {A : Option Addr} {xs : List Value} (h : Reads w B 1 A n xs) (k : Nat) (hk : k ≤ n) : Reads w B 1 A k (xs.take k) := by
  have hl := h.1
  refine ⟨by rw [List.length_take]; omega, fun hp => ?_⟩
  obtain ⟨ad, e, hb, hc⟩ := h.2 (by omega)
  refine ⟨ad, e, hb, fun j u hu => hc j u ?_⟩
  rw [List.getElem?_take] at hu
  split at hu
  · exact hu
  · cases hu

theorem trim_any (A : Option Addr) (c B : Nat) (l : List Nat) (w : World) (hr : Reads w B 1 A l.length (U8s l)) (hn : l.length ≤ 1000000) (hc : l.length ≤ c) :
    Calls Try.prog 43 #[.slice A l.length c] w fun e w' => (∃ A' c', e = .returned (.slice A' (trim l).length c') ∧ (trim l).length ≤ c' ∧ Reads w B 1 A' (trim l).length (U8s (trim l))) ∧ w = w' := by
  obtain ⟨n, hnn⟩ : ∃ n, n = l.length := ⟨_, rfl⟩
  have HN := Lib.hid hnn
  rw [← hnn] at hr hn hc ⊢
  have HR := Lib.hid hr
  clear hnn hr
  go_enter Try.func43, Try.ntmps43
  go_wp2_with fail
  go_loop [3] (fun v => ∃ i : Nat, i ≤ n ∧ v = .int .i64 i ∧ trimN l i = trimN l n) (fun v => (intOf v).toNat)
  case atStart => exact ⟨n, by omega, rfl, rfl⟩
  case round =>
    obtain ⟨i, hi, rfl, ht⟩ := hrel
    have HT := Lib.hid ht
    clear ht
    cases i with
    | zero =>
      go_wp2_with fail
      go_ret
      have e : (trim l).length = 0 := by rw [trim_len, ← HN.out, ← HT.out]; rfl
      exact ⟨⟨A, 0, by rw [e]; rfl, by omega, by rw [List.eq_nil_of_length_eq_zero e]; exact Reads.none_⟩, rfl⟩
    | succ i =>
      obtain ⟨ad, u, rfl, _, hu, hcl⟩ := HR.out.at_ (show i < n by omega)
      obtain ⟨rfl, _⟩ := U8s_at hu
      obtain ⟨x, hx⟩ : ∃ x, x = l.getD i 0 := ⟨_, rfl⟩
      rw [← hx] at hcl
      have HX := Lib.hid hx
      clear hu hx
      by_cases h0 : x = 0
      · have hz : ((x : Int) == 0) = true := by simp [h0]
        have HT2 := Lib.hid (show trimN l i = trimN l n by rw [← HT.out, trimN, if_pos (by rw [← HX.out, h0])])
        clear h0
        go_wp2_with fail
        refine ⟨⟨i, by omega, rfl, HT2.out⟩, ?_⟩
        show ((i : Nat) : Int).toNat < ((i + 1 : Nat) : Int).toNat
        omega
      · have hz : ((x : Int) == 0) = false := by simp; omega
        have HT2 := Lib.hid (show trimN l n = i + 1 by rw [← HT.out, trimN, if_neg (by rw [← HX.out]; exact h0)])
        clear h0
        go_wp2_with fail
        go_ret
        have e : (trim l).length = i + 1 := by rw [trim_len, ← HN.out, HT2.out]
        have e2 : trim l = l.take (i + 1) := by rw [trim, ← HN.out, HT2.out]
        exact ⟨⟨some ad, i + 1, by rw [e]; rfl, by omega, by rw [e, e2, U8s_take]; exact reads_take HR.out (i + 1) hi⟩, rfl⟩

theorem ref_trim_any (A : Option Addr) (c B : Nat) (l : List Nat) (w : World) (hr : Reads w B 1 A l.length (U8s l)) (hn : l.length ≤ 1000000) (hc : l.length ≤ c) :
    Calls Try.prog 44 #[.slice A l.length c] w fun e w' => (∃ A' c', e = .returned (.slice A' (trim l).length c') ∧ (trim l).length ≤ c' ∧ Reads w B 1 A' (trim l).length (U8s (trim l))) ∧ w = w' := by
  obtain ⟨n, hnn⟩ : ∃ n, n = l.length := ⟨_, rfl⟩
  have HN := Lib.hid hnn
  rw [← hnn] at hr hn hc ⊢
  have HR := Lib.hid hr
  clear hnn hr
  go_enter Try.func44, Try.ntmps44
  go_wp2_with fail
  go_loop [3] (fun v => ∃ i : Nat, i ≤ n ∧ v = .int .i64 i ∧ trimN l i = trimN l n) (fun v => (intOf v).toNat)
  case atStart => exact ⟨n, by omega, rfl, rfl⟩
  case round =>
    obtain ⟨i, hi, rfl, ht⟩ := hrel
    have HT := Lib.hid ht
    clear ht
    cases i with
    | zero =>
      go_wp2_with fail
      go_ret
      have e : (trim l).length = 0 := by rw [trim_len, ← HN.out, ← HT.out]; rfl
      exact ⟨⟨A, c, by rw [e]; rfl, by omega, by rw [List.eq_nil_of_length_eq_zero e]; exact Reads.none_⟩, rfl⟩
    | succ i =>
      obtain ⟨ad, u, rfl, _, hu, hcl⟩ := HR.out.at_ (show i < n by omega)
      obtain ⟨rfl, _⟩ := U8s_at hu
      obtain ⟨x, hx⟩ : ∃ x, x = l.getD i 0 := ⟨_, rfl⟩
      rw [← hx] at hcl
      have HX := Lib.hid hx
      clear hu hx
      by_cases h0 : x = 0
      · have hz : ((x : Int) == 0) = true := by simp [h0]
        have HT2 := Lib.hid (show trimN l i = trimN l n by rw [← HT.out, trimN, if_pos (by rw [← HX.out, h0])])
        clear h0
        go_wp2_with fail
        refine ⟨⟨i, by omega, rfl, HT2.out⟩, ?_⟩
        show ((i : Nat) : Int).toNat < ((i + 1 : Nat) : Int).toNat
        omega
      · have hz : ((x : Int) == 0) = false := by simp; omega
        have HT2 := Lib.hid (show trimN l n = i + 1 by rw [← HT.out, trimN, if_neg (by rw [← HX.out]; exact h0)])
        clear h0
        go_wp2_with fail
        go_ret
        have e : (trim l).length = i + 1 := by rw [trim_len, ← HN.out, HT2.out]
        have e2 : trim l = l.take (i + 1) := by rw [trim, ← HN.out, HT2.out]
        exact ⟨⟨some ad, c, by rw [e]; rfl, by omega, by rw [e, e2, U8s_take]; exact reads_take HR.out (i + 1) hi⟩, rfl⟩
end Go.Proofs.Ytbbikkmmdedaiaa.Poly
