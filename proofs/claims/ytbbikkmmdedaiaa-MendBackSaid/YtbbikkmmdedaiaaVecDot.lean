/- What Same, vector.Dot and the reference's Dot compute; where lengths differ. -/
import Derived.Test.YtbbikkmmdedaiaaVecRef2
set_option maxRecDepth 100000
namespace Go.Proofs.Ytbbikkmmdedaiaa.Vec
open Go.RowKit Go.Proofs.Ytbbikkmmdedaiaa.Gf

theorem ref_add_bad (A : Option Addr) (n c : Nat) (A2 : Option Addr) (n2 c2 : Nat) (w : World) (h : n ≠ n2) :
    Calls Try.prog 20 #[.slice A n c, .slice A2 n2 c2] w fun e w' => e = .returned (.tuple #[.slice none 0 0, .int .i64 16]) ∧ w = w' := by
  have hb : (((n : Nat) : Int) == ((n2 : Nat) : Int)) = false := by simp; omega
  have hb2 : (((n : Nat) : Int) != ((n2 : Nat) : Int)) = true := by simp; omega
  clear h
  go_enter Try.func20, Try.ntmps20
  go_wp2_with fail
  go_ret2
  exact ⟨rfl, rfl⟩

theorem same_any (A : Option Addr) (c B : Nat) (A2 : Option Addr) (c2 B2 : Nat) (l : List Nat) (w : World) (hr : Reads w B 1 A l.length (U8s l)) (hr2 : Reads w B2 1 A2 l.length (U8s l)) (hn : l.length ≤ 1000000) :
    Calls Try.prog 25 #[.slice A l.length c, .slice A2 l.length c2] w fun e w' => e = .returned (.bool true) ∧ ∃ k, w' = w.drewN k := by
  obtain ⟨n, hnn⟩ : ∃ n, n = l.length := ⟨_, rfl⟩
  rw [← hnn] at hr hr2 ⊢
  have hnb : n ≤ 1000000 := by omega
  have HR := Lib.hid hr
  have HR2 := Lib.hid hr2
  clear hr hr2 hnn hn
  go_enter Try.func25, Try.ntmps25
  go_wp2_with fail
  go_loopw [5] (fun v wr => ∃ i : Nat, i ≤ n ∧ v = .int .i64 i ∧ ∃ q, wr = w.drewN q) (fun v _ => n - (intOf v).toNat)
  case atStart => exact ⟨0, by omega, rfl, 0, rfl⟩
  case round =>
    obtain ⟨i, hi, rfl, q, hq⟩ := hrel
    have hR1 : Reads wr B 1 A n (U8s l) := by rw [hq]; exact HR.out.drewN q
    have hR2 : Reads wr B2 1 A2 n (U8s l) := by rw [hq]; exact HR2.out.drewN q
    have HQ := Lib.hid hq
    clear hq
    by_cases hlt : i < n
    · obtain ⟨ad, u, rfl, _, hu, hc⟩ := hR1.at_ hlt
      obtain ⟨rfl, _⟩ := U8s_at hu
      obtain ⟨ad2, u2, rfl, _, hu2, hc2⟩ := hR2.at_ hlt
      obtain ⟨rfl, _⟩ := U8s_at hu2
      obtain ⟨x, hx⟩ : ∃ x, x = l.getD i 0 := ⟨_, rfl⟩
      rw [← hx] at hc hc2
      clear hx hu hu2 hR1 hR2
      go_wp2_with fail
      go_quiet (fail)
      go_wp2_with fail
      go_roundw
      case rel => exact ⟨i + 1, by omega, by go_num, q + _, by rw [HQ.out, World.drewN_drewN]⟩
      case measure => simp [intOf]; omega
    · obtain rfl : i = n := by omega
      go_wp2_with fail
      go_ret
      exact ⟨rfl, q, HQ.out⟩

theorem dot_snoc : ∀ (l m : List Nat) (i : Nat), i < l.length → l.length = m.length → dot (l.take (i + 1)) (m.take (i + 1)) = dot (l.take i) (m.take i) ^^^ mul (l.getD i 0) (m.getD i 0)
  | [], _, _, h, _ => by simp at h
  | _ :: _, [], _, _, h => by simp at h
  | a :: l, b :: m, 0, _, _ => by simp [dot]
  | a :: l, b :: m, i + 1, h, h2 => by
    simp only [List.take_succ_cons, dot, List.getD_cons_succ]
    rw [dot_snoc l m i (by simpa using h) (by simpa using h2), Nat.xor_assoc]
theorem dot_lt : ∀ (l m : List Nat), Bytes l → dot l m < 256
  | [], _, _ => by simp [dot]
  | _ :: _, [], _ => by simp [dot]
  | a :: l, b :: m, h => by
    rw [dot]
    exact xlt (mul_lt a b (h a (by simp))) (dot_lt l m (fun x hx => h x (by simp [hx])))
theorem Bytes.take {l : List Nat} (h : Bytes l) (i : Nat) : Bytes (l.take i) := fun x hx => h x (List.mem_of_mem_take hx)

theorem dot_any (A : Option Addr) (c B : Nat) (A2 : Option Addr) (c2 B2 : Nat) (l m : List Nat) (w : World) (hr : Reads w B 1 A l.length (U8s l)) (hr2 : Reads w B2 1 A2 m.length (U8s m)) (hl : Bytes l) (hm : Bytes m) (hn : l.length ≤ 1000000) (hlm : l.length = m.length) :
    Calls Try.prog 23 #[.slice A l.length c, .slice A2 m.length c2] w fun e w' => e = .returned (.tuple #[.int .u8 (dot l m : Nat), .int .i64 0]) ∧ ∃ k, w' = w.drewN k := by
  rw [← hlm] at hr2 ⊢
  obtain ⟨n, hnn⟩ : ∃ n, n = l.length := ⟨_, rfl⟩
  have HLM := Lib.hid hlm
  rw [← hnn] at hr hr2 ⊢
  have hnb : n ≤ 1000000 := by omega
  have HN := Lib.hid hnn
  have HR := Lib.hid hr
  have HR2 := Lib.hid hr2
  have HL := Lib.hid hl
  have HM := Lib.hid hm
  clear hr hr2 hnn hn hl hm hlm
  go_enter Try.func23, Try.ntmps23
  go_wp2_with fail
  go_loopw [6, 15] (fun s v wr => ∃ i : Nat, i ≤ n ∧ s = .int .u8 (dot (l.take i) (m.take i) : Nat) ∧ v = .int .i64 i ∧ ∃ q, wr = w.drewN q) (fun _ v _ => n - (intOf v).toNat)
  case atStart => exact ⟨0, by omega, rfl, rfl, 0, rfl⟩
  case round =>
    obtain ⟨i, hi, rfl, rfl, q, hq⟩ := hrel
    have hR1 : Reads wr B 1 A n (U8s l) := by rw [hq]; exact HR.out.drewN q
    have hR2 : Reads wr B2 1 A2 n (U8s m) := by rw [hq]; exact HR2.out.drewN q
    have HQ := Lib.hid hq
    clear hq
    by_cases hlt : i < n
    · obtain ⟨ad, u, rfl, _, hu, hc⟩ := hR1.at_ hlt
      obtain ⟨rfl, _⟩ := U8s_at hu
      obtain ⟨ad2, u2, rfl, _, hu2, hc2⟩ := hR2.at_ hlt
      obtain ⟨rfl, _⟩ := U8s_at hu2
      obtain ⟨x, hx⟩ : ∃ x, x = l.getD i 0 := ⟨_, rfl⟩
      obtain ⟨y, hy⟩ : ∃ y, y = m.getD i 0 := ⟨_, rfl⟩
      obtain ⟨D, hD⟩ : ∃ D, D = dot (l.take i) (m.take i) := ⟨_, rfl⟩
      obtain ⟨Y, hY⟩ : ∃ Y, Y = mul x y := ⟨_, rfl⟩
      obtain ⟨E, hE⟩ : ∃ E, E = D ^^^ Y := ⟨_, rfl⟩
      have hxl : x < 256 := by rw [hx]; exact HL.out.at_ i
      have hyl : y < 256 := by rw [hy]; exact HM.out.at_ i
      have hDl : D < 256 := by rw [hD]; exact dot_lt _ _ (HL.out.take i)
      have hYl : Y < 256 := by rw [hY]; exact mul_lt x y hxl
      have hxo : bits .xor .u8 (D : Int) (Y : Int) = (E : Int) := by rw [hE]; exact u8_xor_nat D Y hDl hYl
      have HE := Lib.hid (show dot (l.take (i + 1)) (m.take (i + 1)) = E by rw [dot_snoc l m i (by rw [← HN.out]; exact hlt) HLM.out, hE, hD, hY, hx, hy])
      have M1 := Lib.hid (show ∀ w, Calls Try.prog 33 #[.int .u8 x, .int .u8 y] w fun e w' => e = .returned (.int .u8 Y) ∧ w = w' from mul_at x y Y hxl hyl hY.symm)
      rw [← hD]
      rw [← hx] at hc
      rw [← hy] at hc2
      clear hx hy hD hY hE hu hu2 hR1 hR2
      go_wp2_with fail
      go_quiet ((go_at_call 33; exact Calls.quiet_of_same ((M1.out _).mono fun _ _ h => ⟨h.1, h.2.symm⟩)))
      go_wp2_with fail
      go_roundw
      case rel => exact ⟨i + 1, by omega, by rw [HE.out], by go_num, q + _, by rw [HQ.out, World.drewN_drewN]⟩
      case measure => simp [intOf]; omega
    · obtain rfl : i = n := by omega
      have e1 : l.take i = l := by rw [HN.out]; exact List.take_length
      have e2 : m.take i = m := by rw [HN.out, HLM.out]; exact List.take_length
      rw [e1, e2]
      clear e1 e2
      go_wp2_with fail
      go_ret2
      exact ⟨rfl, q, HQ.out⟩
end Go.Proofs.Ytbbikkmmdedaiaa.Vec
