/- What lagrange.Zeros and check, and the reference's, compute. -/
import Derived.Test.YtbbikkmmdedaiaaPolyLaws
import Derived.Test.YtbbikkmmdedaiaaLagPlain
set_option maxRecDepth 100000
namespace Go.Proofs.Ytbbikkmmdedaiaa.Pr
open Go.RowKit Go.Proofs.Ytbbikkmmdedaiaa.Gf Go.Proofs.Ytbbikkmmdedaiaa.Vec

theorem take_co (l : List F) (i : Nat) (h : i < l.length) : l.take (i + 1) = l.take i ++ [co l i] := by
  rw [List.take_succ_eq_append_getElem h, co_in l i h]
theorem zf_len_take (l : List F) (i : Nat) (h : i ≤ l.length) : (zf [1] (l.take i)).length = i + 1 := by
  have := zs_len (l.take i)
  unfold zs at this
  rw [this, List.length_take]; omega
theorem below_to {g : Nat} {w w1 w2 : World} (hg : g = w.heap.size) (h : Below g w w1) (k : Below w1.heap.size w1 w2) : Below g w w2 := by
  subst hg
  exact below_chain h k

theorem zeros_row (A : Option Addr) (n c : Nat) (l : List F) (w : World) (h1 : RowAt w A n c l) (hn : n ≤ 1000) :
    Calls Try.prog 58 #[.slice A n c] w (Gv (zs l) w) := by
  obtain ⟨g, hg⟩ : ∃ g, g = w.heap.size := ⟨_, rfl⟩
  obtain ⟨t1, u1, _⟩ := lit_step w [1] #[.int .u8 1] rfl 1 rfl
  obtain ⟨W1, hW1⟩ : ∃ WX : World, WX = w.alloc (.cells #[.int .u8 1] 5) := ⟨_, rfl⟩
  rw [← hW1, ← hg] at t1
  rw [← hW1, ← hg] at u1
  have HW1 := Lib.hid hW1
  have HG := Lib.hid hg
  have H1 := Lib.hid h1
  clear hW1 hg h1
  go_enter Try.func58, Try.ntmps58
  go_wp2_with fail
  rw [← HW1.out, ← HG.out]
  go_loopw [3, 9] (fun o v wr => ∃ (i : Nat) (Ao : Option Addr) (no co' : Nat), i ≤ n ∧ o = .slice Ao no co' ∧ v = .int .i64 i ∧ RowAt wr Ao no co' (zf [1] (l.take i)) ∧ Below g w wr) (fun _ v _ => n - (intOf v).toNat)
  case atStart => exact ⟨0, _, 1, 1, by omega, rfl, rfl, t1, u1⟩
  case round =>
    obtain ⟨i, Ao, no, co', hi, rfl, rfl, ho, hb⟩ := hrel
    clear t1 u1
    by_cases hlt : i < n
    · obtain ⟨av, rfl, _, hc⟩ := (H1.out.on (by rw [← HG.out]; exact hb)).cell hlt
      obtain ⟨z, hz⟩ : ∃ z, z = (co l i).1 := ⟨_, rfl⟩
      rw [← hz] at hc
      obtain ⟨t2, u2, _⟩ := lit_step wr [co l i, 1] #[.int .u8 (z : Nat), .int .u8 1] (by rw [hz]; rfl) 2 rfl
      obtain ⟨W2, hW2⟩ : ∃ WX : World, WX = wr.alloc (.cells #[.int .u8 (z : Nat), .int .u8 1] 5) := ⟨_, rfl⟩
      rw [← hW2] at t2 u2
      have HW2 := Lib.hid hW2
      have ho2 := ho.on u2
      have hno : no ≤ 1001 := by have h1 := ho.1; rw [zf_len_take l i (by rw [H1.out.1]; exact hi)] at h1; omega
      have hb2 := below_to HG.out hb u2
      clear hz hW2 ho hb u2
      go_wp2_with fail
      rw [← HW2.out]
      refine (mul_row _ _ _ _ _ _ _ _ W2 ho2 t2 (by omega) (by omega)).mono ?_
      rintro e W3 ⟨A3, n3, c3, rfl, r3, u3⟩
      have hb3 := below_to HG.out hb2 u3
      have r4 : RowAt W3 A3 n3 c3 (zf [1] (l.take (i + 1))) := by
        rw [take_co l i (by rw [H1.out.1]; exact hlt), zf_snoc]
        exact r3
      clear r3 u3 hb2 ho2 t2
      go_wp2_with fail
      go_roundw
      case rel => exact ⟨i + 1, A3, n3, c3, by omega, rfl, by go_num, r4, hb3⟩
      case measure => simp [intOf]; omega
    · obtain rfl : i = n := by omega
      go_wp2_with fail
      go_ret
      have e : l.take i = l := by rw [← H1.out.1]; exact List.take_length
      rw [e] at ho
      exact ⟨Ao, no, co', rfl, ho, by rw [← HG.out]; exact hb⟩

theorem ref_zeros_row (A : Option Addr) (n c : Nat) (l : List F) (w : World) (h1 : RowAt w A n c l) (hn : n ≤ 1000) :
    Calls Try.prog 59 #[.slice A n c] w (Gv (zs l) w) := by
  obtain ⟨g, hg⟩ : ∃ g, g = w.heap.size := ⟨_, rfl⟩
  obtain ⟨t1, u1, _⟩ := lit_step w [1] #[.int .u8 1] rfl 1 rfl
  obtain ⟨W1, hW1⟩ : ∃ WX : World, WX = w.alloc (.cells #[.int .u8 1] 5) := ⟨_, rfl⟩
  rw [← hW1, ← hg] at t1
  rw [← hW1, ← hg] at u1
  have HW1 := Lib.hid hW1
  have HG := Lib.hid hg
  have H1 := Lib.hid h1
  clear hW1 hg h1
  go_enter Try.func59, Try.ntmps59
  go_wp2_with fail
  rw [← HW1.out, ← HG.out]
  go_loopw [3, 4] (fun o v wr => ∃ (i : Nat) (Ao : Option Addr) (no co' : Nat), i ≤ n ∧ o = .slice Ao no co' ∧ v = .int .i64 i ∧ RowAt wr Ao no co' (zf [1] (l.take i)) ∧ Below g w wr) (fun _ v _ => n - (intOf v).toNat)
  case atStart => exact ⟨0, _, 1, 1, by omega, rfl, rfl, t1, u1⟩
  case round =>
    obtain ⟨i, Ao, no, co', hi, rfl, rfl, ho, hb⟩ := hrel
    clear t1 u1
    by_cases hlt : i < n
    · obtain ⟨av, rfl, _, hc⟩ := (H1.out.on (by rw [← HG.out]; exact hb)).cell hlt
      obtain ⟨z, hz⟩ : ∃ z, z = (co l i).1 := ⟨_, rfl⟩
      rw [← hz] at hc
      obtain ⟨t2, u2, _⟩ := lit_step wr [co l i, 1] #[.int .u8 (z : Nat), .int .u8 1] (by rw [hz]; rfl) 2 rfl
      obtain ⟨W2, hW2⟩ : ∃ WX : World, WX = wr.alloc (.cells #[.int .u8 (z : Nat), .int .u8 1] 5) := ⟨_, rfl⟩
      rw [← hW2] at t2 u2
      have HW2 := Lib.hid hW2
      have ho2 := ho.on u2
      have hno : no ≤ 1001 := by have h1 := ho.1; rw [zf_len_take l i (by rw [H1.out.1]; exact hi)] at h1; omega
      have hb2 := below_to HG.out hb u2
      clear hz hW2 ho hb u2
      go_wp2_with fail
      rw [← HW2.out]
      refine (ref_mul_row _ _ _ _ _ _ _ _ W2 ho2 t2 (by omega) (by omega)).mono ?_
      rintro e W3 ⟨A3, n3, c3, rfl, r3, u3⟩
      have hb3 := below_to HG.out hb2 u3
      have r4 : RowAt W3 A3 n3 c3 (zf [1] (l.take (i + 1))) := by
        rw [take_co l i (by rw [H1.out.1]; exact hlt), zf_snoc]
        exact r3
      clear r3 u3 hb2 ho2 t2
      go_wp2_with fail
      go_roundw
      case rel => exact ⟨i + 1, A3, n3, c3, by omega, rfl, by go_num, r4, hb3⟩
      case measure => simp [intOf]; omega
    · obtain rfl : i = n := by omega
      go_wp2_with fail
      go_ret
      have e : l.take i = l := by rw [← H1.out.1]; exact List.take_length
      rw [e] at ho
      exact ⟨Ao, no, co', rfl, ho, by rw [← HG.out]; exact hb⟩
end Go.Proofs.Ytbbikkmmdedaiaa.Pr
