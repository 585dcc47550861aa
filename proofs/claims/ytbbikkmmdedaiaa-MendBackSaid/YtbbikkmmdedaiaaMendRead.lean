/- What mend.Read and mend.Good compute. -/
import Derived.Test.YtbbikkmmdedaiaaMendGuess
import Derived.Test.YtbbikkmmdedaiaaMendPlain3
set_option maxRecDepth 100000
namespace Go.Proofs.Ytbbikkmmdedaiaa.Pr
open Go.RowKit Go.Proofs.Ytbbikkmmdedaiaa.Gf Go.Proofs.Ytbbikkmmdedaiaa.Vec

theorem good_bad (A : Option Addr) (n c : Nat) (k : Int) (w : World) (h : k < 1 ∨ (n : Int) < k ∨ 255 < n) :
    Calls Try.prog 63 #[.slice A n c, .int .i64 k] w fun e w' => e = .returned (.bool false) ∧ w = w' := by
  have MB := Lib.hid (bad_yes A n c k w h)
  clear h
  go_enter Try.func63, Try.ntmps63
  go_wp2_with (go_at_call 73; (with_reducible refine (MB.out).mono ?_); rintro e w' ⟨rfl, rfl⟩)
  go_ret
  exact ⟨rfl, rfl⟩
theorem ret_bool {a b : Bool} (h : a = b) : Ending.returned (.bool a) = .returned (.bool b) := by rw [h]
theorem good_row (A : Option Addr) (n c : Nat) (wo : List F) (k : Nat) (b : Bool) (w : World) (h1 : RowAt w A n c wo) (hk : 1 ≤ k) (hkn : k ≤ n) (hn : n ≤ 255) (hb : b = true ↔ ∃ f, f.length = k ∧ off f wo = 0) :
    Calls Try.prog 63 #[.slice A n c, .int .i64 (k : Nat)] w fun e w' => e = .returned (.bool b) ∧ Below w.heap.size w w' := by
  have H1 := Lib.hid h1
  have MB := Lib.hid (bad_no A n c k w hk hkn hn)
  have HC := Lib.hid (show chk (pls n) wo = 0 from chk_once (by rw [pls_len, h1.1]) (pls_nodup hn))
  have HB := Lib.hid hb
  clear h1 hb
  go_enter Try.func63, Try.ntmps63
  go_wp2_with (go_at_call 73; (with_reducible refine (MB.out).mono ?_); rintro e w' ⟨rfl, rfl⟩)
  refine ((places_row n w (by omega)).mono fun _ _ h => h.gv).mono ?_
  rintro e W1 ⟨Ax, nx, cx, rfl, rx, u1⟩
  have hnx : nx = n := by have h := rx.1; rw [pls_len] at h; exact h.symm
  subst hnx
  have r1 := H1.out.on u1
  go_wp2_with fail
  refine (through_row _ _ _ _ _ _ _ _ W1 rx r1 (by omega) HC.out).mono ?_
  rintro e W2 ⟨p, A2, n2, c2, rfl, hp, r2, u2⟩
  have hb2 := below_chain u1 u2
  have HG := Lib.hid (good_iff (k := k) (by rw [H1.out.1]; exact hn) (by rw [H1.out.1]; exact hkn) (by rw [H1.out.1]; exact hp))
  have hl := r2.1
  clear rx r1 u1 u2 r2 hp
  by_cases hle : n2 ≤ k
  · have d1 : decide (n2 ≤ k) = true := by simp [hle]
    have HT := Lib.hid (show true = b from (HB.out.2 (HG.out.1 (by omega))).symm)
    clear hl hle
    go_wp2_with fail
    go_ret
    exact ⟨ret_bool HT.out, hb2⟩
  · have d1 : decide (n2 ≤ k) = false := by simp; omega
    have HT := Lib.hid (show false = b by
      cases b with
      | false => rfl
      | true => exact absurd (HG.out.2 (HB.out.1 rfl)) (by omega))
    clear hl hle
    go_wp2_with fail
    go_ret
    exact ⟨ret_bool HT.out, hb2⟩

/-- what a reading gives -/
def ReadGv (wo : List F) (k : Nat) (w : World) (e : Ending) (w' : World) : Prop :=
  ((∃ f A n c, Near wo k f ∧ e = .returned (.tuple #[.slice A n c, .int .i64 (off f wo : Nat), .int .i64 0]) ∧ RowAt w' A n c f) ∨ (GuessNo wo k ∧ e = .returned (.tuple #[.slice none 0 0, .int .i64 0, .int .i64 7]))) ∧ Below w.heap.size w w'

theorem read_bad (A : Option Addr) (n c : Nat) (k : Int) (w : World) (h : k < 1 ∨ (n : Int) < k ∨ 255 < n) :
    Calls Try.prog 64 #[.slice A n c, .int .i64 k] w fun e w' => e = .returned (.tuple #[.slice none 0 0, .int .i64 0, .int .i64 1]) ∧ w = w' := by
  have MB := Lib.hid (bad_yes A n c k w h)
  clear h
  go_enter Try.func64, Try.ntmps64
  go_wp2_with (go_at_call 73; (with_reducible refine (MB.out).mono ?_); rintro e w' ⟨rfl, rfl⟩)
  go_ret3
  exact ⟨rfl, rfl⟩
theorem read_row (A : Option Addr) (n c : Nat) (wo : List F) (k : Nat) (w : World) (h1 : RowAt w A n c wo) (hk : 1 ≤ k) (hkn : k ≤ n) (hn : n ≤ 255) :
    Calls Try.prog 64 #[.slice A n c, .int .i64 (k : Nat)] w (ReadGv wo k w) := by
  have H1 := Lib.hid h1
  have HWL := Lib.hid h1.1
  have MB := Lib.hid (bad_no A n c k w hk hkn hn)
  have MG := Lib.hid (guess_row A n c wo k w h1 hk hkn hn)
  clear h1
  go_enter Try.func64, Try.ntmps64
  go_wp2_with (go_at_call 73; (with_reducible refine (MB.out).mono ?_); rintro e w' ⟨rfl, rfl⟩)
  refine (MG.out).mono ?_
  rintro e W1 ⟨⟨hno, rfl⟩ | ⟨d, A1, n1, c1, hy, rfl, r1⟩, u1⟩
  · have HNO := Lib.hid hno
    clear hno
    go_wp2_with fail
    go_ret3
    exact ⟨.inr ⟨HNO.out, rfl⟩, u1⟩
  · have HY := Lib.hid hy
    have hn1 : n1 = k := by have h := r1.1; rw [hy.1] at h; exact h.symm
    subst hn1
    clear hy
    go_wp2_with fail
    refine ((values_row A1 n1 c1 d n W1 r1 (by omega) (by omega)).mono fun _ _ h => h.gv).mono ?_
    rintro e W2 ⟨A2, n2, c2, rfl, r2, u2⟩
    have hn2 : n2 = n := by have h := r2.1; rw [wd_len] at h; exact h.symm
    subst hn2
    have rw2 := (H1.out.on u1).on u2
    have r12 := r1.on u2
    have hb2 := below_chain u1 u2
    obtain ⟨D, hD⟩ : ∃ D, D = off d wo := ⟨_, rfl⟩
    have MA := Lib.hid (apart_row A2 n2 c2 A c (wd d n2) wo D W2 r2 rw2 (by omega) (by rw [hD]; unfold off; rw [HWL.out]))
    have HD := Lib.hid hD
    have hDn : D ≤ n2 := by rw [hD]; have h := ap_le (co (wd d wo.length)) (co wo) wo.length; rw [HWL.out] at h; unfold off; rw [HWL.out]; exact h
    clear r2 rw2 u2 u1 r1 hD
    go_wp2_with fail
    refine (MA.out).mono ?_
    rintro e W3 ⟨rfl, u3⟩
    have r13 := r12.on u3
    have hb3 := below_chain hb2 u3
    clear r12 u3 hb2
    obtain ⟨s, hs⟩ : ∃ s, s = n2 - n1 := ⟨_, rfl⟩
    obtain ⟨t, ht⟩ : ∃ t, t = s / 2 := ⟨_, rfl⟩
    have hsI : (n2 : Int) - (n1 : Int) = (s : Int) := by omega
    have htI : (s : Int) / 2 = (t : Int) := by omega
    have HS := Lib.hid hs
    have HT := Lib.hid ht
    clear hs ht
    by_cases hle : t < D
    · have d1 : decide (t < D) = true := by simp [hle]
      have HNO := Lib.hid (show GuessNo wo n1 from fun f hf => by
        have e := HY.out.2 f hf
        have h2 := hf.2
        rw [← e, ← HD.out, HWL.out, ← HS.out, ← HT.out] at h2
        omega)
      clear hle
      go_wp2_with fail
      go_ret3
      exact ⟨.inr ⟨HNO.out, rfl⟩, hb3⟩
    · have d1 : decide (t < D) = false := by simp; omega
      have HYES := Lib.hid (show Near wo n1 d from ⟨HY.out.1, by rw [← HD.out, HWL.out, ← HS.out, ← HT.out]; omega⟩)
      clear hle
      go_wp2_with fail
      go_ret3
      exact ⟨.inl ⟨d, _, _, _, HYES.out, by rw [← HD.out]; rfl, r13⟩, hb3⟩
end Go.Proofs.Ytbbikkmmdedaiaa.Pr
