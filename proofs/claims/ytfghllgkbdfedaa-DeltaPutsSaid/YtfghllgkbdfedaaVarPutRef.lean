/- What the reference's Put of layer 53 computes: the same bytes; condition: the number is one of its kind. -/
import Derived.Test.YtfghllgkbdfedaaVarPut
import Derived.Deep.RegionWith
import Derived.Deep.DrawnRows
namespace Go.Proofs.Ytfghllgkbdfedaa.Var
open Go.RowKit
set_option maxRecDepth 100000

theorem one_str (W : World) (b c cap : Nat) (hc : c < 256) (h : W.cell? ⟨b, 0, none⟩ = some (.int .u8 c)) :
    (convert 28 9 (.slice (some ⟨b, 0, none⟩) 1 cap)).run Try.prog W = .ok (.string ⟨#[UInt8.ofNat c]⟩) W := by
  have := run_convert_bytes_back (P := Try.prog) W 28 9 5 ⟨b, 0, none⟩ cap [UInt8.ofNat c] Try.underlying28 Try.underlying5 Try.underlying9 (by
    intro j hj
    obtain rfl : j = 0 := by simpa using hj
    have e : (UInt8.ofNat c).toNat = c := by simp [UInt8.toNat_ofNat']; omega
    simpa [Addr.add, e] using h)
  exact this

attribute [local go_sem ↓] Go.wp_at_zero Go.wp_at_succ
theorem refput_any (f : Nat) : ∀ (n : Nat) (w : World), n < 128 ^ (f + 1) → f ≤ 9 → n < 18446744073709551616 →
    Calls Try.prog 24 #[.int .u64 n] w fun en w' => en = .returned (.string ⟨(putF f n).toArray⟩) ∧ Below w.heap.size w w' := by
  induction f with
  | zero =>
    intro n w hf _ hn
    have h128 : n < 128 := by simpa using hf
    have hcv := fun W b => one_str W b n 1 (by omega)
    have HP := Lib.hid (show putF 0 n = [UInt8.ofNat n] from rfl)
    clear hf
    go_enter Try.func24, Try.ntmps24
    go_wp2_with fail
    go_ret
    exact ⟨by rw [HP.out]; rfl, (Below.refl _ _).alloc (Nat.le_refl _) _⟩
  | succ f ih =>
    intro n w hf hf9 hn
    by_cases h128 : n < 128
    · have hcv := fun W b => one_str W b n 1 (by omega)
      have HP := Lib.hid (show putF (f + 1) n = [UInt8.ofNat n] by unfold putF; rw [if_pos h128])
      clear hf
      go_enter Try.func24, Try.ntmps24
      go_wp2_with fail
      go_ret
      exact ⟨by rw [HP.out]; rfl, (Below.refl _ _).alloc (Nat.le_refl _) _⟩
    · obtain ⟨r, hr⟩ : ∃ r, r = n % 128 := ⟨_, rfl⟩
      obtain ⟨c, hc⟩ : ∃ c, c = r + 128 := ⟨_, rfl⟩
      obtain ⟨q, hq⟩ : ∃ q, q = n / 128 := ⟨_, rfl⟩
      have hcv := fun W b => one_str W b c 1 (by omega)
      have HP := Lib.hid (show putF (f + 1) n = UInt8.ofNat c :: putF f q by rw [putF, if_neg h128, hc, hr, hq])
      have hlen := (putF_length f q).2
      have IH := Lib.hid (fun W => ih q W (by rw [Nat.pow_succ] at hf; omega) (by omega) (by omega))
      have e0 : (n : Int).tmod 128 = (r : Int) := by rw [Int.tmod_eq_emod_of_nonneg (by omega)]; omega
      have e1 : IntKind.u8.wrap (r : Int) = (r : Int) := by rw [IntKind.wrap_u8]; omega
      have e2 : IntKind.u8.wrap ((r : Int) + 128) = (c : Int) := by rw [IntKind.wrap_u8]; omega
      have e3 : IntKind.u64.wrap ((n : Int) / 128) = (q : Int) := by rw [IntKind.wrap_u64]; omega
      clear hf ih hr hc hq
      go_enter Try.func24, Try.ntmps24
      go_wp2_with fail
      go_region_with (first | (go_at_call 24; (refine (IH.out _).mono ?_); rintro e w' ⟨rfl, hb⟩; have hcell := hb.cell (p := ⟨w.heap.size, 0, none⟩)))
      all_goals go_wp2
      all_goals go_ret
      all_goals refine ⟨by rw [HP.out]; rfl, ?_⟩
      all_goals first
        | exact (((Below.refl _ _).alloc (Nat.le_refl _) _).drew).trans (hb.mono (by simp))
        | exact (((Below.refl _ _).drew.trans hb)).alloc (by have := hb.size; simpa using this) _
        | exact (((Below.refl _ _).drew.trans hb))

theorem refput_put (n : Nat) (w : World) (hn : n < 18446744073709551616) :
    Calls Try.prog 24 #[.int .u64 n] w fun en w' => en = .returned (.string ⟨(put n).toArray⟩) ∧ Below w.heap.size w w' :=
  refput_any 9 n w (by have e : (128 : Nat) ^ (9 + 1) = 1180591620717411303424 := (by decide); rw [e]; omega) (by omega) hn
end Go.Proofs.Ytfghllgkbdfedaa.Var
