/- What varint.Put computes: the bytes of a number; condition: the number is one of its kind. -/
import Derived.Test.YtfghllgkbdfedaaVarZig
import Derived.Test.YtfghllgkbdfedaaWords
import Derived.ScopeJumps
import Derived.WalkMore
import Derived.Deep.DeepMust
namespace Go.Proofs.Ytfghllgkbdfedaa.Var
open Go.RowKit
set_option maxRecDepth 100000

def Bts (l : List UInt8) : List Value := l.map fun b => .int .u8 (b.toNat : Int)
theorem Bts_len (l : List UInt8) : (Bts l).length = l.length := by simp [Bts]
theorem Bts_snoc (l : List UInt8) (b : UInt8) : Bts (l ++ [b]) = Bts l ++ [.int .u8 (b.toNat : Int)] := by simp [Bts]
theorem info5 : (Try.prog.info? 5).map (fun i => (i.zero, i.size, i.bytes)) = some (some (.int .u8 0), 1, 1) := by kernel_rfl

theorem hi_walk (m : Nat) : bits .or .u8 ((m : Int) % 256) 128 = (((UInt8.ofNat (m % 128 + 128)).toNat : Nat) : Int) := by
  have e1 : (m : Int) % 256 = ((m % 256 : Nat) : Int) := by omega
  have e2 := u8_or_nat (m % 256) 128 (by omega) (by omega)
  rw [e1]
  refine Eq.trans e2 ?_
  rw [toNat_small _ (by omega)]
  have e3 : m % 256 ||| 128 = m % 128 + 128 := by
    have a : m % 256 = m % 128 ∨ m % 256 = m % 128 + 128 := by omega
    rcases a with a | a
    · rw [a, Nat.or_comm, nat_join 7 128 _ (by decide) (by omega)]
      omega
    · have b : m % 128 + 128 = 128 ||| (m % 128) := by rw [nat_join 7 128 _ (by decide) (by omega)]; omega
      rw [a, b, Nat.or_comm 128 (m % 128), Nat.or_assoc, Nat.or_self]
  rw [e3]
theorem lo_walk (m : Nat) (h : m < 128) : IntKind.u8.wrap (m : Int) = (((UInt8.ofNat m).toNat : Nat) : Int) := by
  rw [IntKind.wrap_u8, toNat_small _ (by omega)]; omega

theorem conv_own {w : World} {B g cap n : Nat} {l : List UInt8} (hn : n = l.length) (h : Own w B 5 (.slice (some ⟨g, 0, none⟩) n cap) (Bts l)) :
    (convert 28 9 (.slice (some ⟨g, 0, none⟩) n cap)).run Try.prog w = .ok (.string ⟨l.toArray⟩) w := by
  subst hn
  refine run_convert_bytes_back (P := Try.prog) w 28 9 5 ⟨g, 0, none⟩ cap l Try.underlying28 Try.underlying5 Try.underlying9 ?_
  intro j hj
  have hr := h.reads
  obtain ⟨ad, u, ha, _, hx, hc⟩ := hr.at_ (k := j) (by rw [Bts_len]; exact hj)
  injection ha with ha
  subst ha
  rw [hc, ← hx]
  simp [Bts, List.getElem?_eq_getElem hj]
theorem lo_own {w : World} {B : Nat} {v : Value} {l : List UInt8} {m : Nat} (hm : m < 256) (h : Own w B 5 v (Bts l ++ [.int .u8 (m : Int)])) : Own w B 5 v (Bts (l ++ [UInt8.ofNat m])) := by
  rw [Bts_snoc, toNat_small m hm]; exact h

theorem put_any (n : Nat) (w : World) (hn : n < 18446744073709551616) :
    Calls Try.prog 23 #[.int .u64 n] w fun en w' => en = .returned (.string ⟨(put n).toArray⟩) ∧ Below w.heap.size w w' := by
  go_enter Try.func23, Try.ntmps23
  go_wp2
  refine wp_scope_jumps 0 (fun a' w' => ∃ (m f : Nat) (v : Value) (acc : List UInt8) (u4 u5 u6 u7 u8 u9 u10 u11 u12 u13 : Value), a' = { tmps := #[.int .u64 m, undef, .string ByteArray.empty, v, u4, u5, u6, u7, u8, u9, u10, u11, u12, u13, undef, undef, undef, undef, undef, undef], defers := [] } ∧
      acc ++ putF f m = put n ∧ m < 128 ^ (f + 1) ∧ acc.length + f = 9 ∧ m < 18446744073709551616 ∧ Own w' w.heap.size 5 v (Bts acc) ∧ Below w.heap.size w w') (fun a' _ => (intOf (a'.tmps.getD 0 undef)).toNat) rfl ?_ ?_
  · go_wp2
    go_step3
    by_cases h128 : n < 128
    · have hp : put n = [UInt8.ofNat n] := by unfold put putF; rw [if_pos h128]
      have HP := Lib.hid hp
      clear hp
      go_wp2_with (at_builtin; refine wpList_app1 _ rfl (.tmp 14) (.tmp 17) 28 rfl w.heap.size 5 (.int .u8 0) 1 Try.underlying28 info5 rfl _ [] rfl (Own.nil _ _ _) ⟨w.heap.size, 0, none⟩ 1 (.int .u8 n) rfl (by go_simp) rfl (by simp) (by simp) (by simp) ?_; intro g cap w1 hown1 hbel1 hg1 hge1 hlt1; have hcv := conv_own (n := 1) (l := [] ++ [UInt8.ofNat n]) rfl (lo_own (l := []) (by omega) hown1))
      simp only [Exit.jump]
      go_ret
      exact ⟨by rw [HP.out]; rfl, ((Below.refl _ _).alloc (Nat.le_refl _) _).trans hbel1⟩
    · have hp : put n = UInt8.ofNat (n % 128 + 128) :: putF 8 (n / 128) := by unfold put; rw [putF, if_neg h128]
      have HP := Lib.hid hp
      clear hp
      go_wp2_with (at_builtin; refine wpList_app1 _ rfl (.tmp 6) (.tmp 10) 28 rfl w.heap.size 5 (.int .u8 0) 1 Try.underlying28 info5 rfl _ [] rfl (Own.nil _ _ _) ⟨w.heap.size, 0, none⟩ 1 (.int .u8 (bits .or .u8 ((n : Int) % 256) 128)) rfl (by go_simp) rfl (by simp) (by simp) (by simp) ?_; intro g cap w1 hown1 hbel1 hg1 hge1 hlt1)
      go_step3
      refine ⟨rfl, n / 128, 8, _, [UInt8.ofNat (n % 128 + 128)], _, _, _, _, _, _, _, _, _, _, rfl, ?_, ?_, ?_, ?_, ?_, ?_⟩
      · rw [HP.out]; simp
      · omega
      · simp
      · omega
      · rw [hi_walk] at hown1; exact hown1
      · exact ((Below.refl _ _).alloc (Nat.le_refl _) _).trans hbel1
  · rintro a' w' ⟨m, f, v, acc, u4, u5, u6, u7, u8, u9, u10, u11, u12, u13, rfl, hacc, hm, hlen, hm64, hown, hbel⟩
    have hsz := hbel.size
    have HA := Lib.hid hacc
    have HM := Lib.hid hm
    clear hacc hm
    by_cases h128 : m < 128
    · have hp : putF f m = [UInt8.ofNat m] := by cases f <;> unfold putF <;> simp [h128]
      have HP := Lib.hid hp
      clear hp
      go_wp2_with (at_builtin; refine wpList_app1 _ rfl (.tmp 14) (.tmp 17) 28 rfl w.heap.size 5 (.int .u8 0) 1 Try.underlying28 info5 rfl _ (Bts acc) rfl (hown.alloc _) ⟨w'.heap.size, 0, none⟩ 1 (.int .u8 m) rfl (by go_simp) rfl (by rw [Bts_len]; omega) (by rw [Bts_len]; omega) (by simp; omega) ?_; intro g cap w1 hown1 hbel1 hg1 hge1 hlt1; have hcv := conv_own (n := (Bts acc).length + 1) (l := acc ++ [UInt8.ofNat m]) (by simp [Bts_len]) (lo_own (by omega) hown1))
      simp only [Exit.jump]
      go_ret
      exact ⟨by rw [← HA.out, HP.out]; rfl, (hbel.alloc hsz _).trans hbel1⟩
    · obtain ⟨f, rfl⟩ : ∃ f', f = f' + 1 := by
        cases f with
        | zero => have := HM.out; simp at this; omega
        | succ f => exact ⟨f, rfl⟩
      have hp : putF (f + 1) m = UInt8.ofNat (m % 128 + 128) :: putF f (m / 128) := by rw [putF, if_neg h128]
      have HP := Lib.hid hp
      clear hp
      go_wp2_with (at_builtin; refine wpList_app1 _ rfl (.tmp 6) (.tmp 10) 28 rfl w.heap.size 5 (.int .u8 0) 1 Try.underlying28 info5 rfl _ (Bts acc) rfl (hown.alloc _) ⟨w'.heap.size, 0, none⟩ 1 (.int .u8 (bits .or .u8 ((m : Int) % 256) 128)) rfl (by go_simp) rfl (by rw [Bts_len]; omega) (by rw [Bts_len]; omega) (by simp; omega) ?_; intro g cap w1 hown1 hbel1 hg1 hge1 hlt1)
      go_step3
      refine ⟨rfl, ⟨m / 128, f, _, acc ++ [UInt8.ofNat (m % 128 + 128)], _, _, _, _, _, _, _, _, _, _, rfl, ?_, ?_, ?_, ?_, ?_, ?_⟩, ?_⟩
      · rw [← HA.out, HP.out]; simp
      · have := HM.out; rw [Nat.pow_succ] at this; omega
      · simp; omega
      · omega
      · rw [Bts_snoc, ← hi_walk]; exact hown1
      · exact (hbel.alloc hsz _).trans hbel1
      · simp [intOf]; omega
end Go.Proofs.Ytfghllgkbdfedaa.Var
