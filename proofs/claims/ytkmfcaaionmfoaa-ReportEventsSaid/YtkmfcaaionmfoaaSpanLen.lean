/- What Len and Same compute, here and in the reference; no condition. -/
import Derived.Test.YtkmfcaaionmfoaaSpanHas
set_option maxRecDepth 100000
namespace Go.Proofs.Ytkmfcaaionmfoaa.Sp
open Go.RowKit

theorem sp_bounds {l : List Sn} (h : chkS l = 0) {i : Nat} (hi : i < l.length) : 0 ≤ (sp l i).1 ∧ (sp l i).1 < (sp l i).2 ∧ (sp l i).2 ≤ 1099511627776 := by
  have h1 := chn_sp (chn_start h) i hi
  unfold mx at h1
  omega
set_option maxHeartbeats 1000000 in
theorem len_row (A : Option Addr) (n c : Nat) (l : List Sn) (w : World) (h1 : RowS w A n c l) (h0 : chkS l = 0) :
    Calls Try.prog 17 #[.slice A n c] w fun e w' => e = .returned (.int .i64 (lenB l)) ∧ Below w.heap.size w w' := by
  obtain ⟨E, hE⟩ : ∃ E, E = lenB l := ⟨_, rfl⟩
  rw [← hE]
  rw [lenB_ok h0] at hE
  have MC := Lib.hid (check_row A n c l w h1)
  rw [h0] at MC
  have hn : n ≤ 1024 := by have := (chk_zero h0).1; have := h1.1; omega
  have HE := Lib.hid hE
  have HL := Lib.hid h1.1
  have H1 := Lib.hid h1
  have H0 := Lib.hid h0
  clear hE h0 h1
  go_enter Try.func17, Try.ntmps17
  go_wp2_with fail
  refine (MC.out).mono ?_
  rintro e W1 ⟨rfl, u1⟩
  have HR1 := Lib.hid (H1.out.on u1)
  have HU1 := Lib.hid u1
  obtain ⟨g, hg⟩ : ∃ g, g = W1.heap.size := ⟨_, rfl⟩
  have HG := Lib.hid hg
  have hb0 : Below g W1 W1 := Below.refl _ _
  clear MC u1 hg
  go_wp2_with fail
  go_loopw [3, 11] (fun vm v wr => ∃ (i : Nat) (m : Int), i ≤ n ∧ vm = .int .i64 m ∧ v = .int .i64 i ∧ Hid (lenN l i = m) ∧ Below g W1 wr) (fun _ v _ => n - (intOf v).toNat)
  case atStart => exact ⟨0, 0, by omega, rfl, rfl, Lib.hid rfl, hb0⟩
  case round =>
    obtain ⟨i, m, hi, rfl, rfl, hh, hb⟩ := hrel
    clear hb0
    have hgr : g ≤ wr.heap.size := by have := hb.size; have := HG.out; omega
    by_cases hlt : i < n
    · obtain ⟨ad, q, had, hq, hqb, c0, c1⟩ := (HR1.out.on (bel_on HG.out hb)).cell hlt
      have hbd := sp_bounds H0.out (i := i) (by have := HL.out; omega)
      have hle := lenN_le H0.out i (by have := HL.out; omega)
      rw [hh.out] at hle
      obtain ⟨s0, hs0⟩ : ∃ s0, s0 = (sp l i).1 := ⟨_, rfl⟩
      obtain ⟨s1, hs1⟩ : ∃ s1, s1 = (sp l i).2 := ⟨_, rfl⟩
      rw [← hs0] at c0
      rw [← hs1] at c1
      rw [← hs0, ← hs1] at hbd
      subst had
      obtain ⟨d, hd⟩ : ∃ d, d = s1 - s0 := ⟨_, rfl⟩
      obtain ⟨m2, hm2⟩ : ∃ m2, m2 = m + d := ⟨_, rfl⟩
      have e1 : IntKind.i64.wrap (s1 - s0) = d := by rw [IntWalk.i64_in _ ⟨by omega, by omega⟩]; omega
      have e2 : IntKind.i64.wrap (m + d) = m2 := by rw [IntWalk.i64_in _ ⟨by omega, by omega⟩]; omega
      have HH2 := Lib.hid (show lenN l (i + 1) = m2 by rw [lenN, hh.out, ← hs0, ← hs1, hm2, hd])
      clear hs0 hs1 hbd hle hd hm2
      go_wp2_with fail
      go_roundw
      case rel => exact ⟨i + 1, m2, by omega, rfl, by go_num, HH2, hb.alloc hgr _⟩
      case measure => simp [intOf]; omega
    · obtain rfl : i = n := by omega
      have HE2 := Lib.hid (show E = m by rw [HE.out, HL.out]; exact hh.out)
      go_wp2_with fail
      go_ret
      exact ⟨ret_i64 HE2.out.symm, HU1.out.trans (bel_on' HU1.out.size (bel_on HG.out hb))⟩
set_option maxHeartbeats 1000000 in
theorem ref_len_row (A : Option Addr) (n c : Nat) (l : List Sn) (w : World) (h1 : RowS w A n c l) (h0 : chkS l = 0) :
    Calls Try.prog 18 #[.slice A n c] w fun e w' => e = .returned (.int .i64 (lenB l)) ∧ Below w.heap.size w w' := by
  obtain ⟨E, hE⟩ : ∃ E, E = lenB l := ⟨_, rfl⟩
  rw [← hE]
  rw [lenB_ok h0] at hE
  have MC := Lib.hid (ref_check_row A n c l w h1)
  rw [h0] at MC
  have hn : n ≤ 1024 := by have := (chk_zero h0).1; have := h1.1; omega
  have HE := Lib.hid hE
  have HL := Lib.hid h1.1
  have H1 := Lib.hid h1
  have H0 := Lib.hid h0
  clear hE h0 h1
  go_enter Try.func18, Try.ntmps18
  go_wp2_with fail
  refine (MC.out).mono ?_
  rintro e W1 ⟨rfl, u1⟩
  have HR1 := Lib.hid (H1.out.on u1)
  have HU1 := Lib.hid u1
  clear MC u1
  go_wp2_with fail
  go_loopw [3, 4] (fun vm v wr => ∃ (i : Nat) (m : Int), i ≤ n ∧ vm = .int .i64 m ∧ v = .int .i64 i ∧ Hid (lenN l i = m) ∧ ∃ k, Hid (wr = W1.drewN k)) (fun _ v _ => n - (intOf v).toNat)
  case atStart => exact ⟨0, 0, by omega, rfl, rfl, Lib.hid rfl, 0, Lib.hid rfl⟩
  case round =>
    obtain ⟨i, m, hi, rfl, rfl, hh, k, hk⟩ := hrel
    by_cases hlt : i < n
    · obtain ⟨ad, q, had, hq, hqb, c0, c1⟩ := (show RowS wr A n c l by rw [hk.out]; exact HR1.out).cell hlt
      have hbd := sp_bounds H0.out (i := i) (by have := HL.out; omega)
      have hle := lenN_le H0.out i (by have := HL.out; omega)
      rw [hh.out] at hle
      obtain ⟨s0, hs0⟩ : ∃ s0, s0 = (sp l i).1 := ⟨_, rfl⟩
      obtain ⟨s1, hs1⟩ : ∃ s1, s1 = (sp l i).2 := ⟨_, rfl⟩
      rw [← hs0] at c0
      rw [← hs1] at c1
      rw [← hs0, ← hs1] at hbd
      subst had
      obtain ⟨d, hd⟩ : ∃ d, d = m + s1 := ⟨_, rfl⟩
      obtain ⟨m2, hm2⟩ : ∃ m2, m2 = d - s0 := ⟨_, rfl⟩
      have e1 : IntKind.i64.wrap (m + s1) = d := by rw [IntWalk.i64_in _ ⟨by omega, by omega⟩]; omega
      have e2 : IntKind.i64.wrap (d - s0) = m2 := by rw [IntWalk.i64_in _ ⟨by omega, by omega⟩]; omega
      have HH2 := Lib.hid (show lenN l (i + 1) = m2 by rw [lenN, hh.out, ← hs0, ← hs1, hm2, hd]; omega)
      clear hs0 hs1 hbd hle hd hm2
      go_wp2_with fail
      go_quiet (fail)
      clear e1 e2
      go_wp2_with fail
      go_roundw
      case rel => exact ⟨i + 1, m2, by omega, rfl, by go_num, HH2, k + _, Lib.hid (by rw [hk.out, World.drewN_drewN])⟩
      case measure => simp [intOf]; omega
    · obtain rfl : i = n := by omega
      have HE2 := Lib.hid (show E = m by rw [HE.out, HL.out]; exact hh.out)
      go_wp2_with fail
      go_ret
      exact ⟨ret_i64 HE2.out.symm, by rw [hk.out]; exact below_drewN HU1.out _⟩
theorem part54 (a b : Int) (i : Nat) (hi : i < 2) (w : World) : (part 3 #[.int .i64 a, .int .i64 b] (i * 1)).run Try.prog w = .ok (.int .i64 (if i = 0 then a else b)) w := by
  have he : Try.prog.underlying 3 = some (.int .i64) := Try.underlying3
  rcases (show i = 0 ∨ i = 1 by omega) with rfl | rfl
  · simp [part, isAgg, run_underlying he]
  · simp [part, isAgg, run_underlying he]
theorem equal54 (a b : Int) (w : World) : (Op.equalIn (9998 + 2) 54 (.agg #[.int .i64 a, .int .i64 b]) (.agg #[.int .i64 a, .int .i64 b])).run Try.prog w = .ok true w := by
  have ht : Try.prog.underlying 54 = some (.array 2 3) := Try.underlying54
  have he : Try.prog.underlying 3 = some (.int .i64) := Try.underlying3
  have hsz : ∀ w, (sizeOf 3).run Try.prog w = .ok 1 w := fun _ => by kernel_rfl
  have p0 := fun w => part54 a b 0 (by omega) w
  have p1 := fun w => part54 a b 1 (by omega) w
  have e0 : ∀ (x : Int) (w : World), (Op.equalIn (9998 + 1) 3 (.int .i64 x) (.int .i64 x)).run Try.prog w = .ok true w := fun x w => by rw [run_equalIn_int w 9998 3 .i64 .i64 _ _ he]; simp
  rw [Op.equalIn]
  simp only [Sem.run_bind, run_underlying ht, Result.andThen_ok, hsz, Std.Legacy.Range.forIn_eq_forIn_range', Std.Legacy.Range.size, Nat.sub_zero, Nat.add_sub_cancel, Nat.div_one]
  simp only [List.range', List.forIn_cons, List.forIn_nil, Sem.run_bind, Nat.zero_add, p0, p1, Result.andThen_ok, e0, Bool.not_true, Bool.false_eq_true, if_false, Sem.run_pure]
theorem neq54 (a b : Int) (w : World) : (binOp .neq 54 (.agg #[.int .i64 a, .int .i64 b]) (.agg #[.int .i64 a, .int .i64 b])).run Try.prog w = .ok (.bool false) w := by
  rw [run_neq_struct, equal54]; rfl
set_option maxHeartbeats 1000000 in
theorem same_row (A A2 : Option Addr) (n c c2 : Nat) (l : List Sn) (w : World) (h1 : RowS w A n c l) (h2 : RowS w A2 n c2 l) (hn : n ≤ 2000) :
    Calls Try.prog 12 #[.slice A n c, .slice A2 n c2] w fun e w' => e = .returned (.bool true) ∧ Below w.heap.size w w' := by
  have H1 := Lib.hid h1
  have H2 := Lib.hid h2
  clear h1 h2
  go_enter Try.func12, Try.ntmps12
  go_wp2_with fail
  go_loopw [5] (fun v wr => ∃ (i : Nat), i ≤ n ∧ v = .int .i64 i ∧ ∃ k, Hid (wr = w.drewN k)) (fun v _ => n - (intOf v).toNat)
  case atStart => exact ⟨0, by omega, rfl, 0, Lib.hid rfl⟩
  case round =>
    obtain ⟨i, hi, rfl, k, hk⟩ := hrel
    by_cases hlt : i < n
    · obtain ⟨ad, q, had, hq, hqb, c0, c1⟩ := (show RowS wr A n c l by rw [hk.out]; exact H1.out).cell hlt
      obtain ⟨ad2, q2, had2, hq2, hqb2, c02, c12⟩ := (show RowS wr A2 n c2 l by rw [hk.out]; exact H2.out).cell hlt
      obtain ⟨s0, hs0⟩ : ∃ s0, s0 = (sp l i).1 := ⟨_, rfl⟩
      obtain ⟨s1, hs1⟩ : ∃ s1, s1 = (sp l i).2 := ⟨_, rfl⟩
      rw [← hs0] at c0 c02
      rw [← hs1] at c1 c12
      subst had had2
      have hneq := neq54 s0 s1
      clear hs0 hs1
      go_wp2_with fail
      go_quiet (fail)
      go_wp2_with fail
      go_roundw
      case rel => exact ⟨i + 1, by omega, by go_num, k + _, Lib.hid (by rw [hk.out, World.drewN_drewN])⟩
      case measure => simp [intOf]; omega
    · go_wp2_with fail
      go_ret
      exact ⟨rfl, by rw [hk.out]; exact below_drewN (Below.refl _ _) _⟩
end Go.Proofs.Ytkmfcaaionmfoaa.Sp
