/-
  PROVED: 'lightshiplaw52.ReportEvents' returns true for every input, and each argument reads afterwards as it read before. No condition. (The frame follows the kit's proof-skeleton.mjs; a slice of structs is opened by hand.)
-/
import Derived.Test.YtkmfcaaionmfoaaRows
import Derived.Test.YtkmfcaaionmfoaaRptLaw2
import Derived.Test.YtkmfcaaionmfoaaWords8
import Derived.WalkKit
import Derived.ProofKit
import Derived.OpenShut
import Derived.ShutString
import Derived.ChangeOld
import Derived.Below
namespace Go.Proofs.Ytkmfcaaionmfoaa.reportEvents
open Go.Proofs.Ytkmfcaaionmfoaa.Rp
open Go.ChangeShapes Go.WideShapes Go.ChangeAt Go.RowKit
open Go.ChangeMaps (open_string shut_string)
set_option linter.unusedVariables false

theorem own : ownKnob Try.prog.godebug = none := by kernel_rfl
theorem laidOut : laidOutB Try.prog = true := by kernel_rfl
theorem cells50 : Try.prog.cellsOf 50 = 11 := by kernel_rfl
theorem cells46 : Try.prog.cellsOf 46 = 4 := by kernel_rfl
theorem cells48 : Try.prog.cellsOf 48 = 3 := by kernel_rfl
theorem cells3 : Try.prog.cellsOf 3 = 1 := by kernel_rfl
theorem cells9 : Try.prog.cellsOf 9 = 1 := by kernel_rfl
theorem cells24 : Try.prog.cellsOf 24 = 1 := by kernel_rfl

theorem sub_at {cs : List Value} {o n j : Nat} {v : Value} (h : ((cs.drop o).take n)[j]? = some v) : cs[o + j]? = some v := by
  rw [List.getElem?_take] at h
  split at h
  · rwa [List.getElem?_drop] at h
  · cases h
theorem maxLen_eq : maxLen = 9223372036854775807 := by decide

section
variable {H : Type} {enc : TypeId × Value → H} {w : World}
theorem ev_of {fuel : Nat} {cs : List Value} {x : DataW H × List MemPlace} (hl : cs.length = 11) (hf : DataW.trod enc Try.prog w 0 (fun _ => true) true fuel 50 cs = some x) :
    ∃ d : Ev, (∀ (r : Nat) (u : Value), (ev d)[r]? = some u → cs[r]? = some u) ∧ d.y1.size ≤ 9223372036854775807 ∧ d.y2.size ≤ 9223372036854775807 := by
  obtain ⟨i0, h0, _⟩ := field_i (i := 0) Try.underlying50 rfl cells3 (show 0 < _ by omega) Try.underlying3 hf
  obtain ⟨i1, h1, _⟩ := field_i (i := 1) Try.underlying50 rfl cells3 (show 1 < _ by omega) Try.underlying3 hf
  obtain ⟨nc, xc, hc⟩ : ∃ nc xc, DataW.trod enc Try.prog w 0 (fun _ => true) true nc 46 ((cs.drop 2).take (Try.prog.cellsOf 46)) = some xc := field_sub (i := 2) Try.underlying50 rfl hf
  obtain ⟨na, xa, ha⟩ : ∃ na xa, DataW.trod enc Try.prog w 0 (fun _ => true) true na 48 ((cs.drop 6).take (Try.prog.cellsOf 48)) = some xa := field_sub (i := 3) Try.underlying50 rfl hf
  have lc : ((cs.drop 2).take (Try.prog.cellsOf 46)).length = 4 := by rw [cells46, List.length_take, List.length_drop]; omega
  have la : ((cs.drop 6).take (Try.prog.cellsOf 48)).length = 3 := by rw [cells48, List.length_take, List.length_drop]; omega
  obtain ⟨k0, g0, _⟩ := field_i (i := 0) Try.underlying46 rfl cells3 (by rw [lc]; exact (by decide : 0 < 4)) Try.underlying3 hc
  obtain ⟨k1, g1, _⟩ := field_i (i := 1) Try.underlying46 rfl cells3 (by rw [lc]; exact (by decide : 1 < 4)) Try.underlying3 hc
  obtain ⟨k2, g2, _⟩ := field_i (i := 2) Try.underlying46 rfl cells3 (by rw [lc]; exact (by decide : 2 < 4)) Try.underlying3 hc
  obtain ⟨y1, g3, s1⟩ := field_s (i := 3) Try.underlying46 rfl cells9 (by rw [lc]; exact (by decide : 3 < 4)) Try.underlying9 hc
  obtain ⟨a0, f0, _⟩ := field_i (i := 0) Try.underlying48 rfl cells3 (by rw [la]; exact (by decide : 0 < 3)) Try.underlying3 ha
  obtain ⟨y2, f1, s2⟩ := field_s (i := 1) Try.underlying48 rfl cells9 (by rw [la]; exact (by decide : 1 < 3)) Try.underlying9 ha
  obtain ⟨er, f2, _⟩ := field_i (i := 2) Try.underlying48 rfl cells24 (by rw [la]; exact (by decide : 2 < 3)) Try.underlying24 ha
  obtain ⟨t0, h9, _⟩ := field_i (i := 4) Try.underlying50 rfl cells3 (show 9 < _ by omega) Try.underlying3 hf
  obtain ⟨t1, h10, _⟩ := field_i (i := 5) Try.underlying50 rfl cells3 (show 10 < _ by omega) Try.underlying3 hf
  refine ⟨⟨i0, i1, k0, k1, k2, y1, a0, y2, er, t0, t1⟩, fun r u hu => ?_, by rw [maxLen_eq] at s1; exact s1, by rw [maxLen_eq] at s2; exact s2⟩
  match r, hu with
  | 0, hu => exact h0.trans hu
  | 1, hu => exact h1.trans hu
  | 2, hu => exact (sub_at g0).trans hu
  | 3, hu => exact (sub_at g1).trans hu
  | 4, hu => exact (sub_at g2).trans hu
  | 5, hu => exact (sub_at g3).trans hu
  | 6, hu => exact (sub_at f0).trans hu
  | 7, hu => exact (sub_at f1).trans hu
  | 8, hu => exact (sub_at f2).trans hu
  | 9, hu => exact h9.trans hu
  | 10, hu => exact h10.trans hu
theorem row_of {fuel : Nat} {a : Option Addr} {len cap : Nat} {x : DataW H × List MemPlace} (hf : DataW.trod enc Try.prog w 0 (fun _ => true) true fuel 44 [.slice a len cap] = some x) :
    ∃ l, RowE w a len l ∧ ∀ d ∈ l, d.y1.size ≤ 9223372036854775807 ∧ d.y2.size ≤ 9223372036854775807 := by
  rcases open_slice_structs (n := 11) Try.underlying44 cells50 hf with ⟨rfl, rfl, rfl⟩ | ⟨ad, rfl, hlc, hi⟩
  · exact ⟨[], ⟨rfl, Reads.none_⟩, fun d hd => by simp at hd⟩
  · obtain ⟨l, hl, hP⟩ := list_of (fun i (d : Ev) => (∀ (r : Nat) (u : Value), (ev d)[r]? = some u → w.cell? (ad.add (i * 11 + r)) = some u) ∧ d.y1.size ≤ 9223372036854775807 ∧ d.y2.size ≤ 9223372036854775807) len (fun i hil => by
      obtain ⟨cs, m, y, hcl, ht, hat⟩ := hi i hil
      obtain ⟨d, hd, h1, h2⟩ := ev_of hcl ht
      refine ⟨d, fun r u hu => ?_, h1, h2⟩
      have hr : r < 11 := (List.getElem?_eq_some_iff.1 hu).1
      rw [hat r hr]
      exact hd r u hu)
    refine ⟨l, ⟨hl, ?_⟩, fun d hd => ?_⟩
    · rw [← hl]
      exact reads_of ev 11 (by omega) (fun _ => rfl) ad l (fun i d hid r u hu => (hP i d hid).1 r u hu)
    · obtain ⟨i, hi2⟩ := List.mem_iff_getElem?.1 hd
      exact (hP i d hi2).2
end

set_option maxRecDepth 100000 in
theorem lifted (os : Os) (started : os.Started) (H : Type) (enc : TypeId × Value → H) :
    ReturnsInHanded {} Try.checked os 6 .any (Rows.reportEventsSpec.pre6 enc Try.prog Try.f6 Rows.reportEventsRow.domain false) (Rows.reportEventsSpec.post enc Try.prog Try.f6 false true false false) := by
  refine returnsInHanded_of_change (C := Try.checked) own started (by kernel_rfl) Try.func6
    (ChangeSpec.witness6 (enc := enc) (C := Try.checked) false ⟨#[], #[.slice none 0 0], []⟩ 8 (by kernel_rfl) (by kernel_rfl) (by kernel_rfl) (by kernel_rfl)) ?_
  intro W base args ds gs before hval0 hW hcnd _
  have hval : ∀ (j : Nat) t v, Try.f6.params[j]? = some t → args[j]? = some v → Value.okWide Try.prog W .any base t v := hval0
  have hW' := hW
  obtain ⟨p, q, hA0, hV, rfl, hfz, hnd⟩ := hW
  have hA : DataW.TrodAll enc Try.prog W 0 (fun _ => true) true Try.f6.params.toList args.toList ds p := hA0
  rw [Try.params6] at hA hval
  obtain ⟨v0, vs0, d0, ds0, p0, q0, hargs, rfl, rfl, h0, r0⟩ := trodAll_cons hA
  obtain ⟨rfl, rfl, rfl⟩ := trodAll_nil r0
  obtain rfl : args = #[v0] := by cases args; simp_all
  obtain ⟨rfl, rfl⟩ := trodVars_none hV
  obtain ⟨a0, len0, cap0, rfl⟩ := okWide_slice Try.underlying44 (hval 0 44 v0 rfl rfl)
  have k0 := h0
  have lt0 : ∀ x ∈ p0, x.block < W.heap.size := by obtain ⟨m, hm⟩ := k0; exact DataW.trod_lt m _ _ _ hm
  obtain ⟨z0, w0, wy⟩ : ∃ l, RowE W a0 len0 l ∧ ∀ d ∈ l, d.y1.size ≤ 9223372036854775807 ∧ d.y2.size ≤ 9223372036854775807 := by
    obtain ⟨fuel, hf⟩ := h0
    exact row_of hf
  clear hA0 hval0
  refine (reportevents_walk a0 len0 cap0 z0 W w0 wy).mono fun e W' ⟨he, bel⟩ => ?_
  subst he
  exact ⟨_, rfl, _, _, _, [], _, [], hW', trodAll_mk1 (shut_bool Try.underlying4 _), (trodAll_cons_mk (Below.trod laidOut (by kernel_rfl) (of_decide_eq_true (by kernel_rfl)) k0 bel lt0) trodAll_mk0), rfl, bel.frame _, fun h => by cases h⟩

theorem over : Rows.reportEventsRow.holds Try.pinned (OpenSpec.ofChange Rows.reportEventsSpec) :=
  OpenClaim.holds_of_wide 6 Try.f6 rfl rfl rfl rfl rfl rfl rfl ⟨rfl, rfl, rfl, rfl, rfl⟩ rfl rfl rfl rfl rfl (by kernel_rfl) Try.func6 (by kernel_rfl)
    (of_decide_eq_true (by kernel_rfl)) (by unfold Func.isWrapper; first | (rw [if_pos (by decide +kernel)]; kernel_rfl) | (rw [if_neg (by decide +kernel)]; exact ⟨rfl, rfl⟩))
    (fun os started H enc _ => lifted os started H enc)

theorem proved : Rows.ReportEventsSaid := over
end Go.Proofs.Ytkmfcaaionmfoaa.reportEvents
