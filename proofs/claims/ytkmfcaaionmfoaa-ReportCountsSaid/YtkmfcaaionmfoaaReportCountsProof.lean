/-
  PROVED: 'lightshiplaw52.ReportCounts' returns true for every input, and each argument reads afterwards as it read before. No condition. (The frame follows the kit's proof-skeleton.mjs; a struct by value is opened by hand.)
-/
import Derived.Test.YtkmfcaaionmfoaaRows
import Derived.Test.YtkmfcaaionmfoaaRptLaw1
import Derived.Test.YtkmfcaaionmfoaaWords8
import Derived.WalkKit
import Derived.ProofKit
import Derived.OpenShut
import Derived.ShutString
import Derived.ChangeOld
import Derived.Below
namespace Go.Proofs.Ytkmfcaaionmfoaa.reportCounts
open Go.Proofs.Ytkmfcaaionmfoaa.Rp
open Go.ChangeShapes Go.WideShapes Go.ChangeAt Go.RowKit
open Go.ChangeMaps (open_string shut_string)
set_option linter.unusedVariables false

theorem own : ownKnob Try.prog.godebug = none := by kernel_rfl
theorem laidOut : laidOutB Try.prog = true := by kernel_rfl
theorem cells39 : Try.prog.cellsOf 39 = 9 := by kernel_rfl
theorem cells3 : Try.prog.cellsOf 3 = 1 := by kernel_rfl

section
variable {H : Type} {enc : TypeId × Value → H} {w : World}
theorem list9 {l : List Value} {a0 a1 a2 a3 a4 a5 a6 a7 a8 : Value} (h : l.length = 9) (h0 : l[0]? = some a0) (h1 : l[1]? = some a1) (h2 : l[2]? = some a2) (h3 : l[3]? = some a3) (h4 : l[4]? = some a4) (h5 : l[5]? = some a5) (h6 : l[6]? = some a6) (h7 : l[7]? = some a7) (h8 : l[8]? = some a8) : l = [a0, a1, a2, a3, a4, a5, a6, a7, a8] := by
  match l, h with
  | [b0, b1, b2, b3, b4, b5, b6, b7, b8], _ =>
    simp at h0 h1 h2 h3 h4 h5 h6 h7 h8
    rw [h0, h1, h2, h3, h4, h5, h6, h7, h8]
theorem counts_of {fuel : Nat} {cs : Array Value} {x : DataW H × List MemPlace} (hs : cs.size = 9) (hf : DataW.trod enc Try.prog w 0 (fun _ => true) true fuel 39 cs.toList = some x) : ∃ c0 c1 c2 c3 c4 c5 c6 c7 c8 : Int, cs = #[.int .i64 c0, .int .i64 c1, .int .i64 c2, .int .i64 c3, .int .i64 c4, .int .i64 c5, .int .i64 c6, .int .i64 c7, .int .i64 c8] := by
  have hl : cs.toList.length = 9 := by simpa using hs
  obtain ⟨c0, h0, _⟩ := field_i (i := 0) Try.underlying39 rfl cells3 (show 0 < _ by omega) Try.underlying3 hf
  obtain ⟨c1, h1, _⟩ := field_i (i := 1) Try.underlying39 rfl cells3 (show 1 < _ by omega) Try.underlying3 hf
  obtain ⟨c2, h2, _⟩ := field_i (i := 2) Try.underlying39 rfl cells3 (show 2 < _ by omega) Try.underlying3 hf
  obtain ⟨c3, h3, _⟩ := field_i (i := 3) Try.underlying39 rfl cells3 (show 3 < _ by omega) Try.underlying3 hf
  obtain ⟨c4, h4, _⟩ := field_i (i := 4) Try.underlying39 rfl cells3 (show 4 < _ by omega) Try.underlying3 hf
  obtain ⟨c5, h5, _⟩ := field_i (i := 5) Try.underlying39 rfl cells3 (show 5 < _ by omega) Try.underlying3 hf
  obtain ⟨c6, h6, _⟩ := field_i (i := 6) Try.underlying39 rfl cells3 (show 6 < _ by omega) Try.underlying3 hf
  obtain ⟨c7, h7, _⟩ := field_i (i := 7) Try.underlying39 rfl cells3 (show 7 < _ by omega) Try.underlying3 hf
  obtain ⟨c8, h8, _⟩ := field_i (i := 8) Try.underlying39 rfl cells3 (show 8 < _ by omega) Try.underlying3 hf
  refine ⟨c0, c1, c2, c3, c4, c5, c6, c7, c8, ?_⟩
  have e := list9 hl h0 h1 h2 h3 h4 h5 h6 h7 h8
  have e2 := congrArg List.toArray e
  simpa using e2
end

set_option maxRecDepth 100000 in
theorem lifted (os : Os) (started : os.Started) (H : Type) (enc : TypeId × Value → H) :
    ReturnsInHanded {} Try.checked os 5 .any (Rows.reportCountsSpec.pre6 enc Try.prog Try.f5 Rows.reportCountsRow.domain false) (Rows.reportCountsSpec.post enc Try.prog Try.f5 false true false false) := by
  refine returnsInHanded_of_change (C := Try.checked) own started (by kernel_rfl) Try.func5
    (ChangeSpec.witness6 (enc := enc) (C := Try.checked) false ⟨#[], #[.agg #[.int .i64 0, .int .i64 0, .int .i64 0, .int .i64 0, .int .i64 0, .int .i64 0, .int .i64 0, .int .i64 0, .int .i64 0]], []⟩ 8 (by kernel_rfl) (by kernel_rfl) (by kernel_rfl) (by kernel_rfl)) ?_
  intro W base args ds gs before hval0 hW hcnd _
  have hval : ∀ (j : Nat) t v, Try.f5.params[j]? = some t → args[j]? = some v → Value.okWide Try.prog W .any base t v := hval0
  have hW' := hW
  obtain ⟨p, q, hA0, hV, rfl, hfz, hnd⟩ := hW
  have hA : DataW.TrodAll enc Try.prog W 0 (fun _ => true) true Try.f5.params.toList args.toList ds p := hA0
  rw [Try.params5] at hA hval
  obtain ⟨v0, vs0, d0, ds0, p0, q0, hargs, rfl, rfl, h0, r0⟩ := trodAll_cons hA
  obtain ⟨rfl, rfl, rfl⟩ := trodAll_nil r0
  obtain rfl : args = #[v0] := by cases args; simp_all
  obtain ⟨rfl, rfl⟩ := trodVars_none hV
  obtain ⟨cs, rfl, hsz⟩ := okWide_struct Try.underlying39 (hval 0 39 v0 rfl rfl)
  rw [cells39] at hsz
  have k0 := h0
  have lt0 : ∀ x ∈ p0, x.block < W.heap.size := by obtain ⟨m, hm⟩ := k0; exact DataW.trod_lt m _ _ _ hm
  obtain ⟨c0, c1, c2, c3, c4, c5, c6, c7, c8, rfl⟩ : ∃ c0 c1 c2 c3 c4 c5 c6 c7 c8 : Int, cs = #[.int .i64 c0, .int .i64 c1, .int .i64 c2, .int .i64 c3, .int .i64 c4, .int .i64 c5, .int .i64 c6, .int .i64 c7, .int .i64 c8] := by
    obtain ⟨fuel, hf⟩ := h0
    exact counts_of hsz hf
  clear hA0 hval0
  refine (reportcounts_walk c0 c1 c2 c3 c4 c5 c6 c7 c8 W).mono fun e W' ⟨he, bel⟩ => ?_
  subst he
  exact ⟨_, rfl, _, _, _, [], _, [], hW', trodAll_mk1 (shut_bool Try.underlying4 _), (trodAll_cons_mk (Below.trod laidOut (by kernel_rfl) (of_decide_eq_true (by kernel_rfl)) k0 bel lt0) trodAll_mk0), rfl, bel.frame _, fun h => by cases h⟩

theorem over : Rows.reportCountsRow.holds Try.pinned (OpenSpec.ofChange Rows.reportCountsSpec) :=
  OpenClaim.holds_of_wide 5 Try.f5 rfl rfl rfl rfl rfl rfl rfl ⟨rfl, rfl, rfl, rfl, rfl⟩ rfl rfl rfl rfl rfl (by kernel_rfl) Try.func5 (by kernel_rfl)
    (of_decide_eq_true (by kernel_rfl)) (by unfold Func.isWrapper; first | (rw [if_pos (by decide +kernel)]; kernel_rfl) | (rw [if_neg (by decide +kernel)]; exact ⟨rfl, rfl⟩))
    (fun os started H enc _ => lifted os started H enc)

theorem proved : Rows.ReportCountsSaid := over
end Go.Proofs.Ytkmfcaaionmfoaa.reportCounts
