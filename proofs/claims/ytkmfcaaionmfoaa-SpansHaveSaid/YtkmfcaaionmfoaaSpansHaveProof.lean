/-
  PROVED: 'lightshiplaw45.SpansHave' returns true for every input, and each argument reads afterwards as it read before. No condition. (The frame follows the kit's proof-skeleton.mjs; a slice of arrays is opened by hand.)
-/
import Derived.Test.YtkmfcaaionmfoaaRows
import Derived.Test.YtkmfcaaionmfoaaSpanLaw2
import Derived.Test.YtkmfcaaionmfoaaWords5
import Derived.WalkKit
import Derived.ProofKit
import Derived.OpenShut
import Derived.ShutString
import Derived.ChangeOld
import Derived.Below
namespace Go.Proofs.Ytkmfcaaionmfoaa.spansHave
open Go.Proofs.Ytkmfcaaionmfoaa.Sp
open Go.ChangeShapes Go.WideShapes Go.ChangeAt Go.RowKit
open Go.ChangeMaps (open_string shut_string)
set_option linter.unusedVariables false

theorem own : ownKnob Try.prog.godebug = none := by kernel_rfl
theorem laidOut : laidOutB Try.prog = true := by kernel_rfl

section
variable {H : Type} {enc : TypeId × Value → H} {w : World}
theorem u8_of_wf {a : Int} (h : (Lit.int .u8 a).wf = true) : ∃ n : Nat, a = n ∧ n < 256 := by
  have hx : 0 ≤ a ∧ a ≤ 255 := by simpa [Lit.wf, IntKind.min, IntKind.max, IntKind.signed, IntKind.bits] using h
  exact ⟨a.toNat, by omega, by omega⟩
theorem row_of {fuel : Nat} {a : Option Addr} {len cap : Nat} {x : DataW H × List MemPlace} (hf : DataW.trod enc Try.prog w 0 (fun _ => true) true fuel 34 [.slice a len cap] = some x) : ∃ l, RowT w a len l := by
  rcases open_slice_arrays (n := 3) (k := .u8) Try.underlying34 Try.underlying36 Try.underlying5 (by kernel_rfl) (by kernel_rfl) hf with ⟨rfl, rfl, rfl⟩ | ⟨ad, rfl, hlc, hi⟩
  · exact ⟨[], rfl, Reads.none_, fun d hd => by simp at hd⟩
  · obtain ⟨l, hl, hP⟩ := list_of (fun i (d : Nat × Nat × Nat) => (w.cell? (ad.add (i * 3 + 0)) = some (.int .u8 (d.1 : Int)) ∧ w.cell? (ad.add (i * 3 + 1)) = some (.int .u8 (d.2.1 : Int)) ∧ w.cell? (ad.add (i * 3 + 2)) = some (.int .u8 (d.2.2 : Int))) ∧ d.1 < 256 ∧ d.2.1 < 256 ∧ d.2.2 < 256) len (fun i hil => by
      obtain ⟨zs, hzl, hz⟩ := hi i hil
      match zs, hzl with
      | [z0, z1, z2], _ =>
        obtain ⟨c0, w0⟩ := hz 0 z0 rfl
        obtain ⟨c1, w1⟩ := hz 1 z1 rfl
        obtain ⟨c2, w2⟩ := hz 2 z2 rfl
        obtain ⟨n0, rfl, b0⟩ := u8_of_wf w0
        obtain ⟨n1, rfl, b1⟩ := u8_of_wf w1
        obtain ⟨n2, rfl, b2⟩ := u8_of_wf w2
        exact ⟨(n0, n1, n2), ⟨c0, c1, c2⟩, b0, b1, b2⟩)
    refine ⟨l, hl, ?_, fun d hd => ?_⟩
    · rw [← hl]
      refine reads_of tv 3 (by omega) (fun _ => rfl) ad l (fun i d hid r u hu => ?_)
      obtain ⟨⟨c0, c1, c2⟩, _⟩ := hP i d hid
      match r, hu with
      | 0, hu => simp [tv] at hu; subst hu; exact c0
      | 1, hu => simp [tv] at hu; subst hu; exact c1
      | 2, hu => simp [tv] at hu; subst hu; exact c2
    · obtain ⟨i, hi2⟩ := List.mem_iff_getElem?.1 hd
      exact (hP i d hi2).2
end

set_option maxRecDepth 100000 in
theorem lifted (os : Os) (started : os.Started) (H : Type) (enc : TypeId × Value → H) :
    ReturnsInHanded {} Try.checked os 4 .any (Rows.spansHaveSpec.pre6 enc Try.prog Try.f4 Rows.spansHaveRow.domain false) (Rows.spansHaveSpec.post enc Try.prog Try.f4 false true false false) := by
  refine returnsInHanded_of_change (C := Try.checked) own started (by kernel_rfl) Try.func4
    (ChangeSpec.witness6 (enc := enc) (C := Try.checked) false ⟨#[], #[.slice none 0 0], []⟩ 8 (by kernel_rfl) (by kernel_rfl) (by kernel_rfl) (by kernel_rfl)) ?_
  intro W base args ds gs before hval0 hW hcnd _
  have hval : ∀ (j : Nat) t v, Try.f4.params[j]? = some t → args[j]? = some v → Value.okWide Try.prog W .any base t v := hval0
  have hW' := hW
  obtain ⟨p, q, hA0, hV, rfl, hfz, hnd⟩ := hW
  have hA : DataW.TrodAll enc Try.prog W 0 (fun _ => true) true Try.f4.params.toList args.toList ds p := hA0
  rw [Try.params4] at hA hval
  obtain ⟨v0, vs0, d0, ds0, p0, q0, hargs, rfl, rfl, h0, r0⟩ := trodAll_cons hA
  obtain ⟨rfl, rfl, rfl⟩ := trodAll_nil r0
  obtain rfl : args = #[v0] := by cases args; simp_all
  obtain ⟨rfl, rfl⟩ := trodVars_none hV
  obtain ⟨a0, len0, cap0, rfl⟩ := okWide_slice Try.underlying34 (hval 0 34 v0 rfl rfl)
  have k0 := h0
  have lt0 : ∀ x ∈ p0, x.block < W.heap.size := by obtain ⟨m, hm⟩ := k0; exact DataW.trod_lt m _ _ _ hm
  obtain ⟨z0, w0⟩ : ∃ l, RowT W a0 len0 l := by
    obtain ⟨fuel, hf⟩ := h0
    exact row_of hf
  clear hA0 hval0
  refine (spanshave_walk a0 len0 cap0 z0 W w0).mono fun e W' ⟨he, bel⟩ => ?_
  subst he
  exact ⟨_, rfl, _, _, _, [], _, [], hW', trodAll_mk1 (shut_bool Try.underlying4 _), (trodAll_cons_mk (Below.trod laidOut (by kernel_rfl) (of_decide_eq_true (by kernel_rfl)) k0 bel lt0) trodAll_mk0), rfl, bel.frame _, fun h => by cases h⟩

theorem over : Rows.spansHaveRow.holds Try.pinned (OpenSpec.ofChange Rows.spansHaveSpec) :=
  OpenClaim.holds_of_wide 4 Try.f4 rfl rfl rfl rfl rfl rfl rfl ⟨rfl, rfl, rfl, rfl, rfl⟩ rfl rfl rfl rfl rfl (by kernel_rfl) Try.func4 (by kernel_rfl)
    (of_decide_eq_true (by kernel_rfl)) (by unfold Func.isWrapper; first | (rw [if_pos (by decide +kernel)]; kernel_rfl) | (rw [if_neg (by decide +kernel)]; exact ⟨rfl, rfl⟩))
    (fun os started H enc _ => lifted os started H enc)

theorem proved : Rows.SpansHaveSaid := over
end Go.Proofs.Ytkmfcaaionmfoaa.spansHave
