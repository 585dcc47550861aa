/-
  PROVED: 'lightshiplaw46.PacerHolds' returns true for every input, and each argument reads afterwards as it read before. No condition. (The frame follows the kit's proof-skeleton.mjs; a slice of arrays is opened by hand.)
-/
import Derived.Test.YtfghllgkbdfedaaRows
import Derived.Test.YtfghllgkbdfedaaPacLaw2
import Derived.Test.YtfghllgkbdfedaaWords5
import Derived.WalkKit
import Derived.ProofKit
import Derived.OpenShut
import Derived.ShutString
import Derived.ChangeOld
import Derived.Below
namespace Go.Proofs.Ytfghllgkbdfedaa.pacerHolds
open Go.Proofs.Ytfghllgkbdfedaa.Pac
open Go.ChangeShapes Go.WideShapes Go.ChangeAt Go.RowKit
open Go.ChangeMaps (open_string shut_string)
set_option linter.unusedVariables false

theorem own : ownKnob Try.prog.godebug = none := by kernel_rfl
theorem laidOut : laidOutB Try.prog = true := by kernel_rfl

theorem u8_of_wf {a : Int} (h : (Lit.int .u8 a).wf = true) : ∃ n : Nat, a = n ∧ n < 256 := by
  have hx : 0 ≤ a ∧ a ≤ 255 := by simpa [Lit.wf, IntKind.min, IntKind.max, IntKind.signed, IntKind.bits] using h
  exact ⟨a.toNat, by omega, by omega⟩

section
variable {H : Type} {enc : TypeId × Value → H} {w : World}
theorem prs_of {fuel : Nat} {a : Option Addr} {len cap : Nat} {x : DataW H × List MemPlace} (hf : DataW.trod enc Try.prog w 0 (fun _ => true) true fuel 68 [.slice a len cap] = some x) : ∃ l, Prs w a len l := by
  rcases open_slice_arrays (n := 2) (k := .u8) Try.underlying68 Try.underlying70 Try.underlying5 (by kernel_rfl) (by kernel_rfl) hf with ⟨rfl, rfl, rfl⟩ | ⟨ad, rfl, _, hi⟩
  · exact ⟨[], rfl, ⟨by simp, fun h => absurd h (by omega)⟩, fun d hd => by simp at hd⟩
  · obtain ⟨l, hl, hP⟩ := list_of (fun i (d : Nat × Nat) => w.cell? (ad.add (i * 2 + 0)) = some (.int .u8 (d.1 : Int)) ∧ w.cell? (ad.add (i * 2 + 1)) = some (.int .u8 (d.2 : Int)) ∧ d.1 < 256 ∧ d.2 < 256) len (fun i hil => by
      obtain ⟨zs, hzl, hz⟩ := hi i hil
      match zs, hzl with
      | [z0, z1], _ =>
        obtain ⟨c0, w0⟩ := hz 0 z0 rfl
        obtain ⟨c1, w1⟩ := hz 1 z1 rfl
        obtain ⟨n0, rfl, b0⟩ := u8_of_wf w0
        obtain ⟨n1, rfl, b1⟩ := u8_of_wf w1
        exact ⟨(n0, n1), c0, c1, b0, b1⟩)
    refine ⟨l, hl, ?_, fun d hd => ?_⟩
    · rw [← hl]
      refine reads_of bv 2 (by omega) (fun _ => rfl) ad l (fun i d hid r u hu => ?_)
      obtain ⟨c0, c1, _⟩ := hP i d hid
      match r, hu with
      | 0, hu => simp [bv] at hu; subst hu; exact c0
      | 1, hu => simp [bv] at hu; subst hu; exact c1
    · obtain ⟨i, hi2⟩ := List.mem_iff_getElem?.1 hd
      exact (hP i d hi2).2.2
end

set_option maxRecDepth 100000 in
theorem lifted (os : Os) (started : os.Started) (H : Type) (enc : TypeId × Value → H) :
    ReturnsInHanded {} Try.checked os 12 .any (Rows.pacerHoldsSpec.pre6 enc Try.prog Try.f12 Rows.pacerHoldsRow.domain false) (Rows.pacerHoldsSpec.post enc Try.prog Try.f12 false true false false) := by
  refine returnsInHanded_of_change (C := Try.checked) own started (by kernel_rfl) Try.func12
    (ChangeSpec.witness6 (enc := enc) (C := Try.checked) false ⟨#[], #[.int .u8 0, .int .u8 0, .slice none 0 0], []⟩ 8 (by kernel_rfl) (by kernel_rfl) (by kernel_rfl) (by kernel_rfl)) ?_
  intro W base args ds gs before hval0 hW hcnd _
  have hval : ∀ (j : Nat) t v, Try.f12.params[j]? = some t → args[j]? = some v → Value.okWide Try.prog W .any base t v := hval0
  have hW' := hW
  obtain ⟨p, q, hA0, hV, rfl, hfz, hnd⟩ := hW
  have hA : DataW.TrodAll enc Try.prog W 0 (fun _ => true) true Try.f12.params.toList args.toList ds p := hA0
  rw [Try.params12] at hA hval
  obtain ⟨v0, vs0, d0, ds0, p0, q0, hargs, rfl, rfl, h0, r0⟩ := trodAll_cons hA
  obtain ⟨v1, vs1, d1, ds1, p1, q1, rfl, rfl, rfl, h1, r1⟩ := trodAll_cons r0
  obtain ⟨v2, vs2, d2, ds2, p2, q2, rfl, rfl, rfl, h2, r2⟩ := trodAll_cons r1
  obtain ⟨rfl, rfl, rfl⟩ := trodAll_nil r2
  obtain rfl : args = #[v0, v1, v2] := by cases args; simp_all
  obtain ⟨rfl, rfl⟩ := trodVars_none hV
  obtain ⟨a0, rfl, rfl, rfl, w0⟩ := open_int Try.underlying5 (hval 0 5 v0 rfl rfl) h0
  obtain ⟨a1, rfl, rfl, rfl, w1⟩ := open_int Try.underlying5 (hval 1 5 v1 rfl rfl) h1
  obtain ⟨a2, len2, cap2, rfl⟩ := okWide_slice Try.underlying68 (hval 2 68 v2 rfl rfl)
  have k2 := h2
  have lt2 : ∀ x ∈ p2, x.block < W.heap.size := by obtain ⟨m, hm⟩ := k2; exact DataW.trod_lt m _ _ _ hm
  obtain ⟨z2, w2⟩ : ∃ l, Prs W a2 len2 l := by
    obtain ⟨fuel, hf⟩ := h2
    exact prs_of hf
  clear hA0 hval0
  obtain ⟨n0, rfl, b0⟩ := u8_of_wf w0
  obtain ⟨n1, rfl, b1⟩ := u8_of_wf w1
  refine (pacerHolds_walk n0 n1 a2 len2 cap2 z2 W b0 b1 w2).mono fun e W' ⟨he, bel⟩ => ?_
  subst he
  exact ⟨_, rfl, _, _, _, [], _, [], hW', trodAll_mk1 (shut_bool Try.underlying4 _), (trodAll_cons_mk (shut_int Try.underlying5 w0) (trodAll_cons_mk (shut_int Try.underlying5 w1) (trodAll_cons_mk (Below.trod laidOut (by kernel_rfl) (of_decide_eq_true (by kernel_rfl)) k2 bel lt2) trodAll_mk0))), rfl, bel.frame _, fun h => by cases h⟩

theorem over : Rows.pacerHoldsRow.holds Try.pinned (OpenSpec.ofChange Rows.pacerHoldsSpec) :=
  OpenClaim.holds_of_wide 12 Try.f12 rfl rfl rfl rfl rfl rfl rfl ⟨rfl, rfl, rfl, rfl, rfl⟩ rfl rfl rfl rfl rfl (by kernel_rfl) Try.func12 (by kernel_rfl)
    (of_decide_eq_true (by kernel_rfl)) (by unfold Func.isWrapper; first | (rw [if_pos (by decide +kernel)]; kernel_rfl) | (rw [if_neg (by decide +kernel)]; exact ⟨rfl, rfl⟩))
    (fun os started H enc _ => lifted os started H enc)

theorem proved : Rows.PacerHoldsSaid := over
end Go.Proofs.Ytfghllgkbdfedaa.pacerHolds
