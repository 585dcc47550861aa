/-
  PROVED: 'lightshiplaw45.SpansReckon' returns true for every input, and each argument reads afterwards as it read before. No condition. (The frame follows the kit's proof-skeleton.mjs; a slice of arrays is opened by hand.)
-/
import Derived.Test.YtkmfcaaionmfoaaRows
import Derived.Test.YtkmfcaaionmfoaaSpanLaw
import Derived.Test.YtkmfcaaionmfoaaWords5
import Derived.WalkKit
import Derived.ProofKit
import Derived.OpenShut
import Derived.ShutString
import Derived.ChangeOld
import Derived.Below
namespace Go.Proofs.Ytkmfcaaionmfoaa.spansReckon
open Go.Proofs.Ytkmfcaaionmfoaa.Sp
open Go.ChangeShapes Go.WideShapes Go.ChangeAt Go.RowKit
open Go.ChangeMaps (open_string shut_string)
set_option linter.unusedVariables false

theorem own : ownKnob Try.prog.godebug = none := by kernel_rfl
theorem laidOut : laidOutB Try.prog = true := by kernel_rfl

section
variable {H : Type} {enc : TypeId × Value → H} {w : World}
theorem row_of {fuel : Nat} {a : Option Addr} {len cap : Nat} {x : DataW H × List MemPlace} (hf : DataW.trod enc Try.prog w 0 (fun _ => true) true fuel 22 [.slice a len cap] = some x) (hlt : ∀ y ∈ x.2, y.block < w.heap.size) : ∃ l, RowS w a len cap l := by
  rcases open_slice_arrays (n := 2) (k := .i64) Try.underlying22 Try.underlying54 Try.underlying3 (by kernel_rfl) (by kernel_rfl) hf with ⟨rfl, rfl, rfl⟩ | ⟨ad, rfl, hlc, hi⟩
  · exact ⟨[], RowS.nil w⟩
  · obtain ⟨l, hl, hP⟩ := list_of (fun i (d : Int × Int) => w.cell? (ad.add (i * 2 + 0)) = some (.int .i64 d.1) ∧ w.cell? (ad.add (i * 2 + 1)) = some (.int .i64 d.2)) len (fun i hil => by
      obtain ⟨zs, hzl, hz⟩ := hi i hil
      match zs, hzl with
      | [z0, z1], _ => exact ⟨(z0, z1), (hz 0 z0 rfl).1, (hz 1 z1 rfl).1⟩)
    refine ⟨l, hl, hlc, ?_⟩
    rw [← hl]
    refine reads_of pv 2 (by omega) (fun _ => rfl) ad l (fun i d hid r u hu => ?_)
    obtain ⟨c0, c1⟩ := hP i d hid
    match r, hu with
    | 0, hu => simp [pv] at hu; subst hu; exact c0
    | 1, hu => simp [pv] at hu; subst hu; exact c1
end

set_option maxRecDepth 100000 in
theorem lifted (os : Os) (started : os.Started) (H : Type) (enc : TypeId × Value → H) :
    ReturnsInHanded {} Try.checked os 3 .any (Rows.spansReckonSpec.pre6 enc Try.prog Try.f3 Rows.spansReckonRow.domain false) (Rows.spansReckonSpec.post enc Try.prog Try.f3 false true false false) := by
  refine returnsInHanded_of_change (C := Try.checked) own started (by kernel_rfl) Try.func3
    (ChangeSpec.witness6 (enc := enc) (C := Try.checked) false ⟨#[], #[.slice none 0 0, .int .i64 0, .int .i64 0], []⟩ 8 (by kernel_rfl) (by kernel_rfl) (by kernel_rfl) (by kernel_rfl)) ?_
  intro W base args ds gs before hval0 hW hcnd _
  have hval : ∀ (j : Nat) t v, Try.f3.params[j]? = some t → args[j]? = some v → Value.okWide Try.prog W .any base t v := hval0
  have hW' := hW
  obtain ⟨p, q, hA0, hV, rfl, hfz, hnd⟩ := hW
  have hA : DataW.TrodAll enc Try.prog W 0 (fun _ => true) true Try.f3.params.toList args.toList ds p := hA0
  rw [Try.params3] at hA hval
  obtain ⟨v0, vs0, d0, ds0, p0, q0, hargs, rfl, rfl, h0, r0⟩ := trodAll_cons hA
  obtain ⟨v1, vs1, d1, ds1, p1, q1, rfl, rfl, rfl, h1, r1⟩ := trodAll_cons r0
  obtain ⟨v2, vs2, d2, ds2, p2, q2, rfl, rfl, rfl, h2, r2⟩ := trodAll_cons r1
  obtain ⟨rfl, rfl, rfl⟩ := trodAll_nil r2
  obtain rfl : args = #[v0, v1, v2] := by cases args; simp_all
  obtain ⟨rfl, rfl⟩ := trodVars_none hV
  obtain ⟨a0, len0, cap0, rfl⟩ := okWide_slice Try.underlying22 (hval 0 22 v0 rfl rfl)
  have k0 := h0
  have lt0 : ∀ x ∈ p0, x.block < W.heap.size := by obtain ⟨m, hm⟩ := k0; exact DataW.trod_lt m _ _ _ hm
  obtain ⟨z0, w0⟩ : ∃ l, RowS W a0 len0 cap0 l := by
    obtain ⟨fuel, hf⟩ := h0
    exact row_of hf lt0
  obtain ⟨a1, rfl, rfl, rfl, w1⟩ := open_int Try.underlying3 (hval 1 3 v1 rfl rfl) h1
  obtain ⟨a2, rfl, rfl, rfl, w2⟩ := open_int Try.underlying3 (hval 2 3 v2 rfl rfl) h2
  clear hA0 hval0
  refine (spansreckon_walk a0 len0 cap0 z0 a1 a2 W w0).mono fun e W' ⟨he, bel⟩ => ?_
  subst he
  exact ⟨_, rfl, _, _, _, [], _, [], hW', trodAll_mk1 (shut_bool Try.underlying4 _), (trodAll_cons_mk (Below.trod laidOut (by kernel_rfl) (of_decide_eq_true (by kernel_rfl)) k0 bel lt0) (trodAll_cons_mk (shut_int Try.underlying3 w1) (trodAll_cons_mk (shut_int Try.underlying3 w2) trodAll_mk0))), rfl, bel.frame _, fun h => by cases h⟩

theorem over : Rows.spansReckonRow.holds Try.pinned (OpenSpec.ofChange Rows.spansReckonSpec) :=
  OpenClaim.holds_of_wide 3 Try.f3 rfl rfl rfl rfl rfl rfl rfl ⟨rfl, rfl, rfl, rfl, rfl⟩ rfl rfl rfl rfl rfl (by kernel_rfl) Try.func3 (by kernel_rfl)
    (of_decide_eq_true (by kernel_rfl)) (by unfold Func.isWrapper; first | (rw [if_pos (by decide +kernel)]; kernel_rfl) | (rw [if_neg (by decide +kernel)]; exact ⟨rfl, rfl⟩))
    (fun os started H enc _ => lifted os started H enc)

theorem proved : Rows.SpansReckonSaid := over
end Go.Proofs.Ytkmfcaaionmfoaa.spansReckon
