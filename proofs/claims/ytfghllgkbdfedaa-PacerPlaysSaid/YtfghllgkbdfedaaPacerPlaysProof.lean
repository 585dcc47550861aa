/-
  PROVED: 'lightshiplaw46.PacerPlays' returns true for every input, and each argument reads afterwards as it read before. No condition. (The frame follows the kit's proof-skeleton.mjs; a slice of structs is opened by hand.)
-/
import Derived.Test.YtfghllgkbdfedaaRows
import Derived.Test.YtfghllgkbdfedaaPacLaw
import Derived.WalkKit
import Derived.ProofKit
import Derived.OpenShut
import Derived.ShutString
import Derived.ChangeOld
import Derived.Below
namespace Go.Proofs.Ytfghllgkbdfedaa.pacerPlays
open Go.Proofs.Ytfghllgkbdfedaa.Pac
open Go.ChangeShapes Go.WideShapes Go.ChangeAt Go.RowKit
open Go.ChangeMaps (open_string shut_string)
set_option linter.unusedVariables false

theorem own : ownKnob Try.prog.godebug = none := by kernel_rfl
theorem laidOut : laidOutB Try.prog = true := by kernel_rfl

theorem i64_of_wf {a : Int} (h : (Lit.int .i64 a).wf = true) : -9223372036854775808 ≤ a ∧ a ≤ 9223372036854775807 := by
  simpa [Lit.wf, IntKind.min, IntKind.max, IntKind.signed, IntKind.bits] using h

section
variable {H : Type} {enc : TypeId × Value → H} {w : World}
theorem deeds_of {fuel : Nat} {a : Option Addr} {len cap : Nat} {x : DataW H × List MemPlace} (hf : DataW.trod enc Try.prog w 0 (fun _ => true) true fuel 51 [.slice a len cap] = some x) : ∃ ds, Deeds w a len ds := by
  rcases open_slice_fields Try.underlying51 Try.underlying58 (by kernel_rfl) (by kernel_rfl) hf with ⟨hcs, _⟩ | ⟨x, l, c, m, D, Pl, hcs, _, hl, _, hmm, _, hi⟩
  · simp at hcs
    obtain ⟨rfl, rfl, rfl⟩ := hcs
    exact ⟨[], rfl, ⟨by simp, fun h => absurd h (by omega)⟩, fun d hd => by simp at hd⟩
  · simp at hcs
    obtain ⟨rfl, rfl, rfl⟩ := hcs
    have hm : m = cap := by simpa using hmm
    obtain ⟨ds, hds, hP⟩ := list_of (fun i (d : Pac.D) => w.cell? (x.add (i * 3 + 0)) = some (.int .i64 d.kind) ∧ w.cell? (x.add (i * 3 + 1)) = some (.int .i64 d.n) ∧ w.cell? (x.add (i * 3 + 2)) = some (.int .i64 d.now) ∧
        (-9223372036854775808 ≤ d.n ∧ d.n ≤ 9223372036854775807) ∧ (-9223372036854775808 ≤ d.now ∧ d.now ≤ 9223372036854775807)) len (fun i hi2 => by
      obtain ⟨ys, n, _, _, _, hfs⟩ := hi i (by omega)
      obtain ⟨v0, y0, c0, _, t0⟩ := hfs 0 _ rfl
      obtain ⟨v1, y1, c1, _, t1⟩ := hfs 1 _ rfl
      obtain ⟨v2, y2, c2, _, t2⟩ := hfs 2 _ rfl
      obtain ⟨b0, rfl, _⟩ := field_int Try.underlying3 t0
      obtain ⟨b1, rfl, q1⟩ := field_int Try.underlying3 t1
      obtain ⟨b2, rfl, q2⟩ := field_int Try.underlying3 t2
      exact ⟨⟨b0, b1, b2⟩, c0, c1, c2, i64_of_wf q1, i64_of_wf q2⟩)
    refine ⟨ds, hds, ?_, fun d hd => ?_⟩
    · rw [← hds]
      refine reads_of dv 3 (by omega) (fun _ => rfl) x ds (fun i d hid r u hu => ?_)
      obtain ⟨c0, c1, c2, _⟩ := hP i d hid
      match r, hu with
      | 0, hu => simp [dv] at hu; subst hu; exact c0
      | 1, hu => simp [dv] at hu; subst hu; exact c1
      | 2, hu => simp [dv] at hu; subst hu; exact c2
    · obtain ⟨i, hi2⟩ := List.mem_iff_getElem?.1 hd
      exact (hP i d hi2).2.2.2
end

set_option maxRecDepth 100000 in
theorem lifted (os : Os) (started : os.Started) (H : Type) (enc : TypeId × Value → H) :
    ReturnsInHanded {} Try.checked os 11 .any (Rows.pacerPlaysSpec.pre6 enc Try.prog Try.f11 Rows.pacerPlaysRow.domain false) (Rows.pacerPlaysSpec.post enc Try.prog Try.f11 false true false false) := by
  refine returnsInHanded_of_change (C := Try.checked) own started (by kernel_rfl) Try.func11
    (ChangeSpec.witness6 (enc := enc) (C := Try.checked) false ⟨#[], #[.int .i64 0, .int .i64 0, .slice none 0 0], []⟩ 8 (by kernel_rfl) (by kernel_rfl) (by kernel_rfl) (by kernel_rfl)) ?_
  intro W base args ds gs before hval0 hW hcnd _
  have hval : ∀ (j : Nat) t v, Try.f11.params[j]? = some t → args[j]? = some v → Value.okWide Try.prog W .any base t v := hval0
  have hW' := hW
  obtain ⟨p, q, hA0, hV, rfl, hfz, hnd⟩ := hW
  have hA : DataW.TrodAll enc Try.prog W 0 (fun _ => true) true Try.f11.params.toList args.toList ds p := hA0
  rw [Try.params11] at hA hval
  obtain ⟨v0, vs0, d0, ds0, p0, q0, hargs, rfl, rfl, h0, r0⟩ := trodAll_cons hA
  obtain ⟨v1, vs1, d1, ds1, p1, q1, rfl, rfl, rfl, h1, r1⟩ := trodAll_cons r0
  obtain ⟨v2, vs2, d2, ds2, p2, q2, rfl, rfl, rfl, h2, r2⟩ := trodAll_cons r1
  obtain ⟨rfl, rfl, rfl⟩ := trodAll_nil r2
  obtain rfl : args = #[v0, v1, v2] := by cases args; simp_all
  obtain ⟨rfl, rfl⟩ := trodVars_none hV
  obtain ⟨a0, rfl, rfl, rfl, w0⟩ := open_int Try.underlying3 (hval 0 3 v0 rfl rfl) h0
  obtain ⟨a1, rfl, rfl, rfl, w1⟩ := open_int Try.underlying3 (hval 1 3 v1 rfl rfl) h1
  obtain ⟨a2, len2, cap2, rfl⟩ := okWide_slice Try.underlying51 (hval 2 51 v2 rfl rfl)
  have k2 := h2
  have lt2 : ∀ x ∈ p2, x.block < W.heap.size := by obtain ⟨m, hm⟩ := k2; exact DataW.trod_lt m _ _ _ hm
  obtain ⟨z2, w2⟩ : ∃ ds, Deeds W a2 len2 ds := by
    obtain ⟨fuel, hf⟩ := h2
    exact deeds_of hf
  clear hA0 hval0
  refine (pacerPlays_walk a0 a1 a2 len2 cap2 z2 W (i64_of_wf w0) (i64_of_wf w1) w2).mono fun e W' ⟨he, bel⟩ => ?_
  subst he
  exact ⟨_, rfl, _, _, _, [], _, [], hW', trodAll_mk1 (shut_bool Try.underlying4 _), (trodAll_cons_mk (shut_int Try.underlying3 w0) (trodAll_cons_mk (shut_int Try.underlying3 w1) (trodAll_cons_mk (Below.trod laidOut (by kernel_rfl) (of_decide_eq_true (by kernel_rfl)) k2 bel lt2) trodAll_mk0))), rfl, bel.frame _, fun h => by cases h⟩

theorem over : Rows.pacerPlaysRow.holds Try.pinned (OpenSpec.ofChange Rows.pacerPlaysSpec) :=
  OpenClaim.holds_of_wide 11 Try.f11 rfl rfl rfl rfl rfl rfl rfl ⟨rfl, rfl, rfl, rfl, rfl⟩ rfl rfl rfl rfl rfl (by kernel_rfl) Try.func11 (by kernel_rfl)
    (of_decide_eq_true (by kernel_rfl)) (by unfold Func.isWrapper; first | (rw [if_pos (by decide +kernel)]; kernel_rfl) | (rw [if_neg (by decide +kernel)]; exact ⟨rfl, rfl⟩))
    (fun os started H enc _ => lifted os started H enc)

theorem proved : Rows.PacerPlaysSaid := over
end Go.Proofs.Ytfghllgkbdfedaa.pacerPlays
