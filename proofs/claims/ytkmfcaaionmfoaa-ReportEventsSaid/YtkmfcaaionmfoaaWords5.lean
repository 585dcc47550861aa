/- Words for slices of arrays of integers that came in: each element's numbers as cells; no condition. -/
import Derived.Test.YtkmfcaaionmfoaaWords3
import Derived.OpenShut
namespace Go.Proofs.Ytkmfcaaionmfoaa
open Go.RowKit Go.ChangeShapes Go.WideShapes Go.Deep
variable {H : Type} {enc : TypeId × Value → H} {P : Program} {w : World}
theorem open_slice_arrays {t e b : TypeId} {n : Nat} {k : IntKind} {fuel : Nat} {a : Option Addr} {len cap : Nat} {x : DataW H × List MemPlace} (ht : P.underlying t = some (.slice e)) (he : P.underlying e = some (.array n b)) (hb : P.underlying b = some (.int k))
    (hcb : P.cellsOf b = 1) (hce : P.cellsOf e = n) (h : DataW.trod enc P w 0 (fun _ => true) true fuel t [.slice a len cap] = some x) :
    (a = none ∧ len = 0 ∧ cap = 0) ∨ ∃ ad, a = some ad ∧ len ≤ cap ∧ ∀ i, i < len → ∃ zs : List Int, zs.length = n ∧ ∀ j z, zs[j]? = some z → w.cell? (ad.add (i * n + j)) = some (.int k z) ∧ (Lit.int k z).wf = true := by
  rcases open_slice ht h with ⟨hcs, _⟩ | ⟨ad, len', cap', m, fu, D, Pl, hcs, _, hl, _, hmm, _, hi⟩
  · simp at hcs
    exact .inl hcs
  · simp at hcs
    obtain ⟨rfl, rfl, rfl⟩ := hcs
    refine .inr ⟨ad, rfl, hl, fun i hil => ?_⟩
    have hm : m = cap := by simpa using hmm
    obtain ⟨cs', hc, ht'⟩ := hi i (by omega)
    rw [hce] at hc
    obtain ⟨xs, m', _, _, _, _, hel⟩ := DataW.trod_array he ht'
    obtain ⟨_, hcl, hat⟩ := World.cells?_some hc
    have hz : ∀ j, j < n → ∃ z : Int, cs'[j]? = some (.int k z) ∧ (Lit.int k z).wf = true := by
      intro j hj
      have h1 := hel j hj
      rw [hcb, Nat.mul_one] at h1
      have hone : (cs'.drop j).take 1 = [cs'[j]'(by omega)] := by
        rw [List.drop_eq_getElem_cons (by omega)]
        rfl
      rw [hone] at h1
      cases hx : xs[j]? with
      | none =>
        have hlen : xs.length = n := by assumption
        have := List.getElem?_eq_none_iff.1 hx
        omega
      | some y =>
        rw [hx] at h1
        obtain ⟨z, hz, wz⟩ := field_int hb h1
        exact ⟨z, by rw [List.getElem?_eq_getElem (by omega), hz], wz⟩
    obtain ⟨zs, hzl, hzs⟩ := list_of (fun j (z : Int) => cs'[j]? = some (.int k z) ∧ (Lit.int k z).wf = true) n hz
    refine ⟨zs, hzl, fun j z hj => ?_⟩
    have hjn : j < n := by
      have := (List.getElem?_eq_some_iff.1 hj).1
      omega
    obtain ⟨h1, h2⟩ := hzs j z hj
    refine ⟨?_, h2⟩
    rw [← Go.Deep.add_add, hat j hjn, h1]
end Go.Proofs.Ytkmfcaaionmfoaa
