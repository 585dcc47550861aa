/- Opening structs and slices of structs, of our own; no condition. -/
import Derived.Test.YtkmfcaaionmfoaaWords5
namespace Go.Proofs.Ytkmfcaaionmfoaa
open Go.RowKit Go.ChangeShapes Go.WideShapes Go.Deep
section
variable {H : Type} {enc : TypeId × Value → H} {P : Program} {w : World} {base : Nat} {spare : Nat → Bool} {held : Bool}
theorem field_sub {t : TypeId} {fs : Array Field} {fuel : Nat} {cs : List Value} {x : DataW H × List MemPlace} {i : Nat} {f : Field} (ht : P.underlying t = some (.struct fs)) (hf : fs[i]? = some f)
    (h : DataW.trod enc P w base spare held fuel t cs = some x) : ∃ n y, DataW.trod enc P w base spare held n f.type ((cs.drop f.offset).take (P.cellsOf f.type)) = some y := by
  obtain ⟨xs, n, _, _, _, hl, hx⟩ := DataW.trod_struct ht h
  have h1 := hx i f hf
  have hi : i < xs.length := by
    rw [hl]
    exact (Array.getElem?_eq_some_iff.1 hf).1
  rw [List.getElem?_eq_getElem hi] at h1
  exact ⟨n, _, h1⟩
theorem drop_one {α : Type} {l : List α} {o : Nat} (h : o < l.length) : (l.drop o).take 1 = [l[o]] := by
  rw [List.drop_eq_getElem_cons h]
  rfl
theorem field_cell {t : TypeId} {fs : Array Field} {fuel : Nat} {cs : List Value} {x : DataW H × List MemPlace} {i : Nat} {f : Field} (ht : P.underlying t = some (.struct fs)) (hf : fs[i]? = some f) (h1 : P.cellsOf f.type = 1) (ho : f.offset < cs.length)
    (h : DataW.trod enc P w base spare held fuel t cs = some x) : ∃ n c y, cs[f.offset]? = some c ∧ DataW.trod enc P w base spare held n f.type [c] = some y := by
  obtain ⟨n, y, hy⟩ := field_sub ht hf h
  rw [h1, drop_one ho] at hy
  exact ⟨n, _, y, List.getElem?_eq_getElem ho, hy⟩
theorem field_i {t : TypeId} {fs : Array Field} {fuel : Nat} {cs : List Value} {x : DataW H × List MemPlace} {i : Nat} {f : Field} {k : IntKind} (ht : P.underlying t = some (.struct fs)) (hf : fs[i]? = some f) (h1 : P.cellsOf f.type = 1) (ho : f.offset < cs.length) (hk : P.underlying f.type = some (.int k))
    (h : DataW.trod enc P w base spare held fuel t cs = some x) : ∃ a : Int, cs[f.offset]? = some (.int k a) ∧ (Lit.int k a).wf = true := by
  obtain ⟨n, c, y, hc, hy⟩ := field_cell ht hf h1 ho h
  obtain ⟨a, rfl, wa⟩ := field_int hk hy
  exact ⟨a, hc, wa⟩
theorem field_s {t : TypeId} {fs : Array Field} {fuel : Nat} {cs : List Value} {x : DataW H × List MemPlace} {i : Nat} {f : Field} (ht : P.underlying t = some (.struct fs)) (hf : fs[i]? = some f) (h1 : P.cellsOf f.type = 1) (ho : f.offset < cs.length) (hk : P.underlying f.type = some .string)
    (h : DataW.trod enc P w base spare held fuel t cs = some x) : ∃ s : ByteArray, cs[f.offset]? = some (.string s) ∧ s.size ≤ maxLen := by
  obtain ⟨n, c, y, hc, hy⟩ := field_cell ht hf h1 ho h
  obtain ⟨s, e, _, ws⟩ := DataW.trod_string hk hy
  simp at e
  subst e
  exact ⟨s, hc, ws⟩
end
variable {H : Type} {enc : TypeId × Value → H} {P : Program} {w : World}
theorem open_slice_structs {t e : TypeId} {n : Nat} {fuel : Nat} {a : Option Addr} {len cap : Nat} {x : DataW H × List MemPlace} (ht : P.underlying t = some (.slice e)) (hce : P.cellsOf e = n) (h : DataW.trod enc P w 0 (fun _ => true) true fuel t [.slice a len cap] = some x) :
    (a = none ∧ len = 0 ∧ cap = 0) ∨ ∃ ad, a = some ad ∧ len ≤ cap ∧ ∀ i, i < len → ∃ (cs : List Value) (m : Nat) (y : DataW H × List MemPlace), cs.length = n ∧ DataW.trod enc P w 0 (fun _ => true) true m e cs = some y ∧ ∀ j, j < n → w.cell? (ad.add (i * n + j)) = cs[j]? := by
  rcases open_slice ht h with ⟨hcs, _⟩ | ⟨ad, len', cap', m, fu, D, Pl, hcs, _, hl, _, hmm, _, hi⟩
  · simp at hcs
    exact .inl hcs
  · simp at hcs
    obtain ⟨rfl, rfl, rfl⟩ := hcs
    refine .inr ⟨ad, rfl, hl, fun i hil => ?_⟩
    have hm : m = cap := by simpa using hmm
    obtain ⟨cs', hc, ht'⟩ := hi i (by omega)
    rw [hce] at hc
    obtain ⟨_, hcl, hat⟩ := World.cells?_some hc
    refine ⟨cs', _, _, hcl, ht', fun j hj => ?_⟩
    rw [← Go.Deep.add_add, hat j hj]
end Go.Proofs.Ytkmfcaaionmfoaa
