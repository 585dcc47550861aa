/- More words for memory of our own: slices of integers that came in; no condition. -/
import Derived.Test.YtfghllgkbdfedaaWords
namespace Go.Proofs.Ytfghllgkbdfedaa
open Go.RowKit Go.WideShapes Go.ChangeShapes

/-! A slice of integers that came in -/
/-- it is nil; or it leads to a row of 'cap' cells, the numbers 'zs' -/
def IsRow (k : IntKind) (w : World) (a : Option Addr) (len cap : Nat) (zs : List Int) : Prop :=
  (a = none ∧ len = 0 ∧ cap = 0 ∧ zs = []) ∨
  ∃ x, a = some x ∧ len ≤ cap ∧ cap ≤ maxLen ∧ zs.length = cap ∧ (∀ i, i < zs.length → w.cell? (x.add i) = some (.int k (zs.getD i 0))) ∧ ∀ n ∈ zs, (Lit.int k n).wf = true
theorem cell_lt {w : World} {a : Addr} {v : Value} (h : w.cell? a = some v) : a.block < w.heap.size := by
  rcases Nat.lt_or_ge a.block w.heap.size with h1 | h1
  · exact h1
  · exfalso
    simp [World.cell?, Array.getElem?_eq_none h1] at h
/-- its elements -/
theorem IsRow.reads {k : IntKind} {w : World} {a : Option Addr} {len cap : Nat} {zs : List Int} (h : IsRow k w a len cap zs) : Reads w w.heap.size 1 a len ((zs.take len).map (Value.int k)) ∧ len ≤ cap ∧ (zs.take len).length = len := by
  rcases h with ⟨rfl, rfl, rfl, rfl⟩ | ⟨x, rfl, hl, hm, hz, hc, _⟩
  · exact ⟨⟨by simp, fun h => absurd h (by omega)⟩, Nat.le_refl _, by simp⟩
  · have hlen : (zs.take len).length = len := by rw [List.length_take]; omega
    refine ⟨⟨by simp; omega, fun hn => ⟨x, rfl, ?_, ?_⟩⟩, hl, hlen⟩
    · have := cell_lt (hc 0 (by omega))
      rw [block_of_add] at this
      exact this
    · intro j u hj
      have hjl : j < len := by
        have := (List.getElem?_eq_some_iff.1 hj).1
        simp at this; omega
      have h1 := hc j (by omega)
      rw [h1, ← hj]
      simp [hjl, List.getD, List.getElem?_eq_getElem (show j < zs.length by omega)]
theorem IsRow.wf {k : IntKind} {w : World} {a : Option Addr} {len cap : Nat} {zs : List Int} (h : IsRow k w a len cap zs) : ∀ n ∈ zs, (Lit.int k n).wf = true := by
  rcases h with ⟨_, _, _, rfl⟩ | ⟨_, _, _, _, _, _, h⟩
  · intro n hn; simp at hn
  · exact h
theorem Own.slice {w : World} {B : Nat} {e : TypeId} {v : Value} {l : List Value} (h : Own w B e v l) : ∃ A c, v = .slice A l.length c := by
  rcases h.2 with ⟨rfl, h0⟩ | ⟨g, cap, cur, rfl, _⟩
  · exact ⟨none, 0, by rw [h0]⟩
  · exact ⟨some ⟨g, 0, none⟩, cap, rfl⟩
theorem Own.kept {w w' : World} {B : Nat} {e : TypeId} {v : Value} {l : List Value} {row : Option Nat} (h : Own w B e v l) (hg : w.grownBy w' row) (hne : v.ownBlock = none ∨ v.ownBlock ≠ row) : Own w' B e v l :=
  World.ownsRow.kept h hg hne
/-- another element type's block is another block -/
theorem Own.far {w w' : World} {B g : Nat} {e t : TypeId} {v : Value} {l : List Value} {cs : Array Value} (h : Own w B e v l) (hg : w.grownBy w' (some g)) (hb : Blk w g t cs) (hne : e ≠ t) : Own w' B e v l :=
  h.kept hg (.inr (own_blk_ne h hb hne))
theorem Own.drewN {w : World} {B : Nat} {e : TypeId} {v : Value} {l : List Value} (h : Own w B e v l) (n : Nat) : Own (w.drewN n) B e v l := h
end Go.Proofs.Ytfghllgkbdfedaa
