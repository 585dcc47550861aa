/- Words for an append of one element inside a region that draws its order; no condition. -/
import Derived.Test.YtfghllgkbdfedaaWords4
import Derived.Deep.RegionHeld3
import Derived.Deep.DrawnRows
namespace Go.Proofs.Ytfghllgkbdfedaa
open Go.RowKit Go.WideShapes Go.ChangeShapes

section
variable {P : Program} {w : World}
/-- 'append(out, x)' of one element of one cell, out nil or the call's own, as one step of a region that draws its order. -/
theorem step_app1h {ops : Array Oper} {o : Oper} {a : Act} {K : Act → World → Prop} {Q : Exit → Act → World → Prop} {E : Prop} (hgd : o.guard = none) (s x : Operand) (t : TypeId)
    (ho : o.op = .call { callee := .builtin .append, args := #[s, x], argTypes := #[t, t] })
    (B : Nat) (e : TypeId) (z : Value) (bytes : Nat) (ht : P.underlying t = some (.slice e)) (hI : (P.info? e).map (fun i => (i.zero, i.size, i.bytes)) = some (some z, 1, bytes)) (hz : z.cells.size = 1)
    (v : Value) (l : List Value) (hs : a.eval s = v) (hown : Own w B e v l)
    (ad : Addr) (c : Nat) (u : Value) (hx : a.eval x = .slice (some ad) 1 c) (hc : w.cell? ad = some u) (h1 : u.oneCell' = true)
    (hlen : (l.length + 1) * bytes ≤ 140737488355328) (hmax : l.length + 1 ≤ 9223372036854775807) (hb : B ≤ w.heap.size)
    (h : ∀ g cap w1, Own w1 B e (.slice (some ⟨g, 0, none⟩) (l.length + 1) cap) (l ++ [u]) → Below B w w1 → w.grownBy w1 v.ownBlock → (v.ownBlock = some g ∨ g = w.heap.size) → g < w1.heap.size → K (a.put o.dst (.slice (some ⟨g, 0, none⟩) (l.length + 1) cap)) w1) :
    if Region.wanted o (yielded ops a.tmps) = true then Oper.wp P o a w K Q else E := by
  obtain ⟨i, hi, hz0, hz1, hz2⟩ := info_parts hI
  refine step_append_lies w hgd s x t ho B e i z 1 bytes ht hi hz0 hz1 hz2 hz (by omega) v l.length l hs hown ad 1 c [u] hx rfl ?_ ?_ (by omega) (by simp only [maxLen]; omega) hlen hb _ rfl ?_
  · intro j y hj
    match j, hj with
    | 0, hj =>
      simp at hj
      subst hj
      simpa [Addr.add] using hc
  · intro y hy
    simp at hy
    rw [hy]
    exact h1
  · intro g cap w1 hown1 hg hat hlt
    have hrow := hown.row
    have hl : (l ++ [u]).length = l.length + 1 := by simp
    exact h g cap w1 (by unfold Own; rw [hl]; exact hown1) ((Below.refl B w).grown hg hb hrow) hg hat hlt
end
end Go.Proofs.Ytfghllgkbdfedaa
