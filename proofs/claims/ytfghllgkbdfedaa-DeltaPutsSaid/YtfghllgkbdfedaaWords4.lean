/- Words for two rows of a call's own beside one another: an append of one element that says where the new row lies; no condition. -/
import Derived.Test.YtfghllgkbdfedaaWords2
namespace Go.Proofs.Ytfghllgkbdfedaa
open Go.RowKit Go.WideShapes Go.ChangeShapes

theorem Own.lt {w : World} {B : Nat} {e : TypeId} {v : Value} {l : List Value} (h : Own w B e v l) : ∀ g, v.ownBlock = some g → g < w.heap.size := by
  intro g hg
  rcases h.2 with ⟨rfl, _⟩ | ⟨g', cap, cur, rfl, _, hh, _⟩
  · simp [Value.ownBlock] at hg
  · simp [Value.ownBlock] at hg
    subst hg
    exact (Array.getElem?_eq_some_iff.1 hh).1
/-- the two rows lie apart -/
def Ap (v1 v2 : Value) : Prop := ∀ g, v1.ownBlock = some g → v2.ownBlock ≠ some g
theorem Ap.symm {v1 v2 : Value} (h : Ap v1 v2) : Ap v2 v1 := fun g h2 h1 => h g h1 h2
theorem Own.ap {w w' : World} {B : Nat} {e : TypeId} {v v2 : Value} {l : List Value} (h : Own w B e v l) (hg : w.grownBy w' v2.ownBlock) (ha : Ap v v2) : Own w' B e v l :=
  h.kept hg (by
    cases hv : v.ownBlock with
    | none => exact .inl rfl
    | some g => exact .inr (fun e => ha g hv e.symm))
theorem Own.cellAt {w : World} {B : Nat} {e : TypeId} {g n cap : Nat} {l : List Value} (h : Own w B e (.slice (some ⟨g, 0, none⟩) n cap) l) (j : Nat) (hj : j < l.length) : w.cell? ⟨g, j, none⟩ = l[j]? := by
  have hr := h.reads
  obtain ⟨ad, u, ha, _, hx, hc⟩ := hr.at_ hj
  injection ha with ha
  subst ha
  rw [hx]
  have e : (⟨g, 0, none⟩ : Addr).add j = ⟨g, j, none⟩ := by unfold Addr.add; split <;> simp_all
  rw [e] at hc
  exact hc

section
variable {P : Program} (w : World)
/-- 'append(out, x)' of one element of one cell, out nil or the call's own; where the new row lies. -/
theorem wpList_app1h {ops : Array Oper} {rest : List Oper} {o : Oper} {a : Act} {Q : Exit → Act → World → Prop} (hgd : o.guard = none) (s x : Operand) (t : TypeId)
    (ho : o.op = .call { callee := .builtin .append, args := #[s, x], argTypes := #[t, t] })
    (B : Nat) (e : TypeId) (z : Value) (bytes : Nat) (ht : P.underlying t = some (.slice e)) (hI : (P.info? e).map (fun i => (i.zero, i.size, i.bytes)) = some (some z, 1, bytes)) (hz : z.cells.size = 1)
    (v : Value) (l : List Value) (hs : a.eval s = v) (hown : Own w B e v l)
    (ad : Addr) (c : Nat) (u : Value) (hx : a.eval x = .slice (some ad) 1 c) (hc : w.cell? ad = some u) (h1 : u.oneCell' = true)
    (hlen : (l.length + 1) * bytes ≤ 140737488355328) (hmax : l.length + 1 ≤ 9223372036854775807) (hb : B ≤ w.heap.size)
    (h : ∀ g cap w1, Own w1 B e (.slice (some ⟨g, 0, none⟩) (l.length + 1) cap) (l ++ [u]) → Below B w w1 → w.grownBy w1 v.ownBlock → (v.ownBlock = some g ∨ g = w.heap.size) → g < w1.heap.size → wpList P ops Q rest (a.put o.dst (.slice (some ⟨g, 0, none⟩) (l.length + 1) cap)) w1) :
    wpList P ops Q (o :: rest) a w := by
  obtain ⟨i, hi, hz0, hz1, hz2⟩ := info_parts hI
  refine wpList_append_lies w hgd s x t ho B e i z 1 bytes ht hi hz0 hz1 hz2 hz (by omega) v l.length l hs hown ad 1 c [u] hx rfl ?_ ?_ (by omega) (by simp only [maxLen]; omega) hlen hb _ rfl ?_
  · intro j y hj
    match j, hj with
    | 0, hj =>
      simp at hj
      subst hj
      simpa [Addr.add] using hc
  · intro y hy
    simp at hy
    rw [hy]
    exact h1
  · intro g cap w1 hown1 hg hat hlt
    have hrow := hown.row
    have hl : (l ++ [u]).length = l.length + 1 := by simp
    exact h g cap w1 (by unfold Own; rw [hl]; exact hown1) ((Below.refl B w).grown hg hb hrow) hg hat hlt
end
end Go.Proofs.Ytfghllgkbdfedaa
