/- Rows of pairs of integers in memory: what a call reads, appends and gives; what spans.out and both Checks compute; no condition. -/
import Derived.Test.YtkmfcaaionmfoaaProg
import Derived.Test.YtkmfcaaionmfoaaSpanPlain
import Derived.Test.YtkmfcaaionmfoaaWords5
import Derived.Test.YtkmfcaaionmfoaaWords7
import Derived.BigQuiet
import Derived.IntWalk
set_option maxRecDepth 100000
namespace Go.Proofs.Ytkmfcaaionmfoaa.Sp
open Go.RowKit

def pv (s : Sn) : List Value := [.int .i64 s.1, .int .i64 s.2]
def Ps (l : List Sn) : List Value := l.flatMap pv
theorem Ps_len (l : List Sn) : (Ps l).length = l.length * 2 := flat_len pv 2 (fun _ => rfl) l
theorem Ps_one (l : List Sn) : ∀ v ∈ Ps l, v.oneCell' = true := by
  intro v hv
  obtain ⟨s, _, h⟩ := List.mem_flatMap.1 hv
  simp [pv] at h
  rcases h with h | h <;> subst h <;> rfl
theorem Ps_snoc (l : List Sn) (s : Sn) : Ps (l ++ [s]) = Ps l ++ [.int .i64 s.1, .int .i64 s.2] := by simp [Ps, pv]
theorem Ps_app (l m : List Sn) : Ps (l ++ m) = Ps l ++ Ps m := by simp [Ps]
theorem info54 : (Try.prog.info? 54).map (fun i => (i.zero, i.size, i.bytes)) = some (some (.agg #[.int .i64 0, .int .i64 0]), 2, 16) := by kernel_rfl
/-- a slice of pairs -/
def RowS (w : World) (A : Option Addr) (n c : Nat) (l : List Sn) : Prop := l.length = n ∧ n ≤ c ∧ Reads w w.heap.size 2 A n (Ps l)
theorem RowS.on {w w' : World} {A : Option Addr} {n c : Nat} {l : List Sn} (h : RowS w A n c l) (hb : Below w.heap.size w w') : RowS w' A n c l :=
  ⟨h.1, h.2.1, (h.2.2.below hb).more hb.size⟩
theorem RowS.nil (w : World) : RowS w none 0 0 [] := ⟨rfl, Nat.le_refl _, Reads.none_⟩
theorem RowS.cell {w : World} {A : Option Addr} {n c : Nat} {l : List Sn} (h : RowS w A n c l) {i : Nat} (hi : i < n) :
    ∃ (ad q : Addr), A = some ad ∧ ad.add (i * 2) = q ∧ q.block < w.heap.size ∧ w.cell? q = some (.int .i64 (sp l i).1) ∧ w.cell? ⟨q.block, q.off + 1, none⟩ = some (.int .i64 (sp l i).2) := by
  obtain ⟨hl, _, hr⟩ := h
  obtain ⟨ad, e, hb, hc⟩ := hr.2 (by omega)
  have hil : i < l.length := by omega
  have hd : l[i]? = some (sp l i) := by simp [sp, List.getD, List.getElem?_eq_getElem hil]
  have hf := flat_at pv 2 (fun _ => rfl) l i
  refine ⟨ad, _, e, rfl, by rw [block_of_add]; exact hb, hc _ _ (hf 0 _ hd (by omega)), ?_⟩
  have := hc _ _ (hf 1 _ hd (by omega))
  rw [← add_of_add, add_one] at this
  exact this
/-- a row of pairs of a call's own -/
def OwnS (w : World) (B : Nat) (v : Value) (l : List Sn) : Prop := w.ownsRow B 54 2 v l.length (Ps l)
theorem OwnS.nil (w : World) (B : Nat) : OwnS w B (.slice none 0 0) [] := World.ownsRow_nil w B 54 2
theorem OwnS.alloc {w : World} {B : Nat} {v : Value} {l : List Sn} (h : OwnS w B v l) (o : Obj) : OwnS (w.alloc o) B v l := World.ownsRow.alloc h o
theorem OwnS.drew {w : World} {B : Nat} {v : Value} {l : List Sn} (h : OwnS w B v l) : OwnS w.drew B v l := h
theorem OwnS.setFar {w : World} {B : Nat} {v : Value} {l : List Sn} (h : OwnS w B v l) {p : Addr} (hp : v.ownBlock ≠ some p.block) (u : Value) : OwnS (w.setCell p u) B v l :=
  h.kept (only_setCell (only_of_below (Below.refl _ w) (some p.block)) (.inl rfl) u) (by
    cases hv : v.ownBlock with
    | none => exact .inl rfl
    | some g => exact .inr (fun e => hp (by rw [hv, e])))
theorem OwnS.lt {w : World} {B : Nat} {v : Value} {l : List Sn} (h : OwnS w B v l) : ∀ g, v.ownBlock = some g → g < w.heap.size := by
  intro g hg
  rcases h.2 with ⟨rfl, _⟩ | ⟨g', cap, cur, rfl, _, hh, _⟩
  · simp [Value.ownBlock] at hg
  · simp [Value.ownBlock] at hg
    subst hg
    exact (Array.getElem?_eq_some_iff.1 hh).1
theorem OwnS.base {w : World} {B : Nat} {v : Value} {l : List Sn} (h : OwnS w B v l) : ∀ g, v.ownBlock = some g → B ≤ g := by
  intro g hg
  rcases h.2 with ⟨rfl, _⟩ | ⟨g', cap, cur, rfl, hb, _⟩
  · simp [Value.ownBlock] at hg
  · simp [Value.ownBlock] at hg; omega
theorem OwnS.ap {w w' : World} {B : Nat} {v v2 : Value} {l : List Sn} (h : OwnS w B v l) (hg : w.grownBy w' v2.ownBlock) (ha : Ap v v2) : OwnS w' B v l :=
  h.kept hg (by
    cases hv : v.ownBlock with
    | none => exact .inl rfl
    | some g => exact .inr (fun e => ha g hv e.symm))
theorem OwnS.row {w : World} {B : Nat} {A : Option Addr} {n c : Nat} {l : List Sn} (h : OwnS w B (.slice A n c) l) : RowS w A n c l := by
  have hr := Reads.of_own (c := c) (A := A) (n := n) (e := 54) (base := B) (w := w) (size := 2) (xs := Ps l) (by
    have h2 := h
    unfold OwnS at h2
    rcases h.2 with ⟨hv, h0⟩ | ⟨g, cap, cur, hv, _⟩
    · injection hv with _ h3 _
      subst h3
      rw [h0] at h2; exact h2
    · injection hv with _ h3 _
      subst h3
      exact h2)
  rcases h.2 with ⟨hv, h0⟩ | ⟨g, cap, cur, hv, _, _, h1, _⟩
  · injection hv with _ h3 h4
    exact ⟨by omega, by omega, hr⟩
  · injection hv with _ h3 h4
    exact ⟨by omega, by omega, hr⟩
section
variable {P : Program} (w : World)
/-- 'append(out, x)' of one pair, out nil or the call's own; where the new row lies. -/
theorem wpList_app2h {ops : Array Oper} {rest : List Oper} {o : Oper} {a : Act} {Q : Exit → Act → World → Prop} (hgd : o.guard = none) (s x : Operand)
    (ho : o.op = .call { callee := .builtin .append, args := #[s, x], argTypes := #[22, 22] })
    (B : Nat) (v : Value) (l : List Sn) (hs : a.eval s = v) (hown : OwnS w B v l)
    (ad : Addr) (c : Nat) (u : Sn) (hx : a.eval x = .slice (some ad) 1 c) (hc : w.cell? ad = some (.int .i64 u.1)) (hc2 : w.cell? (ad.add 1) = some (.int .i64 u.2))
    (hlen : l.length ≤ 1000000) (hb : B ≤ w.heap.size)
    (h : ∀ g cap w1, OwnS w1 B (.slice (some ⟨g, 0, none⟩) (l.length + 1) cap) (l ++ [u]) → Below B w w1 → w.grownBy w1 v.ownBlock → (v.ownBlock = some g ∨ g = w.heap.size) → g < w1.heap.size → wpList Try.prog ops Q rest (a.put o.dst (.slice (some ⟨g, 0, none⟩) (l.length + 1) cap)) w1) :
    wpList Try.prog ops Q (o :: rest) a w := by
  obtain ⟨i, hi, hz0, hz1, hz2⟩ := info_parts info54
  refine wpList_append_lies w hgd s x 22 ho B 54 i _ 2 16 Try.underlying22 hi hz0 hz1 hz2 rfl (by omega) v l.length (Ps l) hs hown ad 1 c [.int .i64 u.1, .int .i64 u.2] hx rfl ?_ ?_ (by omega) (by simp only [maxLen]; omega) (by omega) hb _ rfl ?_
  · intro j y hj
    match j, hj with
    | 0, hj => simp at hj; subst hj; simpa [Addr.add] using hc
    | 1, hj => simp at hj; subst hj; exact hc2
  · intro y hy
    simp at hy
    rcases hy with hy | hy <;> rw [hy] <;> rfl
  · intro g cap w1 hown1 hg hat hlt
    have hl : (l ++ [u]).length = l.length + 1 := by simp
    refine h g cap w1 (by unfold OwnS; rw [hl, Ps_snoc]; exact hown1) ((Below.refl B w).grown hg hb (OwnS.base hown)) hg hat hlt
end

theorem out_any (x : Int) (b : Bool) (w : World) (hb : outB x = b) : Calls Try.prog 28 #[.int .i64 x] w fun e w' => e = .returned (.bool b) ∧ w = w' := by
  have hc : (decide (x < 0) = true ∧ b = true) ∨ (decide (x < 0) = false ∧ decide (1099511627776 < x) = b) := by
    subst hb
    unfold outB
    cases h : decide (x < 0)
    · right; exact ⟨rfl, rfl⟩
    · left; exact ⟨rfl, rfl⟩
  clear hb
  rcases hc with ⟨h1, rfl⟩ | ⟨h1, h2⟩
  · go_enter Try.func28, Try.ntmps28
    go_wp2_with fail
    go_ret
    exact ⟨rfl, rfl⟩
  · cases b
    all_goals
      go_enter Try.func28, Try.ntmps28
      go_wp2_with fail
      go_ret
      exact ⟨rfl, rfl⟩
end Go.Proofs.Ytkmfcaaionmfoaa.Sp
