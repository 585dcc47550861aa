/- Rows of memory that hold lists of the field: what a call reads and gives; trimmed rows; no condition. -/
import Derived.Test.YtbbikkmmdedaiaaPoLists
import Derived.Test.YtbbikkmmdedaiaaPolyTrim
set_option maxRecDepth 100000
namespace Go.Proofs.Ytbbikkmmdedaiaa.Pr
open Go.RowKit Go.Proofs.Ytbbikkmmdedaiaa.Gf Go.Proofs.Ytbbikkmmdedaiaa.Vec

def vals (l : List F) : List Nat := l.map (·.1)
theorem vals_len (l : List F) : (vals l).length = l.length := by simp [vals]
theorem vals_getD (l : List F) (i : Nat) : (vals l).getD i 0 = (co l i).1 := by
  unfold vals co
  simp only [List.getD, List.getElem?_map]
  cases l[i]? <;> rfl
theorem vals_bytes (l : List F) : Bytes (vals l) := fun x hx => by
  obtain ⟨y, _, rfl⟩ := List.mem_map.1 hx
  exact y.2
theorem vals_set (l : List F) (i : Nat) (v : F) : vals (l.set i v) = (vals l).set i v.1 := by
  unfold vals; rw [List.map_set]
theorem vals_snoc (l : List F) (v : F) : vals (l ++ [v]) = vals l ++ [v.1] := by simp [vals]
theorem vals_zeros (n : Nat) : vals (List.replicate n 0) = List.replicate n 0 := by
  simp [vals, F.val_zero]
theorem vals_tr (l : List F) : Poly.trim (vals l) = vals (tr l) := by
  refine Poly.trimmed_ext (Poly.trim_trimmed _) ?_ fun i => ?_
  · rcases tr_trd l with h | h
    · exact .inl (by rw [vals_len, h])
    · exact .inr (by rw [vals_getD, vals_len]; exact fun e => h (F.ext e))
  · rw [Poly.trim_getD, vals_getD, vals_getD, co_tr]
theorem of_bytes : ∀ m : List Nat, Bytes m → ∃ l : List F, vals l = m
  | [], _ => ⟨[], rfl⟩
  | x :: m, h => by
    obtain ⟨l, hl⟩ := of_bytes m (fun y hy => h y (by simp [hy]))
    exact ⟨⟨x, h x (by simp)⟩ :: l, by show x :: vals l = x :: m; rw [hl]⟩

/-- a slice of a list -/
def RowAt (w : World) (A : Option Addr) (n c : Nat) (l : List F) : Prop := l.length = n ∧ n ≤ c ∧ Reads w w.heap.size 1 A n (U8s (vals l))
theorem RowAt.len {w : World} {A : Option Addr} {n c : Nat} {l : List F} (h : RowAt w A n c l) : l.length = n := h.1
theorem RowAt.on {w w' : World} {A : Option Addr} {n c : Nat} {l : List F} (h : RowAt w A n c l) (hb : Below w.heap.size w w') : RowAt w' A n c l :=
  ⟨h.1, h.2.1, Reads.on h.2.2 hb (Nat.le_refl _)⟩
theorem RowAt.nil (w : World) : RowAt w none 0 0 [] := ⟨rfl, Nat.le_refl _, Reads.none_⟩
/-- the cell of an index, as an older world has it -/
theorem RowAt.cell {w : World} {A : Option Addr} {n c : Nat} {l : List F} (h : RowAt w A n c l) {i : Nat} (hi : i < n) :
    ∃ ad, A = some ad ∧ (ad.add i).block < w.heap.size ∧ w.cell? (ad.add i) = some (.int .u8 ((co l i).1 : Nat)) := by
  obtain ⟨ad, u, rfl, hb, hu, hc⟩ := h.2.2.at_ hi
  obtain ⟨rfl, _⟩ := U8s_at hu
  rw [vals_getD] at hc
  exact ⟨ad, rfl, by rw [block_of_add]; exact hb, hc⟩
theorem RowAt.take {w : World} {A : Option Addr} {n c : Nat} {l : List F} (h : RowAt w A n c l) (k : Nat) (hk : k ≤ n) : RowAt w A k c (l.take k) :=
  ⟨by rw [List.length_take, h.1]; omega, by have := h.2.1; omega, by
    have := Poly.reads_take h.2.2 k hk
    rw [← Poly.U8s_take] at this
    have e : (vals l).take k = vals (l.take k) := by simp [vals]
    rw [e] at this
    exact this⟩
/-- what a call gives that makes a row -/
def Gv (l : List F) (w : World) (e : Ending) (w' : World) : Prop := ∃ A n c, e = .returned (.slice A n c) ∧ RowAt w' A n c l ∧ Below w.heap.size w w'
/-- a block of a call's own -/
def VBF (w : World) (g : Nat) (m : List F) : Prop := VB w g (vals m)
section
variable {w w' : World} {g : Nat} {m : List F}
theorem VBF.cell (h : VBF w g m) (i : Nat) (hi : i < m.length) : w.cell? ⟨g, i, none⟩ = some (.int .u8 ((co m i).1 : Nat)) := by
  rw [VB.cell h i (by rw [vals_len]; exact hi), vals_getD]
theorem VBF.frozen (h : VBF w g m) (i : Nat) : w.frozen? ⟨g, i, none⟩ = false := VB.frozen h i
theorem VBF.lt (h : VBF w g m) : g < w.heap.size := VB.lt h
theorem VBF.set (h : VBF w g m) (i : Nat) (v : F) : VBF (w.setCell ⟨g, i, none⟩ (.int .u8 (v.1 : Nat))) g (m.set i v) := by
  unfold VBF
  rw [vals_set]
  exact VB.set h i v.1
theorem VBF.drewN (h : VBF w g m) (n : Nat) : VBF (w.drewN n) g m := h
theorem VBF.alloc (h : VBF w g m) (o : Obj) : VBF (w.alloc o) g m := VB.alloc h o
theorem VBF.below {B : Nat} (h : VBF w g m) (hb : Below B w w') (hg : g < B) : VBF w' g m := VB.below h hb hg
theorem VBF.row (h : VBF w g m) : RowAt w (some ⟨g, 0, none⟩) m.length m.length m :=
  ⟨rfl, Nat.le_refl _, by have := VB.reads h w.heap.size h.lt; rw [vals_len] at this; exact this⟩
theorem VBF.made (w : World) (n : Nat) : VBF (w.alloc (.cells (madeCells #[.int .u8 0] n) 5)) w.heap.size (List.replicate n 0) := by
  unfold VBF
  rw [vals_zeros]
  exact VB.made w n
end
theorem row_own {w : World} {B : Nat} {A : Option Addr} {n c : Nat} {l : List F} (h : Own w B 5 (.slice A n c) (U8s (vals l))) (hl : l.length = n) (hc : n ≤ c) : RowAt w A n c l :=
  ⟨hl, hc, own_reads h (by rw [vals_len]; exact hl)⟩

theorem trim_row {A : Option Addr} {n c : Nat} {l : List F} {w : World} (h : RowAt w A n c l) (hn : n ≤ 1000000) :
    Calls Try.prog 43 #[.slice A n c] w fun e w' => (∃ A' n' c', e = .returned (.slice A' n' c') ∧ RowAt w A' n' c' (tr l)) ∧ w = w' := by
  have hl : (vals l).length = n := by rw [vals_len]; exact h.1
  have := Poly.trim_any A c w.heap.size (vals l) w (by rw [hl]; exact h.2.2) (by omega) (by rw [hl]; exact h.2.1)
  rw [hl] at this
  refine this.mono ?_
  rintro e w' ⟨⟨A', c', he, hc, hr⟩, hw⟩
  rw [vals_tr] at he hc hr
  exact ⟨⟨A', _, c', he, (vals_len _).symm, hc, hr⟩, hw⟩
theorem ref_trim_row {A : Option Addr} {n c : Nat} {l : List F} {w : World} (h : RowAt w A n c l) (hn : n ≤ 1000000) :
    Calls Try.prog 44 #[.slice A n c] w fun e w' => (∃ A' n' c', e = .returned (.slice A' n' c') ∧ RowAt w A' n' c' (tr l)) ∧ w = w' := by
  have hl : (vals l).length = n := by rw [vals_len]; exact h.1
  have := Poly.ref_trim_any A c w.heap.size (vals l) w (by rw [hl]; exact h.2.2) (by omega) (by rw [hl]; exact h.2.1)
  rw [hl] at this
  refine this.mono ?_
  rintro e w' ⟨⟨A', c', he, hc, hr⟩, hw⟩
  rw [vals_tr] at he hc hr
  exact ⟨⟨A', _, c', he, (vals_len _).symm, hc, hr⟩, hw⟩
end Go.Proofs.Ytbbikkmmdedaiaa.Pr
