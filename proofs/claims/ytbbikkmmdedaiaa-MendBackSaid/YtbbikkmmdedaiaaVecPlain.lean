/- Rows of bytes: their cells, blocks of them, and the plain law of layer 2 (sums, multiples, products of rows); conditions: the bytes are below 256. -/
import Derived.Test.YtbbikkmmdedaiaaGfPlain
import Derived.Test.YtbbikkmmdedaiaaWords4
namespace Go.Proofs.Ytbbikkmmdedaiaa.Vec
open Go.RowKit Go.Proofs.Ytbbikkmmdedaiaa.Gf

def U8s (l : List Nat) : List Value := l.map fun n : Nat => .int .u8 (n : Int)
def Bytes (l : List Nat) : Prop := ∀ x ∈ l, x < 256
theorem U8s_len (l : List Nat) : (U8s l).length = l.length := by simp [U8s]
theorem U8s_get (l : List Nat) (i : Nat) (h : i < l.length) : (U8s l)[i]? = some (.int .u8 ((l.getD i 0 : Nat) : Int)) := by
  simp [U8s, List.getD, List.getElem?_eq_getElem h]
theorem U8s_at {l : List Nat} {k : Nat} {u : Value} (h : (U8s l)[k]? = some u) : u = .int .u8 ((l.getD k 0 : Nat) : Int) ∧ k < l.length := by
  simp only [U8s, List.getElem?_map, Option.map_eq_some_iff] at h
  obtain ⟨n, h1, rfl⟩ := h
  have := (List.getElem?_eq_some_iff.1 h1)
  exact ⟨by simp [List.getD, h1], this.1⟩
theorem U8s_snoc (l : List Nat) (x : Nat) : U8s (l ++ [x]) = U8s l ++ [.int .u8 (x : Int)] := by simp [U8s]
theorem U8s_one (l : List Nat) : ∀ v ∈ U8s l, v.oneCell' = true := by
  intro v hv
  obtain ⟨n, _, rfl⟩ := List.mem_map.1 hv
  rfl
theorem Bytes.at_ {l : List Nat} (h : Bytes l) (i : Nat) : l.getD i 0 < 256 := by
  by_cases hi : i < l.length
  · rw [List.getD, List.getElem?_eq_getElem hi]
    exact h _ (List.getElem_mem hi)
  · rw [List.getD, List.getElem?_eq_none (by omega)]
    decide
theorem getD_out (l : List Nat) (i : Nat) (h : l.length ≤ i) : l.getD i 0 = 0 := by rw [List.getD, List.getElem?_eq_none h]; rfl
theorem ext_getD {l m : List Nat} (hl : l.length = m.length) (h : ∀ i, i < l.length → l.getD i 0 = m.getD i 0) : l = m := by
  apply List.ext_getElem hl
  intro i h1 h2
  have := h i h1
  simpa [List.getD, List.getElem?_eq_getElem h1, List.getElem?_eq_getElem h2] using this
theorem getD_set (l : List Nat) (i j v : Nat) (h : i < l.length) : (l.set i v).getD j 0 = if j = i then v else l.getD j 0 := by
  simp only [List.getD, List.getElem?_set]
  by_cases e : i = j
  · subst e; simp [h]
  · rw [if_neg e, if_neg (Ne.symm e)]

theorem getD_zeros (n i : Nat) : (List.replicate n 0).getD i 0 = 0 := by
  rw [List.getD, List.getElem?_replicate]
  split <;> rfl

/-- the block holds the row, whole -/
def VB (w : World) (g : Nat) (m : List Nat) : Prop := Blk w g 5 (U8s m).toArray
section
variable {w w' : World} {g : Nat} {m : List Nat}
theorem VB.cell (h : VB w g m) (i : Nat) (hi : i < m.length) : w.cell? ⟨g, i, none⟩ = some (.int .u8 ((m.getD i 0 : Nat) : Int)) := by
  rw [Blk.cell h i, ← U8s_get m i hi]; simp
theorem VB.frozen (h : VB w g m) (i : Nat) : w.frozen? ⟨g, i, none⟩ = false := Blk.frozen h i
theorem VB.lt (h : VB w g m) : g < w.heap.size := Blk.lt h
theorem VB.set (h : VB w g m) (i v : Nat) : VB (w.setCell ⟨g, i, none⟩ (.int .u8 v)) g (m.set i v) := by
  have h2 := Blk.set_ h i (.int .u8 (v : Int))
  unfold VB
  have e : (U8s m).toArray.setIfInBounds i (.int .u8 (v : Int)) = (U8s (m.set i v)).toArray := by simp [U8s]
  rw [e] at h2
  exact h2
theorem VB.drewN (h : VB w g m) (n : Nat) : VB (w.drewN n) g m := h
theorem VB.below {B : Nat} (h : VB w g m) (hb : Below B w w') (hg : g < B) : VB w' g m := Blk.below h hb hg
theorem VB.reads (h : VB w g m) (B : Nat) (hB : g < B) : Reads w B 1 (some ⟨g, 0, none⟩) m.length (U8s m) := by
  refine ⟨by rw [U8s_len]; omega, fun _ => ⟨_, rfl, hB, fun j u hu => ?_⟩⟩
  obtain ⟨rfl, hj⟩ := U8s_at hu
  have e : (⟨g, 0, none⟩ : Addr).add j = ⟨g, j, none⟩ := by unfold Addr.add; split <;> simp_all
  rw [e]
  exact h.cell j hj
end
theorem made_bytes (n : Nat) : madeCells #[.int .u8 0] n = (U8s (List.replicate n 0)).toArray := by
  apply Array.ext
  · simp [madeCells, U8s]
  · intro i h1 h2
    simp [madeCells, U8s, Nat.mod_one]
theorem VB.made (w : World) (n : Nat) : VB (w.alloc (.cells (madeCells #[.int .u8 0] n) 5)) w.heap.size (List.replicate n 0) := by
  unfold VB
  rw [made_bytes]
  exact Blk.new _ _ _

/-! ### The plain law -/
def scale (k : Nat) (l : List Nat) : List Nat := l.map (mul k)
def add : List Nat → List Nat → List Nat
  | a :: l, b :: m => (a ^^^ b) :: add l m
  | _, _ => []
def dot : List Nat → List Nat → Nat
  | a :: l, b :: m => mul a b ^^^ dot l m
  | _, _ => 0
theorem scale_len (k : Nat) (l : List Nat) : (scale k l).length = l.length := by simp [scale]
theorem scale_bytes (k : Nat) (l : List Nat) (hk : k < 256) : Bytes (scale k l) := by
  intro x hx
  obtain ⟨y, _, rfl⟩ := List.mem_map.1 hx
  exact mul_lt k y hk
theorem scale_getD (k : Nat) (l : List Nat) (i : Nat) (h : i < l.length) : (scale k l).getD i 0 = mul k (l.getD i 0) := by
  simp [scale, List.getD, List.getElem?_eq_getElem h]
theorem add_len : ∀ l m : List Nat, l.length = m.length → (add l m).length = l.length
  | [], _, _ => rfl
  | a :: l, [], h => by simp at h
  | a :: l, b :: m, h => by
    simp only [add, List.length_cons]
    rw [add_len l m (by simpa using h)]
theorem add_getD : ∀ (l m : List Nat) (i : Nat), l.length = m.length → (add l m).getD i 0 = l.getD i 0 ^^^ m.getD i 0
  | [], [], i, _ => by simp [add]
  | [], _ :: _, i, h => by simp at h
  | _ :: _, [], i, h => by simp at h
  | a :: l, b :: m, 0, _ => by simp [add]
  | a :: l, b :: m, i + 1, h => by
    simp only [add, List.getD_cons_succ]
    exact add_getD l m i (by simpa using h)
theorem bytes_of_getD {l : List Nat} (h : ∀ i, i < l.length → l.getD i 0 < 256) : Bytes l := by
  intro x hx
  obtain ⟨i, hi, rfl⟩ := List.getElem_of_mem hx
  have := h i hi
  rwa [List.getD, List.getElem?_eq_getElem hi] at this
theorem add_bytes (l m : List Nat) (hl : Bytes l) (hm : Bytes m) (h : l.length = m.length) : Bytes (add l m) := by
  apply bytes_of_getD
  intro i _
  rw [add_getD l m i h]
  exact xlt (hl.at_ i) (hm.at_ i)
end Go.Proofs.Ytbbikkmmdedaiaa.Vec
