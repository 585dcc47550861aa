/- Polynomials over the bytes' field by their coefficients: sums over an index, trimmed rows; conditions: the bytes are below 256. -/
import Derived.Test.YtbbikkmmdedaiaaVecPlain
namespace Go.Proofs.Ytbbikkmmdedaiaa.Poly
open Go.Proofs.Ytbbikkmmdedaiaa.Gf Go.Proofs.Ytbbikkmmdedaiaa.Vec

/-- the sum of n terms -/
def xs : Nat → (Nat → Nat) → Nat
  | 0, _ => 0
  | n + 1, f => xs n f ^^^ f n
theorem xs_congr (n : Nat) (f g : Nat → Nat) (h : ∀ i, i < n → f i = g i) : xs n f = xs n g := by
  induction n with
  | zero => rfl
  | succ n ih => rw [xs, xs, ih (fun i hi => h i (by omega)), h n (by omega)]
theorem xs_lt (n : Nat) (f : Nat → Nat) (h : ∀ i, i < n → f i < 256) : xs n f < 256 := by
  induction n with
  | zero => simp [xs]
  | succ n ih => rw [xs]; exact xlt (ih fun i hi => h i (by omega)) (h n (by omega))
theorem xs_zero (n : Nat) (f : Nat → Nat) (h : ∀ i, i < n → f i = 0) : xs n f = 0 := by
  induction n with
  | zero => rfl
  | succ n ih => rw [xs, ih (fun i hi => h i (by omega)), h n (by omega), Nat.xor_zero]
theorem xs_xor (n : Nat) (f g : Nat → Nat) : xs n (fun i => f i ^^^ g i) = xs n f ^^^ xs n g := by
  induction n with
  | zero => simp [xs]
  | succ n ih => rw [xs, xs, xs, ih, xor4]
/-- terms behind the first n that are zero count for nothing -/
theorem xs_more (n k : Nat) (f : Nat → Nat) (h : ∀ i, n ≤ i → f i = 0) : xs (n + k) f = xs n f := by
  induction k with
  | zero => rfl
  | succ k ih => rw [← Nat.add_assoc, xs, ih, h (n + k) (by omega), Nat.xor_zero]
theorem xs_first (n : Nat) (f : Nat → Nat) : xs (n + 1) f = f 0 ^^^ xs n (fun i => f (i + 1)) := by
  induction n with
  | zero => simp [xs]
  | succ n ih => rw [xs, ih, xs, Nat.xor_assoc]
theorem xs_rev (n : Nat) : ∀ f : Nat → Nat, xs n f = xs n (fun i => f (n - 1 - i)) := by
  induction n with
  | zero => intro f; rfl
  | succ n ih =>
    intro f
    rw [xs_first n (fun i => f (n + 1 - 1 - i)), xs, ih f, Nat.xor_comm]
    congr 1
    apply xs_congr
    intro i hi
    congr 1; omega
/-- a double sum, turned -/
theorem xs_swap (n m : Nat) (f : Nat → Nat → Nat) : xs n (fun i => xs m (fun j => f i j)) = xs m (fun j => xs n (fun i => f i j)) := by
  induction n with
  | zero => exact (xs_zero m _ (fun _ _ => rfl)).symm
  | succ n ih =>
    rw [xs, ih, ← xs_xor]
    rfl
theorem xs_mul (k n : Nat) (f : Nat → Nat) (hk : k < 256) : mul k (xs n f) = xs n (fun i => mul k (f i)) := by
  induction n with
  | zero => exact mul_zero k hk
  | succ n ih => rw [xs, xs, mul_xor_right, ih]

/-! ### Trimmed rows -/
def Trimmed (l : List Nat) : Prop := l.length = 0 ∨ l.getD (l.length - 1) 0 ≠ 0
/-- two trimmed rows of the same coefficients are one -/
theorem trimmed_ext {l m : List Nat} (hl : Trimmed l) (hm : Trimmed m) (h : ∀ i, l.getD i 0 = m.getD i 0) : l = m := by
  have e : l.length = m.length := by
    rcases Nat.lt_trichotomy l.length m.length with h1 | h1 | h1
    · exfalso
      rcases hm with h2 | h2
      · omega
      · exact h2 (by rw [← h, getD_out l _ (by omega)])
    · exact h1
    · exfalso
      rcases hl with h2 | h2
      · omega
      · exact h2 (by rw [h, getD_out m _ (by omega)])
  exact ext_getD e fun i _ => h i

def trimN (l : List Nat) : Nat → Nat
  | 0 => 0
  | n + 1 => if l.getD n 0 = 0 then trimN l n else n + 1
def trim (l : List Nat) : List Nat := l.take (trimN l l.length)
theorem trimN_le (l : List Nat) : ∀ n, trimN l n ≤ n
  | 0 => Nat.le_refl _
  | n + 1 => by
    unfold trimN
    split
    · exact Nat.le_succ_of_le (trimN_le l n)
    · exact Nat.le_refl _
theorem trimN_out (l : List Nat) : ∀ n i, trimN l n ≤ i → i < n → l.getD i 0 = 0
  | 0, _, _, h => by omega
  | n + 1, i, h1, h2 => by
    unfold trimN at h1
    by_cases h0 : l.getD n 0 = 0
    · rw [if_pos h0] at h1
      by_cases e : i = n
      · rw [e]; exact h0
      · exact trimN_out l n i h1 (by omega)
    · rw [if_neg h0] at h1; omega
theorem trimN_top (l : List Nat) : ∀ n, trimN l n = 0 ∨ l.getD (trimN l n - 1) 0 ≠ 0
  | 0 => .inl rfl
  | n + 1 => by
    unfold trimN
    by_cases h0 : l.getD n 0 = 0
    · rw [if_pos h0]; exact trimN_top l n
    · rw [if_neg h0]; exact .inr h0
theorem getD_take (l : List Nat) (n i : Nat) : (l.take n).getD i 0 = if i < n then l.getD i 0 else 0 := by
  simp only [List.getD, List.getElem?_take]
  split <;> rfl
theorem trim_len (l : List Nat) : (trim l).length = trimN l l.length := by
  have := trimN_le l l.length
  rw [trim, List.length_take]; omega
theorem trim_len_le (l : List Nat) : (trim l).length ≤ l.length := by rw [trim_len]; exact trimN_le l l.length
theorem trim_getD (l : List Nat) (i : Nat) : (trim l).getD i 0 = l.getD i 0 := by
  rw [trim, getD_take]
  split
  · rfl
  · rename_i h
    by_cases h2 : i < l.length
    · exact (trimN_out l l.length i (by omega) h2).symm
    · exact (getD_out l i (by omega)).symm
theorem trim_trimmed (l : List Nat) : Trimmed (trim l) := by
  unfold Trimmed
  rw [trim_getD, trim_len]
  exact trimN_top l l.length
theorem trim_bytes {l : List Nat} (h : Bytes l) : Bytes (trim l) := fun x hx => h x (List.mem_of_mem_take hx)
/-- rows of the same coefficients trim to one row -/
theorem trim_eq {l m : List Nat} (h : ∀ i, l.getD i 0 = m.getD i 0) : trim l = trim m :=
  trimmed_ext (trim_trimmed l) (trim_trimmed m) fun i => by rw [trim_getD, trim_getD, h i]
end Go.Proofs.Ytbbikkmmdedaiaa.Poly
