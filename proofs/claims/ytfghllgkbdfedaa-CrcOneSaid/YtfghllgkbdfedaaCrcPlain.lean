/- The plain law of layer 7: what the sum is, as a function of numbers and rows; no condition but the ranges that each line names. -/
namespace Go.Proofs.Ytfghllgkbdfedaa.Crc

def bit (c : Nat) : Nat := if c % 2 = 1 then (c / 2) ^^^ 3988292384 else c / 2
def iter : Nat → Nat → Nat
  | 0, c => c
  | k + 1, c => bit (iter k c)
def step (c x : Nat) : Nat := iter 8 (c ^^^ x)
def fold (c : Nat) (l : List UInt8) : Nat := l.foldl (fun c x => step c x.toNat) c
def add (sum : Nat) (l : List UInt8) : Nat := 4294967295 - fold (4294967295 - sum) l

theorem xor_rc {a b c : Nat} (h : a ^^^ c = b ^^^ c) : a = b := by
  have := congrArg (· ^^^ c) h
  simpa [Nat.xor_assoc] using this
theorem xor_lc {a b c : Nat} (h : c ^^^ a = c ^^^ b) : a = b := by
  rw [Nat.xor_comm c a, Nat.xor_comm c b] at h
  exact xor_rc h
theorem bit_lt (c : Nat) (h : c < 4294967296) : bit c < 4294967296 := by
  unfold bit
  split
  · exact Nat.xor_lt_two_pow (n := 32) (by omega) (by omega)
  · omega
theorem iter_lt (k c : Nat) (h : c < 4294967296) : iter k c < 4294967296 := by
  induction k with
  | zero => exact h
  | succ k ih => exact bit_lt _ ih
theorem xor_lt (c x : Nat) (h : c < 4294967296) (hx : x < 256) : c ^^^ x < 4294967296 :=
  Nat.xor_lt_two_pow (n := 32) h (by omega)
theorem step_lt (c x : Nat) (h : c < 4294967296) (hx : x < 256) : step c x < 4294967296 := iter_lt _ _ (xor_lt c x h hx)
theorem fold_lt (l : List UInt8) : ∀ c : Nat, c < 4294967296 → fold c l < 4294967296 := by
  induction l with
  | nil => intro c h; exact h
  | cons x l ih => intro c h; exact ih _ (step_lt c _ h x.toNat_lt)
theorem add_lt (sum : Nat) (l : List UInt8) : add sum l < 4294967296 := by unfold add; omega
theorem fold_append (c : Nat) (a b : List UInt8) : fold c (a ++ b) = fold (fold c a) b := by simp [fold]
theorem fold_snoc (c : Nat) (a : List UInt8) (x : UInt8) : fold c (a ++ [x]) = step (fold c a) x.toNat := by simp [fold]
theorem add_parts (a b : List UInt8) : add (add 0 a) b = add 0 (a ++ b) := by
  unfold add
  have h := fold_lt a (4294967295 - 0) (by omega)
  rw [fold_append]
  congr 2
  omega

theorem bit_inj (c d : Nat) (hc : c < 4294967296) (hd : d < 4294967296) (h : bit c = bit d) : c = d := by
  have key : ∀ a b : Nat, a < 2147483648 → b < 2147483648 → a ^^^ 3988292384 ≠ b := by
    intro a b ha hb e
    have h1 := congrArg (Nat.testBit · 31) e
    simp only [Nat.testBit_xor] at h1
    rw [Nat.testBit_lt_two_pow (i := 31) (by omega), Nat.testBit_lt_two_pow (x := b) (i := 31) (by omega)] at h1
    exact absurd h1 (by decide)
  unfold bit at h
  by_cases h1 : c % 2 = 1 <;> by_cases h2 : d % 2 = 1
  · rw [if_pos h1, if_pos h2] at h
    have := xor_rc h
    omega
  · rw [if_pos h1, if_neg h2] at h
    exact absurd h (key _ _ (by omega) (by omega))
  · rw [if_neg h1, if_pos h2] at h
    exact absurd h.symm (key _ _ (by omega) (by omega))
  · rw [if_neg h1, if_neg h2] at h
    omega
theorem iter_inj (k : Nat) : ∀ c d : Nat, c < 4294967296 → d < 4294967296 → iter k c = iter k d → c = d := by
  induction k with
  | zero => intro c d _ _ h; exact h
  | succ k ih => intro c d hc hd h; exact ih c d hc hd (bit_inj _ _ (iter_lt k c hc) (iter_lt k d hd) h)
theorem step_inj_left (c d x : Nat) (hc : c < 4294967296) (hd : d < 4294967296) (hx : x < 256) (h : step c x = step d x) : c = d :=
  xor_rc (iter_inj 8 _ _ (xor_lt c x hc hx) (xor_lt d x hd hx) h)
theorem step_inj_right (c x y : Nat) (hc : c < 4294967296) (hx : x < 256) (hy : y < 256) (h : step c x = step c y) : x = y :=
  xor_lc (iter_inj 8 _ _ (xor_lt c x hc hx) (xor_lt c y hc hy) h)
theorem fold_inj (l : List UInt8) : ∀ c d : Nat, c < 4294967296 → d < 4294967296 → fold c l = fold d l → c = d := by
  induction l with
  | nil => intro c d _ _ h; exact h
  | cons x l ih =>
    intro c d hc hd h
    exact step_inj_left c d x.toNat hc hd x.toNat_lt (ih _ _ (step_lt c _ hc x.toNat_lt) (step_lt d _ hd x.toNat_lt) h)
theorem add_one (a b : List UInt8) (x y : UInt8) (h : x ≠ y) : add 0 (a ++ x :: b) ≠ add 0 (a ++ y :: b) := by
  intro e
  unfold add at e
  have l1 := fold_lt (a ++ x :: b) (4294967295 - 0) (by omega)
  have l2 := fold_lt (a ++ y :: b) (4294967295 - 0) (by omega)
  have e1 : fold (4294967295 - 0) (a ++ x :: b) = fold (4294967295 - 0) (a ++ y :: b) := by omega
  rw [fold_append, fold_append] at e1
  have la := fold_lt a (4294967295 - 0) (by omega)
  have e2 := fold_inj b _ _ (step_lt _ _ la x.toNat_lt) (step_lt _ _ la y.toNat_lt) e1
  have e3 := step_inj_right _ _ _ la x.toNat_lt y.toNat_lt e2
  exact h (UInt8.toNat_inj.1 e3)
theorem ex1 : add 0 [49, 50, 51, 52, 53, 54, 55, 56, 57] = 3421780262 := by decide +kernel
theorem ex2 : add (add 0 [49, 50, 51, 52]) [53, 54, 55, 56, 57] = 3421780262 := by decide +kernel
end Go.Proofs.Ytfghllgkbdfedaa.Crc
