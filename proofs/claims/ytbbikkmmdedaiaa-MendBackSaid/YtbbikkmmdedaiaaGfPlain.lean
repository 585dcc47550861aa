/- The plain law of layer 1: bytes as numbers of a field: products, inverses, powers; conditions: the ranges that each line names. -/
namespace Go.Proofs.Ytbbikkmmdedaiaa.Gf

def dbl (a : Nat) : Nat := if 128 ≤ a then (a * 2 % 256) ^^^ 29 else a * 2 % 256
def mulF : Nat → Nat → Nat → Nat → Nat
  | 0, _, _, p => p
  | f + 1, a, b, p => mulF f (dbl a) (b / 2) (if b % 2 = 1 then p ^^^ a else p)
def mul (a b : Nat) : Nat := mulF 8 a b 0

theorem xlt {a b : Nat} (ha : a < 256) (hb : b < 256) : a ^^^ b < 256 := Nat.xor_lt_two_pow (n := 8) ha hb
theorem dbl_lt (a : Nat) : dbl a < 256 := by
  unfold dbl; split
  · exact xlt (by omega) (by omega)
  · omega
theorem mulF_lt (f : Nat) : ∀ a b p, a < 256 → p < 256 → mulF f a b p < 256 := by
  induction f with
  | zero => intro a b p _ hp; exact hp
  | succ f ih =>
    intro a b p ha hp
    unfold mulF
    refine ih _ _ _ (dbl_lt a) ?_
    split
    · exact xlt hp ha
    · exact hp
theorem mul_lt (a b : Nat) (ha : a < 256) : mul a b < 256 := mulF_lt 8 a b 0 ha (by omega)
theorem mulF_zero (f : Nat) : ∀ a p, mulF f a 0 p = p := by
  induction f with
  | zero => intro a p; rfl
  | succ f ih => intro a p; unfold mulF; simp; exact ih _ _
/-- the sum of what was and what comes -/
theorem mulF_acc (f : Nat) : ∀ a b p, mulF f a b p = p ^^^ mulF f a b 0 := by
  induction f with
  | zero => intro a b p; simp [mulF]
  | succ f ih =>
    intro a b p
    unfold mulF
    rw [ih (dbl a) (b / 2) (if b % 2 = 1 then p ^^^ a else p), ih (dbl a) (b / 2) (if b % 2 = 1 then 0 ^^^ a else 0)]
    split
    · rw [Nat.zero_xor, Nat.xor_assoc]
    · rw [Nat.zero_xor]
theorem mulF_step (f a b : Nat) : mulF (f + 1) a b 0 = (if b % 2 = 1 then a else 0) ^^^ mulF f (dbl a) (b / 2) 0 := by
  rw [mulF, mulF_acc]
  split
  · rw [Nat.zero_xor]
  · rfl

/-! ### What is linear -/
theorem xor_div2 (a b : Nat) : (a ^^^ b) / 2 = (a / 2) ^^^ (b / 2) := by
  have := Nat.shiftRight_xor_distrib (a := a) (b := b) (i := 1)
  simpa [Nat.shiftRight_eq_div_pow] using this
theorem xor_mod2 (a b : Nat) : (a ^^^ b) % 2 = (a % 2 + b % 2) % 2 := by
  have h := Nat.xor_mod_two_pow (a := a) (b := b) (n := 1)
  simp only [Nat.pow_one] at h
  rw [h]
  have ha : a % 2 = 0 ∨ a % 2 = 1 := by omega
  have hb : b % 2 = 0 ∨ b % 2 = 1 := by omega
  rcases ha with ha | ha <;> rcases hb with hb | hb <;> rw [ha, hb] <;> rfl
theorem xor4 (a b c d : Nat) : (a ^^^ b) ^^^ (c ^^^ d) = (a ^^^ c) ^^^ (b ^^^ d) := by
  rw [Nat.xor_assoc, Nat.xor_assoc, ← Nat.xor_assoc b c d, Nat.xor_comm b c, Nat.xor_assoc c b d]
theorem dbl_mod (a : Nat) (ha : a < 256) : dbl a = (a * 2) ^^^ (a / 128 * 285) := by
  have : ∀ a : Fin 256, dbl a.val = (a.val * 2) ^^^ (a.val / 128 * 285) := by decide +kernel
  exact this ⟨a, ha⟩
theorem dbl_xor (a b : Nat) (ha : a < 256) (hb : b < 256) : dbl (a ^^^ b) = dbl a ^^^ dbl b := by
  have h2 : (a ^^^ b) * 2 = (a * 2) ^^^ (b * 2) := by
    have := Nat.shiftLeft_xor_distrib (a := a) (b := b) (i := 1)
    simpa [Nat.shiftLeft_eq] using this
  have h7 : (a ^^^ b) / 128 = (a / 128) ^^^ (b / 128) := by
    have := Nat.shiftRight_xor_distrib (a := a) (b := b) (i := 7)
    simpa [Nat.shiftRight_eq_div_pow] using this
  have h3 : ((a / 128) ^^^ (b / 128)) * 285 = (a / 128 * 285) ^^^ (b / 128 * 285) := by
    have ea : a / 128 = 0 ∨ a / 128 = 1 := by omega
    have eb : b / 128 = 0 ∨ b / 128 = 1 := by omega
    rcases ea with ea | ea <;> rcases eb with eb | eb <;> rw [ea, eb] <;> decide
  rw [dbl_mod a ha, dbl_mod b hb, dbl_mod _ (xlt ha hb), h2, h7, h3, xor4]
theorem mulF_xor_right (f : Nat) : ∀ a b c, mulF f a (b ^^^ c) 0 = mulF f a b 0 ^^^ mulF f a c 0 := by
  induction f with
  | zero => intro a b c; simp [mulF]
  | succ f ih =>
    intro a b c
    rw [mulF_step, mulF_step, mulF_step, xor_div2, ih, xor4, xor_mod2]
    congr 1
    have hb : b % 2 = 0 ∨ b % 2 = 1 := by omega
    have hc : c % 2 = 0 ∨ c % 2 = 1 := by omega
    rcases hb with hb | hb <;> rcases hc with hc | hc <;> rw [hb, hc] <;> simp
theorem mulF_xor_left (f : Nat) : ∀ a b c, a < 256 → b < 256 → mulF f (a ^^^ b) c 0 = mulF f a c 0 ^^^ mulF f b c 0 := by
  induction f with
  | zero => intro a b c _ _; simp [mulF]
  | succ f ih =>
    intro a b c ha hb
    rw [mulF_step, mulF_step, mulF_step, dbl_xor a b ha hb, ih _ _ _ (dbl_lt a) (dbl_lt b), xor4]
    congr 1
    split <;> simp
theorem mul_xor_right (a b c : Nat) : mul a (b ^^^ c) = mul a b ^^^ mul a c := mulF_xor_right 8 a b c
theorem mul_xor_left (a b c : Nat) (ha : a < 256) (hb : b < 256) : mul (a ^^^ b) c = mul a c ^^^ mul b c := mulF_xor_left 8 a b c ha hb

/-- two linear functions that agree at the eight bits agree -/
theorem linear_ext (f g : Nat → Nat) (hf : ∀ a b, a < 256 → b < 256 → f (a ^^^ b) = f a ^^^ f b) (hg : ∀ a b, a < 256 → b < 256 → g (a ^^^ b) = g a ^^^ g b)
    (h0 : f 0 = g 0) (h : ∀ i : Fin 8, f (2 ^ i.val) = g (2 ^ i.val)) : ∀ a, a < 256 → f a = g a := by
  have key : ∀ n, n ≤ 8 → ∀ a, a < 2 ^ n → f a = g a := by
    intro n
    induction n with
    | zero =>
      intro _ a ha
      have : a = 0 := by simp at ha; exact ha
      rw [this, h0]
    | succ n ih =>
      intro hn a ha
      have hp : 2 ^ n ≤ 128 := by
        have := Nat.pow_le_pow_right (n := 2) (by omega) (show n ≤ 7 by omega)
        simpa using this
      rw [Nat.pow_succ] at ha
      by_cases hlt : a < 2 ^ n
      · exact ih (by omega) a hlt
      · obtain ⟨b, hb⟩ : ∃ b, b = a - 2 ^ n := ⟨_, rfl⟩
        have hbl : b < 2 ^ n := by omega
        have e : a = 2 ^ n ^^^ b := by
          have h1 : 2 ^ n ||| b = 2 ^ n + b := by
            have := Nat.two_pow_add_eq_or_of_lt hbl 1
            simpa using this.symm
          have h2 : 2 ^ n &&& b = 0 := by
            apply Nat.eq_of_testBit_eq
            intro i
            rw [Nat.testBit_and, Nat.testBit_two_pow]
            by_cases e : n = i
            · subst e; simp [Nat.testBit_lt_two_pow hbl]
            · simp [e]
          have h3 : 2 ^ n ^^^ b = 2 ^ n ||| b := by
            apply Nat.eq_of_testBit_eq
            intro i
            have := congrArg (fun x => x.testBit i) h2
            simp only [Nat.testBit_and, Nat.zero_testBit] at this
            rw [Nat.testBit_xor, Nat.testBit_or]
            revert this
            generalize (2 ^ n).testBit i = x
            generalize b.testBit i = y
            revert x y
            decide
          rw [h3, h1]; omega
        rw [e, hf _ _ (by omega) (by omega), hg _ _ (by omega) (by omega), h ⟨n, by omega⟩, ih (by omega) b hbl]
  intro a ha
  exact key 8 (Nat.le_refl _) a ha

theorem mul_comm (a b : Nat) (ha : a < 256) (hb : b < 256) : mul a b = mul b a := by
  refine linear_ext (fun a => mul a b) (fun a => mul b a) (fun x y hx hy => mul_xor_left x y b hx hy) (fun x y _ _ => mul_xor_right b x y) ?_ ?_ a ha
  · have : ∀ b : Fin 256, mul 0 b.val = mul b.val 0 := by decide +kernel
    exact this ⟨b, hb⟩
  · intro i
    have : ∀ i : Fin 8, ∀ b : Fin 256, mul (2 ^ i.val) b.val = mul b.val (2 ^ i.val) := by decide +kernel
    exact this i ⟨b, hb⟩
theorem mul_dbl (a b : Nat) (ha : a < 256) (hb : b < 256) : mul a (dbl b) = dbl (mul a b) := by
  refine linear_ext (fun a => mul a (dbl b)) (fun a => dbl (mul a b)) (fun x y hx hy => mul_xor_left x y _ hx hy) (fun x y hx hy => by show dbl (mul (x ^^^ y) b) = dbl (mul x b) ^^^ dbl (mul y b); rw [mul_xor_left x y b hx hy, dbl_xor _ _ (mul_lt x b hx) (mul_lt y b hy)]) ?_ ?_ a ha
  · have : ∀ b : Fin 256, mul 0 (dbl b.val) = dbl (mul 0 b.val) := by decide +kernel
    exact this ⟨b, hb⟩
  · intro i
    have : ∀ i : Fin 8, ∀ b : Fin 256, mul (2 ^ i.val) (dbl b.val) = dbl (mul (2 ^ i.val) b.val) := by decide +kernel
    exact this i ⟨b, hb⟩
theorem mulF_mul (f : Nat) : ∀ a b c, a < 256 → b < 256 → mulF f (mul a b) c 0 = mul a (mulF f b c 0) := by
  induction f with
  | zero =>
    intro a b c ha _
    have : ∀ a : Fin 256, 0 = mul a.val 0 := by decide +kernel
    exact this ⟨a, ha⟩
  | succ f ih =>
    intro a b c ha hb
    rw [mulF_step, mulF_step, mul_xor_right, ← mul_dbl a b ha hb, ih a (dbl b) (c / 2) ha (dbl_lt b)]
    congr 1
    split
    · rfl
    · have : ∀ a : Fin 256, 0 = mul a.val 0 := by decide +kernel
      exact this ⟨a, ha⟩
theorem mul_assoc (a b c : Nat) (ha : a < 256) (hb : b < 256) : mul (mul a b) c = mul a (mul b c) := mulF_mul 8 a b c ha hb
theorem mul_one (a : Nat) (ha : a < 256) : mul a 1 = a := by
  have : ∀ a : Fin 256, mul a.val 1 = a.val := by decide +kernel
  exact this ⟨a, ha⟩
theorem mul_zero (a : Nat) (ha : a < 256) : mul a 0 = 0 := by
  have : ∀ a : Fin 256, mul a.val 0 = 0 := by decide +kernel
  exact this ⟨a, ha⟩

/-! ### Inverses -/
def invF : Nat → Nat → Nat → Nat
  | 0, out, _ => out
  | f + 1, out, x => invF f (mul out (mul x x)) (mul x x)
def inv (a : Nat) : Nat := if a = 0 then 0 else invF 7 1 a
theorem inv_lt (a : Nat) (ha : a < 256) : inv a < 256 := by
  have : ∀ a : Fin 256, inv a.val < 256 := by decide +kernel
  exact this ⟨a, ha⟩
theorem mul_inv (a : Nat) (ha : a < 256) (h0 : a ≠ 0) : mul a (inv a) = 1 := by
  have : ∀ a : Fin 256, a.val ≠ 0 → mul a.val (inv a.val) = 1 := by decide +kernel
  exact this ⟨a, ha⟩ h0
theorem inv_unique (a b : Nat) (ha : a < 256) (hb : b < 256) (h : mul a b = 1) : b = inv a := by
  have h0 : a ≠ 0 := by
    intro e; subst e
    have : ∀ b : Fin 256, mul 0 b.val ≠ 1 := by decide +kernel
    exact this ⟨b, hb⟩ h
  have hi := inv_lt a ha
  calc b = mul b 1 := (mul_one b hb).symm
    _ = mul b (mul a (inv a)) := by rw [mul_inv a ha h0]
    _ = mul (mul b a) (inv a) := (mul_assoc b a (inv a) hb ha).symm
    _ = mul (mul a b) (inv a) := by rw [mul_comm b a hb ha]
    _ = mul 1 (inv a) := by rw [h]
    _ = mul (inv a) 1 := mul_comm 1 (inv a) (by omega) hi
    _ = inv a := mul_one _ hi

/-! ### Powers -/
def pow2 : Nat → Nat
  | 0 => 1
  | n + 1 => dbl (pow2 n)
theorem pow2_lt (n : Nat) : pow2 n < 256 := by
  cases n with
  | zero => decide
  | succ n => exact dbl_lt _
theorem pow2_255 : pow2 255 = 1 := by decide +kernel
theorem pow2_mod (n : Nat) : pow2 n = pow2 (n % 255) := by
  have step : ∀ n, pow2 (n + 255) = pow2 n := by
    intro n
    induction n with
    | zero => exact pow2_255
    | succ n ih => rw [show n + 1 + 255 = (n + 255) + 1 by omega, pow2, ih, pow2]
  have many : ∀ k n, pow2 (n + 255 * k) = pow2 n := by
    intro k
    induction k with
    | zero => intro n; rfl
    | succ k ih => intro n; rw [show n + 255 * (k + 1) = (n + 255 * k) + 255 by omega, step, ih]
  have := many (n / 255) (n % 255)
  rw [show n % 255 + 255 * (n / 255) = n by omega] at this
  exact this
theorem mul_two (a : Nat) (ha : a < 256) : mul a 2 = dbl a := by
  have : ∀ a : Fin 256, mul a.val 2 = dbl a.val := by decide +kernel
  exact this ⟨a, ha⟩
theorem pow2_add (m n : Nat) : pow2 (m + n) = mul (pow2 m) (pow2 n) := by
  induction n with
  | zero => exact (mul_one _ (pow2_lt m)).symm
  | succ n ih => rw [← Nat.add_assoc, pow2, ih, pow2, mul_dbl _ _ (pow2_lt m) (pow2_lt n)]
/-- the power that a byte is, searched from 0 on -/
def logF : Nat → Nat → Nat → Nat
  | 0, _, _ => 0
  | f + 1, n, a => if pow2 n = a then n else logF f (n + 1) a
def log (a : Nat) : Nat := logF 255 0 a
theorem pow2_ne (n : Nat) : pow2 n ≠ 0 := by
  rw [pow2_mod]
  have : ∀ n : Fin 255, pow2 n.val ≠ 0 := by decide +kernel
  exact this ⟨n % 255, Nat.mod_lt _ (by omega)⟩
theorem log_lt (a : Nat) (ha : a < 256) : log a < 255 := by
  have : ∀ a : Fin 256, log a.val < 255 := by decide +kernel
  exact this ⟨a, ha⟩
theorem pow2_log (a : Nat) (ha : a < 256) (h0 : a ≠ 0) : pow2 (log a) = a := by
  have : ∀ a : Fin 256, a.val ≠ 0 → pow2 (log a.val) = a.val := by decide +kernel
  exact this ⟨a, ha⟩ h0
theorem log_pow2 (n : Nat) (h : n < 255) : log (pow2 n) = n := by
  have : ∀ n : Fin 255, log (pow2 n.val) = n.val := by decide +kernel
  exact this ⟨n, h⟩
theorem log_mul (a b : Nat) (ha : a < 256) (hb : b < 256) (h0 : a ≠ 0) (h1 : b ≠ 0) : log (mul a b) = (log a + log b) % 255 := by
  have h : mul a b = pow2 ((log a + log b) % 255) := by
    rw [← pow2_mod, pow2_add, pow2_log a ha h0, pow2_log b hb h1]
  rw [h, log_pow2 _ (Nat.mod_lt _ (by omega))]
theorem mul_ne (a b : Nat) (ha : a < 256) (hb : b < 256) (h0 : a ≠ 0) (h1 : b ≠ 0) : mul a b ≠ 0 := by
  rw [← pow2_log a ha h0, ← pow2_log b hb h1, ← pow2_add]
  exact pow2_ne _
end Go.Proofs.Ytbbikkmmdedaiaa.Gf
