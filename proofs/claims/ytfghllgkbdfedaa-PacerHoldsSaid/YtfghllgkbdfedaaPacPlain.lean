/- The plain law of layer 46: how many are left at a time, and what is taken; conditions: the ranges that each line names. -/
namespace Go.Proofs.Ytfghllgkbdfedaa.Pac

structure P where
  rate : Int
  most : Int
  left : Int
  at_ : Int
/-- the last time -/
def T : Int := 1099511627776
def nowC (p : P) (now : Int) : Int := max p.at_ (min now T)
/-- time goes on -/
def onP (p : P) (now : Int) : P := ⟨p.rate, p.most, min p.most (p.left + (nowC p now - p.at_) * p.rate), nowC p now⟩
structure Ok (p : P) : Prop where
  r1 : 1 ≤ p.rate
  r2 : p.rate ≤ 1048576
  m1 : 1 ≤ p.most
  m2 : p.most ≤ 1073741824
  l1 : 0 ≤ p.left
  l2 : p.left ≤ p.most
  a1 : 0 ≤ p.at_
  a2 : p.at_ ≤ 1099511627776
def ticks (rate more : Int) : Int := (more + rate - 1) / rate
def takeB (p : P) (n : Int) : Bool := !(decide (p.left < n) || decide (n < 1))
def takeP (p : P) (n now : Int) : P := if takeB (onP p now) n = true then { onP p now with left := (onP p now).left - n } else onP p now
/-- when are so many left? -/
def whenP (p : P) (n now : Int) : Int × Bool :=
  if n < 1 ∨ p.most < n then (0, false)
  else if T - (onP p now).at_ < ticks p.rate (max 0 (n - (onP p now).left)) then (0, false)
  else ((onP p now).at_ + ticks p.rate (max 0 (n - (onP p now).left)), true)
def whenS (p : P) (n now : Int) : P := if n < 1 ∨ p.most < n then p else onP p now

theorem nowC_ge (p : P) (now : Int) : p.at_ ≤ nowC p now := by unfold nowC; omega
theorem nowC_le (p : P) (now : Int) (h : Ok p) : nowC p now ≤ T := by have := h.a2; unfold nowC T; omega
theorem mul_nonneg {a b : Int} (ha : 0 ≤ a) (hb : 0 ≤ b) : 0 ≤ a * b := Int.mul_nonneg ha hb
theorem mul_le_of {a b c d : Int} (hb : 0 ≤ b) (ha : a ≤ c) (h : b ≤ d) (hc : 0 ≤ c) : a * b ≤ c * d :=
  Int.le_trans (Int.mul_le_mul_of_nonneg_right ha hb) (Int.mul_le_mul_of_nonneg_left h hc)
theorem passed_bound (p : P) (now : Int) (h : Ok p) : 0 ≤ (nowC p now - p.at_) * p.rate ∧ (nowC p now - p.at_) * p.rate ≤ 1152921504606846976 := by
  have h1 := nowC_ge p now
  have h2 := nowC_le p now h
  have h3 := h.r1
  have h4 := h.r2
  have h5 := h.a1
  unfold T at h2
  refine ⟨mul_nonneg (by omega) (by omega), ?_⟩
  have := mul_le_of (a := nowC p now - p.at_) (b := p.rate) (c := 1099511627776) (d := 1048576) (by omega) (by omega) (by omega) (by omega)
  omega
theorem onP_ok (p : P) (now : Int) (h : Ok p) : Ok (onP p now) := by
  have h1 := passed_bound p now h
  have h2 := nowC_ge p now
  have h3 := nowC_le p now h
  obtain ⟨r1, r2, m1, m2, l1, l2, a1, a2⟩ := h
  unfold T at h3
  exact ⟨r1, r2, m1, m2, by simp only [onP]; omega, by simp only [onP]; omega, by simp only [onP]; omega, by simp only [onP]; omega⟩
theorem onP_twice (p : P) (now : Int) (h : Ok p) : onP (onP p now) now = onP p now := by
  have h1 := passed_bound p now h
  have e : nowC (onP p now) now = nowC p now := by simp only [nowC, onP]; omega
  have hl := (onP_ok p now h).l2
  unfold onP at hl ⊢
  simp only [P.mk.injEq, true_and]
  unfold onP at e
  rw [e]
  simp only at hl ⊢
  simp only [Int.sub_self, Int.zero_mul, Int.add_zero, and_true]
  omega
theorem takeP_ok (p : P) (n now : Int) (h : Ok p) : Ok (takeP p n now) := by
  have ho := onP_ok p now h
  unfold takeP
  split
  · rename_i ht
    unfold takeB at ht
    simp at ht
    obtain ⟨r1, r2, m1, m2, l1, l2, a1, a2⟩ := ho
    exact ⟨r1, r2, m1, m2, by simp only; omega, by simp only; omega, a1, a2⟩
  · exact ho
theorem whenS_ok (p : P) (n now : Int) (h : Ok p) : Ok (whenS p n now) := by
  unfold whenS; split
  · exact h
  · exact onP_ok p now h

/-- as many ticks as are wanted -/
theorem ticks_le {rate more k : Int} (hr : 1 ≤ rate) : ticks rate more ≤ k ↔ more ≤ k * rate := by
  unfold ticks
  constructor
  · intro h
    have h1 : more + rate - 1 < (k + 1) * rate := Int.lt_mul_of_ediv_lt (by omega) (by omega)
    rw [Int.add_mul] at h1
    omega
  · intro h
    have : (more + rate - 1) / rate < k + 1 := Int.ediv_lt_of_lt_mul (by omega) (by rw [Int.add_mul]; omega)
    omega
theorem ticks_nonneg {rate more : Int} (hr : 1 ≤ rate) (hm : 0 ≤ more) : 0 ≤ ticks rate more := Int.ediv_nonneg (by omega) (by omega)
theorem ticks_bound {rate more : Int} (hr : 1 ≤ rate) (hm : 0 ≤ more) (h2 : more ≤ 1073741824) : ticks rate more ≤ 1073741824 := by
  rw [ticks_le hr]
  have := Int.mul_le_mul_of_nonneg_left hr (show (0 : Int) ≤ 1073741824 by omega)
  omega
/-- 'on' by the code: all is left again, or so many more -/
theorem on_full (p : P) (now : Int) (h : Ok p) (hf : ticks p.rate (p.most - p.left) ≤ nowC p now - p.at_) : onP p now = ⟨p.rate, p.most, p.most, nowC p now⟩ := by
  rw [ticks_le h.r1] at hf
  unfold onP
  congr 1
  omega
theorem on_some (p : P) (now : Int) (h : Ok p) (hf : ¬ ticks p.rate (p.most - p.left) ≤ nowC p now - p.at_) : onP p now = ⟨p.rate, p.most, p.left + (nowC p now - p.at_) * p.rate, nowC p now⟩ := by
  rw [ticks_le h.r1] at hf
  unfold onP
  congr 1
  omega
/-- a part of the time, then the rest -/
theorem onP_part (p : P) (now n : Int) (hn : 0 ≤ n) (hr : 0 ≤ p.rate) (h : p.at_ + n ≤ nowC p now) :
    onP ⟨p.rate, p.most, min p.most (p.left + n * p.rate), p.at_ + n⟩ now = onP p now := by
  have e : nowC ⟨p.rate, p.most, min p.most (p.left + n * p.rate), p.at_ + n⟩ now = nowC p now := by
    unfold nowC at h ⊢
    simp only at h ⊢
    omega
  unfold onP
  rw [e]
  simp only [P.mk.injEq, true_and, and_true]
  have e2 : (nowC p now - p.at_) * p.rate = n * p.rate + (nowC p now - (p.at_ + n)) * p.rate := by
    rw [← Int.add_mul]; congr 1; omega
  have h0 : 0 ≤ (nowC p now - (p.at_ + n)) * p.rate := mul_nonneg (by omega) hr
  rw [e2]
  omega
end Go.Proofs.Ytfghllgkbdfedaa.Pac
