/- The plain law of layer 46, second part: in any time no more is taken than the most, and the rate for each tick; conditions: the ranges that each line names. -/
import Derived.Test.YtfghllgkbdfedaaPacPlain
namespace Go.Proofs.Ytfghllgkbdfedaa.Pac

/-- what is known of all that was taken: when, and how much had been taken ahead of it -/
structure Hs (p : P) (now sum : Int) (ps : List (Int × Int)) : Prop where
  ok : Ok p
  at_ : p.at_ = now
  s0 : 0 ≤ sum
  inv : ∀ a s, (a, s) ∈ ps → sum - s + p.left ≤ p.most + p.rate * (now - a) ∧ 0 ≤ a ∧ a ≤ now ∧ 0 ≤ s ∧ s ≤ sum

theorem Hs.start {r m : Int} (h : Ok ⟨r, m, m, 0⟩) : Hs ⟨r, m, m, 0⟩ 0 0 [] := ⟨h, rfl, by omega, fun a s h => by simp at h⟩
theorem Hs.on {p : P} {now sum : Int} {ps : List (Int × Int)} (h : Hs p now sum ps) (t : Int) (h1 : now ≤ t) (h2 : t ≤ T) : Hs (onP p t) t sum ps := by
  have hn : nowC p t = t := by have := h.at_; unfold nowC; omega
  refine ⟨onP_ok p t h.ok, by simp only [onP]; exact hn, h.s0, fun a s hm => ?_⟩
  obtain ⟨i1, i2, i3, i4, i5⟩ := h.inv a s hm
  refine ⟨?_, i2, by omega, i4, i5⟩
  simp only [onP, hn]
  have e : p.rate * (t - a) = p.rate * (now - a) + (t - p.at_) * p.rate := by
    rw [h.at_, Int.mul_comm (t - now), ← Int.mul_add]
    congr 1
    omega
  rw [e]
  omega
theorem Hs.take {p : P} {now sum : Int} {ps : List (Int × Int)} (h : Hs p now sum ps) (n : Int) (h1 : 1 ≤ n) (h2 : n ≤ p.left) : Hs { p with left := p.left - n } now (sum + n) (ps ++ [(now, sum)]) := by
  have hs := h.s0
  have ha := h.at_
  obtain ⟨r1, r2, m1, m2, l1, l2, a1, a2⟩ := h.ok
  refine ⟨⟨r1, r2, m1, m2, by simp only; omega, by simp only; omega, a1, a2⟩, h.at_, by omega, fun a s hm => ?_⟩
  rcases List.mem_append.1 hm with hm | hm
  · obtain ⟨i1, i2, i3, i4, i5⟩ := h.inv a s hm
    exact ⟨by simp only; omega, i2, i3, i4, by omega⟩
  · simp at hm
    obtain ⟨rfl, rfl⟩ := hm
    refine ⟨?_, by omega, by omega, by omega, by omega⟩
    simp only [Int.sub_self, Int.mul_zero]
    omega
theorem Hs.check {p : P} {now sum : Int} {ps : List (Int × Int)} (h : Hs p now sum ps) (a s : Int) (hm : (a, s) ∈ ps) : sum - s ≤ p.most + p.rate * (now - a) := by
  have := (h.inv a s hm).1
  have := h.ok.l1
  omega
/-- what cannot be taken now can be taken later, if ever -/
theorem when_later {p : P} {now sum : Int} {ps : List (Int × Int)} (h : Hs p now sum ps) (hnow : now ≤ 1000000) (n : Int) (hm : p.most ≤ 255) (hno : takeB p n = false) :
    whenP p n now = (if 1 ≤ n ∧ n ≤ p.most then (now + ticks p.rate (n - p.left), true) else (0, false)) ∧ (1 ≤ n → n ≤ p.most → now < now + ticks p.rate (n - p.left)) ∧ whenS p n now = p := by
  have hon : onP p now = p := by
    have hn : nowC p now = p.at_ := by have := h.at_; unfold nowC T; omega
    have hl := h.ok.l2
    unfold onP
    rw [hn, Int.sub_self, Int.zero_mul, Int.add_zero]
    cases p
    simp only [P.mk.injEq, true_and, and_true] at hl ⊢
    omega
  have hr := h.ok.r1
  refine ⟨?_, ?_, ?_⟩
  · unfold whenP
    rw [hon]
    by_cases hc : 1 ≤ n ∧ n ≤ p.most
    · rw [if_neg (by omega), if_pos hc]
      have hl : p.left < n := by unfold takeB at hno; simp at hno; omega
      have e : max 0 (n - p.left) = n - p.left := by omega
      have hb := ticks_bound (rate := p.rate) (more := n - p.left) hr (by omega) (by have := h.ok.l1; omega)
      rw [e, if_neg (by have := h.at_; unfold T; omega), h.at_]
    · rw [if_pos (by omega), if_neg hc]
  · intro h1 h2
    have hl : p.left < n := by unfold takeB at hno; simp at hno; omega
    have : ¬ ticks p.rate (n - p.left) ≤ 0 := by rw [ticks_le hr]; omega
    omega
  · unfold whenS; split
    · rfl
    · exact hon
end Go.Proofs.Ytfghllgkbdfedaa.Pac
