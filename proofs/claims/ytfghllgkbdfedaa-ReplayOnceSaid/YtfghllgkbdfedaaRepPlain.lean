/- The plain law of layer 54: a window of marks answers as the list of all taken numbers does; conditions: the ranges that each line names. -/
namespace Go.Proofs.Ytfghllgkbdfedaa.Rep

def upd (m : Nat → Bool) (i : Nat) (v : Bool) : Nat → Bool := fun j => if j = i then v else m j
def clr (m : Nat → Bool) (a : Nat) : Nat → (Nat → Bool)
  | 0 => m
  | n + 1 => upd (clr m a n) ((a + n) % 256) false
def none_ : Nat → Bool := fun _ => false
/-- may a number be taken? -/
def freshP (size : Nat) (m : Nat → Bool) (top : Nat) (sm : Bool) (x : Nat) : Bool :=
  !sm || decide (top < x) || (!decide (size ≤ top - x) && !m (x % 256))
def onP (m : Nat → Bool) (top : Nat) (sm : Bool) (x : Nat) : Nat → Bool :=
  if sm = true ∧ x - top < 256 then clr m (top + 1) (x - top - 1) else none_
structure St where
  m : Nat → Bool
  top : Nat
  sm : Bool
def takeP (size : Nat) (s : St) (x : Nat) : St :=
  if freshP size s.m s.top s.sm x = true then
    if s.sm = false ∨ s.top < x then ⟨upd (onP s.m s.top s.sm x) (x % 256) true, x, true⟩ else ⟨upd s.m (x % 256) true, s.top, s.sm⟩
  else s
/-- the reference: is it fresh? -/
def freshL (l : List Nat) (top size x : Nat) : Bool := l.isEmpty || (!l.contains x && (decide (top ≤ x) || decide (top - x < size)))

structure Inv (l : List Nat) (s : St) : Prop where
  none_ : s.sm = false → l = [] ∧ s.top = 0
  some_ : s.sm = true → l ≠ [] ∧ (∀ x ∈ l, x ≤ s.top) ∧ s.top ∈ l ∧ ∀ x, x ≤ s.top → s.top - x < 256 → s.m (x % 256) = l.contains x

theorem Inv.start (m : Nat → Bool) : Inv [] ⟨m, 0, false⟩ := ⟨fun _ => ⟨rfl, rfl⟩, fun h => by cases h⟩

theorem fresh_eq {l : List Nat} {s : St} (h : Inv l s) (size x : Nat) (h1 : 1 ≤ size) (h2 : size ≤ 256) : freshP size s.m s.top s.sm x = freshL l s.top size x := by
  unfold freshP freshL
  cases hs : s.sm with
  | false => simp [(h.none_ hs).1]
  | true =>
    obtain ⟨hne, hle, _, hm⟩ := h.some_ hs
    have he : l.isEmpty = false := by cases l <;> simp_all
    rw [he]
    by_cases hx : s.top < x
    · have hn : l.contains x = false := by
        rw [Bool.eq_false_iff]
        intro hc
        have := hle x (by simpa using hc)
        omega
      have : s.top ≤ x := by omega
      rw [hn]
      simp [hx, this]
    · by_cases hz : size ≤ s.top - x
      · have h3 : ¬ s.top ≤ x := by omega
        have h4 : ¬ s.top - x < size := by omega
        simp [hx, hz, h3, h4]
      · have h4 : s.top - x < size := by omega
        rw [hm x (by omega) (by omega)]
        simp [hx, hz, h4]

theorem clr_at (m : Nat → Bool) (a : Nat) : ∀ (n r : Nat), (∀ k, k < n → (a + k) % 256 ≠ r) → clr m a n r = m r := by
  intro n
  induction n with
  | zero => intro r _; rfl
  | succ n ih =>
    intro r h
    unfold clr upd
    rw [if_neg (fun e => h n (by omega) e.symm)]
    exact ih r (fun k hk => h k (by omega))
theorem clr_in (m : Nat → Bool) (a : Nat) : ∀ (n k : Nat), k < n → clr m a n ((a + k) % 256) = false := by
  intro n
  induction n with
  | zero => intro k h; omega
  | succ n ih =>
    intro k h
    unfold clr upd
    by_cases e : (a + k) % 256 = (a + n) % 256
    · rw [if_pos e]
    · rw [if_neg e]
      exact ih k (by
        rcases Nat.lt_or_ge k n with h1 | h1
        · exact h1
        · exact absurd (by rw [show k = n by omega]) e)

theorem take_inv {l : List Nat} {s : St} (h : Inv l s) (size x : Nat) (h1 : 1 ≤ size) (h2 : size ≤ 256) :
    Inv (if freshP size s.m s.top s.sm x = true then l ++ [x] else l) (takeP size s x) := by
  unfold takeP
  by_cases hf : freshP size s.m s.top s.sm x = true
  · rw [if_pos hf, if_pos hf]
    by_cases hc : s.sm = false ∨ s.top < x
    · rw [if_pos hc]
      refine ⟨fun e => by simp at e, fun _ => ⟨by simp, ?_, by simp, ?_⟩⟩
      · intro y hy
        simp only
        rcases List.mem_append.1 hy with hy | hy
        · cases hs : s.sm with
          | false => rw [(h.none_ hs).1] at hy; simp at hy
          | true =>
            have := (h.some_ hs).2.1 y hy
            rcases hc with hc | hc
            · rw [hs] at hc; cases hc
            · omega
        · simp at hy; omega
      · intro y hy hd
        simp only at hy hd ⊢
        by_cases hyx : y = x
        · subst hyx; simp [upd]
        · have hne : y % 256 ≠ x % 256 := by omega
          have hcon : (l ++ [x]).contains y = l.contains y := by
            rw [Bool.eq_iff_iff]; simp [hyx]
          rw [hcon]
          unfold upd
          rw [if_neg hne]
          unfold onP
          cases hs : s.sm with
          | false =>
            rw [(h.none_ hs).1]
            simp [Rep.none_]
          | true =>
            obtain ⟨_, hle, _, hm⟩ := h.some_ hs
            have htx : s.top < x := by
              rcases hc with hc | hc
              · rw [hs] at hc; cases hc
              · exact hc
            by_cases hnear : x - s.top < 256
            · rw [if_pos ⟨rfl, hnear⟩]
              by_cases hyt : y ≤ s.top
              · rw [clr_at]
                · exact hm y hyt (by omega)
                · intro k hk; omega
              · have : l.contains y = false := by
                  rw [Bool.eq_false_iff]; intro hcc; have := hle y (by simpa using hcc); omega
                rw [this]
                have hk := clr_in s.m (s.top + 1) (x - s.top - 1) (y - s.top - 1) (by omega)
                rw [show s.top + 1 + (y - s.top - 1) = y by omega] at hk
                exact hk
            · rw [if_neg (fun e => hnear e.2)]
              have : l.contains y = false := by
                rw [Bool.eq_false_iff]; intro hcc; have := hle y (by simpa using hcc); omega
              rw [this]
              rfl
    · rw [if_neg hc]
      have hs : s.sm = true := by cases hh : s.sm <;> simp_all
      have hxt : x ≤ s.top := by
        rcases Nat.lt_or_ge s.top x with h3 | h3
        · exact absurd (.inr h3) hc
        · exact h3
      obtain ⟨hne, hle, hin, hm⟩ := h.some_ hs
      refine ⟨fun e => by rw [hs] at e; simp at e, fun _ => ⟨by simp, ?_, by simp [hin], ?_⟩⟩
      · intro y hy
        simp only
        rcases List.mem_append.1 hy with hy | hy
        · exact hle y hy
        · simp at hy; omega
      · intro y hy hd
        simp only at hy hd ⊢
        by_cases hyx : y = x
        · subst hyx; simp [upd]
        · have hxd : s.top - x < 256 := by
            unfold freshP at hf
            rw [hs] at hf
            simp at hf
            omega
          have hne : y % 256 ≠ x % 256 := by omega
          have hcon : (l ++ [x]).contains y = l.contains y := by
            rw [Bool.eq_iff_iff]; simp [hyx]
          rw [hcon]
          unfold upd
          rw [if_neg hne]
          exact hm y hy hd
  · rw [if_neg hf, if_neg hf]
    exact h

theorem take_top {s : St} (size x : Nat) (hs : s.sm = false → s.top = 0) : (takeP size s x).top = if freshP size s.m s.top s.sm x = true then max s.top x else s.top := by
  unfold takeP
  by_cases hf : freshP size s.m s.top s.sm x = true
  · rw [if_pos hf, if_pos hf]
    by_cases hc : s.sm = false ∨ s.top < x
    · rw [if_pos hc]
      simp only
      rcases hc with hc | hc
      · rw [hs hc]; omega
      · omega
    · rw [if_neg hc]
      simp only
      have : ¬ s.top < x := fun e => hc (.inr e)
      omega
  · rw [if_neg hf, if_neg hf]
theorem take_no {l : List Nat} {s : St} (h : Inv l s) (size x : Nat) (h1 : 1 ≤ size) (h2 : size ≤ 256) (hx : x ∈ l) : freshP size s.m s.top s.sm x = false := by
  rw [fresh_eq h size x h1 h2]
  unfold freshL
  have h3 : l.contains x = true := by simpa using hx
  have h4 : l.isEmpty = false := by cases l <;> simp_all
  rw [h3, h4]; simp
theorem fresh_greater {s : St} (size x : Nat) (hx : s.sm = true → s.top < x) : freshP size s.m s.top s.sm x = true := by
  unfold freshP
  cases hs : s.sm with
  | false => simp
  | true => simp [hx hs]
end Go.Proofs.Ytfghllgkbdfedaa.Rep
