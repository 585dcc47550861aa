/- The plain law of layer 57: rising numbers in few bytes, and back; conditions: the ranges that each line names. -/
import Derived.Test.YtfghllgkbdfedaaVarPlain
namespace Go.Proofs.Ytfghllgkbdfedaa.Dl
open Go.Proofs.Ytfghllgkbdfedaa.Var (put read read_put put_read)

/-- how far a number is from the one ahead, less one, going round -/
def stp (a b : Nat) : Nat := (((a : Int) - (b : Int) - 1) % 18446744073709551616).toNat
theorem stp_lt (a b : Nat) : stp a b < 18446744073709551616 := by unfold stp; omega
theorem stp_rise {a b : Nat} (h : b < a) (ha : a < 18446744073709551616) : stp a b = a - b - 1 := by unfold stp; omega
def nthS (l : List Nat) (i : Nat) : Nat := if i = 0 then l.getD 0 0 else stp (l.getD i 0) (l.getD (i - 1) 0)
def stepsTo (l : List Nat) (k : Nat) : List Nat := (List.range k).map (nthS l)
def stepsL (l : List Nat) : List Nat := stepsTo l l.length
theorem stepsTo_succ (l : List Nat) (k : Nat) : stepsTo l (k + 1) = stepsTo l k ++ [nthS l k] := by simp [stepsTo, List.range_succ]
theorem stepsTo_len (l : List Nat) (k : Nat) : (stepsTo l k).length = k := by simp [stepsTo]
def puts (l : List Nat) : List UInt8 := l.flatMap put
theorem puts_snoc (l : List Nat) (x : Nat) : puts (l ++ [x]) = puts l ++ put x := by simp [puts]
def enc (l : List Nat) : List UInt8 := put l.length ++ puts (stepsL l)
def Rise (l : List Nat) : Prop := ∀ i, i + 1 < l.length → l.getD i 0 < l.getD (i + 1) 0
def Ok64 (l : List Nat) : Prop := ∀ x ∈ l, x < 18446744073709551616
theorem Ok64.at_ {l : List Nat} (h : Ok64 l) (i : Nat) : l.getD i 0 < 18446744073709551616 := by
  by_cases hi : i < l.length
  · have e : l.getD i 0 = l[i] := by simp [List.getD, List.getElem?_eq_getElem hi]
    rw [e]
    exact h _ (List.getElem_mem hi)
  · have e : l.getD i 0 = 0 := by simp [List.getD, List.getElem?_eq_none (show l.length ≤ i by omega)]
    omega
theorem nthS_lt {l : List Nat} (h : Ok64 l) (i : Nat) : nthS l i < 18446744073709551616 := by
  unfold nthS
  split
  · exact h.at_ 0
  · exact stp_lt _ _
theorem put_len (n : Nat) : (put n).length ≤ 10 := (Var.putF_length 9 n).2
theorem puts_len (l : List Nat) : (puts l).length ≤ 10 * l.length := by
  induction l with
  | nil => simp [puts]
  | cons x l ih =>
    have e : puts (x :: l) = put x ++ puts l := by simp [puts]
    have := put_len x
    rw [e, List.length_append, List.length_cons]
    omega
theorem enc_len (l : List Nat) : (enc l).length ≤ 10 * (l.length + 1) := by
  have h1 := put_len l.length
  have h2 := puts_len (stepsL l)
  have h3 : (stepsL l).length = l.length := stepsTo_len l _
  unfold enc
  rw [List.length_append]
  omega

/-! Reading -/
def lastOf (c : List Nat) : Nat := c.getD (c.length - 1) 0
def rdT : Nat → List Nat → List UInt8 → Nat × List Nat
  | 0, c, s => if s = [] then (0, c) else (5, [])
  | m + 1, c, s =>
    if (read s).2.2 ≠ 0 then ((read s).2.2, [])
    else if c.length = 0 then rdT m [(read s).1] (s.drop (read s).2.1)
    else if lastOf c = 18446744073709551615 ∨ 18446744073709551614 - lastOf c < (read s).1 then (2, [])
    else rdT m (c ++ [lastOf c + 1 + (read s).1]) (s.drop (read s).2.1)
def rd (s : List UInt8) : Nat × List Nat :=
  if (read s).2.2 ≠ 0 then ((read s).2.2, [])
  else if 4096 < (read s).1 then (3, [])
  else rdT (read s).1 [] (s.drop (read s).2.1)

theorem getD_take {l : List Nat} {i j : Nat} (h : j < i) : (l.take i).getD j 0 = l.getD j 0 := by
  simp [List.getD, h]
theorem take_snoc {l : List Nat} {i : Nat} (h : i < l.length) : l.take (i + 1) = l.take i ++ [l.getD i 0] := by
  rw [List.take_succ_eq_append_getElem h]
  simp [List.getD, List.getElem?_eq_getElem h]
theorem lastOf_take {l : List Nat} {i : Nat} (h0 : i ≠ 0) (h : i ≤ l.length) : lastOf (l.take i) = l.getD (i - 1) 0 := by
  have e : (l.take i).length = i := by rw [List.length_take]; omega
  unfold lastOf
  rw [e, getD_take (by omega)]
theorem steps_drop {l : List Nat} {i : Nat} (h : i < l.length) : (stepsL l).drop i = nthS l i :: (stepsL l).drop (i + 1) := by
  have hl : i < (stepsL l).length := by rw [stepsL, stepsTo_len]; exact h
  rw [List.drop_eq_getElem_cons hl]
  congr 1
  simp [stepsL, stepsTo]
theorem rdT_enc {l : List Nat} (hr : Rise l) (h6 : Ok64 l) : ∀ (m i : Nat), i + m = l.length → rdT m (l.take i) (puts ((stepsL l).drop i)) = (0, l) := by
  intro m
  induction m with
  | zero =>
    intro i hi
    have e : (stepsL l).drop i = [] := by
      apply List.drop_eq_nil_of_le
      rw [stepsL, stepsTo_len]; omega
    have e2 : l.take i = l := List.take_of_length_le (by omega)
    rw [e, e2]
    rfl
  | succ m ih =>
    intro i hi
    have hil : i < l.length := by omega
    have hx := nthS_lt h6 i
    have e : puts ((stepsL l).drop i) = put (nthS l i) ++ puts ((stepsL l).drop (i + 1)) := by
      rw [steps_drop hil]; simp [puts]
    have hrd := read_put (nthS l i) (puts ((stepsL l).drop (i + 1))) hx
    have ih' := ih (i + 1) (by omega)
    rw [e]
    unfold rdT
    rw [hrd]
    simp only [ne_eq, not_true_eq_false, if_false, List.drop_left]
    have e3 : (l.take i).length = i := by rw [List.length_take]; omega
    rw [e3]
    by_cases h0 : i = 0
    · subst h0
      rw [if_pos rfl]
      have e4 : [nthS l 0] = l.take (0 + 1) := by rw [take_snoc hil]; simp [nthS]
      rw [e4]
      exact ih'
    · rw [if_neg h0, lastOf_take h0 (by omega)]
      have h1 := hr (i - 1) (by omega)
      rw [show i - 1 + 1 = i by omega] at h1
      have h2 := h6.at_ i
      have e5 : nthS l i = l.getD i 0 - l.getD (i - 1) 0 - 1 := by
        unfold nthS
        rw [if_neg h0, stp_rise h1 h2]
      rw [if_neg (by rw [e5]; omega)]
      have e6 : l.getD (i - 1) 0 + 1 + nthS l i = l.getD i 0 := by rw [e5]; omega
      rw [e6, ← take_snoc hil]
      exact ih'
theorem rd_enc {l : List Nat} (hr : Rise l) (h6 : Ok64 l) (hn : l.length ≤ 4096) : rd (enc l) = (0, l) := by
  have h := read_put l.length (puts (stepsL l)) (by omega)
  unfold rd enc
  rw [h]
  simp only [ne_eq, not_true_eq_false, if_false, List.drop_left]
  rw [if_neg (by omega)]
  exact rdT_enc hr h6 l.length 0 (by omega)

theorem rise_snoc {c : List Nat} {y : Nat} (h : Rise c) (hy : c.length = 0 ∨ lastOf c < y) : Rise (c ++ [y]) := by
  intro i hi
  rw [List.length_append] at hi
  simp at hi
  by_cases hlt : i + 1 < c.length
  · have h1 := h i hlt
    have e1 : (c ++ [y]).getD i 0 = c.getD i 0 := by simp [List.getD, List.getElem?_append_left (show i < c.length by omega)]
    have e2 : (c ++ [y]).getD (i + 1) 0 = c.getD (i + 1) 0 := by simp [List.getD, List.getElem?_append_left hlt]
    rw [e1, e2]; exact h1
  · have hic : i + 1 = c.length := by omega
    have e1 : (c ++ [y]).getD i 0 = c.getD i 0 := by simp [List.getD, List.getElem?_append_left (show i < c.length by omega)]
    have e2 : (c ++ [y]).getD (i + 1) 0 = y := by rw [hic]; simp [List.getD]
    rw [e1, e2]
    rcases hy with h0 | h0
    · omega
    · have e3 : lastOf c = c.getD i 0 := by unfold lastOf; rw [show c.length - 1 = i by omega]
      rw [← e3]; exact h0
theorem rdT_ok : ∀ (m : Nat) (c : List Nat) (s : List UInt8) (c' : List Nat), rdT m c s = (0, c') → Rise c → Ok64 c →
    Rise c' ∧ Ok64 c' ∧ c'.length = c.length + m ∧ c'.take c.length = c ∧ s = puts ((stepsL c').drop c.length) := by
  intro m
  induction m with
  | zero =>
    intro c s c' h hr h6
    unfold rdT at h
    split at h
    · rename_i hs
      injection h with _ h
      subst h
      subst hs
      refine ⟨hr, h6, rfl, List.take_length, ?_⟩
      rw [List.drop_eq_nil_of_le (by rw [stepsL, stepsTo_len]; exact Nat.le_refl _)]
      rfl
    · cases h
  | succ m ih =>
    intro c s c' h hr h6
    unfold rdT at h
    split at h
    · rename_i he
      injection h with h1 _
      exact absurd h1 he
    · rename_i he
      have he : (read s).2.2 = 0 := by omega
      obtain ⟨hk1, hk2, hp, hx⟩ := put_read s (read s).1 (read s).2.1 (by rw [← he])
      generalize (read s).1 = x at h hp hx
      generalize (read s).2.1 = k at h hk1 hk2 hp
      -- the rest of the proof, whatever the new number is
      have key : ∀ y, y < 18446744073709551616 → (c.length = 0 ∨ lastOf c < y) → (∀ c'' : List Nat, c.length < c''.length → c''.take (c.length + 1) = c ++ [y] → nthS c'' c.length = x) → rdT m (c ++ [y]) (s.drop k) = (0, c') →
          Rise c' ∧ Ok64 c' ∧ c'.length = c.length + (m + 1) ∧ c'.take c.length = c ∧ s = puts ((stepsL c').drop c.length) := by
        intro y hy hlast hn h
        obtain ⟨g1, g2, g3, g4, g5⟩ := ih _ _ _ h (rise_snoc hr hlast) (by
          intro z hz
          rcases List.mem_append.1 hz with h1 | h1
          · exact h6 z h1
          · simp at h1; rw [h1]; exact hy)
        rw [List.length_append, List.length_singleton] at g3 g4 g5
        have hlt : c.length < c'.length := by omega
        refine ⟨g1, g2, by omega, ?_, ?_⟩
        · have : (c'.take (c.length + 1)).take c.length = c'.take c.length := by rw [List.take_take]; congr 1; omega
          rw [← this, g4]
          exact List.take_left
        · rw [steps_drop hlt, hn c' hlt g4]
          have e : puts (x :: (stepsL c').drop (c.length + 1)) = put x ++ puts ((stepsL c').drop (c.length + 1)) := by simp [puts]
          rw [e, ← g5, hp, List.take_append_drop]
      have hat : ∀ (y : Nat) (c'' : List Nat), c''.take (c.length + 1) = c ++ [y] → c''.getD c.length 0 = y := by
        intro y c'' h4
        have e := getD_take (l := c'') (show c.length < c.length + 1 by omega)
        rw [h4] at e
        rw [← e]
        simp [List.getD]
      have hat2 : ∀ (y : Nat) (c'' : List Nat), c.length ≠ 0 → c''.take (c.length + 1) = c ++ [y] → c''.getD (c.length - 1) 0 = lastOf c := by
        intro y c'' h0 h4
        have e := getD_take (l := c'') (show c.length - 1 < c.length + 1 by omega)
        rw [h4] at e
        rw [← e]
        unfold lastOf
        simp [List.getD, List.getElem?_append_left (show c.length - 1 < c.length by omega)]
      split at h
      · rename_i h0
        have hc : c = [] := List.eq_nil_of_length_eq_zero h0
        refine key x hx (.inl h0) ?_ ?_
        · intro c'' hl h4
          have := hat x c'' h4
          rw [h0] at this ⊢
          unfold nthS
          rw [if_pos rfl, this]
        · rw [hc]; exact h
      · rename_i h0
        split at h
        · cases h
        · rename_i hq
          have hq1 : lastOf c ≠ 18446744073709551615 := fun e => hq (.inl e)
          have hq2 : ¬ 18446744073709551614 - lastOf c < x := fun e => hq (.inr e)
          have hl6 : lastOf c < 18446744073709551616 := h6.at_ _
          refine key (lastOf c + 1 + x) (by omega) (.inr (by omega)) ?_ h
          intro c'' hl h4
          have e1 := hat _ c'' h4
          have e2 := hat2 _ c'' h0 h4
          unfold nthS
          rw [if_neg h0, e1, e2, stp_rise (by omega) (by omega)]
          omega
theorem rd_ok {s : List UInt8} {c : List Nat} (h : rd s = (0, c)) : Rise c ∧ Ok64 c ∧ c.length ≤ 4096 ∧ enc c = s := by
  unfold rd at h
  split at h
  · rename_i he
    injection h with h1 _
    exact absurd h1 he
  · rename_i he
    have he : (read s).2.2 = 0 := by omega
    split at h
    · cases h
    · rename_i hn
      obtain ⟨hk1, hk2, hp, hx⟩ := put_read s (read s).1 (read s).2.1 (by rw [← he])
      obtain ⟨g1, g2, g3, _, g5⟩ := rdT_ok _ _ _ _ h (by intro i hi; simp at hi) (by intro x hx; simp at hx)
      simp only [List.length_nil, Nat.zero_add, List.drop_zero] at g3 g5
      refine ⟨g1, g2, by omega, ?_⟩
      unfold enc
      rw [g3, hp, ← g5, List.take_append_drop]
theorem rd_err {s : List UInt8} (h : (rd s).1 ≠ 0) : (rd s).2 = [] := by
  have key : ∀ m c (s : List UInt8), (rdT m c s).1 ≠ 0 → (rdT m c s).2 = [] := by
    intro m
    induction m with
    | zero =>
      intro c s h
      unfold rdT at h ⊢
      split
      · rename_i h1; rw [if_pos h1] at h; exact absurd rfl h
      · rfl
    | succ m ih =>
      intro c s h
      unfold rdT at h ⊢
      split at h
      · rename_i h1; rw [if_pos h1]
      · rename_i h1
        rw [if_neg h1]
        split at h
        · rename_i h2; rw [if_pos h2]; exact ih _ _ h
        · rename_i h2
          rw [if_neg h2]
          split at h
          · rename_i h3; rw [if_pos h3]
          · rename_i h3; rw [if_neg h3]; exact ih _ _ h
  unfold rd at h ⊢
  split at h
  · rename_i h1; rw [if_pos h1]
  · rename_i h1
    rw [if_neg h1]
    split at h
    · rename_i h2; rw [if_pos h2]
    · rename_i h2; rw [if_neg h2]; exact key _ _ _ h
end Go.Proofs.Ytfghllgkbdfedaa.Dl
