/- The plain law of layer 53: the bytes of a number and the number of bytes, as functions of numbers and rows; conditions: the ranges that each line names. -/
namespace Go.Proofs.Ytfghllgkbdfedaa.Var

/-- the bytes of a number -/
def putF : Nat → Nat → List UInt8
  | 0, n => [UInt8.ofNat n]
  | f + 1, n => if n < 128 then [UInt8.ofNat n] else UInt8.ofNat (n % 128 + 128) :: putF f (n / 128)
def put (n : Nat) : List UInt8 := putF 9 n
/-- the place of the first byte below the mark -/
def ends : List UInt8 → Option Nat
  | [] => none
  | x :: l => if x.toNat < 128 then some 0 else (ends l).map (· + 1)
/-- the number of bytes -/
def val : List UInt8 → Nat
  | [] => 0
  | x :: l => x.toNat % 128 + 128 * val l
def read (l : List UInt8) : Nat × Nat × Nat :=
  match ends l with
  | none => (0, 0, 4)
  | some e =>
    if 9 < e ∨ e = 9 ∧ 1 < (l.getD 9 0).toNat then (0, 0, 2)
    else if 0 < e ∧ (l.getD e 0).toNat = 0 then (0, 0, 5)
    else (val (l.take (e + 1)), e + 1, 0)

theorem toNat_small (n : Nat) (h : n < 256) : (UInt8.ofNat n).toNat = n := by simp [UInt8.toNat_ofNat']; omega

theorem ends_some {l : List UInt8} {e : Nat} (h : ends l = some e) : e < l.length ∧ (l.getD e 0).toNat < 128 ∧ ∀ i, i < e → 128 ≤ (l.getD i 0).toNat := by
  induction l generalizing e with
  | nil => simp [ends] at h
  | cons x l ih =>
    unfold ends at h
    by_cases hx : x.toNat < 128
    · rw [if_pos hx] at h; simp at h; subst h; simp [hx]
    · rw [if_neg hx] at h
      cases hl : ends l with
      | none => rw [hl] at h; simp at h
      | some d =>
        rw [hl] at h; simp at h; subst h
        obtain ⟨h1, h2, h3⟩ := ih hl
        refine ⟨by simp; omega, by simpa using h2, ?_⟩
        intro i hi
        cases i with
        | zero => simp; omega
        | succ i => simpa using h3 i (by omega)
theorem ends_of {l : List UInt8} {e : Nat} (h1 : e < l.length) (h2 : (l.getD e 0).toNat < 128) (h3 : ∀ i, i < e → 128 ≤ (l.getD i 0).toNat) : ends l = some e := by
  induction l generalizing e with
  | nil => simp at h1
  | cons x l ih =>
    unfold ends
    cases e with
    | zero => rw [if_pos (by simpa using h2)]
    | succ e =>
      have := h3 0 (by omega)
      rw [if_neg (by simp at this; omega), ih (e := e) (by simpa using h1) (by simpa using h2) (fun i hi => by simpa using h3 (i + 1) (by omega))]
      rfl
theorem ends_none {l : List UInt8} (h : ∀ i, i < l.length → 128 ≤ (l.getD i 0).toNat) : ends l = none := by
  cases hl : ends l with
  | none => rfl
  | some e =>
    obtain ⟨h1, h2, _⟩ := ends_some hl
    have := h e h1
    omega

theorem none_ends {l : List UInt8} (h : ends l = none) : ∀ i, i < l.length → 128 ≤ (l.getD i 0).toNat := by
  induction l with
  | nil => intro i hi; simp at hi
  | cons x l ih =>
    unfold ends at h
    by_cases hx : x.toNat < 128
    · rw [if_pos hx] at h; simp at h
    · rw [if_neg hx] at h
      intro i hi
      cases i with
      | zero => simp; omega
      | succ i => simpa using ih (by simpa using h) i (by simpa using hi)

theorem val_snoc (l : List UInt8) (x : UInt8) : val (l ++ [x]) = val l + x.toNat % 128 * 128 ^ l.length := by
  induction l with
  | nil => simp [val]
  | cons y l ih =>
    simp only [List.cons_append, val, ih, List.length_cons, Nat.pow_succ]
    rw [Nat.mul_add, Nat.mul_left_comm 128, Nat.mul_comm 128 (128 ^ l.length)]
    omega
theorem val_lt (l : List UInt8) : val l < 128 ^ l.length := by
  induction l with
  | nil => simp [val]
  | cons y l ih =>
    simp only [val, List.length_cons, Nat.pow_succ]
    omega

theorem putF_length (f : Nat) : ∀ n, 1 ≤ (putF f n).length ∧ (putF f n).length ≤ f + 1 := by
  induction f with
  | zero => intro n; simp [putF]
  | succ f ih =>
    intro n
    unfold putF
    split
    · simp
    · have := ih (n / 128); simp; omega
theorem val_putF (f : Nat) : ∀ n, n < 128 ^ (f + 1) → val (putF f n) = n := by
  induction f with
  | zero => intro n h; simp at h; simp [putF, val]; omega
  | succ f ih =>
    intro n h
    unfold putF
    split
    · rename_i hn; simp [val]; omega
    · have := ih (n / 128) (by rw [Nat.pow_succ] at h; omega)
      simp only [val, this]
      rw [toNat_small _ (by omega)]
      omega
theorem ends_putF (f : Nat) : ∀ (n : Nat) (s : List UInt8), n < 128 ^ (f + 1) → ends (putF f n ++ s) = some ((putF f n).length - 1) := by
  induction f with
  | zero => intro n s h; simp at h; simp [putF, ends]; omega
  | succ f ih =>
    intro n s h
    unfold putF
    split
    · rename_i hn; simp [ends]; omega
    · have := ih (n / 128) s (by rw [Nat.pow_succ] at h; omega)
      have hl := putF_length f (n / 128)
      simp only [List.cons_append, ends, this]
      rw [toNat_small _ (by omega), if_neg (by omega)]
      simp; omega
/-- the last byte of more than one is not 0 -/
theorem last_putF (f : Nat) : ∀ n, n < 128 ^ (f + 1) → 1 < (putF f n).length → ((putF f n).getD ((putF f n).length - 1) 0).toNat ≠ 0 := by
  induction f with
  | zero => intro n h h2; simp [putF] at h2
  | succ f ih =>
    intro n h h2
    unfold putF at h2 ⊢
    split at h2
    · simp at h2
    · rename_i hn
      rw [if_neg hn]
      have hl := putF_length f (n / 128)
      have e : (UInt8.ofNat (n % 128 + 128) :: putF f (n / 128)).length - 1 = ((putF f (n / 128)).length - 1) + 1 := by simp; omega
      rw [e, List.getD_cons_succ]
      by_cases h3 : 1 < (putF f (n / 128)).length
      · exact ih (n / 128) (by rw [Nat.pow_succ] at h; omega) h3
      · cases f with
        | zero => simp [putF]; omega
        | succ f =>
          unfold putF at h3 hl ⊢
          by_cases h4 : n / 128 < 128
          · rw [if_pos h4]; simp; omega
          · rw [if_neg h4] at h3
            have := putF_length f (n / 128 / 128)
            rw [List.length_cons] at h3; omega
theorem ninth_putF (f : Nat) : ∀ n, (putF f n).length = f + 1 → n < 256 * 128 ^ f → ((putF f n).getD f 0).toNat = n / 128 ^ f := by
  induction f with
  | zero => intro n _ h; simp at h; simp [putF]; omega
  | succ f ih =>
    intro n h hb
    unfold putF at h ⊢
    split at h
    · simp at h
    · rename_i hn
      rw [if_neg hn, List.getD_cons_succ, ih _ (by simpa using h) (by rw [Nat.pow_succ] at hb; omega), Nat.div_div_eq_div_mul, Nat.pow_succ, Nat.mul_comm 128]

theorem getD_append_left (a b : List UInt8) (i : Nat) (h : i < a.length) : (a ++ b).getD i 0 = a.getD i 0 := by
  simp [List.getD, List.getElem?_append_left h]

theorem read_put (n : Nat) (s : List UInt8) (h : n < 18446744073709551616) : read (put n ++ s) = (n, (put n).length, 0) := by
  have hl := putF_length 9 n
  have hn : n < 128 ^ (9 + 1) := by simp; omega
  unfold read put
  rw [ends_putF 9 n s hn]
  simp only
  have h1 : ¬ (9 < (putF 9 n).length - 1 ∨ (putF 9 n).length - 1 = 9 ∧ 1 < ((putF 9 n ++ s).getD 9 0).toNat) := by
    rintro (h1 | ⟨h1, h2⟩)
    · omega
    · rw [getD_append_left _ _ _ (by omega), ninth_putF 9 n (by omega) (by simp; omega)] at h2
      simp at h2
      omega
  rw [if_neg h1]
  have h2 : ¬ (0 < (putF 9 n).length - 1 ∧ ((putF 9 n ++ s).getD ((putF 9 n).length - 1) 0).toNat = 0) := by
    rintro ⟨h2, h3⟩
    rw [getD_append_left _ _ _ (by omega)] at h3
    exact last_putF 9 n hn (by omega) h3
  rw [if_neg h2]
  have e : (putF 9 n).length - 1 + 1 = (putF 9 n).length := by omega
  rw [e, List.take_left' rfl, val_putF 9 n hn]

theorem put_of_val (f : Nat) : ∀ (l : List UInt8) (e : Nat), e ≤ f → e + 1 = l.length → (l.getD e 0).toNat < 128 → (∀ i, i < e → 128 ≤ (l.getD i 0).toNat) → (0 < e → (l.getD e 0).toNat ≠ 0) → putF f (val l) = l := by
  induction f with
  | zero =>
    intro l e he hl h1 h2 h3
    obtain rfl : e = 0 := by omega
    match l, hl with
    | [x], _ => simp at h1; simp [putF, val]; rw [Nat.mod_eq_of_lt h1]; simp
  | succ f ih =>
    intro l e he hl h1 h2 h3
    cases e with
    | zero =>
      match l, hl with
      | [x], _ =>
        simp at h1
        unfold putF
        rw [if_pos (by simp [val]; omega)]
        simp [val]; rw [Nat.mod_eq_of_lt h1]; simp
    | succ e =>
      match l, hl with
      | x :: y :: l, hl =>
        have hx : 128 ≤ x.toNat := by simpa using h2 0 (by omega)
        have hxl := x.toNat_lt
        have ihh := ih (y :: l) e (by omega) (by simpa using hl) (by simpa using h1) (fun i hi => by simpa using h2 (i + 1) (by omega))
          (fun h0 => by simpa using h3 (by omega))
        have hpos : 0 < val (y :: l) := by
          by_cases h0 : val (y :: l) = 0
          · exfalso
            rw [h0] at ihh
            have h5 := congrArg List.length ihh
            have hp0 : putF f 0 = [0] := by cases f <;> simp [putF]
            rw [hp0] at ihh h5
            simp only [List.length_cons, List.length_nil] at h5 hl
            have he0 : e = 0 := by omega
            subst he0
            have := h3 (by omega)
            simp at ihh this
            exact this (by rw [← ihh.1]; rfl)
          · omega
        unfold putF
        have hv : val (x :: y :: l) = x.toNat % 128 + 128 * val (y :: l) := rfl
        rw [if_neg (by rw [hv]; omega)]
        have e1 : val (x :: y :: l) % 128 + 128 = x.toNat := by rw [hv]; omega
        have e2 : val (x :: y :: l) / 128 = val (y :: l) := by rw [hv]; omega
        rw [e1, e2, ihh]
        simp

theorem put_read (s : List UInt8) (n k : Nat) (h : read s = (n, k, 0)) : 1 ≤ k ∧ k ≤ s.length ∧ put n = s.take k ∧ n < 18446744073709551616 := by
  unfold read at h
  cases he : ends s with
  | none => rw [he] at h; simp at h
  | some e =>
    rw [he] at h
    simp only at h
    obtain ⟨h1, h2, h3⟩ := ends_some he
    by_cases c1 : 9 < e ∨ e = 9 ∧ 1 < (s.getD 9 0).toNat
    · rw [if_pos c1] at h; simp at h
    · rw [if_neg c1] at h
      by_cases c2 : 0 < e ∧ (s.getD e 0).toNat = 0
      · rw [if_pos c2] at h; simp at h
      · rw [if_neg c2] at h
        simp at h
        obtain ⟨rfl, rfl⟩ := h
        have hg : ∀ i, i ≤ e → (s.take (e + 1)).getD i 0 = s.getD i 0 := by
          intro i hi
          simp [List.getD, show i < e + 1 by omega]
        refine ⟨by omega, by omega, ?_, ?_⟩
        · exact put_of_val 9 (s.take (e + 1)) e (by omega) (by simp; omega) (by rw [hg e (by omega)]; exact h2) (fun i hi => by rw [hg i (by omega)]; exact h3 i hi)
            (fun h0 => by rw [hg e (by omega)]; intro hh; exact c2 ⟨h0, hh⟩)
        · have hb := val_lt (s.take (e + 1))
          rw [List.length_take, Nat.min_eq_left (by omega)] at hb
          by_cases e9 : e = 9
          · subst e9
            have hs := val_snoc (s.take 9) (s.getD 9 0)
            have ht : s.take (9 + 1) = s.take 9 ++ [s.getD 9 0] := by
              rw [List.take_succ_eq_append_getElem (by omega)]
              simp [List.getD, List.getElem?_eq_getElem h1]
            rw [ht, hs]
            have hb9 := val_lt (s.take 9)
            rw [List.length_take, Nat.min_eq_left (by omega)] at hb9
            rw [List.length_take, Nat.min_eq_left (by omega)]
            have : (s.getD 9 0).toNat % 128 ≤ 1 := by omega
            have h9 : (128 : Nat) ^ 9 = 9223372036854775808 := by decide
            rw [h9] at hb9 ⊢
            omega
          · have : (128 : Nat) ^ (e + 1) ≤ 128 ^ 9 := Nat.pow_le_pow_right (by omega) (by omega)
            have h9 : (128 : Nat) ^ 9 = 9223372036854775808 := by decide
            omega
end Go.Proofs.Ytfghllgkbdfedaa.Var
