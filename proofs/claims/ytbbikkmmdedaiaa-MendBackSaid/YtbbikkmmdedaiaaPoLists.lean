/- Polynomials as trimmed lists of the field: sums, products, quotients, values, slopes; no condition. -/
import Derived.Test.YtbbikkmmdedaiaaRing
namespace Go.Proofs.Ytbbikkmmdedaiaa.Pr
open Go.Proofs.Ytbbikkmmdedaiaa.Gf

def co (l : List F) : Po := fun i => l.getD i 0
theorem co_out (l : List F) (i : Nat) (h : l.length ≤ i) : co l i = 0 := by
  unfold co; rw [List.getD, List.getElem?_eq_none h]; rfl
theorem co_lo (l : List F) : Lo l.length (co l) := fun i hi => co_out l i hi
theorem co_in (l : List F) (i : Nat) (h : i < l.length) : co l i = l[i] := by
  unfold co; rw [List.getD, List.getElem?_eq_getElem h]; rfl
theorem co_nil : co [] = nul := rfl
theorem co_one : co [1] = one := funext fun i => by
  cases i with
  | zero => rfl
  | succ i => rfl
theorem co_con (c : F) : co [c] = con c := funext fun i => by
  cases i with
  | zero => rfl
  | succ i => rfl
theorem tl_co (a : F) (l : List F) : tl (co (a :: l)) = co l := rfl
theorem co_set (l : List F) (i j : Nat) (v : F) (h : i < l.length) : co (l.set i v) j = if j = i then v else co l j := by
  unfold co
  simp only [List.getD, List.getElem?_set]
  by_cases e : i = j
  · subst e; simp [h]
  · rw [if_neg e, if_neg (Ne.symm e)]
theorem co_zeros (n : Nat) : co (List.replicate n 0) = nul := funext fun i => by
  unfold co
  rw [List.getD, List.getElem?_replicate]
  split <;> rfl
theorem co_snoc (l : List F) (x : F) (i : Nat) : co (l ++ [x]) i = if i = l.length then x else co l i := by
  unfold co
  simp only [List.getD, List.getElem?_append]
  rcases Nat.lt_trichotomy i l.length with h | h | h
  · rw [if_pos h, if_neg (by omega)]
  · subst h; simp
  · rw [if_neg (by omega), if_neg (by omega), List.getElem?_eq_none (by simp; omega), List.getElem?_eq_none (by omega)]
theorem ext_co {l m : List F} (hl : l.length = m.length) (h : co l = co m) : l = m := by
  apply List.ext_getElem hl
  intro i h1 h2
  rw [← co_in, ← co_in, h]

/-! ### Trimmed lists -/
def Trd (l : List F) : Prop := l.length = 0 ∨ co l (l.length - 1) ≠ 0
theorem Trd.nil : Trd [] := .inl rfl
theorem Trd.top {l : List F} (h : Trd l) {n : Nat} (hn : l.length = n + 1) : Top n (co l) := by
  rcases h with h | h
  · omega
  · rw [hn] at h
    exact ⟨by have := co_lo l; rw [hn] at this; exact this, h⟩
theorem Trd.or {l : List F} (h : Trd l) : l = [] ∨ ∃ n, l.length = n + 1 ∧ Top n (co l) := by
  cases hl : l.length with
  | zero => exact .inl (List.eq_nil_of_length_eq_zero hl)
  | succ n => exact .inr ⟨n, rfl, h.top hl⟩
theorem Trd.len {l : List F} (h : Trd l) {n : Nat} (ht : Top n (co l)) : l.length = n + 1 := by
  rcases h.or with e | ⟨m, hm, h2⟩
  · subst e; exact absurd rfl ht.ne
  · rw [hm, h2.uniq ht]
theorem Trd.len_le {l : List F} (h : Trd l) {n : Nat} (ht : Lo n (co l)) : l.length ≤ n := by
  rcases h.or with e | ⟨m, hm, h2⟩
  · subst e; simp
  · have := h2.le ht; omega
theorem Trd.eq_nil {l : List F} (h : Trd l) (hc : co l = nul) : l = [] := by
  rcases h.or with e | ⟨m, hm, h2⟩
  · exact e
  · exact absurd hc h2.ne
theorem trd_ext {l m : List F} (hl : Trd l) (hm : Trd m) (h : co l = co m) : l = m := by
  refine ext_co ?_ h
  have h1 : l.length ≤ m.length := hl.len_le (by rw [h]; exact co_lo m)
  have h2 : m.length ≤ l.length := hm.len_le (by rw [← h]; exact co_lo l)
  omega
theorem Trd.con {c : F} (h : c ≠ 0) : Trd [c] := .inr h
theorem Trd.lin (a : F) : Trd [a, 1] := .inr F.one_ne

def trN (p : Po) : Nat → Nat
  | 0 => 0
  | n + 1 => if p n = 0 then trN p n else n + 1
theorem trN_le (p : Po) (n : Nat) : trN p n ≤ n := by
  induction n with
  | zero => exact Nat.le_refl _
  | succ n ih =>
    unfold trN
    split <;> omega
theorem trN_lo {p : Po} {n : Nat} (h : Lo n p) : Lo (trN p n) p := by
  induction n with
  | zero => exact h
  | succ n ih =>
    unfold trN
    split
    · rename_i h0
      refine ih fun i hi => ?_
      by_cases e : i = n
      · rw [e, h0]
      · exact h i (by omega)
    · exact h
theorem trN_top (p : Po) (n : Nat) : trN p n = 0 ∨ p (trN p n - 1) ≠ 0 := by
  induction n with
  | zero => exact .inl rfl
  | succ n ih =>
    unfold trN
    split
    · exact ih
    · rename_i h0; exact .inr h0
/-- the trimmed list of a polynomial of no more than n numbers -/
def mk (n : Nat) (p : Po) : List F := (List.range (trN p n)).map p
theorem mk_len (n : Nat) (p : Po) : (mk n p).length = trN p n := by simp [mk]
theorem mk_len_le (n : Nat) (p : Po) : (mk n p).length ≤ n := by rw [mk_len]; exact trN_le p n
theorem mk_at (n : Nat) (p : Po) (i : Nat) (h : i < trN p n) : co (mk n p) i = p i := by
  rw [co_in _ _ (by rw [mk_len]; exact h)]
  simp [mk]
theorem co_mk {n : Nat} {p : Po} (h : Lo n p) : co (mk n p) = p := funext fun i => by
  rcases Nat.lt_or_ge i (trN p n) with h1 | h1
  · exact mk_at n p i h1
  · rw [co_out _ _ (by rw [mk_len]; exact h1), trN_lo h i h1]
theorem mk_trd (n : Nat) (p : Po) : Trd (mk n p) := by
  unfold Trd
  rw [mk_len]
  rcases Nat.eq_zero_or_pos (trN p n) with h0 | h0
  · exact .inl h0
  · right
    rw [mk_at n p _ (by omega)]
    rcases trN_top p n with h | h
    · omega
    · exact h
theorem mk_eq {n : Nat} {p : Po} (h : Lo n p) {l : List F} (hl : Trd l) (e : co l = p) : l = mk n p := trd_ext hl (mk_trd n p) (by rw [co_mk h, e])
theorem mk_same {n m : Nat} {p q : Po} (h : Lo n p) (h' : Lo m q) (e : p = q) : mk n p = mk m q := trd_ext (mk_trd n p) (mk_trd m q) (by rw [co_mk h, co_mk h', e])

/-! ### What is computed -/
def tr (l : List F) : List F := mk l.length (co l)
def pa (l m : List F) : List F := mk (max l.length m.length) (ad (co l) (co m))
def pm (l m : List F) : List F := mk (l.length + m.length) (cv (co l) (co m))
def ps (l : List F) : List F := mk l.length (sl (co l))
def pe (l : List F) (x : F) : F := ev l.length (co l) x
theorem tr_trd (l : List F) : Trd (tr l) := mk_trd _ _
theorem pa_trd (l m : List F) : Trd (pa l m) := mk_trd _ _
theorem pm_trd (l m : List F) : Trd (pm l m) := mk_trd _ _
theorem ps_trd (l : List F) : Trd (ps l) := mk_trd _ _
theorem co_tr (l : List F) : co (tr l) = co l := co_mk (co_lo l)
theorem pa_lo (l m : List F) : Lo (max l.length m.length) (ad (co l) (co m)) := ((co_lo l).mono (by omega)).ad ((co_lo m).mono (by omega))
theorem co_pa (l m : List F) : co (pa l m) = ad (co l) (co m) := co_mk (pa_lo l m)
theorem pm_lo (l m : List F) : Lo (l.length + m.length) (cv (co l) (co m)) := (co_lo l).cv (co_lo m)
theorem co_pm (l m : List F) : co (pm l m) = cv (co l) (co m) := co_mk (pm_lo l m)
theorem ps_lo (l : List F) : Lo l.length (sl (co l)) := Lo.sl ((co_lo l).mono (by omega))
theorem co_ps (l : List F) : co (ps l) = sl (co l) := co_mk (ps_lo l)
theorem tr_len (l : List F) : (tr l).length ≤ l.length := mk_len_le _ _
theorem pa_len (l m : List F) : (pa l m).length ≤ max l.length m.length := mk_len_le _ _
theorem pm_len (l m : List F) : (pm l m).length ≤ l.length + m.length := mk_len_le _ _
theorem ps_len (l : List F) : (ps l).length ≤ l.length := mk_len_le _ _
theorem tr_of {l : List F} (h : Trd l) : tr l = l := trd_ext (tr_trd l) h (co_tr l)
theorem pe_lo {l : List F} {n : Nat} {p : Po} (h : Lo n p) (e : co l = p) (x : F) : pe l x = ev n p x := by
  unfold pe
  rw [← ev_lo (co_lo l) (show l.length ≤ max l.length n by omega), e, ev_lo h (by omega)]
theorem pe_pa (l m : List F) (x : F) : pe (pa l m) x = pe l x + pe m x := by
  rw [pe_lo (pa_lo l m) (co_pa l m), ev_ad, ev_lo (co_lo l) (by omega), ev_lo (co_lo m) (by omega)]
  rfl
theorem pe_pm (l m : List F) (x : F) : pe (pm l m) x = pe l x * pe m x := by
  rw [pe_lo (pm_lo l m) (co_pm l m), ev_cv (co_lo l) (co_lo m)]
  rfl
theorem pe_tr (l : List F) (x : F) : pe (tr l) x = pe l x := pe_lo (co_lo l) (co_tr l) x
theorem pe_nil (x : F) : pe [] x = 0 := rfl
theorem pe_cons (a : F) (l : List F) (x : F) : pe (a :: l) x = a + x * pe l x := rfl
theorem pe_congr {l m : List F} (h : co l = co m) (x : F) : pe l x = pe m x := by
  rw [← pe_tr l, ← pe_tr m, trd_ext (tr_trd l) (tr_trd m) (by rw [co_tr, co_tr, h])]
theorem ps_pm (l m : List F) : ps (pm l m) = pa (pm (ps l) m) (pm l (ps m)) :=
  trd_ext (ps_trd _) (pa_trd _ _) (by rw [co_ps, co_pm, co_pa, co_pm, co_pm, co_ps, co_ps, sl_cv])

/-- quotient and rest -/
def Qr (a b q r : List F) : Prop := Trd q ∧ Trd r ∧ co a = ad (cv (co q) (co b)) (co r) ∧ r.length < (tr b).length
theorem Qr.uniq {a b q r q' r' : List F} (h : Qr a b q r) (h' : Qr a b q' r') : q = q' ∧ r = r' := by
  obtain ⟨hq, hr, e, hl⟩ := h
  obtain ⟨hq', hr', e', hl'⟩ := h'
  rcases (tr_trd b).or with h0 | ⟨k, hk, ht⟩
  · rw [h0] at hl; simp at hl
  · rw [co_tr] at ht
    obtain ⟨h1, h2⟩ := div_uniq ht (co_lo q) (co_lo q') ((co_lo r).mono (by omega)) ((co_lo r').mono (by omega)) (e.symm.trans e')
    exact ⟨trd_ext hq hq' h1, trd_ext hr hr' h2⟩
theorem Qr.back {a b q r : List F} (h : Qr a b q r) : pa (pm q b) r = tr a :=
  trd_ext (pa_trd _ _) (tr_trd _) (by rw [co_pa, co_pm, co_tr, h.2.2.1])
end Go.Proofs.Ytbbikkmmdedaiaa.Pr
