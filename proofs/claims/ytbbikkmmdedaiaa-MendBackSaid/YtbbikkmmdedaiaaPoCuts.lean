/- Polynomials step by step: single powers, beginnings, and what one changed byte of a row does; no condition. -/
import Derived.Test.YtbbikkmmdedaiaaPoLists
namespace Go.Proofs.Ytbbikkmmdedaiaa.Pr
open Go.Proofs.Ytbbikkmmdedaiaa.Gf

def mon (n : Nat) (c : F) : Po := fun i => if i = n then c else 0
def cut (n : Nat) (p : Po) : Po := fun i => if i < n then p i else 0
theorem mon_zero (n : Nat) : mon n 0 = nul := funext fun i => by unfold mon nul; split <;> rfl
theorem cut_0 (p : Po) : cut 0 p = nul := funext fun i => if_neg (by omega)
theorem cut_succ (n : Nat) (p : Po) : cut (n + 1) p = ad (cut n p) (mon n (p n)) := funext fun i => by
  show (if i < n + 1 then p i else 0) = (if i < n then p i else 0) + (if i = n then p n else 0)
  rcases Nat.lt_trichotomy i n with h | h | h
  · rw [if_pos (by omega), if_pos h, if_neg (by omega), F.add_zero]
  · subst h; rw [if_pos (by omega), if_neg (by omega), if_pos rfl, F.zero_add]
  · rw [if_neg (by omega), if_neg (by omega), if_neg (by omega), F.add_zero]
theorem cut_lo {n : Nat} {p : Po} (h : Lo n p) : cut n p = p := funext fun i => by
  unfold cut
  split
  · rfl
  · exact (h i (by omega)).symm
theorem cut_co (l : List F) : cut l.length (co l) = co l := cut_lo (co_lo l)
theorem Lo.cut (n : Nat) (p : Po) : Lo n (cut n p) := fun i hi => if_neg (by omega)
theorem cv_mon (n : Nat) (c : F) (q : Po) (j : Nat) : cv (mon n c) q j = if n ≤ j then c * q (j - n) else 0 := by
  induction n generalizing j with
  | zero =>
    have h : mon 0 c = con c := rfl
    rw [h, con_cv, if_pos (Nat.zero_le _)]
    rfl
  | succ n ih =>
    have ht : tl (mon (n + 1) c) = mon n c := funext fun i => by
      unfold tl mon
      by_cases e : i = n
      · rw [if_pos e, if_pos (by omega)]
      · rw [if_neg e, if_neg (by omega)]
    cases j with
    | zero => rw [cv_0, if_neg (by omega)]; show (0 : F) * _ = 0; rw [F.zero_mul]
    | succ j =>
      rw [cv_succ, ht, ih]
      show (0 : F) * _ + _ = _
      rw [F.zero_mul, F.zero_add]
      by_cases e : n ≤ j
      · rw [if_pos e, if_pos (by omega), show j + 1 - (n + 1) = j - n by omega]
      · rw [if_neg e, if_neg (by omega)]
theorem cv_mon_mon (n m : Nat) (c d : F) : cv (mon n c) (mon m d) = mon (n + m) (c * d) := funext fun j => by
  rw [cv_mon]
  unfold mon
  by_cases e : j = n + m
  · rw [if_pos (by omega), if_pos (by omega), if_pos e]
  · rw [if_neg e]
    split
    · rw [if_neg (by omega), F.mul_zero]
    · rfl
/-- one step of a product's inner loop -/
theorem cv_cut_succ (n k : Nat) (c : F) (q : Po) : cv (mon n c) (cut (k + 1) q) = ad (cv (mon n c) (cut k q)) (mon (n + k) (c * q k)) := by
  rw [cut_succ, cv_ad_right, cv_mon_mon]
/-- one step of a product's outer loop -/
theorem cv_cut_left (n : Nat) (p q : Po) : cv (cut (n + 1) p) q = ad (cv (cut n p) q) (cv (mon n (p n)) q) := by
  rw [cut_succ, cv_ad_left]
/-- one number of a product, step by step -/
theorem cv_cut_at (i n : Nat) (p q : Po) (h : i ≤ n) : cv (cut (i + 1) p) q n = cv (cut i p) q n + p i * q (n - i) := by
  rw [cv_cut_left]
  show _ + cv (mon i (p i)) q n = _
  rw [cv_mon, if_pos h]
theorem cv_cut_end (n : Nat) : ∀ (p q : Po) (k : Nat), n < k → cv (cut k p) q n = cv p q n := by
  induction n with
  | zero =>
    intro p q k h
    show (if 0 < k then p 0 else 0) * q 0 = p 0 * q 0
    rw [if_pos h]
  | succ n ih =>
    intro p q k h
    have ht : tl (cut k p) = cut (k - 1) (tl p) := funext fun i => by
      unfold tl cut
      by_cases e : i + 1 < k
      · rw [if_pos e, if_pos (by omega)]
      · rw [if_neg e, if_neg (by omega)]
    rw [cv_succ, cv_succ, ht, ih (tl p) q (k - 1) (by omega)]
    show (if 0 < k then p 0 else 0) * q (n + 1) + _ = _
    rw [if_pos (by omega)]
/-- a byte that is added at an index -/
theorem co_set_add (l : List F) (i : Nat) (v : F) (h : i < l.length) : co (l.set i (co l i + v)) = ad (co l) (mon i v) := funext fun j => by
  rw [co_set l i j _ h]
  show _ = co l j + mon i v j
  unfold mon
  by_cases e : j = i
  · rw [if_pos e, if_pos e, e]
  · rw [if_neg e, if_neg e, F.add_zero]
theorem co_set_new (l : List F) (i : Nat) (v : F) (h : i < l.length) (h0 : co l i = 0) : co (l.set i v) = ad (co l) (mon i v) := by
  have := co_set_add l i v h
  rw [h0, F.zero_add] at this
  exact this
theorem co_snoc_mon (l : List F) (x : F) : co (l ++ [x]) = ad (co l) (mon l.length x) := funext fun i => by
  rw [co_snoc]
  show _ = co l i + mon l.length x i
  unfold mon
  by_cases e : i = l.length
  · rw [if_pos e, if_pos e, e, co_out l _ (Nat.le_refl _), F.zero_add]
  · rw [if_neg e, if_neg e, F.add_zero]
/-- the first n numbers as a list -/
def firsts (n : Nat) (p : Po) : List F := (List.range n).map p
theorem firsts_len (n : Nat) (p : Po) : (firsts n p).length = n := by simp [firsts]
theorem firsts_succ (n : Nat) (p : Po) : firsts (n + 1) p = firsts n p ++ [p n] := by simp [firsts, List.range_succ]
theorem co_firsts (n : Nat) (p : Po) : co (firsts n p) = cut n p := by
  induction n with
  | zero => rw [cut_0]; rfl
  | succ n ih => rw [firsts_succ, co_snoc_mon, firsts_len, ih, cut_succ]
theorem tr_firsts {n m : Nat} {p : Po} (h : Lo n p) (h' : Lo m p) : tr (firsts n p) = mk m p :=
  mk_eq h' (tr_trd _) (by rw [co_tr, co_firsts, cut_lo h])
theorem tr_co {l : List F} {n : Nat} {p : Po} (h : Lo n p) (e : co l = p) : tr l = mk n p := mk_eq h (tr_trd l) (by rw [co_tr, e])

/-! ### Division, step by step -/
theorem cut_mon_lo {n k : Nat} {r b : Po} {last c : F} (hr : Lo (n + k + 1) r) (hb : Lo (k + 1) b) (hl : b k * last = 1) (hc : c = r (n + k) * last) : Lo (n + k) (ad r (cv (mon n c) b)) := fun i hi => by
  show r i + cv (mon n c) b i = 0
  rw [cv_mon, if_pos (by omega)]
  by_cases e : i = n + k
  · subst e
    rw [show n + k - n = k by omega, hc, F.mul_assoc, F.mul_comm last, hl, F.mul_one, F.add_self]
  · rw [hr i (by omega), hb (i - n) (by omega), F.mul_zero, F.zero_add]
theorem div_keep {a q r b : Po} (n : Nat) (c : F) (h : a = ad (cv q b) r) : a = ad (cv (ad q (mon n c)) b) (ad r (cv (mon n c) b)) := by
  rw [h, cv_ad_left]
  have : ad (ad (cv q b) (cv (mon n c) b)) (ad r (cv (mon n c) b)) = ad (ad (cv q b) r) (ad (cv (mon n c) b) (cv (mon n c) b)) := by ac_rfl
  rw [this, ad_self, ad_nul]
end Go.Proofs.Ytbbikkmmdedaiaa.Pr
