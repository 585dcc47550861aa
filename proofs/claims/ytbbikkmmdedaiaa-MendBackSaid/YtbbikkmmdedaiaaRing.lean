/- The plain law of polynomials over the field of bytes: their sums and products as functions of the index, lengths, values, slopes; no condition. -/
import Derived.Test.YtbbikkmmdedaiaaGfPlain
namespace Go.Proofs.Ytbbikkmmdedaiaa.Pr
open Go.Proofs.Ytbbikkmmdedaiaa.Gf

/-! ### The field -/
def F : Type := {x : Nat // x < 256}
namespace F
theorem ext {a b : F} (h : a.1 = b.1) : a = b := Subtype.ext h
instance : DecidableEq F := inferInstanceAs (DecidableEq {x : Nat // x < 256})
instance : Zero F := ⟨⟨0, by omega⟩⟩
instance : One F := ⟨⟨1, by omega⟩⟩
instance : Add F := ⟨fun a b => ⟨a.1 ^^^ b.1, xlt a.2 b.2⟩⟩
instance : Mul F := ⟨fun a b => ⟨mul a.1 b.1, mul_lt a.1 b.1 a.2⟩⟩
theorem val_zero : (0 : F).1 = 0 := rfl
theorem val_one : (1 : F).1 = 1 := rfl
theorem val_add (a b : F) : (a + b).1 = a.1 ^^^ b.1 := rfl
theorem val_mul (a b : F) : (a * b).1 = mul a.1 b.1 := rfl
theorem add_comm (a b : F) : a + b = b + a := ext (Nat.xor_comm _ _)
theorem add_assoc (a b c : F) : a + b + c = a + (b + c) := ext (Nat.xor_assoc _ _ _)
theorem add_zero (a : F) : a + 0 = a := ext (Nat.xor_zero _)
theorem zero_add (a : F) : 0 + a = a := ext (Nat.zero_xor _)
theorem add_self (a : F) : a + a = 0 := ext (Nat.xor_self _)
theorem mul_comm (a b : F) : a * b = b * a := ext (Gf.mul_comm _ _ a.2 b.2)
theorem mul_assoc (a b c : F) : a * b * c = a * (b * c) := ext (Gf.mul_assoc _ _ _ a.2 b.2)
theorem mul_one (a : F) : a * 1 = a := ext (Gf.mul_one _ a.2)
theorem one_mul (a : F) : 1 * a = a := by rw [mul_comm, mul_one]
theorem mul_zero (a : F) : a * 0 = 0 := ext (Gf.mul_zero _ a.2)
theorem zero_mul (a : F) : 0 * a = 0 := by rw [mul_comm, mul_zero]
theorem mul_add (a b c : F) : a * (b + c) = a * b + a * c := ext (mul_xor_right _ _ _)
theorem add_mul (a b c : F) : (a + b) * c = a * c + b * c := ext (mul_xor_left _ _ _ a.2 b.2)
instance : Std.Commutative (α := F) (· + ·) := ⟨add_comm⟩
instance : Std.Associative (α := F) (· + ·) := ⟨add_assoc⟩
instance : Std.Commutative (α := F) (· * ·) := ⟨mul_comm⟩
instance : Std.Associative (α := F) (· * ·) := ⟨mul_assoc⟩
def inv (a : F) : F := ⟨Gf.inv a.1, inv_lt a.1 a.2⟩
theorem mul_inv {a : F} (h : a ≠ 0) : a * inv a = 1 := ext (Gf.mul_inv a.1 a.2 (fun e => h (ext e)))
theorem add_eq {a b : F} (h : a + b = 0) : a = b := by
  have : a + b + b = 0 + b := by rw [h]
  rwa [add_assoc, add_self, add_zero, zero_add] at this
theorem add_cancel {a b c : F} (h : a + c = b + c) : a = b := by
  have : a + c + c = b + c + c := by rw [h]
  rwa [add_assoc, add_self, add_zero, add_assoc, add_self, add_zero] at this
theorem mul_ne {a b : F} (ha : a ≠ 0) (hb : b ≠ 0) : a * b ≠ 0 := by
  intro h
  have : inv a * (a * b) = 0 := by rw [h, mul_zero]
  rw [← mul_assoc, mul_comm (inv a) a, mul_inv ha, one_mul] at this
  exact hb this
theorem one_ne : (1 : F) ≠ 0 := by decide
theorem mul_cancel {a b c : F} (hc : c ≠ 0) (h : a * c = b * c) : a = b := by
  have : a * c * inv c = b * c * inv c := by rw [h]
  rwa [mul_assoc, mul_inv hc, mul_one, mul_assoc, mul_inv hc, mul_one] at this
end F

/-! ### Polynomials as functions -/
abbrev Po := Nat → F
def tl (p : Po) : Po := fun i => p (i + 1)
def nul : Po := fun _ => 0
def one : Po := fun i => if i = 0 then 1 else 0
def ad (p q : Po) : Po := fun i => p i + q i
def sm (c : F) (p : Po) : Po := fun i => c * p i
def cv : Po → Po → Nat → F
  | p, q, 0 => p 0 * q 0
  | p, q, n + 1 => p 0 * q (n + 1) + cv (tl p) q n
theorem ad_comm (p q : Po) : ad p q = ad q p := funext fun _ => F.add_comm _ _
theorem ad_assoc (p q r : Po) : ad (ad p q) r = ad p (ad q r) := funext fun _ => F.add_assoc _ _ _
theorem ad_nul (p : Po) : ad p nul = p := funext fun _ => F.add_zero _
theorem nul_ad (p : Po) : ad nul p = p := funext fun _ => F.zero_add _
theorem ad_self (p : Po) : ad p p = nul := funext fun _ => F.add_self _
instance : Std.Commutative (α := Po) ad := ⟨ad_comm⟩
instance : Std.Associative (α := Po) ad := ⟨ad_assoc⟩
theorem ad_eq {p q : Po} (h : ad p q = nul) : p = q := funext fun i => F.add_eq (congrFun h i)
theorem ad_cancel {p q r : Po} (h : ad p r = ad q r) : p = q := funext fun i => F.add_cancel (congrFun h i)
theorem ad_move {p q r : Po} (h : ad p q = r) : p = ad r q := by rw [← h, ad_assoc, ad_self, ad_nul]
theorem tl_ad (p q : Po) : tl (ad p q) = ad (tl p) (tl q) := rfl
theorem tl_sm (c : F) (p : Po) : tl (sm c p) = sm c (tl p) := rfl
theorem tl_nul : tl nul = nul := rfl
theorem tl_one : tl one = nul := funext fun i => by simp [tl, one, nul]
theorem tl_cv (p q : Po) : tl (cv p q) = ad (sm (p 0) (tl q)) (cv (tl p) q) := rfl
theorem cv_succ (p q : Po) (n : Nat) : cv p q (n + 1) = p 0 * q (n + 1) + cv (tl p) q n := rfl
theorem cv_0 (p q : Po) : cv p q 0 = p 0 * q 0 := rfl
theorem cv_nul_left (q : Po) : cv nul q = nul := by
  funext n
  induction n with
  | zero => exact F.zero_mul _
  | succ n ih => rw [cv_succ, tl_nul, ih]; show (0 : F) * _ + 0 = 0; rw [F.zero_mul, F.add_zero]
theorem cv_ad_left (p q r : Po) : cv (ad p q) r = ad (cv p r) (cv q r) := by
  funext n
  induction n generalizing p q with
  | zero => exact F.add_mul _ _ _
  | succ n ih =>
    show (p 0 + q 0) * r (n + 1) + cv (ad (tl p) (tl q)) r n = (p 0 * r (n + 1) + cv (tl p) r n) + (q 0 * r (n + 1) + cv (tl q) r n)
    rw [ih, F.add_mul]
    show _ + (cv (tl p) r n + cv (tl q) r n) = _
    ac_rfl
theorem cv_ad_right (p q r : Po) : cv p (ad q r) = ad (cv p q) (cv p r) := by
  funext n
  induction n generalizing p with
  | zero => exact F.mul_add _ _ _
  | succ n ih =>
    show p 0 * (q (n + 1) + r (n + 1)) + cv (tl p) (ad q r) n = (p 0 * q (n + 1) + cv (tl p) q n) + (p 0 * r (n + 1) + cv (tl p) r n)
    rw [ih, F.mul_add]
    show _ + (cv (tl p) q n + cv (tl p) r n) = _
    ac_rfl
theorem cv_sm_left (c : F) (p q : Po) : cv (sm c p) q = sm c (cv p q) := by
  funext n
  induction n generalizing p with
  | zero => exact F.mul_assoc _ _ _
  | succ n ih =>
    show c * p 0 * q (n + 1) + cv (sm c (tl p)) q n = c * (p 0 * q (n + 1) + cv (tl p) q n)
    rw [ih, F.mul_add, F.mul_assoc]
    rfl
theorem cv_assoc (p q r : Po) : cv (cv p q) r = cv p (cv q r) := by
  funext n
  induction n generalizing p q with
  | zero => exact F.mul_assoc _ _ _
  | succ n ih =>
    rw [cv_succ, tl_cv, cv_ad_left, cv_sm_left, cv_succ p]
    show p 0 * q 0 * r (n + 1) + (p 0 * cv (tl q) r n + cv (cv (tl p) q) r n) = p 0 * (q 0 * r (n + 1) + cv (tl q) r n) + cv (tl p) (cv q r) n
    rw [ih, F.mul_add, F.mul_assoc, F.add_assoc]
theorem cv_succ_right (p q : Po) (n : Nat) : cv p q (n + 1) = p (n + 1) * q 0 + cv p (tl q) n := by
  induction n generalizing p with
  | zero =>
    show p 0 * q 1 + p 1 * q 0 = p 1 * q 0 + p 0 * q 1
    exact F.add_comm _ _
  | succ n ih =>
    rw [cv_succ p q (n + 1), ih (tl p), cv_succ p (tl q) n]
    show p 0 * q (n + 1 + 1) + (p (n + 1 + 1) * q 0 + cv (tl p) (tl q) n) = p (n + 1 + 1) * q 0 + (p 0 * q (n + 1 + 1) + cv (tl p) (tl q) n)
    ac_rfl
theorem cv_comm (p q : Po) : cv p q = cv q p := by
  funext n
  induction n generalizing p q with
  | zero => exact F.mul_comm _ _
  | succ n ih => rw [cv_succ p q, cv_succ_right q p, ih, F.mul_comm]
instance : Std.Commutative (α := Po) cv := ⟨cv_comm⟩
instance : Std.Associative (α := Po) cv := ⟨cv_assoc⟩
theorem cv_nul_right (p : Po) : cv p nul = nul := by rw [cv_comm, cv_nul_left]
theorem cv_one_left (q : Po) : cv one q = q := by
  funext n
  cases n with
  | zero => exact F.one_mul _
  | succ n =>
    rw [cv_succ, tl_one, cv_nul_left]
    show (1 : F) * q (n + 1) + 0 = _
    rw [F.one_mul, F.add_zero]
theorem cv_one_right (p : Po) : cv p one = p := by rw [cv_comm, cv_one_left]
/-- a number as a polynomial -/
def con (c : F) : Po := fun i => if i = 0 then c else 0
theorem con_cv (c : F) (p : Po) : cv (con c) p = sm c p := by
  have : con c = sm c one := funext fun i => by
    unfold con sm one
    split
    · exact (F.mul_one c).symm
    · exact (F.mul_zero c).symm
  rw [this, cv_sm_left, cv_one_left]

/-! ### How long -/
def Lo (n : Nat) (p : Po) : Prop := ∀ i, n ≤ i → p i = 0
theorem Lo.mono {n m : Nat} {p : Po} (h : Lo n p) (hm : n ≤ m) : Lo m p := fun i hi => h i (by omega)
theorem Lo.tl {n : Nat} {p : Po} (h : Lo (n + 1) p) : Lo n (tl p) := fun i hi => h (i + 1) (by omega)
theorem Lo.zero {p : Po} (h : Lo 0 p) : p = nul := funext fun i => h i (by omega)
theorem Lo.ad {n : Nat} {p q : Po} (hp : Lo n p) (hq : Lo n q) : Lo n (ad p q) := fun i hi => by
  show p i + q i = 0
  rw [hp i hi, hq i hi, F.add_zero]
theorem Lo.sm {n : Nat} {p : Po} (c : F) (hp : Lo n p) : Lo n (sm c p) := fun i hi => by
  show c * p i = 0
  rw [hp i hi, F.mul_zero]
theorem Lo.nul (n : Nat) : Lo n nul := fun _ _ => rfl
theorem Lo.one : Lo 1 one := fun i hi => if_neg (by omega)
theorem Lo.con (c : F) : Lo 1 (con c) := fun i hi => if_neg (by omega)
theorem Lo.cv1 {n m : Nat} {p q : Po} (hp : Lo (n + 1) p) (hq : Lo m q) : Lo (n + m) (cv p q) := by
  induction n generalizing p with
  | zero =>
    intro i hi
    have ht : Pr.tl p = Pr.nul := hp.tl.zero
    cases i with
    | zero => rw [cv_0, hq 0 (by omega), F.mul_zero]
    | succ i => rw [cv_succ, ht, cv_nul_left, hq _ (by omega), F.mul_zero]; exact F.add_zero 0
  | succ n ih =>
    intro i hi
    cases i with
    | zero => omega
    | succ i => rw [cv_succ, hq _ (by omega), F.mul_zero, ih hp.tl i (by omega), F.add_zero]
theorem Lo.cv {n m : Nat} {p q : Po} (hp : Lo n p) (hq : Lo m q) : Lo (n + m) (cv p q) := by
  cases n with
  | zero => rw [hp.zero, cv_nul_left]; exact Lo.nul _
  | succ n => exact (hp.cv1 hq).mono (by omega)
theorem cv_top {n m : Nat} {p q : Po} (hp : Lo (n + 1) p) (hq : Lo (m + 1) q) : cv p q (n + m) = p n * q m := by
  induction n generalizing p with
  | zero =>
    have ht : tl p = nul := hp.tl.zero
    cases m with
    | zero => rfl
    | succ m => rw [Nat.zero_add, cv_succ, ht, cv_nul_left]; exact F.add_zero _
  | succ n ih =>
    rw [show n + 1 + m = (n + m) + 1 by omega, cv_succ, hq _ (by omega), F.mul_zero, ih hp.tl, F.zero_add]
    rfl
/-- its greatest index of a number that is not 0 -/
def Top (n : Nat) (p : Po) : Prop := Lo (n + 1) p ∧ p n ≠ 0
theorem Top.cv {n m : Nat} {p q : Po} (hp : Top n p) (hq : Top m q) : Top (n + m) (cv p q) :=
  ⟨(hp.1.cv1 hq.1), by rw [cv_top hp.1 hq.1]; exact F.mul_ne hp.2 hq.2⟩
theorem Top.ne {n : Nat} {p : Po} (h : Top n p) : p ≠ nul := fun e => h.2 (by rw [e]; rfl)
theorem top_or {n : Nat} {p : Po} (h : Lo n p) : p = nul ∨ ∃ m, m < n ∧ Top m p := by
  induction n with
  | zero => exact .inl h.zero
  | succ n ih =>
    by_cases e : p n = 0
    · have h2 : Lo n p := fun i hi => by
        by_cases e2 : i = n
        · rw [e2, e]
        · exact h i (by omega)
      rcases ih h2 with h3 | ⟨m, h3, h4⟩
      · exact .inl h3
      · exact .inr ⟨m, by omega, h4⟩
    · exact .inr ⟨n, by omega, h, e⟩
theorem Top.uniq {n m : Nat} {p : Po} (h : Top n p) (h' : Top m p) : n = m := by
  rcases Nat.lt_trichotomy n m with h1 | h1 | h1
  · exact absurd (h.1 m (by omega)) h'.2
  · exact h1
  · exact absurd (h'.1 n (by omega)) h.2
theorem Top.le {n m : Nat} {p : Po} (h : Top n p) (h' : Lo m p) : n < m := by
  rcases Nat.lt_or_ge n m with h1 | h1
  · exact h1
  · exact absurd (h' n h1) h.2
theorem Top.ad {n : Nat} {p q : Po} (hp : Top n p) (hq : Lo n q) : Top n (ad p q) :=
  ⟨hp.1.ad (hq.mono (by omega)), by show p n + q n ≠ 0; rw [hq n (by omega), F.add_zero]; exact hp.2⟩
theorem Top.sm {n : Nat} {p : Po} {c : F} (hp : Top n p) (hc : c ≠ 0) : Top n (sm c p) := ⟨hp.1.sm c, F.mul_ne hc hp.2⟩
theorem Top.one : Top 0 one := ⟨Lo.one, F.one_ne⟩
/-- a product that is 0 -/
theorem cv_eq_nul {n m : Nat} {p q : Po} (hp : Lo n p) (hq : Lo m q) (h : cv p q = nul) : p = nul ∨ q = nul := by
  rcases top_or hp with e | ⟨i, _, hi⟩
  · exact .inl e
  · rcases top_or hq with e | ⟨j, _, hj⟩
    · exact .inr e
    · exact absurd h (hi.cv hj).ne
theorem cv_cancel {n m k : Nat} {p q r : Po} (hp : Lo n p) (hq : Lo m q) (hr : Lo k r) (h0 : r ≠ nul) (h : cv p r = cv q r) : p = q := by
  have e : cv (ad p q) r = nul := by rw [cv_ad_left, h, ad_self]
  rcases cv_eq_nul (n := n + m) ((hp.mono (by omega)).ad (hq.mono (by omega))) hr e with h1 | h1
  · exact ad_eq h1
  · exact absurd h1 h0
/-- quotient and rest are one -/
theorem div_uniq {k n m : Nat} {q q' r r' b : Po} (hb : Top k b) (hq : Lo n q) (hq' : Lo m q') (hr : Lo k r) (hr' : Lo k r') (h : ad (cv q b) r = ad (cv q' b) r') : q = q' ∧ r = r' := by
  have h2 : cv (ad q q') b = ad r r' := by
    rw [cv_ad_left]
    have e : cv q b = ad (ad (cv q' b) r') r := by rw [← h, ad_assoc, ad_self, ad_nul]
    rw [e]
    have : ad (ad (ad (cv q' b) r') r) (cv q' b) = ad (ad (cv q' b) (cv q' b)) (ad r r') := by ac_rfl
    rw [this, ad_self, nul_ad]
  have h3 : ad q q' = nul := by
    rcases top_or (n := n + m) ((hq.mono (by omega)).ad (hq'.mono (by omega))) with e | ⟨i, _, hi⟩
    · exact e
    · have t := (hi.cv hb)
      rw [h2] at t
      have := t.le (hr.ad hr')
      omega
  refine ⟨ad_eq h3, ad_eq ?_⟩
  rw [← h2, h3, cv_nul_left]

/-! ### Values -/
def ev : Nat → Po → F → F
  | 0, _, _ => 0
  | n + 1, p, x => p 0 + x * ev n (tl p) x
theorem ev_nul (n : Nat) (x : F) : ev n nul x = 0 := by
  induction n with
  | zero => rfl
  | succ n ih => rw [ev, tl_nul, ih, F.mul_zero]; rfl
theorem ev_ad (n : Nat) (p q : Po) (x : F) : ev n (ad p q) x = ev n p x + ev n q x := by
  induction n generalizing p q with
  | zero => exact (F.add_zero 0).symm
  | succ n ih =>
    rw [ev, ev, ev, tl_ad, ih, F.mul_add]
    show p 0 + q 0 + _ = _
    ac_rfl
theorem ev_sm (n : Nat) (c : F) (p : Po) (x : F) : ev n (sm c p) x = c * ev n p x := by
  induction n generalizing p with
  | zero => exact (F.mul_zero c).symm
  | succ n ih =>
    rw [ev, ev, tl_sm, ih, F.mul_add]
    show c * p 0 + x * (c * _) = c * p 0 + c * (x * _)
    ac_rfl
theorem ev_lo {n m : Nat} {p : Po} (h : Lo n p) (hm : n ≤ m) (x : F) : ev m p x = ev n p x := by
  induction n generalizing p m with
  | zero => rw [h.zero, ev_nul]; rfl
  | succ n ih =>
    cases m with
    | zero => omega
    | succ m => rw [ev, ev, ih h.tl (by omega)]
theorem ev_cv {n m : Nat} {p q : Po} (hp : Lo n p) (hq : Lo m q) (x : F) : ev (n + m) (cv p q) x = ev n p x * ev m q x := by
  induction n generalizing p with
  | zero => rw [hp.zero, cv_nul_left, ev_nul]; exact (F.zero_mul _).symm
  | succ n ih =>
    have h1 : q 0 + x * ev (n + m) (tl q) x = ev m q x := ev_lo (m := n + m + 1) hq (by omega) x
    have h3 : p 0 * ev m q x = p 0 * q 0 + p 0 * (x * ev (n + m) (tl q) x) := by rw [← h1, F.mul_add]
    rw [show n + 1 + m = n + m + 1 by omega, ev, tl_cv, ev_ad, ev_sm, ih hp.tl, ev, cv_0, F.add_mul, F.mul_add, h3]
    ac_rfl

/-! ### Slopes -/
def sl (p : Po) : Po := fun i => if i % 2 = 0 then p (i + 1) else 0
theorem tl_sl (p : Po) : tl (sl p) = ad (tl (tl p)) (sl (tl p)) := by
  funext i
  show (if (i + 1) % 2 = 0 then p (i + 1 + 1) else 0) = p (i + 1 + 1) + (if i % 2 = 0 then p (i + 1 + 1) else 0)
  rcases Nat.mod_two_eq_zero_or_one i with h | h
  · rw [if_neg (by omega), if_pos h, F.add_self]
  · rw [if_pos (by omega), if_neg (by omega), F.add_zero]
theorem sl_0 (p : Po) : sl p 0 = p 1 := rfl
theorem sl_succ (p : Po) (n : Nat) : sl p (n + 1) = p (n + 2) + sl (tl p) n := congrFun (tl_sl p) n
theorem sl_ad (p q : Po) : sl (ad p q) = ad (sl p) (sl q) := by
  funext i
  show (if i % 2 = 0 then p (i + 1) + q (i + 1) else 0) = (if i % 2 = 0 then p (i + 1) else 0) + (if i % 2 = 0 then q (i + 1) else 0)
  by_cases h : i % 2 = 0
  · rw [if_pos h, if_pos h, if_pos h]
  · rw [if_neg h, if_neg h, if_neg h, F.add_zero]
theorem sl_sm (c : F) (p : Po) : sl (sm c p) = sm c (sl p) := by
  funext i
  show (if i % 2 = 0 then c * p (i + 1) else 0) = c * (if i % 2 = 0 then p (i + 1) else 0)
  by_cases h : i % 2 = 0
  · rw [if_pos h, if_pos h]
  · rw [if_neg h, if_neg h, F.mul_zero]
theorem sl_cv (p q : Po) : sl (cv p q) = ad (cv (sl p) q) (cv p (sl q)) := by
  funext n
  induction n generalizing p with
  | zero =>
    show p 0 * q 1 + p 1 * q 0 = p 1 * q 0 + p 0 * q 1
    exact F.add_comm _ _
  | succ n ih =>
    rw [sl_succ, tl_cv, sl_ad, sl_sm]
    show cv p q (n + 2) + (p 0 * sl (tl q) n + sl (cv (tl p) q) n) = cv (sl p) q (n + 1) + cv p (sl q) (n + 1)
    rw [ih, cv_succ (sl p), cv_succ p (sl q), tl_sl, cv_ad_left, sl_succ q, cv_succ p q (n + 1), cv_succ (tl p) q n]
    show p 0 * q (n + 2) + (p 1 * q (n + 1) + cv (tl (tl p)) q n) + (p 0 * sl (tl q) n + (cv (sl (tl p)) q n + cv (tl p) (sl q) n)) =
      p 1 * q (n + 1) + (cv (tl (tl p)) q n + cv (sl (tl p)) q n) + (p 0 * (q (n + 2) + sl (tl q) n) + cv (tl p) (sl q) n)
    rw [F.mul_add]
    ac_rfl
theorem Lo.sl {n : Nat} {p : Po} (h : Lo (n + 1) p) : Lo n (sl p) := fun i hi => by
  unfold Pr.sl
  split
  · exact h _ (by omega)
  · rfl
end Go.Proofs.Ytbbikkmmdedaiaa.Pr
