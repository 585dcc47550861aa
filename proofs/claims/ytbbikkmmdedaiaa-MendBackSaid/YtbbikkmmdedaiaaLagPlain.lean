/- The plain law of polynomials through points: zeros, their number, what is 0 at given bytes, the one through points; no condition. -/
import Derived.Test.YtbbikkmmdedaiaaPoLists
namespace Go.Proofs.Ytbbikkmmdedaiaa.Pr
open Go.Proofs.Ytbbikkmmdedaiaa.Gf

def lin (z : F) : Po := co [z, 1]
theorem lin_0 (z : F) : lin z 0 = z := rfl
theorem tl_lin (z : F) : tl (lin z) = one := by
  show co [1] = one
  exact co_one
theorem Lo.lin (z : F) : Lo 2 (lin z) := co_lo [z, 1]
theorem Top.lin (z : F) : Top 1 (lin z) := ⟨Lo.lin z, F.one_ne⟩
theorem pe_lin (z x : F) : pe [z, 1] x = z + x := by
  rw [pe_cons, pe_cons, pe_nil, F.mul_zero, F.add_zero, F.mul_one]
theorem cv_lin_0 (z : F) (q : Po) : cv (lin z) q 0 = z * q 0 := rfl
theorem cv_lin_succ (z : F) (q : Po) (i : Nat) : cv (lin z) q (i + 1) = z * q (i + 1) + q i := by
  rw [cv_succ, tl_lin, cv_one_left]
  rfl
/-- what is left of a polynomial behind a zero -/
def dvz (n : Nat) (p : Po) (z : F) : Po := fun i => ev n (fun j => p (j + i + 1)) z
theorem ev_one_more {n : Nat} {p : Po} (h : Lo n p) (z : F) : ev n p z = p 0 + z * ev n (tl p) z := by
  rw [← ev_lo h (show n ≤ n + 1 by omega) z]
  rfl
theorem dvz_lo {n : Nat} {p : Po} (h : Lo (n + 1) p) (m : Nat) (z : F) : Lo n (dvz m p z) := fun i hi => by
  have : (fun j => p (j + i + 1)) = nul := funext fun j => h _ (by omega)
  show ev m (fun j => p (j + i + 1)) z = 0
  rw [this, ev_nul]
theorem synth {n : Nat} {p : Po} (h : Lo n p) (z : F) : p = ad (con (ev n p z)) (cv (lin z) (dvz n p z)) := by
  funext i
  cases i with
  | zero =>
    show p 0 = ev n p z + z * ev n (fun j => p (j + 0 + 1)) z
    rw [ev_one_more h z]
    show p 0 = p 0 + z * ev n (tl p) z + z * ev n (tl p) z
    rw [F.add_assoc, F.add_self, F.add_zero]
  | succ i =>
    show p (i + 1) = con (ev n p z) (i + 1) + cv (lin z) (dvz n p z) (i + 1)
    rw [cv_lin_succ]
    have h1 : dvz n p z i = p (i + 1) + z * dvz n p z (i + 1) := by
      have hl : Lo n (fun j => p (j + i + 1)) := fun j hj => h _ (by omega)
      show ev n (fun j => p (j + i + 1)) z = p (i + 1) + z * ev n (fun j => p (j + (i + 1) + 1)) z
      rw [ev_one_more hl z]
      have : tl (fun j => p (j + i + 1)) = fun j => p (j + (i + 1) + 1) := funext fun j => by
        show p (j + 1 + i + 1) = p (j + (i + 1) + 1)
        congr 1; omega
      rw [this]
      simp only [Nat.zero_add]
    rw [h1]
    show p (i + 1) = 0 + (z * dvz n p z (i + 1) + (p (i + 1) + z * dvz n p z (i + 1)))
    rw [F.zero_add, F.add_comm (p (i + 1)), ← F.add_assoc, F.add_self, F.zero_add]
/-- a polynomial with a zero -/
theorem factor {n : Nat} {p : Po} (h : Lo (n + 1) p) {z : F} (h0 : ev (n + 1) p z = 0) : ∃ q, Lo n q ∧ p = cv (lin z) q := by
  refine ⟨dvz (n + 1) p z, dvz_lo h _ z, ?_⟩
  have := synth h z
  rw [h0] at this
  have e : con 0 = nul := funext fun i => by unfold con nul; split <;> rfl
  rw [e, nul_ad] at this
  exact this
theorem ev_lin_cv {n : Nat} {q : Po} (h : Lo n q) (z x : F) : ev (n + 1) (cv (lin z) q) x = (z + x) * ev n q x := by
  have h1 : Lo (1 + n) (cv (lin z) q) := (Lo.lin z).cv1 h
  have h2 := ev_cv (Lo.lin z) h x
  have h3 : ev 2 (lin z) x = z + x := pe_lin z x
  rw [h3] at h2
  rw [← h2]
  exact (ev_lo (h1.mono (show 1 + n ≤ n + 1 by omega)) (by omega) x).symm
/-- more zeros than it is long: it is 0 -/
theorem roots_nul : ∀ (xs : List F) (p : Po), xs.Nodup → Lo xs.length p → (∀ z, z ∈ xs → ev xs.length p z = 0) → p = nul
  | [], p, _, h, _ => h.zero
  | z :: xs, p, hd, h, hz => by
    obtain ⟨q, hq, rfl⟩ := factor h (hz z (by simp))
    have hn := List.nodup_cons.1 hd
    have : q = nul := roots_nul xs q hn.2 hq fun y hy => by
      have h1 := hz y (by simp [hy])
      rw [List.length_cons, ev_lin_cv hq] at h1
      have hne : z + y ≠ 0 := fun e => hn.1 (by rw [F.add_eq e]; exact hy)
      by_cases e : ev xs.length q y = 0
      · exact e
      · exact absurd h1 (F.mul_ne hne e)
    rw [this, cv_nul_right]
/-- two short lists of the same values are one polynomial -/
theorem interp_uniq {xs l m : List F} (hd : xs.Nodup) (hl : l.length ≤ xs.length) (hm : m.length ≤ xs.length) (h : ∀ z, z ∈ xs → pe l z = pe m z) : co l = co m := by
  apply ad_eq
  refine roots_nul xs _ hd (((co_lo l).mono hl).ad ((co_lo m).mono hm)) fun z hz => ?_
  rw [ev_ad, ev_lo (co_lo l) hl, ev_lo (co_lo m) hm]
  show pe l z + pe m z = 0
  rw [h z hz, F.add_self]

/-! ### What is 0 at given bytes -/
def zf (o : List F) (xs : List F) : List F := xs.foldl (fun o z => pm o [z, 1]) o
def zs (xs : List F) : List F := zf [1] xs
theorem zf_snoc (o xs : List F) (z : F) : zf o (xs ++ [z]) = pm (zf o xs) [z, 1] := by simp [zf]
theorem pm_lin_top {o : List F} (h : Trd o) {n : Nat} (hn : o.length = n + 1) (z : F) : (pm o [z, 1]).length = n + 2 := by
  refine (pm_trd o [z, 1]).len (n := n + 1) ?_
  rw [co_pm]
  exact (h.top hn).cv (Top.lin z)
theorem zf_len : ∀ (xs o : List F) (n : Nat), Trd o → o.length = n + 1 → (zf o xs).length = n + 1 + xs.length ∧ Trd (zf o xs)
  | [], o, n, h, hn => ⟨by show o.length = _; rw [hn]; rfl, h⟩
  | z :: xs, o, n, h, hn => by
    obtain ⟨h1, h2⟩ := zf_len xs (pm o [z, 1]) (n + 1) (pm_trd _ _) (pm_lin_top h hn z)
    exact ⟨by
      show (zf (pm o [z, 1]) xs).length = _
      rw [h1, List.length_cons]; omega, h2⟩
theorem trd_one : Trd [1] := .inr F.one_ne
theorem zs_len (xs : List F) : (zs xs).length = xs.length + 1 := by
  have := (zf_len xs [1] 0 trd_one rfl).1
  unfold zs; omega
theorem zs_trd (xs : List F) : Trd (zs xs) := (zf_len xs [1] 0 trd_one rfl).2
theorem zs_top (xs : List F) : Top xs.length (co (zs xs)) := (zs_trd xs).top (zs_len xs)
theorem zf_zero : ∀ (xs o : List F) (x : F), pe (zf o xs) x = 0 ↔ pe o x = 0 ∨ x ∈ xs
  | [], o, x => by simp [zf]
  | z :: xs, o, x => by
    show pe (zf (pm o [z, 1]) xs) x = 0 ↔ _
    rw [zf_zero xs (pm o [z, 1]) x, pe_pm, pe_lin, List.mem_cons]
    constructor
    · rintro (h | h)
      · by_cases e : pe o x = 0
        · exact .inl e
        · by_cases e2 : z + x = 0
          · exact .inr (.inl (F.add_eq e2).symm)
          · exact absurd h (F.mul_ne e e2)
      · exact .inr (.inr h)
    · rintro (h | h | h)
      · left; rw [h, F.zero_mul]
      · left; subst h; rw [F.add_self, F.mul_zero]
      · exact .inr h
theorem pe_one (x : F) : pe [1] x = 1 := by rw [pe_cons, pe_nil, F.mul_zero, F.add_zero]
theorem zs_zero (xs : List F) (x : F) : pe (zs xs) x = 0 ↔ x ∈ xs := by
  unfold zs
  rw [zf_zero, pe_one]
  constructor
  · rintro (h | h)
    · exact absurd h F.one_ne
    · exact h
  · exact .inr

/-! ### One of the parts -/
theorem con_zero : con 0 = nul := funext fun i => by unfold con nul; split <;> rfl
theorem short_con {r : List F} (h : r.length < 2) : co r = con (co r 0) := funext fun i => by
  unfold con
  split
  · rename_i e; rw [e]
  · exact co_out _ _ (by omega)
theorem pe_short {r : List F} (h : r.length < 2) (x : F) : pe r x = co r 0 := by
  match r, h with
  | [], _ => rfl
  | [a], _ => rw [pe_cons, pe_nil, F.mul_zero, F.add_zero]; rfl
theorem tr_lin (z : F) : tr [z, 1] = [z, 1] := tr_of (.lin z)
/-- the quotient by X + z of what is 0 at z -/
theorem part_q {all q r : List F} {z : F} (h : Qr all [z, 1] q r) (h0 : pe all z = 0) : r = [] ∧ co all = cv (co q) (lin z) := by
  obtain ⟨hq, hr, e, hl⟩ := h
  rw [tr_lin] at hl
  have hl2 : r.length < 2 := hl
  have h1 : pe all z = pe q z * (z + z) + pe r z := by
    have : co all = co (pa (pm q [z, 1]) r) := by rw [co_pa, co_pm, e]
    rw [pe_congr this, pe_pa, pe_pm, pe_lin]
  rw [h0, F.add_self, F.mul_zero, F.zero_add, pe_short hl2] at h1
  have h2 : co r = nul := by rw [short_con hl2, ← h1, con_zero]
  refine ⟨hr.eq_nil h2, ?_⟩
  rw [e, h2, ad_nul]
  rfl
/-- its values: 0 at the others, not 0 at z -/
theorem part_vals {xs q r : List F} {z : F} (hd : xs.Nodup) (hz : z ∈ xs) (h : Qr (zs xs) [z, 1] q r) : q.length = xs.length ∧ (∀ y, y ∈ xs → y ≠ z → pe q y = 0) ∧ pe q z ≠ 0 := by
  have hp := part_q h ((zs_zero xs z).2 hz)
  have hlen : q.length = xs.length := by
    rcases h.1.or with e | ⟨n, hn, ht⟩
    · exfalso
      have := hp.2
      rw [e, co_nil, cv_nul_left] at this
      exact (zs_top xs).ne this
    · have h2 := ht.cv (Top.lin z)
      rw [← hp.2] at h2
      have := h2.uniq (zs_top xs)
      omega
  have h0 : ∀ y, y ∈ xs → y ≠ z → pe q y = 0 := by
    intro y hy hne
    have e : co (zs xs) = co (pm q [z, 1]) := by rw [co_pm]; exact hp.2
    have h3 := (zs_zero xs y).2 hy
    rw [pe_congr e, pe_pm, pe_lin] at h3
    by_cases e2 : pe q y = 0
    · exact e2
    · exact absurd h3 (F.mul_ne e2 fun e3 => hne (F.add_eq e3).symm)
  refine ⟨hlen, h0, fun hz0 => ?_⟩
  have : co q = nul := by
    refine roots_nul xs _ hd (by rw [← hlen]; exact co_lo q) fun y hy => ?_
    rw [← hlen]
    by_cases e : y = z
    · rw [e]; exact hz0
    · exact h0 y hy e
  have e := hp.2
  rw [this, cv_nul_left] at e
  exact (zs_top xs).ne e
theorem pe_con (c x : F) : pe [c] x = c := by rw [pe_cons, pe_nil, F.mul_zero, F.add_zero]
theorem pm_con_len (l : List F) (c : F) : (pm l [c]).length ≤ l.length := by
  refine (pm_trd l [c]).len_le ?_
  rw [co_pm, cv_comm]
  have := (co_lo [c]).cv1 (co_lo l) (n := 0)
  simpa using this
theorem pm_two_len (l : List F) (a b : F) : (pm l [a, b]).length ≤ l.length + 1 := by
  refine (pm_trd l [a, b]).len_le ?_
  rw [co_pm, cv_comm]
  have := (co_lo [a, b]).cv1 (co_lo l) (n := 1)
  rw [Nat.add_comm] at this
  exact this

/-- a list through points -/
def Thr (x y l : List F) : Prop := Trd l ∧ l.length ≤ x.length ∧ ∀ i, i < x.length → pe l (co x i) = co y i
theorem mem_co {x : List F} {z : F} (h : z ∈ x) : ∃ i, i < x.length ∧ co x i = z := by
  obtain ⟨i, hi, rfl⟩ := List.getElem_of_mem h
  exact ⟨i, hi, co_in x i hi⟩
theorem co_mem {x : List F} {i : Nat} (h : i < x.length) : co x i ∈ x := by rw [co_in x i h]; exact List.getElem_mem h
theorem Thr.uniq {x y l m : List F} (hd : x.Nodup) (hl : Thr x y l) (hm : Thr x y m) : l = m :=
  trd_ext hl.1 hm.1 (interp_uniq hd hl.2.1 hm.2.1 fun z hz => by
    obtain ⟨i, hi, rfl⟩ := mem_co hz
    rw [hl.2.2 i hi, hm.2.2 i hi])
theorem nodup_co {x : List F} (hd : x.Nodup) {i j : Nat} (hi : i < x.length) (hj : j < x.length) (h : co x i = co x j) : i = j := by
  rw [co_in x i hi, co_in x j hj] at h
  exact (List.getElem_inj hd).1 h
end Go.Proofs.Ytbbikkmmdedaiaa.Pr
