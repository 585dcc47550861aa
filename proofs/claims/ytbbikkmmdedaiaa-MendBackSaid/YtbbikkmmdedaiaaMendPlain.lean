/- The plain law of words whose errors are mended: few places apart, the rests of two polynomials give the data back; no condition. -/
import Derived.Test.YtbbikkmmdedaiaaLagPlain
namespace Go.Proofs.Ytbbikkmmdedaiaa.Pr
open Go.Proofs.Ytbbikkmmdedaiaa.Gf

/-- how many of the first n places differ -/
def ap (p q : Po) : Nat → Nat
  | 0 => 0
  | n + 1 => ap p q n + if p n = q n then 0 else 1
/-- the bytes at the places that differ -/
def errs (x p q : Po) : Nat → List F
  | 0 => []
  | n + 1 => if p n = q n then errs x p q n else x n :: errs x p q n
theorem errs_len (x p q : Po) (n : Nat) : (errs x p q n).length = ap p q n := by
  induction n with
  | zero => rfl
  | succ n ih =>
    unfold errs ap
    split
    · rw [ih]; rfl
    · rw [List.length_cons, ih]
theorem errs_mem (x p q : Po) (n i : Nat) (h : i < n) (hne : p i ≠ q i) : x i ∈ errs x p q n := by
  induction n with
  | zero => omega
  | succ n ih =>
    unfold errs
    by_cases e : i = n
    · subst e; rw [if_neg hne]; exact List.mem_cons_self
    · have := ih (by omega)
      split
      · exact this
      · exact List.mem_cons_of_mem _ this
theorem ap_le (p q : Po) (n : Nat) : ap p q n ≤ n := by
  induction n with
  | zero => exact Nat.le_refl _
  | succ n ih => unfold ap; split <;> omega
theorem ap_comm (p q : Po) (n : Nat) : ap p q n = ap q p n := by
  induction n with
  | zero => rfl
  | succ n ih =>
    unfold ap
    rw [ih]
    by_cases e : p n = q n
    · rw [if_pos e, if_pos e.symm]
    · rw [if_neg e, if_neg (Ne.symm e)]
theorem ap_congr (p q p' q' : Po) (n : Nat) (h : ∀ i, i < n → p i = p' i) (h' : ∀ i, i < n → q i = q' i) : ap p q n = ap p' q' n := by
  induction n with
  | zero => rfl
  | succ n ih => rw [ap, ap, ih (fun i hi => h i (by omega)) (fun i hi => h' i (by omega)), h n (by omega), h' n (by omega)]
theorem ap_zero (p q : Po) (n : Nat) : ap p q n = 0 ↔ ∀ i, i < n → p i = q i := by
  induction n with
  | zero => exact ⟨fun _ i hi => by omega, fun _ => rfl⟩
  | succ n ih =>
    unfold ap
    constructor
    · intro h i hi
      by_cases e : p n = q n
      · rw [if_pos e] at h
        by_cases e2 : i = n
        · rw [e2, e]
        · exact ih.1 (by omega) i (by omega)
      · rw [if_neg e] at h; omega
    · intro h
      rw [if_pos (h n (by omega)), ih.2 (fun i hi => h i (by omega))]

/-- a polynomial of its values: the word of a list at the points x -/
def vs (x f : List F) : Po := fun i => pe f (co x i)

/-- two lists no longer than k, both no further than t from a word: they are one -/
theorem near_uniq {x f f' : List F} {wd : Po} {k t : Nat} (hd : x.Nodup) (hf : f.length ≤ k) (hf' : f'.length ≤ k) (ht : 2 * t + k ≤ x.length)
    (h : ap (vs x f) wd x.length ≤ t) (h' : ap (vs x f') wd x.length ≤ t) : co f = co f' := by
  obtain ⟨E, hE⟩ : ∃ E, E = errs (co x) (vs x f) wd x.length := ⟨_, rfl⟩
  obtain ⟨E', hE'⟩ : ∃ E', E' = errs (co x) (vs x f') wd x.length := ⟨_, rfl⟩
  have hl : E.length ≤ t := by rw [hE, errs_len]; exact h
  have hl' : E'.length ≤ t := by rw [hE', errs_len]; exact h'
  have key : cv (co (zs E)) (cv (co (zs E')) (ad (co f) (co f'))) = nul := by
    have e : cv (co (zs E)) (cv (co (zs E')) (ad (co f) (co f'))) = co (pm (zs E) (pm (zs E') (pa f f'))) := by rw [co_pm, co_pm, co_pa]
    have hlo : Lo x.length (cv (co (zs E)) (cv (co (zs E')) (ad (co f) (co f')))) := by
      have h1 : Lo k (ad (co f) (co f')) := ((co_lo f).mono hf).ad ((co_lo f').mono hf')
      exact (((zs_top E).1.cv1 ((zs_top E').1.cv1 h1))).mono (by omega)
    refine roots_nul x _ hd hlo fun z hz => ?_
    have e2 := pe_lo hlo e.symm z
    rw [← e2, pe_pm, pe_pm, pe_pa]
    obtain ⟨i, hi, rfl⟩ := mem_co hz
    by_cases h1 : vs x f i = wd i
    · by_cases h2 : vs x f' i = wd i
      · have : pe f (co x i) + pe f' (co x i) = 0 := by
          have h3 : pe f (co x i) = pe f' (co x i) := h1.trans h2.symm
          rw [h3, F.add_self]
        rw [this, F.mul_zero, F.mul_zero]
      · have : pe (zs E') (co x i) = 0 := (zs_zero E' _).2 (by rw [hE']; exact errs_mem _ _ _ _ i hi h2)
        rw [this, F.zero_mul, F.mul_zero]
    · have : pe (zs E) (co x i) = 0 := (zs_zero E _).2 (by rw [hE]; exact errs_mem _ _ _ _ i hi h1)
      rw [this, F.zero_mul]
  have h3 : Lo k (ad (co f) (co f')) := ((co_lo f).mono hf).ad ((co_lo f').mono hf')
  rcases cv_eq_nul (zs_top E).1 ((zs_top E').1.cv h3) key with h4 | h4
  · exact absurd h4 (zs_top E).ne
  · rcases cv_eq_nul (zs_top E').1 h3 h4 with h5 | h5
    · exact absurd h5 (zs_top E').ne
    · exact ad_eq h5

/-- what a rest and its factor keep: rest = u g0 + by g1 -/
def Comb (g0 g1 : Po) (r b : List F) : Prop := ∃ u : Po, ∃ N, Lo N u ∧ co r = ad (cv u g0) (cv (co b) g1)
theorem Comb.first (g0 g1 : List F) : Comb (co g0) (co g1) g0 [] := ⟨one, 1, Lo.one, by rw [cv_one_left, co_nil, cv_nul_left, ad_nul]⟩
theorem Comb.second (g0 g1 : List F) : Comb (co g0) (co g1) g1 [1] := ⟨nul, 0, Lo.nul 0, by rw [cv_nul_left, co_one, cv_one_left, nul_ad]⟩
theorem Comb.step {g0 g1 : Po} {ar ab br bb q r : List F} (ha : Comb g0 g1 ar ab) (hb : Comb g0 g1 br bb) (h : Qr ar br q r) : Comb g0 g1 r (pa ab (pm q bb)) := by
  obtain ⟨u, N, hu, ea⟩ := ha
  obtain ⟨v, M, hv, eb⟩ := hb
  refine ⟨ad u (cv (co q) v), N + (q.length + M), (hu.mono (by omega)).ad (((co_lo q).cv hv).mono (by omega)), ?_⟩
  have e : co r = ad (co ar) (cv (co q) (co br)) := by
    rw [h.2.2.1]
    have : ad (ad (cv (co q) (co br)) (co r)) (cv (co q) (co br)) = ad (ad (cv (co q) (co br)) (cv (co q) (co br))) (co r) := by ac_rfl
    rw [this, ad_self, nul_ad]
  rw [e, ea, eb, co_pa, co_pm, cv_ad_left, cv_ad_left, cv_ad_right, ← cv_assoc, ← cv_assoc]
  ac_rfl

/-- the state of the rests: lengths -/
def Gs (n : Nat) (g0 g1 : Po) (ar ab br bb : List F) : Prop :=
  Comb g0 g1 ar ab ∧ Comb g0 g1 br bb ∧ Trd ar ∧ Trd br ∧ Trd bb ∧ br.length < ar.length ∧ ab.length < bb.length ∧ ar.length + bb.length = n + 2
theorem Gs.first {x g1 : List F} (h1 : Trd g1) (hl : g1.length ≤ x.length) : Gs x.length (co (zs x)) (co g1) (zs x) [] g1 [1] :=
  ⟨Comb.first _ _, Comb.second _ _, zs_trd x, h1, trd_one, by rw [zs_len]; omega, by simp, by rw [zs_len]; rfl⟩
theorem Gs.step {n : Nat} {g0 g1 : Po} {ar ab br bb q r : List F} (h : Gs n g0 g1 ar ab br bb) (hq : Qr ar br q r) : Gs n g0 g1 br bb r (pa ab (pm q bb)) := by
  obtain ⟨ha, hb, ta, tb, tbb, h1, h2, h3⟩ := h
  have hr : r.length < br.length := by have := hq.2.2.2; have := tr_len br; omega
  obtain ⟨B, hB⟩ : ∃ B, br.length = B + 1 := ⟨br.length - 1, by omega⟩
  obtain ⟨A, hA⟩ : ∃ A, ar.length = A + 1 := ⟨ar.length - 1, by omega⟩
  obtain ⟨D, hD⟩ : ∃ D, bb.length = D + 1 := ⟨bb.length - 1, by omega⟩
  have topA := ta.top hA
  have topB := tb.top hB
  have topD := tbb.top hD
  -- the quotient's length
  have hqt : Top (A - B) (co q) := by
    rcases hq.1.or with e | ⟨m, hm, ht⟩
    · exfalso
      have e2 := hq.2.2.1
      rw [e, co_nil, cv_nul_left, nul_ad] at e2
      rw [e2] at topA
      have := topA.le (co_lo r)
      omega
    · have h4 : Top (m + B) (ad (cv (co q) (co br)) (co r)) := (ht.cv topB).ad ((co_lo r).mono (by omega))
      rw [← hq.2.2.1] at h4
      have := h4.uniq topA
      rw [show A - B = m by omega]
      exact ht
  have hnew : Top (A - B + D) (co (pa ab (pm q bb))) := by
    rw [co_pa, co_pm, ad_comm]
    exact (hqt.cv topD).ad ((co_lo ab).mono (by omega))
  have hlen := (pa_trd ab (pm q bb)).len hnew
  exact ⟨hb, ha.step hb hq, tb, hq.2.1, pa_trd _ _, hr, by omega, by omega⟩
/-- at the end of the rests: data that are near come back -/
theorem Gs.near {x g1 ar ab br bb f : List F} {wd : Po} {k t : Nat} (hd : x.Nodup) (h : Gs x.length (co (zs x)) (co g1) ar ab br bb) (hg : ∀ i, i < x.length → pe g1 (co x i) = wd i)
    (hf : f.length ≤ k) (hk : 1 ≤ k) (ht : 2 * t + k ≤ x.length) (hA : x.length + k + 2 ≤ 2 * ar.length) (hB : 2 * br.length < x.length + k + 2) (hap : ap (vs x f) wd x.length ≤ t) : Qr br bb (tr f) [] := by
  obtain ⟨ha, ⟨u, N, hu, eb⟩, ta, tb, tbb, h1, h2, h3⟩ := h
  obtain ⟨D, hD⟩ : ∃ D, bb.length = D + 1 := ⟨bb.length - 1, by omega⟩
  have topD := tbb.top hD
  obtain ⟨E, hE⟩ : ∃ E, E = errs (co x) (vs x f) wd x.length := ⟨_, rfl⟩
  have hl : E.length ≤ t := by rw [hE, errs_len]; exact hap
  obtain ⟨j, rfl⟩ : ∃ j, k = j + 1 := ⟨k - 1, by omega⟩
  have hlo0 : Lo (max (j + (D + 1)) br.length) (ad (cv (co f) (co bb)) (co br)) :=
    ((((co_lo f).mono hf).cv1 topD.1).mono (by omega)).ad ((co_lo br).mono (by omega))
  have key : cv (co (zs E)) (ad (cv (co f) (co bb)) (co br)) = nul := by
    have hlo : Lo x.length (cv (co (zs E)) (ad (cv (co f) (co bb)) (co br))) := ((zs_top E).1.cv1 hlo0).mono (by omega)
    have e : co (pm (zs E) (pa (pm f bb) br)) = cv (co (zs E)) (ad (cv (co f) (co bb)) (co br)) := by rw [co_pm, co_pa, co_pm]
    refine roots_nul x _ hd hlo fun z hz => ?_
    rw [← pe_lo hlo e z, pe_pm, pe_pa, pe_pm]
    obtain ⟨i, hi, rfl⟩ := mem_co hz
    by_cases h4 : vs x f i = wd i
    · have h5 : pe br (co x i) = pe bb (co x i) * wd i := by
        have hm : co (mk N u) = u := co_mk hu
        have e2 : co br = co (pa (pm (mk N u) (zs x)) (pm bb g1)) := by rw [co_pa, co_pm, co_pm, hm, eb]
        rw [pe_congr e2, pe_pa, pe_pm, pe_pm, (zs_zero x _).2 (co_mem hi), F.mul_zero, F.zero_add, hg i hi]
      have h6 : pe f (co x i) = wd i := h4
      rw [h5, h6, F.mul_comm (wd i), F.add_self, F.mul_zero]
    · have : pe (zs E) (co x i) = 0 := (zs_zero E _).2 (by rw [hE]; exact errs_mem _ _ _ _ i hi h4)
      rw [this, F.zero_mul]
  have h7 : cv (co f) (co bb) = co br := by
    rcases cv_eq_nul (zs_top E).1 hlo0 key with h8 | h8
    · exact absurd h8 (zs_top E).ne
    · exact ad_eq h8
  refine ⟨tr_trd f, Trd.nil, by rw [co_tr, h7, co_nil, ad_nul], ?_⟩
  rw [tr_of tbb, hD]; simp
end Go.Proofs.Ytbbikkmmdedaiaa.Pr
