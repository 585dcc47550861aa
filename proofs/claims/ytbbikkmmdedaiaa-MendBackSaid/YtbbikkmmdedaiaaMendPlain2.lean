/- The plain law of mended words, at the powers of 2: words of data, what is near a word; no condition. -/
import Derived.Test.YtbbikkmmdedaiaaMendPlain
import Derived.Test.YtbbikkmmdedaiaaPoCuts
namespace Go.Proofs.Ytbbikkmmdedaiaa.Pr
open Go.Proofs.Ytbbikkmmdedaiaa.Gf

/-- the powers of 2 -/
def pw (i : Nat) : F := ⟨pow2 i, pow2_lt i⟩
theorem pw_0 : pw 0 = 1 := rfl
theorem pw_succ (i : Nat) : pw (i + 1) = pw i * ⟨2, by omega⟩ := F.ext (mul_two (pow2 i) (pow2_lt i)).symm
theorem pw_inj {i j : Nat} (hi : i < 255) (hj : j < 255) (h : pw i = pw j) : i = j := by
  rw [← log_pow2 i hi, ← log_pow2 j hj]
  exact congrArg log (congrArg Subtype.val h)
/-- the places of a word -/
def pls (n : Nat) : List F := firsts n pw
theorem pls_len (n : Nat) : (pls n).length = n := firsts_len n pw
theorem firsts_at (n : Nat) (p : Po) (i : Nat) (h : i < n) : co (firsts n p) i = p i := by
  rw [co_firsts]
  exact if_pos h
theorem pls_at (n i : Nat) (h : i < n) : co (pls n) i = pw i := firsts_at n pw i h
theorem firsts_nodup {n : Nat} {p : Po} (h : ∀ i j, i < n → j < n → p i = p j → i = j) : (firsts n p).Nodup := by
  induction n with
  | zero => exact List.nodup_nil
  | succ n ih =>
    rw [firsts_succ, List.nodup_append]
    refine ⟨ih fun i j hi hj e => h i j (by omega) (by omega) e, by simp, fun a ha b hb => ?_⟩
    simp at hb
    subst hb
    obtain ⟨i, hi, rfl⟩ := List.getElem_of_mem ha
    rw [firsts_len] at hi
    intro e
    have h2 : p i = p n := by
      rw [← e, ← co_in _ _ (by rw [firsts_len]; exact hi), firsts_at n p i hi]
    have := h i n (by omega) (by omega) h2
    omega
theorem pls_nodup {n : Nat} (h : n ≤ 255) : (pls n).Nodup := firsts_nodup fun i j hi hj e => pw_inj (by omega) (by omega) e
/-- the word of data -/
def wd (f : List F) (n : Nat) : List F := firsts n fun i => pe f (pw i)
theorem wd_len (f : List F) (n : Nat) : (wd f n).length = n := firsts_len n _
theorem wd_at (f : List F) (n i : Nat) (h : i < n) : co (wd f n) i = pe f (pw i) := firsts_at n _ i h
theorem vs_pls (f : List F) (n i : Nat) (h : i < n) : vs (pls n) f i = co (wd f n) i := by
  unfold vs
  rw [pls_at n i h, wd_at f n i h]
/-- how many places of a word are other ones than data's -/
def off (f wo : List F) : Nat := ap (co (wd f wo.length)) (co wo) wo.length
theorem off_vs (f wo : List F) : ap (vs (pls wo.length) f) (co wo) (pls wo.length).length = off f wo := by
  unfold off
  rw [pls_len]
  exact ap_congr _ _ _ _ _ (fun i hi => vs_pls f _ i hi) fun _ _ => rfl
def Near (wo : List F) (k : Nat) (f : List F) : Prop := f.length = k ∧ off f wo ≤ (wo.length - k) / 2
theorem Near.uniq {wo f f' : List F} {k : Nat} (hn : wo.length ≤ 255) (hk : k ≤ wo.length) (h : Near wo k f) (h' : Near wo k f') : f = f' := by
  refine ext_co (by rw [h.1, h'.1]) ?_
  refine near_uniq (x := pls wo.length) (wd := co wo) (k := k) (t := (wo.length - k) / 2) (pls_nodup hn) (Nat.le_of_eq h.1) (Nat.le_of_eq h'.1) (by rw [pls_len]; omega) ?_ ?_
  · rw [off_vs]; exact h.2
  · rw [off_vs]; exact h'.2
/-- a list made as long as k -/
def pad (k : Nat) (q : List F) : List F := firsts k (co q)
theorem pad_len (k : Nat) (q : List F) : (pad k q).length = k := firsts_len k _
theorem co_pad {k : Nat} {q : List F} (h : q.length ≤ k) : co (pad k q) = co q := by
  unfold pad
  rw [co_firsts]
  exact cut_lo ((co_lo q).mono h)
theorem pad_of {k : Nat} {q f : List F} (hf : f.length = k) (hq : co q = co f) (hl : q.length ≤ k) : pad k q = f :=
  ext_co (by rw [pad_len, hf]) (by rw [co_pad hl, hq])
theorem pad_tr {f : List F} : pad f.length (tr f) = f := pad_of rfl (co_tr f) (tr_len f)
theorem pad_eq {k : Nat} {q : List F} (h : q.length ≤ k) : pad k q = q ++ List.replicate (k - q.length) 0 := by
  refine ext_co (by rw [pad_len]; simp; omega) ?_
  rw [co_pad h]
  funext i
  unfold co
  simp only [List.getD, List.getElem?_append, List.getElem?_replicate]
  by_cases e : i < q.length
  · rw [if_pos e]
  · rw [if_neg e, List.getElem?_eq_none (by omega)]
    split <;> rfl
/-- what was guessed, or that there is none that is near -/
def GuessNo (wo : List F) (k : Nat) : Prop := ∀ f, ¬ Near wo k f
def GuessYes (wo : List F) (k : Nat) (d : List F) : Prop := d.length = k ∧ ∀ f, Near wo k f → d = f
theorem guess_of {wo g1 ar ab br bb q r : List F} {k : Nat} (hn : wo.length ≤ 255) (hk : 1 ≤ k) (hkn : k ≤ wo.length) (h : Gs wo.length (co (zs (pls wo.length))) (co g1) ar ab br bb) (hg : Thr (pls wo.length) wo g1)
    (hA : wo.length + k + 2 ≤ 2 * ar.length) (hB : 2 * br.length < wo.length + k + 2) (hq : Qr br bb q r) : ∀ f, Near wo k f → q = tr f ∧ r = [] := by
  intro f hf
  have hq2 := Gs.near (x := pls wo.length) (g1 := g1) (wd := co wo) (f := f) (k := k) (t := (wo.length - k) / 2) (pls_nodup hn) (by rw [pls_len]; exact h) hg.2.2 (Nat.le_of_eq hf.1) hk (by rw [pls_len]; omega)
    (by rw [pls_len]; exact hA) (by rw [pls_len]; exact hB) (by rw [off_vs]; exact hf.2)
  exact hq.uniq hq2
theorem guess_no {wo q r : List F} {k : Nat} (h : ∀ f, Near wo k f → q = tr f ∧ r = []) (hb : r ≠ [] ∨ k < q.length) : GuessNo wo k := by
  intro f hf
  obtain ⟨h1, h2⟩ := h f hf
  rcases hb with h3 | h3
  · exact h3 h2
  · rw [h1] at h3
    have := tr_len f
    have := hf.1
    omega
theorem guess_yes {wo q r : List F} {k : Nat} (h : ∀ f, Near wo k f → q = tr f ∧ r = []) (hl : q.length ≤ k) : GuessYes wo k (pad k q) :=
  ⟨pad_len _ _, fun f hf => pad_of hf.1 (by rw [(h f hf).1, co_tr]) hl⟩
/-- a word as it stands -/
theorem off_zero {f wo : List F} : off f wo = 0 ↔ wd f wo.length = wo := by
  unfold off
  rw [ap_zero]
  constructor
  · intro h
    refine ext_co (wd_len _ _) (funext fun i => ?_)
    by_cases e : i < wo.length
    · exact h i e
    · rw [co_out _ _ (by rw [wd_len]; omega), co_out _ _ (by omega)]
  · intro h i _
    rw [h]
theorem thr_wd {f wo : List F} (h : f.length ≤ wo.length) (h0 : off f wo = 0) : Thr (pls wo.length) wo (tr f) := by
  refine ⟨tr_trd f, by rw [pls_len]; exact Nat.le_trans (tr_len f) h, fun i hi => ?_⟩
  rw [pls_len] at hi
  have e := off_zero.1 h0
  have : co wo i = co (wd f wo.length) i := by rw [e]
  rw [pe_tr, pls_at _ i hi, this, wd_at _ _ i hi]
theorem wd_thr {p wo : List F} {k : Nat} (h : Thr (pls wo.length) wo p) (hk : p.length ≤ k) : off (pad k p) wo = 0 := by
  rw [off_zero]
  refine ext_co (wd_len _ _) (funext fun i => ?_)
  by_cases e : i < wo.length
  · rw [wd_at _ _ i e, pe_congr (co_pad hk), ← h.2.2 i (by rw [pls_len]; exact e), pls_at _ i e]
  · rw [co_out _ _ (by rw [wd_len]; omega), co_out _ _ (by omega)]
/-- is it a word of k data? -/
theorem good_iff {p wo : List F} {k : Nat} (hn : wo.length ≤ 255) (hk : k ≤ wo.length) (h : Thr (pls wo.length) wo p) : p.length ≤ k ↔ ∃ f, f.length = k ∧ off f wo = 0 := by
  constructor
  · intro hl
    exact ⟨pad k p, pad_len _ _, wd_thr h hl⟩
  · rintro ⟨f, hf, h0⟩
    have := Thr.uniq (pls_nodup hn) h (thr_wd (by omega) h0)
    rw [this, ← hf]
    exact tr_len f
end Go.Proofs.Ytbbikkmmdedaiaa.Pr
