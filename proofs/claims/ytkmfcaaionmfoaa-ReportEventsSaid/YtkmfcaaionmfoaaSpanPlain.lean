/- The plain law of numbers in rows: what may be, rows put in and taken out, which numbers they have; no condition. -/
namespace Go.Proofs.Ytkmfcaaionmfoaa.Sp

abbrev Sn := Int × Int
def sp (l : List Sn) (i : Nat) : Sn := l.getD i (0, 0)
def mx : Int := 1099511627776
def outB (x : Int) : Bool := decide (x < 0) || decide (1099511627776 < x)
def rngB (l : List Sn) : Nat → Bool
  | 0 => true
  | n + 1 => rngB l n && (!outB (sp l n).1 && !outB (sp l n).2)
def badB (l : List Sn) (i : Nat) : Bool := decide ((sp l i).2 ≤ (sp l i).1) || (decide (0 < i) && decide ((sp l i).1 ≤ (sp l (i - 1)).2))
def frmB (l : List Sn) : Nat → Bool
  | 0 => true
  | n + 1 => frmB l n && !badB l n
def chkS (l : List Sn) : Int := if 1024 < l.length then 3 else if rngB l l.length = true then (if frmB l l.length = true then 0 else 5) else 2
theorem rngB_no (l : List Sn) {n m : Nat} (h : rngB l n = false) (hm : n ≤ m) : rngB l m = false := by
  induction m with
  | zero =>
    have : n = 0 := by omega
    rw [this] at h; exact h
  | succ m ih =>
    by_cases e : n = m + 1
    · rw [← e]; exact h
    · rw [rngB, ih (by omega)]; rfl
theorem frmB_no (l : List Sn) {n m : Nat} (h : frmB l n = false) (hm : n ≤ m) : frmB l m = false := by
  induction m with
  | zero =>
    have : n = 0 := by omega
    rw [this] at h; exact h
  | succ m ih =>
    by_cases e : n = m + 1
    · rw [← e]; exact h
    · rw [frmB, ih (by omega)]; rfl
theorem chk_long {l : List Sn} (h : 1024 < l.length) : chkS l = 3 := by unfold chkS; rw [if_pos h]
theorem chk_range {l : List Sn} (h : ¬ 1024 < l.length) {n : Nat} (hn : n ≤ l.length) (hr : rngB l n = false) : chkS l = 2 := by
  unfold chkS; rw [if_neg h, if_neg (by rw [rngB_no l hr hn]; decide)]
theorem chk_form {l : List Sn} (h : ¬ 1024 < l.length) (hr : rngB l l.length = true) (hf : frmB l l.length = false) : chkS l = 5 := by
  unfold chkS; rw [if_neg h, if_pos hr, if_neg (by rw [hf]; decide)]
theorem chk_good {l : List Sn} (h : ¬ 1024 < l.length) (hr : rngB l l.length = true) (hf : frmB l l.length = true) : chkS l = 0 := by
  unfold chkS; rw [if_neg h, if_pos hr, if_pos hf]
theorem chk_zero {l : List Sn} (h : chkS l = 0) : l.length ≤ 1024 ∧ rngB l l.length = true ∧ frmB l l.length = true := by
  unfold chkS at h
  split at h
  · cases h
  · split at h
    · split at h
      · exact ⟨by omega, by assumption, by assumption⟩
      · cases h
    · cases h
theorem rng_at {l : List Sn} {n i : Nat} (h : rngB l n = true) (hi : i < n) : (0 ≤ (sp l i).1 ∧ (sp l i).1 ≤ mx) ∧ (0 ≤ (sp l i).2 ∧ (sp l i).2 ≤ mx) := by
  induction n with
  | zero => omega
  | succ n ih =>
    rw [rngB, Bool.and_eq_true] at h
    by_cases e : i = n
    · subst e
      have h2 := h.2
      unfold outB at h2
      unfold mx
      simp at h2
      omega
    · exact ih h.1 (by omega)
theorem frm_at {l : List Sn} {n i : Nat} (h : frmB l n = true) (hi : i < n) : (sp l i).1 < (sp l i).2 ∧ (0 < i → (sp l (i - 1)).2 < (sp l i).1) := by
  induction n with
  | zero => omega
  | succ n ih =>
    rw [frmB, Bool.and_eq_true] at h
    by_cases e : i = n
    · subst e
      have h2 := h.2
      unfold badB at h2
      simp at h2
      exact ⟨h2.1, fun hp => by
        rcases h2.2 with e | e
        · omega
        · exact e⟩
    · exact ih h.1 (by omega)

/-! ### A list that may be, as a chain -/
/-- rows behind a bound, in order -/
def Chn (b : Int) : List Sn → Prop
  | [] => True
  | s :: r => b < s.1 ∧ s.1 < s.2 ∧ s.2 ≤ mx ∧ Chn s.2 r
theorem Chn.mono {a b : Int} {l : List Sn} (h : Chn a l) (hb : b ≤ a) : Chn b l := by
  cases l with
  | nil => trivial
  | cons s r => exact ⟨by have := h.1; omega, h.2⟩
theorem chn_of {l : List Sn} (hr : rngB l l.length = true) (hf : frmB l l.length = true) : ∀ i (b : Int), i ≤ l.length → (i < l.length → b < (sp l i).1) → Chn b (l.drop i) := by
  have key : ∀ d i (b : Int), i + d = l.length → (i < l.length → b < (sp l i).1) → Chn b (l.drop i) := by
    intro d
    induction d with
    | zero =>
      intro i b hi _
      rw [List.drop_eq_nil_of_le (by omega)]
      trivial
    | succ d ih =>
      intro i b hi hb
      have hil : i < l.length := by omega
      rw [List.drop_eq_getElem_cons hil]
      have e : l[i] = sp l i := by simp [sp, List.getD, List.getElem?_eq_getElem hil]
      rw [e]
      have h1 := frm_at hf hil
      have h2 := rng_at hr hil
      refine ⟨hb hil, h1.1, h2.2.2, ih (i + 1) _ (by omega) fun h => ?_⟩
      have h3 := (frm_at hf h).2 (by omega)
      simpa using h3
  intro i b hi hb
  exact key (l.length - i) i b (by omega) hb
theorem chn_start {l : List Sn} (h : chkS l = 0) : Chn (-1) l := by
  obtain ⟨_, hr, hf⟩ := chk_zero h
  have := chn_of hr hf 0 (-1) (by omega) fun h => by have := (rng_at hr h).1.1; omega
  simpa using this
theorem sp_cons (s : Sn) (r : List Sn) (i : Nat) : sp (s :: r) (i + 1) = sp r i := rfl
theorem chn_sp : ∀ {l : List Sn} {b : Int}, Chn b l → ∀ i, i < l.length → b < (sp l i).1 ∧ (sp l i).1 < (sp l i).2 ∧ (sp l i).2 ≤ mx ∧ (0 < i → (sp l (i - 1)).2 < (sp l i).1)
  | [], _, _, i, h => by simp at h
  | s :: r, b, hc, 0, _ => ⟨hc.1, hc.2.1, hc.2.2.1, fun h => by omega⟩
  | s :: r, b, hc, i + 1, h => by
    have h1 := chn_sp hc.2.2.2 i (by simpa using h)
    have h0 := hc.1
    have h2 := hc.2.1
    refine ⟨by rw [sp_cons]; omega, h1.2.1, h1.2.2.1, fun _ => ?_⟩
    cases i with
    | zero => exact h1.1
    | succ i => exact h1.2.2.2 (by omega)
theorem chk_of_chn {l : List Sn} {b : Int} (hb : -1 ≤ b) (h : Chn b l) (hl : l.length ≤ 1024) : chkS l = 0 := by
  have hs := chn_sp h
  have hr : ∀ n, n ≤ l.length → rngB l n = true := by
    intro n
    induction n with
    | zero => intro _; rfl
    | succ n ih =>
      intro hn
      have h1 := hs n (by omega)
      rw [rngB, ih (by omega)]
      unfold outB
      unfold mx at h1
      simp
      omega
  have hf : ∀ n, n ≤ l.length → frmB l n = true := by
    intro n
    induction n with
    | zero => intro _; rfl
    | succ n ih =>
      intro hn
      have h1 := hs n (by omega)
      rw [frmB, ih (by omega)]
      unfold badB
      simp
      refine ⟨h1.2.1, ?_⟩
      rcases Nat.eq_zero_or_pos n with e | e
      · exact .inl e
      · exact .inr (h1.2.2.2 e)
  exact chk_good (by omega) (hr _ (Nat.le_refl _)) (hf _ (Nat.le_refl _))

/-! ### A row put in -/
def addP : List Sn → Int → Int → List Sn
  | [], f, t => [(f, t)]
  | s :: r, f, t => if s.2 < f then s :: addP r f t else if t < s.1 then (f, t) :: s :: r else addP r (min f s.1) (max t s.2)
theorem addP_ahead {s : Sn} {r : List Sn} {f t : Int} (h : s.2 < f) : addP (s :: r) f t = s :: addP r f t := by rw [addP, if_pos h]
theorem addP_behind {s : Sn} {r : List Sn} {f t : Int} (h : ¬ s.2 < f) (h2 : t < s.1) : addP (s :: r) f t = (f, t) :: s :: r := by rw [addP, if_neg h, if_pos h2]
theorem addP_merge {s : Sn} {r : List Sn} {f t : Int} (h : ¬ s.2 < f) (h2 : ¬ t < s.1) : addP (s :: r) f t = addP r (min f s.1) (max t s.2) := by rw [addP, if_neg h, if_neg h2]
theorem addP_len : ∀ (l : List Sn) (f t : Int), (addP l f t).length ≤ l.length + 1
  | [], _, _ => by simp [addP]
  | s :: r, f, t => by
    unfold addP
    split
    · have := addP_len r f t
      simp; omega
    · split
      · simp
      · have := addP_len r (min f s.1) (max t s.2)
        simp; omega
def Mem (l : List Sn) (x : Int) : Prop := ∃ s ∈ l, s.1 ≤ x ∧ x < s.2
theorem mem_cons {s : Sn} {r : List Sn} {x : Int} : Mem (s :: r) x ↔ (s.1 ≤ x ∧ x < s.2) ∨ Mem r x := by
  unfold Mem
  simp
theorem mem_nil {x : Int} : ¬ Mem [] x := by unfold Mem; simp
theorem chn_mem {b : Int} : ∀ {l : List Sn}, Chn b l → ∀ x, Mem l x → b < x
  | [], _, x, h => absurd h mem_nil
  | s :: r, hc, x, h => by
    rcases mem_cons.1 h with h1 | h1
    · have := hc.1; omega
    · have h2 := chn_mem (hc.2.2.2.mono (b := b) (by have := hc.1; have := hc.2.1; omega)) x h1
      exact h2
theorem addP_chn : ∀ (l : List Sn) (b f t : Int), Chn b l → b < f → f < t → t ≤ mx → Chn b (addP l f t)
  | [], b, f, t, _, h1, h2, h3 => ⟨h1, h2, h3, trivial⟩
  | s :: r, b, f, t, hc, h1, h2, h3 => by
    obtain ⟨c1, c2, c3, c4⟩ := hc
    unfold addP
    split
    · exact ⟨c1, c2, c3, addP_chn r s.2 f t c4 (by assumption) h2 h3⟩
    · split
      · exact ⟨h1, h2, h3, by assumption, c2, c3, c4⟩
      · exact addP_chn r b _ _ (c4.mono (by omega)) (by omega) (by omega) (by omega)
theorem addP_mem : ∀ (l : List Sn) (b f t x : Int), Chn b l → f < t → (Mem (addP l f t) x ↔ Mem l x ∨ (f ≤ x ∧ x < t))
  | [], b, f, t, x, _, _ => by
    simp only [addP, mem_cons]
    constructor
    · rintro (h | h)
      · exact .inr h
      · exact absurd h mem_nil
    · rintro (h | h)
      · exact absurd h mem_nil
      · exact .inl h
  | s :: r, b, f, t, x, hc, h2 => by
    obtain ⟨c1, c2, c3, c4⟩ := hc
    unfold addP
    split
    · rw [mem_cons, mem_cons, addP_mem r s.2 f t x c4 h2]
      constructor
      · rintro (h | h | h)
        · exact .inl (.inl h)
        · exact .inl (.inr h)
        · exact .inr h
      · rintro ((h | h) | h)
        · exact .inl h
        · exact .inr (.inl h)
        · exact .inr (.inr h)
    · split
      · rw [mem_cons]
        constructor
        · rintro (h | h)
          · exact .inr h
          · exact .inl h
        · rintro (h | h)
          · exact .inr h
          · exact .inl h
      · rw [addP_mem r s.2 _ _ x c4 (by omega), mem_cons]
        constructor
        · rintro (h | h)
          · exact .inl (.inr h)
          · by_cases e : s.1 ≤ x ∧ x < s.2
            · exact .inl (.inl e)
            · right; omega
        · rintro ((h | h) | h)
          · right; omega
          · exact .inl h
          · right; omega

/-! ### A row taken out -/
def piece (a b : Int) : List Sn := if a < b then [(a, b)] else []
def subP : List Sn → Int → Int → List Sn
  | [], _, _ => []
  | s :: r, f, t => piece s.1 (min s.2 f) ++ (piece (max s.1 t) s.2 ++ subP r f t)
theorem subP_mem : ∀ (l : List Sn) (f t x : Int), f < t → (Mem (subP l f t) x ↔ Mem l x ∧ ¬ (f ≤ x ∧ x < t))
  | [], f, t, x, _ => by
    constructor
    · exact fun h => absurd h mem_nil
    · exact fun h => absurd h.1 mem_nil
  | s :: r, f, t, x, h2 => by
    have ih := subP_mem r f t x h2
    have hp : ∀ a b : Int, ∀ l : List Sn, Mem (piece a b ++ l) x ↔ (a ≤ x ∧ x < b) ∨ Mem l x := by
      intro a b l
      unfold piece
      split
      · exact mem_cons
      · constructor
        · exact fun h => .inr h
        · rintro (h | h)
          · omega
          · exact h
    rw [subP, hp, hp, ih, mem_cons]
    constructor
    · rintro (h | h | ⟨h, h3⟩)
      · exact ⟨.inl (by omega), by omega⟩
      · exact ⟨.inl (by omega), by omega⟩
      · exact ⟨.inr h, h3⟩
    · rintro ⟨h | h, h3⟩
      · by_cases e : x < f
        · left; omega
        · right; left; omega
      · exact .inr (.inr ⟨h, h3⟩)
theorem piece_chn {a b c : Int} {l : List Sn} (h : Chn c l) (hc : b ≤ c) {z : Int} (hz : z < a) (hb : b ≤ mx) (hcz : z ≤ c) : Chn z (piece a b ++ l) := by
  unfold piece
  split
  · exact ⟨hz, by assumption, hb, h.mono hc⟩
  · exact h.mono hcz
theorem subP_chn : ∀ (l : List Sn) (b f t : Int), Chn b l → f < t → Chn b (subP l f t)
  | [], _, _, _, _, _ => trivial
  | s :: r, b, f, t, hc, h2 => by
    obtain ⟨c1, c2, c3, c4⟩ := hc
    have ih := subP_chn r s.2 f t c4 h2
    rw [subP]
    by_cases e : s.1 < min s.2 f
    · refine piece_chn (c := min s.2 f) ?_ (by omega) c1 (by omega) (by omega)
      refine piece_chn (c := s.2) ih (by omega) (by omega) c3 (by omega)
    · unfold piece
      rw [if_neg e]
      exact piece_chn (c := s.2) ih (by omega) (by omega) c3 (by omega)
theorem subP_len : ∀ (l : List Sn) (b f t : Int), Chn b l → f < t → (subP l f t).length ≤ l.length + 1
  | [], _, _, _, _, _ => by simp [subP]
  | s :: r, b, f, t, hc, h2 => by
    obtain ⟨c1, c2, c3, c4⟩ := hc
    have key : ∀ (l : List Sn) (c : Int), Chn c l → t ≤ c → (subP l f t).length ≤ l.length := by
      intro l
      induction l with
      | nil => intro c _ _; simp [subP]
      | cons u q ih =>
        intro c hc ht
        have h3 := ih u.2 hc.2.2.2 (by have := hc.1; have := hc.2.1; omega)
        rw [subP]
        unfold piece
        rw [if_neg (by have := hc.1; omega)]
        split <;> simp <;> omega
    have key2 := subP_len r s.2 f t c4 h2
    rw [subP]
    unfold piece
    by_cases e1 : s.1 < min s.2 f
    · by_cases e2 : max s.1 t < s.2
      · have h4 := key r s.2 c4 (by omega)
        rw [if_pos e1, if_pos e2]
        simp; omega
      · rw [if_pos e1, if_neg e2]
        simp; omega
    · rw [if_neg e1]
      split <;> simp <;> omega
/-- how many numbers -/
def lenP : List Sn → Int
  | [] => 0
  | s :: r => (s.2 - s.1) + lenP r
end Go.Proofs.Ytkmfcaaionmfoaa.Sp
