/- The plain law of choices: each next choice of k places among n, by rising ones, comes to every one; n is at most 8. -/
namespace Go.Proofs.Ytbbikkmmdedaiaa.Nx

/-- the place to be raised: the last one that is not at its end; counted from 1 -/
def back (l : List Nat) (n : Nat) : Nat → Nat
  | 0 => 0
  | i + 1 => if l.getD i 0 = n - l.length + i then back l n i else i + 1
/-- raised at i, and rising behind it -/
def fill (l : List Nat) (i : Nat) : Nat → List Nat
  | 0 => l.set i (l.getD i 0 + 1)
  | k + 1 => (fill l i k).set (i + 1 + k) ((fill l i k).getD (i + k) 0 + 1)
def nxt (l : List Nat) (n : Nat) : Option (List Nat) :=
  match back l n l.length with
  | 0 => none
  | i + 1 => some (fill l i (l.length - i - 1))
/-- so many choices, from one on -/
def chain (n : Nat) : Nat → List Nat → List (List Nat)
  | 0, _ => []
  | f + 1, l => l :: match nxt l n with
    | none => []
    | some m => chain n f m
/-- all rising lists of k numbers below n -/
def subs : Nat → Nat → List (List Nat)
  | 0, _ => [[]]
  | _ + 1, 0 => []
  | k + 1, n + 1 => subs (k + 1) n ++ (subs k n).map (· ++ [n])
def full (n k : Nat) : List (List Nat) := chain n 100 (List.range k)
def rises (n : Nat) : List Nat → Bool
  | [] => true
  | [a] => decide (a < n)
  | a :: b :: l => decide (a < b) && rises n (b :: l)
def stepsB (n : Nat) : List (List Nat) → Bool
  | [] => true
  | [l] => (nxt l n).isNone
  | l :: m :: r => (nxt l n == some m) && stepsB n (m :: r)
/-- all that the walk asks of the choices, as one test -/
def goodB (n k : Nat) : Bool := (full n k).all (fun l => l.length == k && rises n l) && stepsB n (full n k) && (subs k n).all (fun s => (full n k).contains s) && decide ((full n k).length ≤ 100) && ((full n k).head? == some (List.range k))
theorem good_all : ∀ n : Fin 9, ∀ k : Fin 9, 1 ≤ k.val → k.val ≤ n.val → goodB n.val k.val = true := by decide +kernel
theorem good (n k : Nat) (hn : n ≤ 8) (hk : 1 ≤ k) (hkn : k ≤ n) : goodB n k = true := good_all ⟨n, by omega⟩ ⟨k, by omega⟩ hk hkn

theorem steps_at {n : Nat} : ∀ {L : List (List Nat)}, stepsB n L = true → ∀ {t : Nat} {l : List Nat}, L[t]? = some l → L[t + 1]? = nxt l n
  | [], _, t, l, h => by simp at h
  | [a], hs, t, l, h => by
    cases t with
    | zero =>
      simp at h
      subst h
      simp [stepsB] at hs
      simp [hs]
    | succ t => simp at h
  | a :: b :: r, hs, t, l, h => by
    simp only [stepsB, Bool.and_eq_true, beq_iff_eq] at hs
    cases t with
    | zero =>
      simp at h
      subst h
      simp [hs.1]
    | succ t =>
      have h2 : (b :: r)[t]? = some l := by simpa using h
      have := steps_at hs.2 h2
      simpa using this
theorem rises_lt {n : Nat} : ∀ {l : List Nat}, rises n l = true → ∀ x ∈ l, x < n
  | [], _, x, h => by simp at h
  | [a], hs, x, h => by
    simp [rises] at hs
    simp at h
    omega
  | a :: b :: l, hs, x, h => by
    simp only [rises, Bool.and_eq_true, decide_eq_true_eq] at hs
    have hb := rises_lt hs.2
    rcases List.mem_cons.1 h with e | e
    · have := hb b (by simp)
      omega
    · exact hb x e
theorem rises_gt {n : Nat} : ∀ {a : Nat} {l : List Nat}, rises n (a :: l) = true → ∀ x ∈ l, a < x
  | a, [], _, x, h => by simp at h
  | a, b :: l, hs, x, h => by
    simp only [rises, Bool.and_eq_true, decide_eq_true_eq] at hs
    rcases List.mem_cons.1 h with e | e
    · omega
    · have := rises_gt hs.2 x e
      omega
theorem rises_nodup {n : Nat} : ∀ {l : List Nat}, rises n l = true → l.Nodup
  | [], _ => List.nodup_nil
  | [a], _ => by simp
  | a :: b :: l, hs => by
    have h2 := hs
    simp only [rises, Bool.and_eq_true, decide_eq_true_eq] at h2
    refine List.nodup_cons.2 ⟨fun h => ?_, rises_nodup h2.2⟩
    have := rises_gt hs a h
    omega
/-- what is known of a choice -/
structure Ch (n k t : Nat) (l : List Nat) : Prop where
  at_ : (full n k)[t]? = some l
  len : l.length = k
  rise : rises n l = true
  next : (full n k)[t + 1]? = nxt l n
  lt : t < 100
theorem Ch.of {n k t : Nat} {l : List Nat} (hn : n ≤ 8) (hk : 1 ≤ k) (hkn : k ≤ n) (h : (full n k)[t]? = some l) : Ch n k t l := by
  have g := good n k hn hk hkn
  unfold goodB at g
  simp only [Bool.and_eq_true, List.all_eq_true, decide_eq_true_eq, beq_iff_eq] at g
  obtain ⟨⟨⟨⟨g1, g2⟩, g3⟩, g4⟩, g5⟩ := g
  have hm : l ∈ full n k := List.mem_of_getElem? h
  obtain ⟨h1, h2⟩ := g1 l hm
  have ht := (List.getElem?_eq_some_iff.1 h).1
  exact ⟨h, h1, h2, steps_at g2 h, by omega⟩
theorem first (n k : Nat) (hn : n ≤ 8) (hk : 1 ≤ k) (hkn : k ≤ n) : (full n k)[0]? = some (List.range k) := by
  have g := good n k hn hk hkn
  unfold goodB at g
  simp only [Bool.and_eq_true, beq_iff_eq] at g
  rw [← g.2]
  cases full n k <;> rfl
theorem all_subs {n k : Nat} (hn : n ≤ 8) (hk : 1 ≤ k) (hkn : k ≤ n) {s : List Nat} (h : s ∈ subs k n) : ∃ t : Nat, (full n k)[t]? = some s := by
  have g := good n k hn hk hkn
  unfold goodB at g
  simp only [Bool.and_eq_true, List.all_eq_true, beq_iff_eq] at g
  have := g.1.1.2 s h
  rw [List.contains_iff_mem] at this
  exact List.getElem?_of_mem this
/-- how many of the first n are so -/
def cnt (p : Nat → Bool) : Nat → Nat
  | 0 => 0
  | n + 1 => cnt p n + if p n = true then 1 else 0
theorem choose (p : Nat → Bool) : ∀ n k, k ≤ cnt p n → ∃ s ∈ subs k n, ∀ i ∈ s, p i = true ∧ i < n
  | n, 0, _ => ⟨[], by simp [subs], by simp⟩
  | 0, k + 1, h => by simp [cnt] at h
  | n + 1, k + 1, h => by
    by_cases h1 : k + 1 ≤ cnt p n
    · obtain ⟨s, hs, hp⟩ := choose p n (k + 1) h1
      exact ⟨s, by simp [subs, hs], fun i hi => ⟨(hp i hi).1, by have := (hp i hi).2; omega⟩⟩
    · unfold cnt at h
      by_cases hp : p n = true
      · rw [if_pos hp] at h
        obtain ⟨s, hs, h2⟩ := choose p n k (by omega)
        refine ⟨s ++ [n], by simp [subs, hs], fun i hi => ?_⟩
        rcases List.mem_append.1 hi with e | e
        · exact ⟨(h2 i e).1, by have := (h2 i e).2; omega⟩
        · simp at e
          subst e
          exact ⟨hp, by omega⟩
      · rw [if_neg hp] at h; omega
end Go.Proofs.Ytbbikkmmdedaiaa.Nx
