/- The plain law of numbers counted one by one; no condition. -/
import Derived.Test.YtkmfcaaionmfoaaSpanAny
namespace Go.Proofs.Ytkmfcaaionmfoaa.Sp

theorem take_sp {l : List Sn} {n : Nat} (h : n < l.length) : l.take (n + 1) = l.take n ++ [sp l n] := by
  rw [List.take_succ_eq_append_getElem h]
  simp [sp, List.getD, List.getElem?_eq_getElem h]
theorem mem_app {a b : List Sn} {x : Int} : Mem (a ++ b) x ↔ Mem a x ∨ Mem b x := by
  unfold Mem
  constructor
  · rintro ⟨s, hs, h⟩
    rcases List.mem_append.1 hs with h1 | h1
    · exact .inl ⟨s, h1, h⟩
    · exact .inr ⟨s, h1, h⟩
  · rintro (⟨s, hs, h⟩ | ⟨s, hs, h⟩)
    · exact ⟨s, List.mem_append.2 (.inl hs), h⟩
    · exact ⟨s, List.mem_append.2 (.inr hs), h⟩
theorem hasN_take (l : List Sn) (x : Int) : ∀ n, n ≤ l.length → (hasN l x n = true ↔ Mem (l.take n) x) := by
  intro n
  induction n with
  | zero => intro _; simp [hasN, Mem]
  | succ n ih =>
    intro hn
    rw [take_sp (by omega), mem_app, hasN, Bool.or_eq_true, ih (by omega)]
    have : Mem [sp l n] x ↔ (decide ((sp l n).1 ≤ x) && decide (x < (sp l n).2)) = true := by
      rw [mem_cons]
      simp [mem_nil]
    rw [this]
theorem hasN_mem (l : List Sn) (x : Int) : hasN l x l.length = true ↔ Mem l x := by
  rw [hasN_take l x l.length (Nat.le_refl _), List.take_length]
theorem lenP_app (a b : List Sn) : lenP (a ++ b) = lenP a + lenP b := by
  induction a with
  | nil => simp [lenP]
  | cons s r ih => rw [List.cons_append, lenP, lenP, ih]; omega
theorem lenN_take (l : List Sn) : ∀ n, n ≤ l.length → lenN l n = lenP (l.take n) := by
  intro n
  induction n with
  | zero => intro _; simp [lenN, lenP]
  | succ n ih =>
    intro hn
    rw [take_sp (by omega), lenP_app, lenN, ih (by omega)]
    simp [lenP]
theorem lenN_lenP (l : List Sn) : lenN l l.length = lenP l := by rw [lenN_take l l.length (Nat.le_refl _), List.take_length]

/-- how many of the first n -/
def cnt (p : Nat → Bool) : Nat → Nat
  | 0 => 0
  | n + 1 => cnt p n + if p n = true then 1 else 0
theorem cnt_le (p : Nat → Bool) (n : Nat) : cnt p n ≤ n := by
  induction n with
  | zero => simp [cnt]
  | succ n ih => rw [cnt]; split <;> omega
theorem cnt_or (p q r : Nat → Bool) (n : Nat) (h : ∀ x, x < n → (p x = true ↔ (q x = true ∨ r x = true)) ∧ ¬ (q x = true ∧ r x = true)) : cnt p n = cnt q n + cnt r n := by
  induction n with
  | zero => rfl
  | succ n ih =>
    rw [cnt, cnt, cnt, ih fun x hx => h x (by omega)]
    have h1 := h n (by omega)
    cases hp : p n <;> cases hq : q n <;> cases hr : r n <;> simp_all <;> omega
theorem cnt_same (p q : Nat → Bool) (n : Nat) (h : ∀ x, x < n → (p x = true ↔ q x = true)) : cnt p n = cnt q n := by
  induction n with
  | zero => rfl
  | succ n ih =>
    rw [cnt, cnt, ih fun x hx => h x (by omega)]
    have h1 := h n (by omega)
    cases hp : p n <;> cases hq : q n <;> simp_all
theorem cnt_none (n : Nat) : cnt (fun _ => false) n = 0 := by
  induction n with
  | zero => rfl
  | succ n ih => rw [cnt, ih]; rfl
def inB (a b : Int) (x : Nat) : Bool := decide (a ≤ (x : Int)) && decide ((x : Int) < b)
theorem cnt_in (a b : Int) (h0 : 0 ≤ a) (h1 : a ≤ b) (n : Nat) : (cnt (inB a b) n : Int) = if (n : Int) ≤ a then 0 else if (n : Int) ≤ b then n - a else b - a := by
  induction n with
  | zero => rw [if_pos (by omega)]; rfl
  | succ n ih =>
    have e : (if inB a b n = true then 1 else 0 : Nat) = if a ≤ (n : Int) ∧ (n : Int) < b then 1 else 0 := by
      unfold inB
      by_cases c1 : a ≤ (n : Int) <;> by_cases c2 : (n : Int) < b <;> simp [c1, c2]
    rw [cnt, e, Int.natCast_add, ih]
    split <;> split <;> split <;> (try split) <;> (try split) <;> omega
theorem cnt_chn : ∀ (l : List Sn) (b : Int) (n : Nat), -1 ≤ b → Chn b l → (∀ x, Mem l x → x < (n : Int)) → (cnt (fun x => hasN l (x : Int) l.length) n : Int) = lenP l
  | [], _, n, _, _, _ => by
    rw [cnt_same _ (fun _ => false) n (fun x _ => by simp [hasN]), cnt_none]; rfl
  | s :: r, b, n, hb, hc, hm => by
    obtain ⟨c1, c2, c3, c4⟩ := hc
    have ih := cnt_chn r s.2 n (by omega) c4 fun x hx => hm x (mem_cons.2 (.inr hx))
    have hn : s.2 ≤ (n : Int) := by
      have := hm (s.2 - 1) (mem_cons.2 (.inl (by omega)))
      omega
    rw [cnt_or _ (inB s.1 s.2) (fun x => hasN r (x : Int) r.length) n ?_, Int.natCast_add, ih, cnt_in _ _ (by omega) (by omega), if_neg (by omega), lenP]
    · split <;> omega
    · intro x _
      have e1 : inB s.1 s.2 x = true ↔ s.1 ≤ (x : Int) ∧ (x : Int) < s.2 := by unfold inB; simp
      rw [hasN_mem, hasN_mem, mem_cons, e1]
      refine ⟨Iff.rfl, fun ⟨h1, h2⟩ => ?_⟩
      have := chn_mem c4 _ h2
      omega

/-! ### Steps -/
/-- rows and their numbers, one by one -/
def HvSt (i : Nat) (l : List Sn) (h : Nat → Bool) : Prop := Chn (-1) l ∧ l.length ≤ i ∧ (∀ x, Mem l x → x < 300) ∧ ∀ x : Nat, h x = true ↔ Mem l (x : Int)
theorem HvSt.start : HvSt 0 [] (fun _ => false) := ⟨trivial, Nat.le_refl _, fun _ h => absurd h mem_nil, fun x => by simp [mem_nil]⟩
def put (h : Nat → Bool) (f t : Nat) (a : Bool) (x : Nat) : Bool := if f ≤ x ∧ x < t then a else h x
theorem put_zero (h : Nat → Bool) (f : Nat) (a : Bool) : put h f f a = h := by
  funext x
  unfold put
  rw [if_neg (by omega)]
theorem put_at {h : Nat → Bool} {f t : Nat} {a : Bool} (x : Nat) (hf : f ≤ t) : put h f (t + 1) a x = if x = t then a else put h f t a x := by
  unfold put
  by_cases e : x = t
  · rw [if_pos (by omega), if_pos e]
  · rw [if_neg e]
    by_cases c : f ≤ x ∧ x < t
    · rw [if_pos (by omega), if_pos c]
    · rw [if_neg (by omega), if_neg c]
theorem HvSt.add {i : Nat} {l : List Sn} {h : Nat → Bool} (H : HvSt i l h) {f t : Nat} (hft : f < t) (ht : t ≤ 300) : HvSt (i + 1) (addP l f t) (put h f t true) := by
  obtain ⟨hc, hl, hm, hh⟩ := H
  have key := fun x => addP_mem l (-1) f t x hc (by omega)
  refine ⟨addP_chn l (-1) f t hc (by omega) (by omega) (by unfold mx; omega), by have := addP_len l f t; omega, fun x hx => ?_, fun x => ?_⟩
  · rcases (key x).1 hx with h1 | h1
    · exact hm x h1
    · omega
  · rw [key]
    unfold put
    split
    · rename_i hx
      exact ⟨fun _ => .inr (by omega), fun _ => rfl⟩
    · rename_i hx
      rw [hh x]
      exact ⟨fun h => .inl h, fun h => by
        rcases h with h | h
        · exact h
        · omega⟩
theorem HvSt.sub {i : Nat} {l : List Sn} {h : Nat → Bool} (H : HvSt i l h) {f t : Nat} (hft : f < t) : HvSt (i + 1) (subP l f t) (put h f t false) := by
  obtain ⟨hc, hl, hm, hh⟩ := H
  have key := fun x => subP_mem l f t x (by omega)
  refine ⟨subP_chn l (-1) f t hc (by omega), by have := subP_len l (-1) f t hc (by omega); omega, fun x hx => ?_, fun x => ?_⟩
  · exact hm x ((key x).1 hx).1
  · rw [key]
    unfold put
    split
    · rename_i hx
      exact ⟨fun h => absurd h (by decide), fun h => absurd (by omega) h.2⟩
    · rename_i hx
      rw [hh x]
      exact ⟨fun h => ⟨h, by omega⟩, fun h => h.1⟩
theorem HvSt.ok {i : Nat} {l : List Sn} {h : Nat → Bool} (H : HvSt i l h) (hi : i ≤ 1024) : chkS l = 0 := chk_of_chn (b := -1) (by omega) H.1 (by have := H.2.1; omega)
theorem HvSt.addOk {i : Nat} {l : List Sn} {h : Nat → Bool} (H : HvSt i l h) (hi : i ≤ 1000) {f t : Nat} (hft : f < t) (ht : t ≤ 300) : addL l f t = addP l f t ∧ addE l f t = 0 := by
  have h0 : chkA l f t = 0 := chkA_ok (H.ok (by omega)) (by unfold badArg; simp; omega)
  have h1 : ¬ 1024 < (addP l f t).length := by have := (H.add hft ht).2.1; omega
  unfold addL addE
  rw [if_pos h0, if_pos h0, if_neg h1, if_neg h1]
  exact ⟨rfl, rfl⟩
theorem HvSt.subOk {i : Nat} {l : List Sn} {h : Nat → Bool} (H : HvSt i l h) (hi : i ≤ 1000) {f t : Nat} (hft : f < t) (ht : t ≤ 300) : subL l f t = subP l f t ∧ subE l f t = 0 := by
  have h0 : chkA l f t = 0 := chkA_ok (H.ok (by omega)) (by unfold badArg; simp; omega)
  have h1 : ¬ 1024 < (subP l f t).length := by have := (H.sub hft).2.1; omega
  unfold subL subE
  rw [if_pos h0, if_pos h0, if_neg h1, if_neg h1]
  exact ⟨rfl, rfl⟩
theorem HvSt.has {i : Nat} {l : List Sn} {h : Nat → Bool} (H : HvSt i l h) (hi : i ≤ 1024) (x : Nat) : hasB l (x : Int) = h x := by
  rw [hasB_ok (H.ok hi), Bool.eq_iff_iff, hasN_mem, H.2.2.2 x]
theorem HvSt.len {i : Nat} {l : List Sn} {h : Nat → Bool} (H : HvSt i l h) (hi : i ≤ 1024) : lenB l = (cnt h 512 : Nat) := by
  rw [lenB_ok (H.ok hi), lenN_lenP, ← cnt_chn l (-1) 512 (by omega) H.1 (fun x hx => by have := H.2.2.1 x hx; omega)]
  rw [cnt_same _ h 512 fun x _ => by rw [hasN_mem, H.2.2.2 x]]
end Go.Proofs.Ytkmfcaaionmfoaa.Sp
