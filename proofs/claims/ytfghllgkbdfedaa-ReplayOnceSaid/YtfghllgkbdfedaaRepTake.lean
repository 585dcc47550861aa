/- What replay.Take and replay.New do, and what the methods do of no window; conditions: the window lies in a block of its own, the numbers are of their kinds. -/
import Derived.Test.YtfghllgkbdfedaaRepWalk
namespace Go.Proofs.Ytfghllgkbdfedaa.Rep
open Go.RowKit
set_option maxRecDepth 100000

/-- the world behind Take -/
def Took (g size : Nat) (s : St) (x : Nat) (w : World) (e : Ending) (w' : World) : Prop :=
  e = .returned (.bool (freshP size s.m s.top s.sm x)) ∧ Win w' g size (takeP size s x).m (takeP size s x).top (takeP size s x).sm ∧ w.grownBy w' (some g)
theorem Took.no {g size x : Nat} {s : St} {w : World} (h : Win w g size s.m s.top s.sm) (hf : freshP size s.m s.top s.sm x = false) (n : Nat) : Took g size s x w (.returned (.bool false)) (w.drewN n) := by
  refine ⟨by rw [hf], ?_, only_drewN (World.grownBy.refl _ _) n⟩
  have : takeP size s x = s := by unfold takeP; rw [if_neg (by rw [hf]; simp)]
  rw [this]
  exact h
theorem takeP_on {size x : Nat} {s : St} (hf : freshP size s.m s.top s.sm x = true) (hc : s.sm = false ∨ s.top < x) : takeP size s x = ⟨upd (onP s.m s.top s.sm x) (x % 256) true, x, true⟩ := by
  unfold takeP; rw [if_pos hf, if_pos hc]
theorem takeP_in {size x : Nat} {s : St} (hf : freshP size s.m s.top s.sm x = true) (hc : ¬ (s.sm = false ∨ s.top < x)) : takeP size s x = ⟨upd s.m (x % 256) true, s.top, s.sm⟩ := by
  unfold takeP; rw [if_pos hf, if_neg hc]

theorem on_any (g size : Nat) (m : Nat → Bool) (top x : Nat) (sm : Bool) (w : World) (h : Win w g size m top sm) (hn : sm = true → top < x) (hx : x < 18446744073709551616) (ht : top < 18446744073709551616) :
    Calls Try.prog 50 #[.pointer (some ⟨g, 0, none⟩), .int .u64 x] w fun en w' => en = .returned (.tuple #[]) ∧ Win w' g size (onP m top sm x) x true ∧ w.grownBy w' (some g) := by
  unfold onP
  by_cases hc : sm = true ∧ x - top < 256
  · rw [if_pos hc]
    obtain ⟨rfl, h2⟩ := hc
    exact on_near g size m top x w h (hn rfl) h2 hx
  · rw [if_neg hc]
    exact on_far g size m top x sm w h (fun e => ⟨hn e, by rcases Nat.lt_or_ge (x - top) 256 with h3 | h3; exact absurd ⟨e, h3⟩ hc; exact h3⟩) hx ht

theorem take_on (g size x : Nat) (s : St) (w : World) (h : Win w g size s.m s.top s.sm) (h1 : 1 ≤ size) (h2 : size ≤ 256) (ht : s.top < 18446744073709551616) (hx : x < 18446744073709551616)
    (hf : freshP size s.m s.top s.sm x = true) (hc : s.sm = false ∨ s.top < x) :
    Calls Try.prog 31 #[.pointer (some ⟨g, 0, none⟩), .int .u64 x] w (Took g size s x w) := by
  have HT := Lib.hid (takeP_on hf hc)
  obtain ⟨m, top, sm⟩ := s
  simp only at h ht hf hc
  have ct := h.ct
  have cs := h.cs
  have HN := Lib.hid (show sm = true → top < x from fun e => by rcases hc with hc | hc; rw [e] at hc; cases hc; exact hc)
  have HF := Lib.hid hf
  have HW := Lib.hid h
  clear hf
  clear hc
  cases sm with
  | false =>
    go_enter Try.func31, Try.ntmps31
    go_wp2_with fail
    refine (fresh_any g size m top false x _ h h1 h2 ht hx).mono ?_
    rintro e w' ⟨rfl, n, rfl⟩
    rw [HF.out]
    go_wp2_with fail
    refine (on_any g size m top x false _ (h.drewN n) (fun e => HN.out (by simp at e)) hx ht).mono ?_
    rintro e w1 ⟨rfl, hw1, hg1⟩
    have hcm := hw1.cm (x % 256) (by omega)
    have hfz := Blk.frozen hw1 (1 + x % 256)
    go_wp2_with fail
    refine (mark_any g x _ hx).mono ?_
    rintro e w' ⟨rfl, rfl⟩
    go_wp2_with fail
    go_ret
    refine ⟨?_, ?_, ?_⟩
    · exact congrArg (fun b => Ending.returned (.bool b)) HF.out.symm
    · rw [HT.out]; exact hw1.setm (x % 256) (by omega) true
    · exact only_setCell (grown_trans2 (only_drewN (World.grownBy.refl _ _) n) hg1) (.inl rfl) _
  | true =>
    have hlt : top < x := HN.out rfl
    go_enter Try.func31, Try.ntmps31
    go_wp2_with fail
    refine (fresh_any g size m top true x _ h h1 h2 ht hx).mono ?_
    rintro e w' ⟨rfl, n, rfl⟩
    rw [HF.out]
    go_wp2_with fail
    refine (on_any g size m top x true _ (h.drewN n) (fun _ => hlt) hx ht).mono ?_
    rintro e w1 ⟨rfl, hw1, hg1⟩
    have hcm := hw1.cm (x % 256) (by omega)
    have hfz := Blk.frozen hw1 (1 + x % 256)
    go_wp2_with fail
    refine (mark_any g x _ hx).mono ?_
    rintro e w' ⟨rfl, rfl⟩
    go_wp2_with fail
    go_ret
    refine ⟨?_, ?_, ?_⟩
    · exact congrArg (fun b => Ending.returned (.bool b)) HF.out.symm
    · rw [HT.out]; exact hw1.setm (x % 256) (by omega) true
    · exact only_setCell (grown_trans2 (only_drewN (World.grownBy.refl _ _) n) hg1) (.inl rfl) _

theorem take_in (g size x : Nat) (s : St) (w : World) (h : Win w g size s.m s.top s.sm) (h1 : 1 ≤ size) (h2 : size ≤ 256) (ht : s.top < 18446744073709551616) (hx : x < 18446744073709551616)
    (hf : freshP size s.m s.top s.sm x = true) (hc : ¬ (s.sm = false ∨ s.top < x)) :
    Calls Try.prog 31 #[.pointer (some ⟨g, 0, none⟩), .int .u64 x] w (Took g size s x w) := by
  have HT := Lib.hid (takeP_in hf hc)
  obtain ⟨m, top, sm⟩ := s
  simp only at h ht hf hc
  have ct := h.ct
  have cs := h.cs
  have HF := Lib.hid hf
  have hle : ¬ top < x := fun e => hc (.inr e)
  cases sm with
  | false => exact absurd (.inl rfl) hc
  | true =>
    clear hf hc
    have hcm := h.cm (x % 256) (by omega)
    have hfz := Blk.frozen h (1 + x % 256)
    go_enter Try.func31, Try.ntmps31
    go_wp2_with fail
    refine (fresh_any g size m top true x _ h h1 h2 ht hx).mono ?_
    rintro e w' ⟨rfl, n, rfl⟩
    rw [HF.out]
    go_wp2_with fail
    refine (mark_any g x _ hx).mono ?_
    rintro e w' ⟨rfl, rfl⟩
    go_wp2_with fail
    go_ret
    refine ⟨?_, ?_, ?_⟩
    · exact congrArg (fun b => Ending.returned (.bool b)) HF.out.symm
    · rw [HT.out]; exact (h.drewN n).setm (x % 256) (by omega) true
    · exact only_setCell (only_drewN (World.grownBy.refl _ _) n) (.inl rfl) _
theorem take_not (g size x : Nat) (s : St) (w : World) (h : Win w g size s.m s.top s.sm) (h1 : 1 ≤ size) (h2 : size ≤ 256) (ht : s.top < 18446744073709551616) (hx : x < 18446744073709551616)
    (hf : freshP size s.m s.top s.sm x = false) :
    Calls Try.prog 31 #[.pointer (some ⟨g, 0, none⟩), .int .u64 x] w (Took g size s x w) := by
  have HF := Lib.hid hf
  clear hf
  go_enter Try.func31, Try.ntmps31
  go_wp2_with fail
  refine (fresh_any g size s.m s.top s.sm x _ h h1 h2 ht hx).mono ?_
  rintro e w' ⟨rfl, n, rfl⟩
  rw [HF.out]
  go_wp2_with fail
  go_ret
  exact Took.no h HF.out n
theorem take_any (g size x : Nat) (s : St) (w : World) (h : Win w g size s.m s.top s.sm) (h1 : 1 ≤ size) (h2 : size ≤ 256) (ht : s.top < 18446744073709551616) (hx : x < 18446744073709551616) :
    Calls Try.prog 31 #[.pointer (some ⟨g, 0, none⟩), .int .u64 x] w (Took g size s x w) := by
  cases hf : freshP size s.m s.top s.sm x with
  | false => exact take_not g size x s w h h1 h2 ht hx hf
  | true =>
    by_cases hc : s.sm = false ∨ s.top < x
    · exact take_on g size x s w h h1 h2 ht hx hf hc
    · exact take_in g size x s w h h1 h2 ht hx hf hc

theorem new_bad (n : Int) (w : World) (h : n < 1 ∨ 256 < n) :
    Calls Try.prog 28 #[.int .i64 n] w fun en w' => en = .returned (.tuple #[.pointer none, .int .i64 1]) ∧ w = w' := by
  rcases h with h | h
  · go_enter Try.func28, Try.ntmps28
    go_wp2
    go_ret2
    exact ⟨rfl, rfl⟩
  · go_enter Try.func28, Try.ntmps28
    go_wp2
    go_ret2
    exact ⟨rfl, rfl⟩
theorem win_set_size (size : Nat) (m : Nat → Bool) (top : Nat) (sm : Bool) (x : Nat) : (winCells size m top sm).setIfInBounds 0 (.int .i64 x) = winCells x m top sm := by
  apply Array.ext
  · simp [winCells]
  · intro j h1 h2
    simp [winCells] at h1
    have hj : j < (winCells size m top sm).size := by simp only [winCells, Array.size_ofFn]; exact h1
    rw [Array.getElem_setIfInBounds hj]
    simp only [winCells, Array.getElem_ofFn]
    by_cases e : 0 = j
    · subst e; simp
    · have e2 : ¬ j = 0 := by omega
      rw [if_neg e, if_neg e2, if_neg e2]
theorem new_ok (n : Nat) (w : World) (h1 : 1 ≤ n) (h2 : n ≤ 256) :
    Calls Try.prog 28 #[.int .i64 n] w fun en w' => en = .returned (.tuple #[.pointer (some ⟨w.heap.size, 0, none⟩), .int .i64 0]) ∧ w' = w.alloc (.cells (winCells n none_ 0 false) 83) := by
  have hz : ∀ W, (zeroValue 83).run Try.prog W = .ok (.agg (winCells 0 none_ 0 false)) W := fun W => by kernel_rfl
  go_enter Try.func28, Try.ntmps28
  go_wp2_with fail
  go_ret2
  exact ⟨rfl, by rw [win_set_size]⟩
theorem new_win (n : Nat) (w : World) : Win (w.alloc (.cells (winCells n none_ 0 false) 83)) w.heap.size n none_ 0 false := Blk.new _ _ _

theorem fresh_nil (x : Nat) (w : World) : Calls Try.prog 30 #[.pointer none, .int .u64 x] w fun en w' => en = .returned (.bool false) ∧ w = w' := by
  go_enter Try.func30, Try.ntmps30
  go_wp2
  go_ret
  exact ⟨rfl, rfl⟩
theorem take_nil (x : Nat) (w : World) : Calls Try.prog 31 #[.pointer none, .int .u64 x] w fun en w' => en = .returned (.bool false) ∧ w = w' := by
  go_enter Try.func31, Try.ntmps31
  go_wp2_with fail
  refine (fresh_nil x _).mono ?_
  rintro e w' ⟨rfl, rfl⟩
  go_wp2_with fail
  go_ret
  exact ⟨rfl, rfl⟩
theorem top_nil (w : World) : Calls Try.prog 32 #[.pointer none] w fun en w' => en = .returned (.int .u64 0) ∧ w = w' := by
  go_enter Try.func32, Try.ntmps32
  go_wp2
  go_ret
  exact ⟨rfl, rfl⟩

/-- only the new block g, and what is newer, has turned -/
theorem below_of_grown {B g : Nat} {a w w' : World} (h : Below B a w) (hg : w.grownBy w' (some g)) (hB : B ≤ g) (hw : B ≤ w.heap.size) : Below B a w' :=
  h.grown hg hw (fun k hk => by injection hk with hk; omega)

theorem take_is (g size x : Nat) (s s' : St) (b : Bool) (w : World) (h : Win w g size s.m s.top s.sm) (h1 : 1 ≤ size) (h2 : size ≤ 256) (ht : s.top < 18446744073709551616) (hx : x < 18446744073709551616)
    (hb : freshP size s.m s.top s.sm x = b) (hs : takeP size s x = s') :
    Calls Try.prog 31 #[.pointer (some ⟨g, 0, none⟩), .int .u64 x] w fun e w' => e = .returned (.bool b) ∧ Win w' g size s'.m s'.top s'.sm ∧ w.grownBy w' (some g) := by
  subst hb hs
  exact take_any g size x s w h h1 h2 ht hx
def S0 : St := ⟨none_, 0, false⟩
def S1 : St := takeP 2 S0 5
def S2 : St := takeP 2 S1 4
def S3 : St := takeP 2 S2 3
def S4 : St := takeP 2 S3 5
theorem awake_any (w : World) : Calls Try.prog 27 #[] w fun e w' => e = .returned (.bool true) ∧ Below w.heap.size w w' := by
  have HF := Lib.hid (show freshP 2 S4.m S4.top S4.sm 6 = true by decide +kernel)
  have HT := Lib.hid (show S4.top = 5 by decide +kernel)
  go_enter Try.func27, Try.ntmps27
  go_wp2_with fail
  refine (new_ok 2 _ (by omega) (by omega)).mono ?_; rintro e w' ⟨rfl, rfl⟩
  have hw0 := new_win 2 w
  go_wp2_with fail
  refine (new_bad 257 _ (by omega)).mono ?_; rintro e w' ⟨rfl, rfl⟩
  go_wp2_with fail
  refine (take_is w.heap.size 2 5 S0 S1 true _ hw0 (by omega) (by omega) (by decide +kernel) (by omega) (by decide +kernel) rfl).mono ?_; rintro e w1 ⟨rfl, hw1, hg1⟩
  go_wp2_with fail
  refine (take_is w.heap.size 2 4 S1 S2 true _ hw1 (by omega) (by omega) (by decide +kernel) (by omega) (by decide +kernel) rfl).mono ?_; rintro e w2 ⟨rfl, hw2, hg2⟩
  go_wp2_with fail
  refine (take_is w.heap.size 2 3 S2 S3 false _ hw2 (by omega) (by omega) (by decide +kernel) (by omega) (by decide +kernel) rfl).mono ?_; rintro e w3 ⟨rfl, hw3, hg3⟩
  go_wp2_with fail
  refine (take_is w.heap.size 2 5 S3 S4 false _ hw3 (by omega) (by omega) (by decide +kernel) (by omega) (by decide +kernel) rfl).mono ?_; rintro e w4 ⟨rfl, hw4, hg4⟩
  go_wp2_with fail
  refine (fresh_any w.heap.size 2 S4.m S4.top S4.sm 6 _ hw4 (by omega) (by omega) (by rw [HT.out]; omega) (by omega)).mono ?_; rintro e w5 ⟨rfl, n, rfl⟩
  rw [HF.out]
  go_wp2_with fail
  refine (top_any w.heap.size 2 S4.m S4.top S4.sm _ (hw4.drewN n)).mono ?_; rintro e w5 ⟨rfl, rfl⟩
  rw [HT.out]
  go_wp2_with fail
  go_ret
  have hg := grown_trans2 (grown_trans2 (grown_trans2 hg1 hg2) hg3) hg4
  exact ⟨rfl, below_drewN (below_of_grown ((Below.refl _ _).alloc (Nat.le_refl _) _) hg (Nat.le_refl _) (by simp)) n⟩
end Go.Proofs.Ytfghllgkbdfedaa.Rep
