/- What each function of the spans answers at any row, in one word; awake; no condition. -/
import Derived.Test.YtkmfcaaionmfoaaSpanLen
import Derived.Test.YtkmfcaaionmfoaaSpanSub2
set_option maxRecDepth 100000
namespace Go.Proofs.Ytkmfcaaionmfoaa.Sp
open Go.RowKit

def GvX (L : List Sn) (E : Int) (w : World) (e : Ending) (w' : World) : Prop := ∃ A n c, e = .returned (.tuple #[.slice A n c, .int .i64 E]) ∧ RowS w' A n c L ∧ Below w.heap.size w w'
def addE (l : List Sn) (f t : Int) : Int := if chkA l f t = 0 then (if 1024 < (addP l f t).length then 3 else 0) else chkA l f t
def addL (l : List Sn) (f t : Int) : List Sn := if chkA l f t = 0 then (if 1024 < (addP l f t).length then [] else addP l f t) else []
def subE (l : List Sn) (f t : Int) : Int := if chkA l f t = 0 then (if 1024 < (subP l f t).length then 3 else 0) else chkA l f t
def subL (l : List Sn) (f t : Int) : List Sn := if chkA l f t = 0 then (if 1024 < (subP l f t).length then [] else subP l f t) else []
theorem addL_len (l : List Sn) (f t : Int) : (addL l f t).length ≤ 1024 := by
  unfold addL
  split
  · split
    · simp
    · omega
  · simp
theorem subL_len (l : List Sn) (f t : Int) : (subL l f t).length ≤ 1024 := by
  unfold subL
  split
  · split
    · simp
    · omega
  · simp
theorem gvx_err {E : Int} {w : World} {e : Ending} {w' : World} (h : GvE E w e w') : GvX [] E w e w' := ⟨none, 0, 0, h.1, RowS.nil _, h.2⟩
theorem gvx_ok {R : List Sn} {w : World} {e : Ending} {w' : World} (h : GvR R w e w') : GvX (if 1024 < R.length then [] else R) (if 1024 < R.length then 3 else 0) w e w' := by
  unfold GvR at h
  split at h
  · rename_i hl
    rw [if_pos hl, if_pos hl]
    exact gvx_err h
  · rename_i hl
    rw [if_neg hl, if_neg hl]
    exact h
section
variable (A : Option Addr) (n c : Nat) (l : List Sn) (f t : Int) (L : List Sn) (E : Int) (w : World) (h1 : RowS w A n c l)
include h1
theorem add_any (hL : addL l f t = L) (hE : addE l f t = E) : Calls Try.prog 8 #[.slice A n c, .int .i64 f, .int .i64 t] w (GvX L E w) := by
  subst hL hE
  unfold addL addE
  by_cases h0 : chkA l f t = 0
  · rw [if_pos h0, if_pos h0]
    exact (add_row A n c l _ f t w h1 h0 rfl).mono fun _ _ h => gvx_ok h
  · rw [if_neg h0, if_neg h0]
    exact (add_err A n c l f t _ w h1 rfl h0).mono fun _ _ h => gvx_err h
theorem ref_add_any (hL : addL l f t = L) (hE : addE l f t = E) : Calls Try.prog 9 #[.slice A n c, .int .i64 f, .int .i64 t] w (GvX L E w) := by
  subst hL hE
  unfold addL addE
  by_cases h0 : chkA l f t = 0
  · rw [if_pos h0, if_pos h0]
    exact (ref_add_row A n c l _ f t w h1 h0 rfl).mono fun _ _ h => gvx_ok h
  · rw [if_neg h0, if_neg h0]
    exact (ref_add_err A n c l f t _ w h1 rfl h0).mono fun _ _ h => gvx_err h
theorem sub_any (hL : subL l f t = L) (hE : subE l f t = E) : Calls Try.prog 10 #[.slice A n c, .int .i64 f, .int .i64 t] w (GvX L E w) := by
  subst hL hE
  unfold subL subE
  by_cases h0 : chkA l f t = 0
  · rw [if_pos h0, if_pos h0]
    exact (sub_row A n c l _ f t w h1 h0 rfl).mono fun _ _ h => gvx_ok h
  · rw [if_neg h0, if_neg h0]
    exact (sub_err A n c l f t _ w h1 rfl h0).mono fun _ _ h => gvx_err h
theorem ref_sub_any (hL : subL l f t = L) (hE : subE l f t = E) : Calls Try.prog 11 #[.slice A n c, .int .i64 f, .int .i64 t] w (GvX L E w) := by
  subst hL hE
  unfold subL subE
  by_cases h0 : chkA l f t = 0
  · rw [if_pos h0, if_pos h0]
    exact (ref_sub_row A n c l _ f t w h1 h0 rfl).mono fun _ _ h => gvx_ok h
  · rw [if_neg h0, if_neg h0]
    exact (ref_sub_err A n c l f t _ w h1 rfl h0).mono fun _ _ h => gvx_err h
theorem check_any (hE : chkS l = E) : Calls Try.prog 13 #[.slice A n c] w fun e w' => e = .returned (.int .i64 E) ∧ Below w.heap.size w w' := by
  subst hE
  exact check_row A n c l w h1
theorem ref_check_any (hE : chkS l = E) : Calls Try.prog 14 #[.slice A n c] w fun e w' => e = .returned (.int .i64 E) ∧ Below w.heap.size w w' := by
  subst hE
  exact ref_check_row A n c l w h1
theorem has_any (x : Int) (B : Bool) (hB : hasB l x = B) : Calls Try.prog 15 #[.slice A n c, .int .i64 x] w fun e w' => e = .returned (.bool B) ∧ Below w.heap.size w w' := by
  subst hB
  by_cases h0 : chkS l = 0
  · exact has_row A n c l x w h1 h0
  · exact has_err A n c l x w h1 h0
theorem ref_has_any (x : Int) (B : Bool) (hB : hasB l x = B) : Calls Try.prog 16 #[.slice A n c, .int .i64 x] w fun e w' => e = .returned (.bool B) ∧ Below w.heap.size w w' := by
  subst hB
  by_cases h0 : chkS l = 0
  · exact ref_has_row A n c l x w h1 h0
  · exact ref_has_err A n c l x w h1 h0
theorem len_any (hE : lenB l = E) : Calls Try.prog 17 #[.slice A n c] w fun e w' => e = .returned (.int .i64 E) ∧ Below w.heap.size w w' := by
  subst hE
  by_cases h0 : chkS l = 0
  · exact len_row A n c l w h1 h0
  · exact len_err A n c l w h1 h0
theorem ref_len_any (hE : lenB l = E) : Calls Try.prog 18 #[.slice A n c] w fun e w' => e = .returned (.int .i64 E) ∧ Below w.heap.size w w' := by
  subst hE
  by_cases h0 : chkS l = 0
  · exact ref_len_row A n c l w h1 h0
  · exact ref_len_err A n c l w h1 h0
theorem same_any (A2 : Option Addr) (n2 c2 : Nat) (h2 : RowS w A2 n2 c2 l) (hl : l.length ≤ 2000) : Calls Try.prog 12 #[.slice A n c, .slice A2 n2 c2] w fun e w' => e = .returned (.bool true) ∧ Below w.heap.size w w' := by
  obtain rfl : n = n2 := by rw [← h1.1, ← h2.1]
  exact same_row A A2 n c c2 l w h1 h2 (by rw [← h1.1]; exact hl)
end
theorem bel_alloc {w w1 w2 : World} (h : Below w.heap.size w w1) (o : Obj) (h2 : Below (w1.alloc o).heap.size (w1.alloc o) w2) : Below w.heap.size w w2 :=
  (h.alloc h.size o).trans (h2.mono (by have := h.size; simp; omega))
theorem bel_next {w w1 w2 : World} (h : Below w.heap.size w w1) (h2 : Below w1.heap.size w1 w2) : Below w.heap.size w w2 := h.trans (h2.mono h.size)
theorem row_one (w : World) (a b : Int) : RowS (w.alloc (.cells #[.int .i64 a, .int .i64 b] 54)) (some ⟨w.heap.size, 0, none⟩) 1 1 [(a, b)] := by
  refine ⟨rfl, Nat.le_refl _, ⟨rfl, fun _ => ⟨_, rfl, by simp, fun i x hx => ?_⟩⟩⟩
  match i, hx with
  | 0, hx => simp [Ps, pv] at hx; subst hx; simp only [Addr.add]; go_simp
  | 1, hx => simp [Ps, pv] at hx; subst hx; simp only [Addr.add]; go_simp
theorem row_two (w : World) (a b d e : Int) : RowS (w.alloc (.cells #[.int .i64 a, .int .i64 b, .int .i64 d, .int .i64 e] 54)) (some ⟨w.heap.size, 0, none⟩) 2 2 [(a, b), (d, e)] := by
  refine ⟨rfl, Nat.le_refl _, ⟨rfl, fun _ => ⟨_, rfl, by simp, fun i x hx => ?_⟩⟩⟩
  match i, hx with
  | 0, hx => simp [Ps, pv] at hx; subst hx; simp only [Addr.add]; go_simp
  | 1, hx => simp [Ps, pv] at hx; subst hx; simp only [Addr.add]; go_simp
  | 2, hx => simp [Ps, pv] at hx; subst hx; simp only [Addr.add]; go_simp
  | 3, hx => simp [Ps, pv] at hx; subst hx; simp only [Addr.add]; go_simp
end Go.Proofs.Ytkmfcaaionmfoaa.Sp
