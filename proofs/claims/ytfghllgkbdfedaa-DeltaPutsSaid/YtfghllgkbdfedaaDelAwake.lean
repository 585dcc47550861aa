/- lightshiplaw57.awake is true; no condition. -/
import Derived.Test.YtfghllgkbdfedaaDelPut
import Derived.Test.YtfghllgkbdfedaaDelRead
set_option maxRecDepth 100000
namespace Go.Proofs.Ytfghllgkbdfedaa.Dl
open Go.RowKit

theorem row_built (w : World) (l : List Nat) (cs : Array Value) (h : cs.toList = Us l) (h6 : Ok64 l) : RowU (w.alloc (.cells cs 30)) (some ⟨w.heap.size, 0, none⟩) l.length l := by
  refine ⟨rfl, ⟨by rw [Us_len]; omega, fun _ => ⟨_, rfl, by simp, fun j u hj => ?_⟩⟩, h6⟩
  have hja : (⟨w.heap.size, 0, none⟩ : Addr).add j = ⟨w.heap.size, j, none⟩ := by
    by_cases e : j = 0
    · subst e; rfl
    · simp [Addr.add, e]
  rw [hja, World.cell?_alloc_at (hn := rfl)]
  rw [← h, Array.getElem?_toList] at hj
  exact hj
theorem bel_of_alloc {w w' : World} {o : Obj} (h : Below (w.alloc o).heap.size (w.alloc o) w') : Below w.heap.size w w' := ((Below.refl _ w).alloc (Nat.le_refl _) o).trans (h.mono (by simp))
theorem bel_next {a w w' : World} (h : Below a.heap.size a w) (k : Below w.heap.size w w') : Below a.heap.size a w' := h.trans (k.mono h.size)
theorem ok3 : Ok64 [5, 6, 300] := by intro x hx; simp at hx; omega
theorem ok2 : Ok64 [5, 5] := by intro x hx; simp at hx; omega
theorem rise3 : Rise [5, 6, 300] := by
  intro i hi
  match i, hi with
  | 0, _ => decide
  | 1, _ => decide
theorem rise2 : ¬ Rise [5, 5] := fun h => absurd (h 0 (by decide)) (by decide)
theorem enc3 : enc [5, 6, 300] = [3, 5, 0, 165, 2] := by decide
theorem rdx : rd [3, 5, 0, 165, 2, 120] = (5, []) := by decide
theorem rd3 : rd [3, 5, 0, 165, 2] = (0, [5, 6, 300]) := by rw [← enc3]; exact rd_enc rise3 ok3 (by decide)
set_option maxHeartbeats 2000000 in
theorem awake57 (w : World) : Calls Try.prog 41 #[] w fun e w' => e = .returned (.bool true) ∧ Below w.heap.size w w' := by
  have P1 := Lib.hid (show ∀ w : World, Calls Try.prog 42 #[.slice (some ⟨w.heap.size, 0, none⟩) 3 3] (w.alloc (.cells #[.int .u64 5, .int .u64 6, .int .u64 300] 30)) fun e w' => e = .returned (.tuple #[.string ⟨#[3, 5, 0, 165, 2]⟩, .int .i64 0]) ∧ Below w.heap.size w w' from
    fun w => (put57_rise _ 3 3 [5, 6, 300] _ (row_built w [5, 6, 300] _ rfl ok3) (by decide) rise3).mono fun e w' ⟨h1, h2⟩ => ⟨by rw [h1, enc3], bel_of_alloc h2⟩)
  have P2 := Lib.hid (show ∀ w : World, Calls Try.prog 42 #[.slice (some ⟨w.heap.size, 0, none⟩) 2 2] (w.alloc (.cells #[.int .u64 5, .int .u64 5] 30)) fun e w' => e = .returned (.tuple #[.string ⟨#[]⟩, .int .i64 5]) ∧ Below w.heap.size w w' from
    fun w => (put57_bad _ 2 2 [5, 5] _ (row_built w [5, 5] _ rfl ok2) (by decide) rise2).mono fun e w' ⟨h1, h2⟩ => ⟨h1, bel_of_alloc h2⟩)
  have R1 := Lib.hid (fun w => read57_any ⟨#[3, 5, 0, 165, 2]⟩ w (by decide) 0 [5, 6, 300] rd3)
  have R2' := fun w => read57_any ⟨#[3, 5, 0, 165, 2, 120]⟩ w (by decide) 5 [] rdx
  rw [show (⟨#[3, 5, 0, 165, 2, 120]⟩ : ByteArray) = ⟨#[3, 5, 0, 165, 2]⟩ ++ ⟨#[120]⟩ from rfl] at R2'
  have R2 := Lib.hid R2'
  clear R2'
  have Z := Lib.hid (fun w => rises_any none 0 0 [] true (by simp [Rise]) (by decide) w (RowU.none_ w))
  go_enter Try.func41, Try.ntmps41
  go_wp2_with (first
    | (go_at_call 42; (with_reducible refine (P1.out w).mono ?_); rintro e W1 ⟨rfl, b1⟩)
    | (go_at_call 44; (with_reducible refine (R1.out W1).mono ?_); rintro e W2 ⟨A, cap, rfl, hrow, b2⟩; have b2' := bel_next b1 b2)
    | (go_at_call 42; (with_reducible refine (P2.out W2).mono ?_); rintro e W3 ⟨rfl, b3⟩; have b3' := bel_next b2' b3)
    | (go_at_call 44; (with_reducible refine (R2.out W3).mono ?_); rintro e W4 ⟨A2, cap2, rfl, _, b4⟩; have b4' := bel_next b3' b4; have hrow4 := (hrow.on (bel_next b3 b4)).on ((Below.refl _ W4).alloc (Nat.le_refl _) (.cells #[.int .u64 5, .int .u64 6, .int .u64 300] 30)); have S := Lib.hid (same_any A 3 cap [5, 6, 300] (some ⟨W4.heap.size, 0, none⟩) 3 3 [5, 6, 300] true (by simp) (by decide) _ hrow4 (row_built W4 [5, 6, 300] _ rfl ok3)))
    | (go_at_call 45; (with_reducible refine S.out.mono ?_); rintro e W5 ⟨rfl, b5⟩; have b5' := bel_next b4' (bel_of_alloc b5))
    | (go_at_call 43; (with_reducible refine (Z.out W5).mono ?_); rintro e W6 ⟨rfl, b6⟩; have b6' := bel_next b5' b6))
  go_ret
  exact ⟨rfl, b6'⟩
end Go.Proofs.Ytfghllgkbdfedaa.Dl
