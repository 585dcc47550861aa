/- What report.Counts and the law's big compute; no condition. -/
import Derived.Test.YtkmfcaaionmfoaaRptNamed
set_option maxRecDepth 100000
namespace Go.Proofs.Ytkmfcaaionmfoaa.Rp
open Go.RowKit Go.Proofs.Ytkmfcaaionmfoaa.Sp

def cFs (c0 c1 c2 c3 c4 c5 c6 c7 c8 : Int) : List Fd := [([115, 101, 110, 116], c0), ([116, 97, 107, 101, 110], c1), ([98, 97, 100], c2), ([111, 108, 100], c3), ([98, 101, 121, 111, 110, 100], c4), ([116, 119, 105, 99, 101], c5), ([102, 117, 108, 108], c6), ([100, 101, 99, 111, 100, 101, 100], c7), ([114, 101, 115, 101, 110, 116], c8)]
def cTxt (c0 c1 c2 c3 c4 c5 c6 c7 c8 : Int) : By := Lib.join ((cFs c0 c1 c2 c3 c4 c5 c6 c7 c8).map ft) [44, 32]
theorem row_nine (c0 c1 c2 c3 c4 c5 c6 c7 c8 : Int) (w : World) : RowF (w.alloc (.cells #[.string ⟨#[115, 101, 110, 116]⟩, .int .i64 c0, .string ⟨#[116, 97, 107, 101, 110]⟩, .int .i64 c1, .string ⟨#[98, 97, 100]⟩, .int .i64 c2, .string ⟨#[111, 108, 100]⟩, .int .i64 c3, .string ⟨#[98, 101, 121, 111, 110, 100]⟩, .int .i64 c4, .string ⟨#[116, 119, 105, 99, 101]⟩, .int .i64 c5, .string ⟨#[102, 117, 108, 108]⟩, .int .i64 c6, .string ⟨#[100, 101, 99, 111, 100, 101, 100]⟩, .int .i64 c7, .string ⟨#[114, 101, 115, 101, 110, 116]⟩, .int .i64 c8] 62)) (some ⟨w.heap.size, 0, none⟩) 9 (cFs c0 c1 c2 c3 c4 c5 c6 c7 c8) := by
  refine ⟨rfl, rfl, fun _ => ⟨_, rfl, by simp, fun j u hj => ?_⟩⟩
  have hj18 : j < 18 := by
    have h := (List.getElem?_eq_some_iff.1 hj).1
    simpa [Fs, cFs, fv] using h
  have hja : (⟨w.heap.size, 0, none⟩ : Addr).add j = ⟨w.heap.size, j, none⟩ := by
    by_cases e : j = 0
    · subst e; rfl
    · simp [Addr.add, e]
  rw [hja, World.cell?_alloc_at (hn := rfl)]
  have e : Fs (cFs c0 c1 c2 c3 c4 c5 c6 c7 c8) = #[.string ⟨#[115, 101, 110, 116]⟩, .int .i64 c0, .string ⟨#[116, 97, 107, 101, 110]⟩, .int .i64 c1, .string ⟨#[98, 97, 100]⟩, .int .i64 c2, .string ⟨#[111, 108, 100]⟩, .int .i64 c3, .string ⟨#[98, 101, 121, 111, 110, 100]⟩, .int .i64 c4, .string ⟨#[116, 119, 105, 99, 101]⟩, .int .i64 c5, .string ⟨#[102, 117, 108, 108]⟩, .int .i64 c6, .string ⟨#[100, 101, 99, 111, 100, 101, 100]⟩, .int .i64 c7, .string ⟨#[114, 101, 115, 101, 110, 116]⟩, .int .i64 c8].toList := rfl
  rw [e, Array.getElem?_toList] at hj
  exact hj
theorem fdok_nine (c0 c1 c2 c3 c4 c5 c6 c7 c8 : Int) (h : ∀ x ∈ [c0, c1, c2, c3, c4, c5, c6, c7, c8], -9223372036854775808 < x ∧ x < 9223372036854775808) : ∀ d ∈ cFs c0 c1 c2 c3 c4 c5 c6 c7 c8, FdOk d := by
  intro d hd
  simp [cFs] at hd
  simp at h
  rcases hd with rfl | rfl | rfl | rfl | rfl | rfl | rfl | rfl | rfl
  all_goals exact ⟨by simp, by omega, by omega⟩
set_option maxHeartbeats 1000000 in
theorem counts_row (c0 c1 c2 c3 c4 c5 c6 c7 c8 : Int) (w : World) (h : ∀ x ∈ [c0, c1, c2, c3, c4, c5, c6, c7, c8], -9223372036854775808 < x ∧ x < 9223372036854775808) :
    Calls Try.prog 22 #[.agg #[.int .i64 c0, .int .i64 c1, .int .i64 c2, .int .i64 c3, .int .i64 c4, .int .i64 c5, .int .i64 c6, .int .i64 c7, .int .i64 c8]] w fun e w' => e = .returned (.string (bsOf (cTxt c0 c1 c2 c3 c4 c5 c6 c7 c8))) ∧ Below w.heap.size w w' := by
  have hrow := row_nine c0 c1 c2 c3 c4 c5 c6 c7 c8 (w.alloc (.cells #[.int .i64 c0, .int .i64 c1, .int .i64 c2, .int .i64 c3, .int .i64 c4, .int .i64 c5, .int .i64 c6, .int .i64 c7, .int .i64 c8] 39))
  rw [show (w.alloc (.cells #[.int .i64 c0, .int .i64 c1, .int .i64 c2, .int .i64 c3, .int .i64 c4, .int .i64 c5, .int .i64 c6, .int .i64 c7, .int .i64 c8] 39)).heap.size = w.heap.size + 1 by simp] at hrow
  have M := Lib.hid (named_row (some ⟨w.heap.size + 1, 0, none⟩) 9 9 (cFs c0 c1 c2 c3 c4 c5 c6 c7 c8) ((w.alloc (.cells #[.int .i64 c0, .int .i64 c1, .int .i64 c2, .int .i64 c3, .int .i64 c4, .int .i64 c5, .int .i64 c6, .int .i64 c7, .int .i64 c8] 39)).alloc (.cells #[.string ⟨#[115, 101, 110, 116]⟩, .int .i64 c0, .string ⟨#[116, 97, 107, 101, 110]⟩, .int .i64 c1, .string ⟨#[98, 97, 100]⟩, .int .i64 c2, .string ⟨#[111, 108, 100]⟩, .int .i64 c3, .string ⟨#[98, 101, 121, 111, 110, 100]⟩, .int .i64 c4, .string ⟨#[116, 119, 105, 99, 101]⟩, .int .i64 c5, .string ⟨#[102, 117, 108, 108]⟩, .int .i64 c6, .string ⟨#[100, 101, 99, 111, 100, 101, 100]⟩, .int .i64 c7, .string ⟨#[114, 101, 115, 101, 110, 116]⟩, .int .i64 c8] 62)) hrow (by omega) (by omega) (fdok_nine c0 c1 c2 c3 c4 c5 c6 c7 c8 h))
  clear h hrow
  go_enter Try.func22, Try.ntmps22
  go_wp2_with (go_at_call 29; (with_reducible refine (M.out).mono ?_); rintro e W1 ⟨rfl, b1⟩)
  go_ret
  exact ⟨rfl, bel_alloc ((Below.refl _ _).alloc (Nat.le_refl _) _) _ b1⟩
def bigB (x : Int) : Bool := decide (x < -4611686018427387904) || decide (4611686018427387904 < x)
theorem big_any (x : Int) (b : Bool) (hb : bigB x = b) (w : World) : Calls Try.prog 19 #[.int .i64 x] w fun e w' => e = .returned (.bool b) ∧ w = w' := by
  subst hb
  unfold bigB
  cases h1 : decide (x < -4611686018427387904)
  · go_enter Try.func19, Try.ntmps19
    go_wp2_with fail
    go_ret
    exact ⟨rfl, rfl⟩
  · go_enter Try.func19, Try.ntmps19
    go_wp2_with fail
    go_ret
    exact ⟨rfl, rfl⟩
theorem big_no {x : Int} (h : bigB x = false) : -9223372036854775808 < x ∧ x < 9223372036854775808 := by
  unfold bigB at h
  simp at h
  omega
end Go.Proofs.Ytkmfcaaionmfoaa.Rp
