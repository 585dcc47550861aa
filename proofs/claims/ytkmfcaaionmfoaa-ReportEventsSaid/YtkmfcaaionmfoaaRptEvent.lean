/- What report.Event computes; no condition. -/
import Derived.Test.YtkmfcaaionmfoaaRptCounts
set_option maxRecDepth 100000
namespace Go.Proofs.Ytkmfcaaionmfoaa.Rp
open Go.RowKit Go.Proofs.Ytkmfcaaionmfoaa.Sp

def eNs (i0 i1 k0 k1 k2 : Int) (y1 : ByteArray) (a0 : Int) (y2 : ByteArray) (er t0 t1 : Int) : List Int := [i0, i1, k0, k1, k2, (y1.size : Int), a0, er, (y2.size : Int), t0, t1]
def eTxt (i0 i1 k0 k1 k2 : Int) (y1 : ByteArray) (a0 : Int) (y2 : ByteArray) (er t0 t1 : Int) : By := Lib.join ((eNs i0 i1 k0 k1 k2 y1 a0 y2 er t0 t1).map dig) [32]
theorem row_eleven (i0 i1 k0 k1 k2 : Int) (y1 : ByteArray) (a0 : Int) (y2 : ByteArray) (er t0 t1 : Int) (w : World) : Reads (w.alloc (.cells #[.int .i64 i0, .int .i64 i1, .int .i64 k0, .int .i64 k1, .int .i64 k2, .int .i64 (y1.size : Int), .int .i64 a0, .int .i64 er, .int .i64 (y2.size : Int), .int .i64 t0, .int .i64 t1] 3)) (w.alloc (.cells #[.int .i64 i0, .int .i64 i1, .int .i64 k0, .int .i64 k1, .int .i64 k2, .int .i64 (y1.size : Int), .int .i64 a0, .int .i64 er, .int .i64 (y2.size : Int), .int .i64 t0, .int .i64 t1] 3)).heap.size 1 (some ⟨w.heap.size, 0, none⟩) 11 (Ns (eNs i0 i1 k0 k1 k2 y1 a0 y2 er t0 t1)) := by
  refine ⟨rfl, fun _ => ⟨_, rfl, by simp, fun j u hj => ?_⟩⟩
  have hja : (⟨w.heap.size, 0, none⟩ : Addr).add j = ⟨w.heap.size, j, none⟩ := by
    by_cases e : j = 0
    · subst e; rfl
    · simp [Addr.add, e]
  rw [hja, World.cell?_alloc_at (hn := rfl)]
  have e : Ns (eNs i0 i1 k0 k1 k2 y1 a0 y2 er t0 t1) = #[.int .i64 i0, .int .i64 i1, .int .i64 k0, .int .i64 k1, .int .i64 k2, .int .i64 (y1.size : Int), .int .i64 a0, .int .i64 er, .int .i64 (y2.size : Int), .int .i64 t0, .int .i64 t1].toList := rfl
  rw [e, Array.getElem?_toList] at hj
  exact hj
set_option maxHeartbeats 1000000 in
theorem event_row (i0 i1 k0 k1 k2 : Int) (y1 : ByteArray) (a0 : Int) (y2 : ByteArray) (er t0 t1 : Int) (w : World) (h : ∀ x ∈ eNs i0 i1 k0 k1 k2 y1 a0 y2 er t0 t1, -9223372036854775808 < x ∧ x < 9223372036854775808) :
    Calls Try.prog 23 #[.agg #[.int .i64 i0, .int .i64 i1, .int .i64 k0, .int .i64 k1, .int .i64 k2, .string y1, .int .i64 a0, .string y2, .int .i64 er, .int .i64 t0, .int .i64 t1]] w fun e w' => e = .returned (.string (bsOf (eTxt i0 i1 k0 k1 k2 y1 a0 y2 er t0 t1))) ∧ Below w.heap.size w w' := by
  have hrow := row_eleven i0 i1 k0 k1 k2 y1 a0 y2 er t0 t1 (w.alloc (.cells #[.int .i64 i0, .int .i64 i1, .int .i64 k0, .int .i64 k1, .int .i64 k2, .string y1, .int .i64 a0, .string y2, .int .i64 er, .int .i64 t0, .int .i64 t1] 50))
  have hsz : (w.alloc (.cells #[.int .i64 i0, .int .i64 i1, .int .i64 k0, .int .i64 k1, .int .i64 k2, .string y1, .int .i64 a0, .string y2, .int .i64 er, .int .i64 t0, .int .i64 t1] 50)).heap.size = w.heap.size + 1 := by simp
  generalize hW : (w.alloc (.cells #[.int .i64 i0, .int .i64 i1, .int .i64 k0, .int .i64 k1, .int .i64 k2, .string y1, .int .i64 a0, .string y2, .int .i64 er, .int .i64 t0, .int .i64 t1] 50)).alloc (.cells #[.int .i64 i0, .int .i64 i1, .int .i64 k0, .int .i64 k1, .int .i64 k2, .int .i64 (y1.size : Int), .int .i64 a0, .int .i64 er, .int .i64 (y2.size : Int), .int .i64 t0, .int .i64 t1] 3) = W at hrow
  rw [hsz] at hrow
  have M := Lib.hid (line_row (some ⟨w.heap.size + 1, 0, none⟩) 11 11 (eNs i0 i1 k0 k1 k2 y1 a0 y2 er t0 t1) W rfl (by omega) (by omega) hrow h)
  rw [← hW] at M
  clear h hrow hsz hW
  go_enter Try.func23, Try.ntmps23
  go_wp2_with (go_at_call 30; (with_reducible refine (M.out).mono ?_); rintro e W1 ⟨rfl, b1⟩)
  go_ret
  exact ⟨rfl, bel_alloc ((Below.refl _ _).alloc (Nat.le_refl _) _) _ b1⟩
end Go.Proofs.Ytkmfcaaionmfoaa.Rp
