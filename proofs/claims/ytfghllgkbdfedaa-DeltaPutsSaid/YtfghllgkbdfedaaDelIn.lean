/- A row of words that came in, as numbers; no condition. -/
import Derived.Test.YtfghllgkbdfedaaDelRow
namespace Go.Proofs.Ytfghllgkbdfedaa.Dl
open Go.RowKit

theorem u64_nat {a : Int} (h : (Lit.int .u64 a).wf = true) : 0 ≤ a ∧ a < 18446744073709551616 := by
  have hx : 0 ≤ a ∧ a ≤ 18446744073709551615 := by simpa [Lit.wf, IntKind.min, IntKind.max, IntKind.signed, IntKind.bits] using h
  omega
theorem row_in {w : World} {a : Option Addr} {len cap : Nat} {zs : List Int} (h : IsRow .u64 w a len cap zs) : ∃ l : List Nat, RowU w a len l := by
  obtain ⟨h1, _, h3⟩ := h.reads
  have hw := h.wf
  refine ⟨(zs.take len).map Int.toNat, by simpa using h3, ?_, ?_⟩
  · have e : Us ((zs.take len).map Int.toNat) = (zs.take len).map (Value.int .u64) := by
      unfold Us
      rw [List.map_map]
      apply List.map_congr_left
      intro n hn
      have := u64_nat (hw n (List.mem_of_mem_take hn))
      simp; omega
    rw [e]; exact h1
  · intro x hx
    obtain ⟨n, hn, rfl⟩ := List.mem_map.1 hx
    have := u64_nat (hw n (List.mem_of_mem_take hn))
    omega
end Go.Proofs.Ytfghllgkbdfedaa.Dl
