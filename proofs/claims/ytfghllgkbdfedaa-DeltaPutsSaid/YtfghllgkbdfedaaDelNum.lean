/- What delta's reader.num computes; condition: the reader's text is a text. -/
import Derived.Test.YtfghllgkbdfedaaDelRow
import Derived.WalkSpells
namespace Go.Proofs.Ytfghllgkbdfedaa.Dl
open Go.RowKit
set_option maxRecDepth 100000
theorem read_le (s : List UInt8) : (Var.read s).2.1 ≤ s.length := by
  unfold Var.read
  split
  · exact Nat.zero_le _
  · rename_i e he
    have := Var.ends_some he
    split
    · exact Nat.zero_le _
    · split
      · exact Nat.zero_le _
      · show e + 1 ≤ s.length
        omega
set_option maxHeartbeats 1000000 in
theorem num_any (b : Nat) (s : ByteArray) (w : World) (hs : s.size ≤ maxLen) (hb : Blk w b 104 #[.string s]) (x k e : Nat) (hr : Var.read s.data.toList = (x, k, e)) :
    Calls Try.prog 56 #[.pointer (some ⟨b, 0, none⟩)] w fun en w' => en = .returned (.tuple #[.int .u64 x, .int .i64 e]) ∧ w' = w.setCell ⟨b, 0, none⟩ (.string (s.extract k s.size)) := by
  have c0 : w.cell? ⟨b, 0, none⟩ = some (.string s) := hb.cell 0
  have f0 := hb.frozen 0
  have hk := read_le s.data.toList
  have M := fun w => Var.read_any s w hs
  rw [hr] at hk M
  have hk : k ≤ s.size := hk
  have hm : s.size ≤ 9223372036854775807 := hs
  have M := Lib.hid M
  clear hr hs
  go_enter Try.func56, Try.ntmps56
  go_wp2_with (go_at_call 21; (with_reducible refine (M.out _).mono ?_); rintro e w' ⟨rfl, rfl⟩)
  go_ret2
  exact ⟨rfl, rfl⟩
end Go.Proofs.Ytfghllgkbdfedaa.Dl
