/- lightshiplaw52.ReportCounts returns true; printed by a program of ours; no condition. -/
import Derived.Test.YtkmfcaaionmfoaaRptAwake
set_option maxRecDepth 100000
namespace Go.Proofs.Ytkmfcaaionmfoaa.Rp
open Go.RowKit Go.Proofs.Ytkmfcaaionmfoaa.Sp

theorem cTxt_list (c0 c1 c2 c3 c4 c5 c6 c7 c8 : Int) : cTxt c0 c1 c2 c3 c4 c5 c6 c7 c8 = [115, 101, 110, 116, 32] ++ dig c0 ++ [44, 32, 116, 97, 107, 101, 110, 32] ++ dig c1 ++ [44, 32, 98, 97, 100, 32] ++ dig c2 ++ [44, 32, 111, 108, 100, 32] ++ dig c3 ++ [44, 32, 98, 101, 121, 111, 110, 100, 32] ++ dig c4 ++ [44, 32, 116, 119, 105, 99, 101, 32] ++ dig c5 ++ [44, 32, 102, 117, 108, 108, 32] ++ dig c6 ++ [44, 32, 100, 101, 99, 111, 100, 101, 100, 32] ++ dig c7 ++ [44, 32, 114, 101, 115, 101, 110, 116, 32] ++ dig c8 := by
  show Lib.join (List.map ft (cFs c0 c1 c2 c3 c4 c5 c6 c7 c8)) [44, 32] = _
  simp only [cFs, List.map, ft, Lib.join_cons, Lib.joinTail, List.flatten_cons, List.flatten_nil, List.append_assoc, List.cons_append, List.nil_append, List.append_nil]
theorem cTxt_chain (c0 c1 c2 c3 c4 c5 c6 c7 c8 : Int) : bsOf (cTxt c0 c1 c2 c3 c4 c5 c6 c7 c8) = bsOf [115, 101, 110, 116, 32] ++ bsOf (dig c0) ++ bsOf [44, 32, 116, 97, 107, 101, 110, 32] ++ bsOf (dig c1) ++ bsOf [44, 32, 98, 97, 100, 32] ++ bsOf (dig c2) ++ bsOf [44, 32, 111, 108, 100, 32] ++ bsOf (dig c3) ++ bsOf [44, 32, 98, 101, 121, 111, 110, 100, 32] ++ bsOf (dig c4) ++ bsOf [44, 32, 116, 119, 105, 99, 101, 32] ++ bsOf (dig c5) ++ bsOf [44, 32, 102, 117, 108, 108, 32] ++ bsOf (dig c6) ++ bsOf [44, 32, 100, 101, 99, 111, 100, 101, 100, 32] ++ bsOf (dig c7) ++ bsOf [44, 32, 114, 101, 115, 101, 110, 116, 32] ++ bsOf (dig c8) := by
  rw [cTxt_list]
  simp only [bsOf_app]
theorem counts_keep {c0 c1 c2 c3 c4 c5 c6 c7 c8 : Int} {b : Nat} {w0 w w2 : World} (h : w.cell? ⟨b, 0, none⟩ = some (.int .i64 c0) ∧ w.cell? ⟨b, 1, none⟩ = some (.int .i64 c1) ∧ w.cell? ⟨b, 2, none⟩ = some (.int .i64 c2) ∧ w.cell? ⟨b, 3, none⟩ = some (.int .i64 c3) ∧ w.cell? ⟨b, 4, none⟩ = some (.int .i64 c4) ∧ w.cell? ⟨b, 5, none⟩ = some (.int .i64 c5) ∧ w.cell? ⟨b, 6, none⟩ = some (.int .i64 c6) ∧ w.cell? ⟨b, 7, none⟩ = some (.int .i64 c7) ∧ w.cell? ⟨b, 8, none⟩ = some (.int .i64 c8) ∧ Below b w0 w) (hb : Below w.heap.size w w2) (hg : b ≤ w.heap.size) : w2.cell? ⟨b, 0, none⟩ = some (.int .i64 c0) ∧ w2.cell? ⟨b, 1, none⟩ = some (.int .i64 c1) ∧ w2.cell? ⟨b, 2, none⟩ = some (.int .i64 c2) ∧ w2.cell? ⟨b, 3, none⟩ = some (.int .i64 c3) ∧ w2.cell? ⟨b, 4, none⟩ = some (.int .i64 c4) ∧ w2.cell? ⟨b, 5, none⟩ = some (.int .i64 c5) ∧ w2.cell? ⟨b, 6, none⟩ = some (.int .i64 c6) ∧ w2.cell? ⟨b, 7, none⟩ = some (.int .i64 c7) ∧ w2.cell? ⟨b, 8, none⟩ = some (.int .i64 c8) ∧ Below b w0 w2 := by
  obtain ⟨h0, h1, h2, h3, h4, h5, h6, h7, h8, hB⟩ := h
  exact ⟨below_cell hb h0, below_cell hb h1, below_cell hb h2, below_cell hb h3, below_cell hb h4, below_cell hb h5, below_cell hb h6, below_cell hb h7, below_cell hb h8, hB.trans (hb.mono hg)⟩
theorem counts_drew {c0 c1 c2 c3 c4 c5 c6 c7 c8 : Int} {b : Nat} {w0 w : World} (h : w.cell? ⟨b, 0, none⟩ = some (.int .i64 c0) ∧ w.cell? ⟨b, 1, none⟩ = some (.int .i64 c1) ∧ w.cell? ⟨b, 2, none⟩ = some (.int .i64 c2) ∧ w.cell? ⟨b, 3, none⟩ = some (.int .i64 c3) ∧ w.cell? ⟨b, 4, none⟩ = some (.int .i64 c4) ∧ w.cell? ⟨b, 5, none⟩ = some (.int .i64 c5) ∧ w.cell? ⟨b, 6, none⟩ = some (.int .i64 c6) ∧ w.cell? ⟨b, 7, none⟩ = some (.int .i64 c7) ∧ w.cell? ⟨b, 8, none⟩ = some (.int .i64 c8) ∧ Below b w0 w) : w.drew.cell? ⟨b, 0, none⟩ = some (.int .i64 c0) ∧ w.drew.cell? ⟨b, 1, none⟩ = some (.int .i64 c1) ∧ w.drew.cell? ⟨b, 2, none⟩ = some (.int .i64 c2) ∧ w.drew.cell? ⟨b, 3, none⟩ = some (.int .i64 c3) ∧ w.drew.cell? ⟨b, 4, none⟩ = some (.int .i64 c4) ∧ w.drew.cell? ⟨b, 5, none⟩ = some (.int .i64 c5) ∧ w.drew.cell? ⟨b, 6, none⟩ = some (.int .i64 c6) ∧ w.drew.cell? ⟨b, 7, none⟩ = some (.int .i64 c7) ∧ w.drew.cell? ⟨b, 8, none⟩ = some (.int .i64 c8) ∧ Below b w0 w.drew := by
  obtain ⟨h0, h1, h2, h3, h4, h5, h6, h7, h8, hB⟩ := h
  exact ⟨h0, h1, h2, h3, h4, h5, h6, h7, h8, hB.drew⟩
theorem counts_size {c0 c1 c2 c3 c4 c5 c6 c7 c8 : Int} {b : Nat} {w0 w : World} (h : w.cell? ⟨b, 0, none⟩ = some (.int .i64 c0) ∧ w.cell? ⟨b, 1, none⟩ = some (.int .i64 c1) ∧ w.cell? ⟨b, 2, none⟩ = some (.int .i64 c2) ∧ w.cell? ⟨b, 3, none⟩ = some (.int .i64 c3) ∧ w.cell? ⟨b, 4, none⟩ = some (.int .i64 c4) ∧ w.cell? ⟨b, 5, none⟩ = some (.int .i64 c5) ∧ w.cell? ⟨b, 6, none⟩ = some (.int .i64 c6) ∧ w.cell? ⟨b, 7, none⟩ = some (.int .i64 c7) ∧ w.cell? ⟨b, 8, none⟩ = some (.int .i64 c8) ∧ Below b w0 w) : b ≤ w.heap.size := by
  have := World.block_lt_of_cell? w ⟨b, 0, none⟩ h.1
  exact Nat.le_of_lt this
set_option maxHeartbeats 4000000 in
theorem reportcounts_small (c0 c1 c2 c3 c4 c5 c6 c7 c8 : Int) (w0 : World) (hb0 : bigB c0 = false) (hb1 : bigB c1 = false) (hb2 : bigB c2 = false) (hb3 : bigB c3 = false) (hb4 : bigB c4 = false) (hb5 : bigB c5 = false) (hb6 : bigB c6 = false) (hb7 : bigB c7 = false) (hb8 : bigB c8 = false) : Calls Try.prog 5 #[.agg #[.int .i64 c0, .int .i64 c1, .int .i64 c2, .int .i64 c3, .int .i64 c4, .int .i64 c5, .int .i64 c6, .int .i64 c7, .int .i64 c8]] w0 fun e w' => e = .returned (.bool true) ∧ Below w0.heap.size w0 w' := by
  have HA := Lib.hid awake52
  have G0 := Lib.hid (fun w => big_any c0 false hb0 w)
  have n0 := big_no hb0
  clear hb0
  have G1 := Lib.hid (fun w => big_any c1 false hb1 w)
  have n1 := big_no hb1
  clear hb1
  have G2 := Lib.hid (fun w => big_any c2 false hb2 w)
  have n2 := big_no hb2
  clear hb2
  have G3 := Lib.hid (fun w => big_any c3 false hb3 w)
  have n3 := big_no hb3
  clear hb3
  have G4 := Lib.hid (fun w => big_any c4 false hb4 w)
  have n4 := big_no hb4
  clear hb4
  have G5 := Lib.hid (fun w => big_any c5 false hb5 w)
  have n5 := big_no hb5
  clear hb5
  have G6 := Lib.hid (fun w => big_any c6 false hb6 w)
  have n6 := big_no hb6
  clear hb6
  have G7 := Lib.hid (fun w => big_any c7 false hb7 w)
  have n7 := big_no hb7
  clear hb7
  have G8 := Lib.hid (fun w => big_any c8 false hb8 w)
  have n8 := big_no hb8
  clear hb8
  have HC := cTxt_chain c0 c1 c2 c3 c4 c5 c6 c7 c8
  have MC := fun w => counts_row c0 c1 c2 c3 c4 c5 c6 c7 c8 w (by intro x hx; simp at hx; rcases hx with rfl | rfl | rfl | rfl | rfl | rfl | rfl | rfl | rfl <;> omega)
  have l0 := dig_len n0.1 n0.2
  have M0 := fun w => ldigits_any c0 n0.1 n0.2 w
  rw [← bsOf_size] at l0
  generalize bsOf (dig c0) = D0 at HC l0 M0
  have M0 := Lib.hid M0
  have l1 := dig_len n1.1 n1.2
  have M1 := fun w => ldigits_any c1 n1.1 n1.2 w
  rw [← bsOf_size] at l1
  generalize bsOf (dig c1) = D1 at HC l1 M1
  have M1 := Lib.hid M1
  have l2 := dig_len n2.1 n2.2
  have M2 := fun w => ldigits_any c2 n2.1 n2.2 w
  rw [← bsOf_size] at l2
  generalize bsOf (dig c2) = D2 at HC l2 M2
  have M2 := Lib.hid M2
  have l3 := dig_len n3.1 n3.2
  have M3 := fun w => ldigits_any c3 n3.1 n3.2 w
  rw [← bsOf_size] at l3
  generalize bsOf (dig c3) = D3 at HC l3 M3
  have M3 := Lib.hid M3
  have l4 := dig_len n4.1 n4.2
  have M4 := fun w => ldigits_any c4 n4.1 n4.2 w
  rw [← bsOf_size] at l4
  generalize bsOf (dig c4) = D4 at HC l4 M4
  have M4 := Lib.hid M4
  have l5 := dig_len n5.1 n5.2
  have M5 := fun w => ldigits_any c5 n5.1 n5.2 w
  rw [← bsOf_size] at l5
  generalize bsOf (dig c5) = D5 at HC l5 M5
  have M5 := Lib.hid M5
  have l6 := dig_len n6.1 n6.2
  have M6 := fun w => ldigits_any c6 n6.1 n6.2 w
  rw [← bsOf_size] at l6
  generalize bsOf (dig c6) = D6 at HC l6 M6
  have M6 := Lib.hid M6
  have l7 := dig_len n7.1 n7.2
  have M7 := fun w => ldigits_any c7 n7.1 n7.2 w
  rw [← bsOf_size] at l7
  generalize bsOf (dig c7) = D7 at HC l7 M7
  have M7 := Lib.hid M7
  have l8 := dig_len n8.1 n8.2
  have M8 := fun w => ldigits_any c8 n8.1 n8.2 w
  rw [← bsOf_size] at l8
  generalize bsOf (dig c8) = D8 at HC l8 M8
  have M8 := Lib.hid M8
  clear n0 n1 n2 n3 n4 n5 n6 n7 n8
  rw [HC] at MC
  clear HC
  change ∀ w, Calls Try.prog 22 #[.agg #[.int .i64 c0, .int .i64 c1, .int .i64 c2, .int .i64 c3, .int .i64 c4, .int .i64 c5, .int .i64 c6, .int .i64 c7, .int .i64 c8]] w fun e w' => e = .returned (.string ((⟨#[115, 101, 110, 116, 32]⟩ : ByteArray) ++ D0 ++ (⟨#[44, 32, 116, 97, 107, 101, 110, 32]⟩ : ByteArray) ++ D1 ++ (⟨#[44, 32, 98, 97, 100, 32]⟩ : ByteArray) ++ D2 ++ (⟨#[44, 32, 111, 108, 100, 32]⟩ : ByteArray) ++ D3 ++ (⟨#[44, 32, 98, 101, 121, 111, 110, 100, 32]⟩ : ByteArray) ++ D4 ++ (⟨#[44, 32, 116, 119, 105, 99, 101, 32]⟩ : ByteArray) ++ D5 ++ (⟨#[44, 32, 102, 117, 108, 108, 32]⟩ : ByteArray) ++ D6 ++ (⟨#[44, 32, 100, 101, 99, 111, 100, 101, 100, 32]⟩ : ByteArray) ++ D7 ++ (⟨#[44, 32, 114, 101, 115, 101, 110, 116, 32]⟩ : ByteArray) ++ D8)) ∧ Below w.heap.size w w' at MC
  have z1 : ¬ 9223372036854775807 < 5 + D0.size := by omega
  have y1 : ¬ 9223372036854775807 < (⟨#[115, 101, 110, 116, 32]⟩ : ByteArray).size + D0.size := z1
  have r1 : ((⟨#[115, 101, 110, 116, 32]⟩ : ByteArray) ++ D0).size = 5 + D0.size := by rw [ByteArray.size_append]; rfl
  generalize hT1 : (⟨#[115, 101, 110, 116, 32]⟩ : ByteArray) ++ D0 = T1 at MC r1
  have z2 : ¬ 9223372036854775807 < T1.size + 8 := by omega
  have y2 : ¬ 9223372036854775807 < T1.size + (⟨#[44, 32, 116, 97, 107, 101, 110, 32]⟩ : ByteArray).size := z2
  have r2 : (T1 ++ (⟨#[44, 32, 116, 97, 107, 101, 110, 32]⟩ : ByteArray)).size = T1.size + 8 := by rw [ByteArray.size_append]; rfl
  generalize hT2 : T1 ++ (⟨#[44, 32, 116, 97, 107, 101, 110, 32]⟩ : ByteArray) = T2 at MC r2
  have z3 : ¬ 9223372036854775807 < T2.size + D1.size := by omega
  have r3 : (T2 ++ D1).size = T2.size + D1.size := by rw [ByteArray.size_append]
  generalize hT3 : T2 ++ D1 = T3 at MC r3
  have z4 : ¬ 9223372036854775807 < T3.size + 6 := by omega
  have y4 : ¬ 9223372036854775807 < T3.size + (⟨#[44, 32, 98, 97, 100, 32]⟩ : ByteArray).size := z4
  have r4 : (T3 ++ (⟨#[44, 32, 98, 97, 100, 32]⟩ : ByteArray)).size = T3.size + 6 := by rw [ByteArray.size_append]; rfl
  generalize hT4 : T3 ++ (⟨#[44, 32, 98, 97, 100, 32]⟩ : ByteArray) = T4 at MC r4
  have z5 : ¬ 9223372036854775807 < T4.size + D2.size := by omega
  have r5 : (T4 ++ D2).size = T4.size + D2.size := by rw [ByteArray.size_append]
  generalize hT5 : T4 ++ D2 = T5 at MC r5
  have z6 : ¬ 9223372036854775807 < T5.size + 6 := by omega
  have y6 : ¬ 9223372036854775807 < T5.size + (⟨#[44, 32, 111, 108, 100, 32]⟩ : ByteArray).size := z6
  have r6 : (T5 ++ (⟨#[44, 32, 111, 108, 100, 32]⟩ : ByteArray)).size = T5.size + 6 := by rw [ByteArray.size_append]; rfl
  generalize hT6 : T5 ++ (⟨#[44, 32, 111, 108, 100, 32]⟩ : ByteArray) = T6 at MC r6
  have z7 : ¬ 9223372036854775807 < T6.size + D3.size := by omega
  have r7 : (T6 ++ D3).size = T6.size + D3.size := by rw [ByteArray.size_append]
  generalize hT7 : T6 ++ D3 = T7 at MC r7
  have z8 : ¬ 9223372036854775807 < T7.size + 9 := by omega
  have y8 : ¬ 9223372036854775807 < T7.size + (⟨#[44, 32, 98, 101, 121, 111, 110, 100, 32]⟩ : ByteArray).size := z8
  have r8 : (T7 ++ (⟨#[44, 32, 98, 101, 121, 111, 110, 100, 32]⟩ : ByteArray)).size = T7.size + 9 := by rw [ByteArray.size_append]; rfl
  generalize hT8 : T7 ++ (⟨#[44, 32, 98, 101, 121, 111, 110, 100, 32]⟩ : ByteArray) = T8 at MC r8
  have z9 : ¬ 9223372036854775807 < T8.size + D4.size := by omega
  have r9 : (T8 ++ D4).size = T8.size + D4.size := by rw [ByteArray.size_append]
  generalize hT9 : T8 ++ D4 = T9 at MC r9
  have z10 : ¬ 9223372036854775807 < T9.size + 8 := by omega
  have y10 : ¬ 9223372036854775807 < T9.size + (⟨#[44, 32, 116, 119, 105, 99, 101, 32]⟩ : ByteArray).size := z10
  have r10 : (T9 ++ (⟨#[44, 32, 116, 119, 105, 99, 101, 32]⟩ : ByteArray)).size = T9.size + 8 := by rw [ByteArray.size_append]; rfl
  generalize hT10 : T9 ++ (⟨#[44, 32, 116, 119, 105, 99, 101, 32]⟩ : ByteArray) = T10 at MC r10
  have z11 : ¬ 9223372036854775807 < T10.size + D5.size := by omega
  have r11 : (T10 ++ D5).size = T10.size + D5.size := by rw [ByteArray.size_append]
  generalize hT11 : T10 ++ D5 = T11 at MC r11
  have z12 : ¬ 9223372036854775807 < T11.size + 7 := by omega
  have y12 : ¬ 9223372036854775807 < T11.size + (⟨#[44, 32, 102, 117, 108, 108, 32]⟩ : ByteArray).size := z12
  have r12 : (T11 ++ (⟨#[44, 32, 102, 117, 108, 108, 32]⟩ : ByteArray)).size = T11.size + 7 := by rw [ByteArray.size_append]; rfl
  generalize hT12 : T11 ++ (⟨#[44, 32, 102, 117, 108, 108, 32]⟩ : ByteArray) = T12 at MC r12
  have z13 : ¬ 9223372036854775807 < T12.size + D6.size := by omega
  have r13 : (T12 ++ D6).size = T12.size + D6.size := by rw [ByteArray.size_append]
  generalize hT13 : T12 ++ D6 = T13 at MC r13
  have z14 : ¬ 9223372036854775807 < T13.size + 10 := by omega
  have y14 : ¬ 9223372036854775807 < T13.size + (⟨#[44, 32, 100, 101, 99, 111, 100, 101, 100, 32]⟩ : ByteArray).size := z14
  have r14 : (T13 ++ (⟨#[44, 32, 100, 101, 99, 111, 100, 101, 100, 32]⟩ : ByteArray)).size = T13.size + 10 := by rw [ByteArray.size_append]; rfl
  generalize hT14 : T13 ++ (⟨#[44, 32, 100, 101, 99, 111, 100, 101, 100, 32]⟩ : ByteArray) = T14 at MC r14
  have z15 : ¬ 9223372036854775807 < T14.size + D7.size := by omega
  have r15 : (T14 ++ D7).size = T14.size + D7.size := by rw [ByteArray.size_append]
  generalize hT15 : T14 ++ D7 = T15 at MC r15
  have z16 : ¬ 9223372036854775807 < T15.size + 9 := by omega
  have y16 : ¬ 9223372036854775807 < T15.size + (⟨#[44, 32, 114, 101, 115, 101, 110, 116, 32]⟩ : ByteArray).size := z16
  have r16 : (T15 ++ (⟨#[44, 32, 114, 101, 115, 101, 110, 116, 32]⟩ : ByteArray)).size = T15.size + 9 := by rw [ByteArray.size_append]; rfl
  generalize hT16 : T15 ++ (⟨#[44, 32, 114, 101, 115, 101, 110, 116, 32]⟩ : ByteArray) = T16 at MC r16
  have z17 : ¬ 9223372036854775807 < T16.size + D8.size := by omega
  have r17 : (T16 ++ D8).size = T16.size + D8.size := by rw [ByteArray.size_append]
  generalize hT17 : T16 ++ D8 = T17 at MC r17
  have MC := Lib.hid MC
  clear r1 r2 r3 r4 r5 r6 r7 r8 r9 r10 r11 r12 r13 r14 r15 r16 r17 l0 l1 l2 l3 l4 l5 l6 l7 l8
  go_enter Try.func5, Try.ntmps5
  go_wp2_with (go_at_call 19; first | ((with_reducible refine (G0.out _).mono ?_); rintro e w' ⟨rfl, rfl⟩) | ((with_reducible refine (G1.out _).mono ?_); rintro e w' ⟨rfl, rfl⟩) | ((with_reducible refine (G2.out _).mono ?_); rintro e w' ⟨rfl, rfl⟩) | ((with_reducible refine (G3.out _).mono ?_); rintro e w' ⟨rfl, rfl⟩) | ((with_reducible refine (G4.out _).mono ?_); rintro e w' ⟨rfl, rfl⟩) | ((with_reducible refine (G5.out _).mono ?_); rintro e w' ⟨rfl, rfl⟩) | ((with_reducible refine (G6.out _).mono ?_); rintro e w' ⟨rfl, rfl⟩) | ((with_reducible refine (G7.out _).mono ?_); rintro e w' ⟨rfl, rfl⟩) | ((with_reducible refine (G8.out _).mono ?_); rintro e w' ⟨rfl, rfl⟩))
  obtain ⟨b, hb⟩ : ∃ b, b = w0.heap.size := ⟨_, rfl⟩
  obtain ⟨W0, hW0⟩ : ∃ W0, W0 = w0.alloc (.cells #[.int .i64 c0, .int .i64 c1, .int .i64 c2, .int .i64 c3, .int .i64 c4, .int .i64 c5, .int .i64 c6, .int .i64 c7, .int .i64 c8] 39) := ⟨_, rfl⟩
  have hS : W0.cell? ⟨b, 0, none⟩ = some (.int .i64 c0) ∧ W0.cell? ⟨b, 1, none⟩ = some (.int .i64 c1) ∧ W0.cell? ⟨b, 2, none⟩ = some (.int .i64 c2) ∧ W0.cell? ⟨b, 3, none⟩ = some (.int .i64 c3) ∧ W0.cell? ⟨b, 4, none⟩ = some (.int .i64 c4) ∧ W0.cell? ⟨b, 5, none⟩ = some (.int .i64 c5) ∧ W0.cell? ⟨b, 6, none⟩ = some (.int .i64 c6) ∧ W0.cell? ⟨b, 7, none⟩ = some (.int .i64 c7) ∧ W0.cell? ⟨b, 8, none⟩ = some (.int .i64 c8) ∧ Below b w0 W0 := by
    rw [hW0, hb]
    exact ⟨by go_simp, by go_simp, by go_simp, by go_simp, by go_simp, by go_simp, by go_simp, by go_simp, by go_simp, (Below.refl _ _).alloc (Nat.le_refl _) _⟩
  rw [← hW0, ← hb]
  have HB := Lib.hid hb
  clear hW0 hb G0 G1 G2 G3 G4 G5 G6 G7 G8
  go_region_held3 (fun w' => w'.cell? ⟨b, 0, none⟩ = some (.int .i64 c0) ∧ w'.cell? ⟨b, 1, none⟩ = some (.int .i64 c1) ∧ w'.cell? ⟨b, 2, none⟩ = some (.int .i64 c2) ∧ w'.cell? ⟨b, 3, none⟩ = some (.int .i64 c3) ∧ w'.cell? ⟨b, 4, none⟩ = some (.int .i64 c4) ∧ w'.cell? ⟨b, 5, none⟩ = some (.int .i64 c5) ∧ w'.cell? ⟨b, 6, none⟩ = some (.int .i64 c6) ∧ w'.cell? ⟨b, 7, none⟩ = some (.int .i64 c7) ∧ w'.cell? ⟨b, 8, none⟩ = some (.int .i64 c8) ∧ Below b w0 w') (first | exact hS | exact counts_drew hS)
    ((go_simp; go_at_call 21; first | ((with_reducible refine (M0.out _).mono ?_); rintro e W1 ⟨rfl, b1⟩; have hS := counts_keep (by assumption) b1 (counts_size (by assumption))) | ((with_reducible refine (M1.out _).mono ?_); rintro e W1 ⟨rfl, b1⟩; have hS := counts_keep (by assumption) b1 (counts_size (by assumption))) | ((with_reducible refine (M2.out _).mono ?_); rintro e W1 ⟨rfl, b1⟩; have hS := counts_keep (by assumption) b1 (counts_size (by assumption))) | ((with_reducible refine (M3.out _).mono ?_); rintro e W1 ⟨rfl, b1⟩; have hS := counts_keep (by assumption) b1 (counts_size (by assumption))) | ((with_reducible refine (M4.out _).mono ?_); rintro e W1 ⟨rfl, b1⟩; have hS := counts_keep (by assumption) b1 (counts_size (by assumption)))))
  go_wp2_with fail
  go_region_held3 (fun w' => w'.cell? ⟨b, 0, none⟩ = some (.int .i64 c0) ∧ w'.cell? ⟨b, 1, none⟩ = some (.int .i64 c1) ∧ w'.cell? ⟨b, 2, none⟩ = some (.int .i64 c2) ∧ w'.cell? ⟨b, 3, none⟩ = some (.int .i64 c3) ∧ w'.cell? ⟨b, 4, none⟩ = some (.int .i64 c4) ∧ w'.cell? ⟨b, 5, none⟩ = some (.int .i64 c5) ∧ w'.cell? ⟨b, 6, none⟩ = some (.int .i64 c6) ∧ w'.cell? ⟨b, 7, none⟩ = some (.int .i64 c7) ∧ w'.cell? ⟨b, 8, none⟩ = some (.int .i64 c8) ∧ Below b w0 w') (first | exact hS | exact counts_drew hS)
    ((go_simp; first | (go_at_call 21; first | ((with_reducible refine (M5.out _).mono ?_); rintro e W1 ⟨rfl, b1⟩; have hS := counts_keep (by assumption) b1 (counts_size (by assumption))) | ((with_reducible refine (M6.out _).mono ?_); rintro e W1 ⟨rfl, b1⟩; have hS := counts_keep (by assumption) b1 (counts_size (by assumption))) | ((with_reducible refine (M7.out _).mono ?_); rintro e W1 ⟨rfl, b1⟩; have hS := counts_keep (by assumption) b1 (counts_size (by assumption))) | ((with_reducible refine (M8.out _).mono ?_); rintro e W1 ⟨rfl, b1⟩; have hS := counts_keep (by assumption) b1 (counts_size (by assumption)))) | (go_at_call 22; (with_reducible refine (MC.out _).mono ?_); rintro e W1 ⟨rfl, b1⟩; have hS := counts_keep (by assumption) b1 (counts_size (by assumption))) | (go_at_call 20; (with_reducible refine (HA.out _).mono ?_); rintro e W1 ⟨rfl, b1⟩; have hS := counts_keep (by assumption) b1 (counts_size (by assumption)))))
  go_wp2_with fail
  go_ret
  exact ⟨rfl, by rw [← HB.out]; exact hS.2.2.2.2.2.2.2.2.2⟩
end Go.Proofs.Ytkmfcaaionmfoaa.Rp
