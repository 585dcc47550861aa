/- lightshiplaw52.awake is true; no condition. -/
import Derived.Test.YtkmfcaaionmfoaaRptText
set_option maxRecDepth 100000
namespace Go.Proofs.Ytkmfcaaionmfoaa.Rp
open Go.RowKit Go.Proofs.Ytkmfcaaionmfoaa.Sp

theorem dig0 : dig 0 = [48] := by
  unfold dig
  rw [if_neg (by omega)]
  exact digN_low (by decide)
theorem dig12 : dig 12 = [49, 50] := by
  unfold dig
  rw [if_neg (by omega)]
  show digN 12 = _
  rw [digN_high (by decide)]
  show digN 1 ++ _ = _
  rw [digN_low (by decide)]
  rfl
theorem eTxt0 : eTxt 0 0 0 0 0 ⟨#[]⟩ 0 ⟨#[]⟩ 0 0 0 = [48, 32, 48, 32, 48, 32, 48, 32, 48, 32, 48, 32, 48, 32, 48, 32, 48, 32, 48, 32, 48] := by
  show Lib.join (List.map dig [0, 0, 0, 0, 0, 0, 0, 0, 0, 0, 0]) [32] = _
  simp only [List.map, dig0]
  rfl
theorem cTxt12 : cTxt 12 0 0 0 0 0 0 0 0 = [115, 101, 110, 116, 32, 49, 50, 44, 32, 116, 97, 107, 101, 110, 32, 48, 44, 32, 98, 97, 100, 32, 48, 44, 32, 111, 108, 100, 32, 48, 44, 32, 98, 101, 121, 111, 110, 100, 32, 48, 44, 32, 116, 119, 105, 99, 101, 32, 48, 44, 32, 102, 117, 108, 108, 32, 48, 44, 32, 100, 101, 99, 111, 100, 101, 100, 32, 48, 44, 32, 114, 101, 115, 101, 110, 116, 32, 48] := by
  show Lib.join (List.map ft (cFs 12 0 0 0 0 0 0 0 0)) [44, 32] = _
  simp only [cFs, List.map, ft, dig0, dig12]
  rfl

theorem bsOf_toList (l : By) : (bsOf l).toList = l := by
  exact ByteArray.toList_mk l
set_option maxHeartbeats 1000000 in
theorem awake52 (w : World) : Calls Try.prog 20 #[] w fun e w' => e = .returned (.bool true) ∧ Below w.heap.size w w' := by
  have M1 := Lib.hid (fun w => event_row 0 0 0 0 0 ⟨#[]⟩ 0 ⟨#[]⟩ 0 0 0 w (by
    intro x hx
    have : x = 0 := by simpa [eNs, ByteArray.size] using hx
    omega))
  rw [eTxt0] at M1
  have M2 := Lib.hid (fun w => counts_row 12 0 0 0 0 0 0 0 0 w (by
    intro x hx
    simp at hx
    omega))
  rw [cTxt12] at M2
  have M3 := Lib.hid (fun w => text_row none 0 0 [] w ⟨rfl, Reads.none_⟩ (by omega) (fun d hd => by simp at hd))
  rw [show bsOf (txt []) = (⟨#[]⟩ : ByteArray) from rfl] at M3
  have t1 := bsOf_toList [48, 32, 48, 32, 48, 32, 48, 32, 48, 32, 48, 32, 48, 32, 48, 32, 48, 32, 48, 32, 48]
  have t2 := bsOf_toList [115, 101, 110, 116, 32, 49, 50, 44, 32, 116, 97, 107, 101, 110, 32, 48, 44, 32, 98, 97, 100, 32, 48, 44, 32, 111, 108, 100, 32, 48, 44, 32, 98, 101, 121, 111, 110, 100, 32, 48, 44, 32, 116, 119, 105, 99, 101, 32, 48, 44, 32, 102, 117, 108, 108, 32, 48, 44, 32, 100, 101, 99, 111, 100, 101, 100, 32, 48, 44, 32, 114, 101, 115, 101, 110, 116, 32, 48]
  go_enter Try.func20, Try.ntmps20
  go_wp2_with (first
    | (go_at_call 23; refine (M1.out w).mono ?_; rintro e W1 ⟨rfl, b1⟩)
    | (go_at_call 22; refine (M2.out W1).mono ?_; rintro e W2 ⟨rfl, b2'⟩; have b2 := bel_next b1 b2')
    | (go_at_call 24; refine (M3.out W2).mono ?_; rintro e W3 ⟨rfl, b3'⟩; have b3 := bel_next b2 b3'))
  go_ret
  exact ⟨rfl, b3⟩
end Go.Proofs.Ytkmfcaaionmfoaa.Rp
