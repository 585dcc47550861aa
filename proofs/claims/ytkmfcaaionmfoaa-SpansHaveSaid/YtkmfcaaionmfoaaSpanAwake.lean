/- awake is true; no condition. -/
import Derived.Test.YtkmfcaaionmfoaaSpanAny
set_option maxRecDepth 100000
namespace Go.Proofs.Ytkmfcaaionmfoaa.Sp
open Go.RowKit

set_option maxHeartbeats 1000000 in
theorem awake_true (w : World) : Calls Try.prog 7 #[] w fun e w' => e = .returned (.bool true) ∧ Below w.heap.size w w' := by
  go_enter Try.func7, Try.ntmps7
  go_wp2_with (first
    | (go_at_call 8; first
      | ((with_reducible refine (add_any (some ⟨w.heap.size, 0, none⟩) 1 1 [(0, 2)] 2 5 [(0, 5)] 0 _ (row_one w 0 2) (by decide) (by decide)).mono ?_); rintro e W1 ⟨A1, n1, c1, rfl, r1, b1'⟩; have b1 := bel_alloc (Below.refl _ w) _ b1'; clear b1')
      | ((with_reducible refine (add_any none 0 0 [] 2 2 [] 1 W2 (RowS.nil _) (by decide) (by decide)).mono ?_); rintro e W3 ⟨A3, n3, c3, rfl, r3, b3'⟩; have b3 := bel_next b2 b3'; have r13 := r12.on b3'; have r23 := r2.on b3'; clear b3' r12 r2))
    | (go_at_call 10; (with_reducible refine (sub_any (some ⟨W1.heap.size, 0, none⟩) 1 1 [(0, 5)] 1 2 [(0, 1), (2, 5)] 0 _ (row_one W1 0 5) (by decide) (by decide)).mono ?_); rintro e W2 ⟨A2, n2, c2, rfl, r2, b2'⟩; have b2 := bel_alloc b1 _ b2'; have r12 := r1.on (bel_alloc (Below.refl _ W1) _ b2'); clear b2' r1)
    | (go_at_call 12; first
      | ((with_reducible refine (same_any A1 n1 c1 [(0, 5)] _ (r13.on ((Below.refl _ W3).alloc (Nat.le_refl _) _)) (some ⟨W3.heap.size, 0, none⟩) 1 1 (row_one W3 0 5) (by decide)).mono ?_); rintro e W4 ⟨rfl, b4'⟩; have b4 := bel_alloc b3 _ b4'; have r24 := r23.on (bel_alloc (Below.refl _ W3) _ b4'); clear b4' r23)
      | ((with_reducible refine (same_any A2 n2 c2 [(0, 1), (2, 5)] _ (r24.on ((Below.refl _ W4).alloc (Nat.le_refl _) _)) (some ⟨W4.heap.size, 0, none⟩) 2 2 (row_two W4 0 1 2 5) (by decide)).mono ?_); rintro e W5 ⟨rfl, b5'⟩; have b5 := bel_alloc b4 _ b5'; have r25 := r24.on (bel_alloc (Below.refl _ W4) _ b5'); clear b5' r24))
    | (go_at_call 15; first
      | ((with_reducible refine (has_any A2 n2 c2 [(0, 1), (2, 5)] W5 r25 0 true (by decide)).mono ?_); rintro e W6 ⟨rfl, b6'⟩; have b6 := bel_next b5 b6'; have r26 := r25.on b6'; clear b6')
      | ((with_reducible refine (has_any A2 n2 c2 [(0, 1), (2, 5)] W6 r26 1 false (by decide)).mono ?_); rintro e W7 ⟨rfl, b7'⟩; have b7 := bel_next b6 b7'; have r27 := r26.on b7'; clear b7'))
    | (go_at_call 17; (with_reducible refine (len_any A2 n2 c2 [(0, 1), (2, 5)] 4 W7 r27 (by decide)).mono ?_); rintro e W8 ⟨rfl, b8'⟩; have b8 := bel_next b7 b8'; clear b8')
    | (go_at_call 13; (with_reducible refine (check_any (some ⟨W8.heap.size, 0, none⟩) 2 2 [(0, 2), (2, 3)] 5 _ (row_two W8 0 2 2 3) (by decide)).mono ?_); rintro e W9 ⟨rfl, b9'⟩; have b9 := bel_alloc b8 _ b9'; clear b9'))
  go_ret
  exact ⟨rfl, b9⟩
end Go.Proofs.Ytkmfcaaionmfoaa.Sp
