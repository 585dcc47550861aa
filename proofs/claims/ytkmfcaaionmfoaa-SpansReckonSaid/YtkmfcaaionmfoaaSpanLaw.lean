/- lightshiplaw45.SpansReckon returns true; no condition. -/
import Derived.Test.YtkmfcaaionmfoaaSpanAwake
set_option maxRecDepth 100000
namespace Go.Proofs.Ytkmfcaaionmfoaa.Sp
open Go.RowKit

set_option maxHeartbeats 1000000 in
theorem spansreckon_walk (A : Option Addr) (n c : Nat) (l : List Sn) (f t : Int) (w : World) (h1 : RowS w A n c l) :
    Calls Try.prog 3 #[.slice A n c, .int .i64 f, .int .i64 t] w fun e w' => e = .returned (.bool true) ∧ Below w.heap.size w w' := by
  by_cases hlong : 1100 < n
  · have d1 : decide (1100 < (n : Int)) = true := by simp; omega
    have HA := Lib.hid (awake_true w)
    clear hlong h1
    go_enter Try.func3, Try.ntmps3
    go_wp2_with (go_at_call 7; (with_reducible refine (HA.out).mono ?_); rintro e W1 ⟨rfl, u1⟩)
    go_ret
    exact ⟨rfl, u1⟩
  · have d1 : decide (1100 < (n : Int)) = false := by simp; omega
    obtain ⟨La, hLa⟩ : ∃ La, addL l f t = La := ⟨_, rfl⟩
    obtain ⟨Ea, hEa⟩ : ∃ Ea, addE l f t = Ea := ⟨_, rfl⟩
    obtain ⟨Ls, hLs⟩ : ∃ Ls, subL l f t = Ls := ⟨_, rfl⟩
    obtain ⟨Es, hEs⟩ : ∃ Es, subE l f t = Es := ⟨_, rfl⟩
    obtain ⟨Ec, hEc⟩ : ∃ Ec, chkS l = Ec := ⟨_, rfl⟩
    obtain ⟨Bh, hBh⟩ : ∃ Bh, hasB l f = Bh := ⟨_, rfl⟩
    obtain ⟨El, hEl⟩ : ∃ El, lenB l = El := ⟨_, rfl⟩
    have hla : La.length ≤ 2000 := by rw [← hLa]; have := addL_len l f t; omega
    have hls : Ls.length ≤ 2000 := by rw [← hLs]; have := subL_len l f t; omega
    have M8 := Lib.hid (fun w h => add_any A n c l f t La Ea w h hLa hEa)
    have M9 := Lib.hid (fun w h => ref_add_any A n c l f t La Ea w h hLa hEa)
    have M10 := Lib.hid (fun w h => sub_any A n c l f t Ls Es w h hLs hEs)
    have M11 := Lib.hid (fun w h => ref_sub_any A n c l f t Ls Es w h hLs hEs)
    have M13 := Lib.hid (fun w h => check_any A n c l Ec w h hEc)
    have M14 := Lib.hid (fun w h => ref_check_any A n c l Ec w h hEc)
    have M15 := Lib.hid (fun w h => has_any A n c l w h f Bh hBh)
    have M16 := Lib.hid (fun w h => ref_has_any A n c l w h f Bh hBh)
    have M17 := Lib.hid (fun w h => len_any A n c l El w h hEl)
    have M18 := Lib.hid (fun w h => ref_len_any A n c l El w h hEl)
    have HA := Lib.hid awake_true
    have H1 := Lib.hid h1
    clear hlong h1 hLa hEa hLs hEs hEc hBh hEl
    go_enter Try.func3, Try.ntmps3
    go_wp2_with (first
      | (go_at_call 8; (with_reducible refine (M8.out w H1.out).mono ?_); rintro e W1 ⟨A1, n1, c1, rfl, r1, b1⟩; have p1 := H1.out.on b1)
      | (go_at_call 9; (with_reducible refine (M9.out W1 p1).mono ?_); rintro e W2 ⟨A2, n2, c2, rfl, r2, b2'⟩; have b2 := bel_next b1 b2'; have p2 := p1.on b2'; have r12 := r1.on b2'; clear b2')
      | (go_at_call 10; (with_reducible refine (M10.out W2 p2).mono ?_); rintro e W3 ⟨A3, n3, c3, rfl, r3, b3'⟩; have b3 := bel_next b2 b3'; have p3 := p2.on b3'; have r13 := r12.on b3'; have r23 := r2.on b3'; clear b3')
      | (go_at_call 11; (with_reducible refine (M11.out W3 p3).mono ?_); rintro e W4 ⟨A4, n4, c4, rfl, r4, b4'⟩; have b4 := bel_next b3 b4'; have p4 := p3.on b4'; have r14 := r13.on b4'; have r24 := r23.on b4'; have r34 := r3.on b4'; clear b4')
      | (go_at_call 12; first
        | ((with_reducible refine (same_any A1 n1 c1 La W4 r14 A2 n2 c2 r24 hla).mono ?_); rintro e W5 ⟨rfl, b5'⟩; have b5 := bel_next b4 b5'; have p5 := p4.on b5'; have r35 := r34.on b5'; have r45 := r4.on b5'; clear b5')
        | ((with_reducible refine (same_any A3 n3 c3 Ls W5 r35 A4 n4 c4 r45 hls).mono ?_); rintro e W6 ⟨rfl, b6'⟩; have b6 := bel_next b5 b6'; have p6 := p5.on b6'; clear b6'))
      | (go_at_call 13; (with_reducible refine (M13.out W6 p6).mono ?_); rintro e W7 ⟨rfl, b7'⟩; have b7 := bel_next b6 b7'; have p7 := p6.on b7'; clear b7')
      | (go_at_call 14; (with_reducible refine (M14.out W7 p7).mono ?_); rintro e W8 ⟨rfl, b8'⟩; have b8 := bel_next b7 b8'; have p8 := p7.on b8'; clear b8')
      | (go_at_call 15; (with_reducible refine (M15.out W8 p8).mono ?_); rintro e W9 ⟨rfl, b9'⟩; have b9 := bel_next b8 b9'; have p9 := p8.on b9'; clear b9')
      | (go_at_call 16; (with_reducible refine (M16.out W9 p9).mono ?_); rintro e Wa ⟨rfl, ba'⟩; have ba := bel_next b9 ba'; have pa := p9.on ba'; clear ba')
      | (go_at_call 17; (with_reducible refine (M17.out Wa pa).mono ?_); rintro e Wb ⟨rfl, bb'⟩; have bb := bel_next ba bb'; have pb := pa.on bb'; clear bb')
      | (go_at_call 18; (with_reducible refine (M18.out Wb pb).mono ?_); rintro e Wc ⟨rfl, bc'⟩; have bc := bel_next bb bc'; clear bc')
      | (go_at_call 7; (with_reducible refine (HA.out Wc).mono ?_); rintro e Wd ⟨rfl, bd'⟩; have bd := bel_next bc bd'; clear bd'))
    go_ret
    exact ⟨rfl, bd⟩
end Go.Proofs.Ytkmfcaaionmfoaa.Sp
