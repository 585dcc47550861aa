/- lightshiplaw52.ReportCounts returns true; printed by a program of ours; no condition. -/
import Derived.Test.YtkmfcaaionmfoaaRptLaw1a
set_option maxRecDepth 100000
namespace Go.Proofs.Ytkmfcaaionmfoaa.Rp
open Go.RowKit Go.Proofs.Ytkmfcaaionmfoaa.Sp
set_option maxHeartbeats 4000000 in
theorem reportcounts_walk (c0 c1 c2 c3 c4 c5 c6 c7 c8 : Int) (w0 : World) : Calls Try.prog 5 #[.agg #[.int .i64 c0, .int .i64 c1, .int .i64 c2, .int .i64 c3, .int .i64 c4, .int .i64 c5, .int .i64 c6, .int .i64 c7, .int .i64 c8]] w0 fun e w' => e = .returned (.bool true) ∧ Below w0.heap.size w0 w' := by
  have HA := Lib.hid awake52
  cases hb0 : bigB c0 with
  | true =>
    have G0 := Lib.hid (fun w => big_any c0 true hb0 w)
    go_enter Try.func5, Try.ntmps5
    go_wp2_with (first | (go_at_call 19; first | ((with_reducible refine (G0.out _).mono ?_); rintro e w' ⟨rfl, rfl⟩)) | (go_at_call 20; refine (HA.out _).mono ?_; rintro e W1 ⟨rfl, b1⟩))
    go_ret
    exact ⟨rfl, bel_next ((Below.refl _ _).alloc (Nat.le_refl _) _) b1⟩
  | false =>
    have G0 := Lib.hid (fun w => big_any c0 false hb0 w)
    have n0 := big_no hb0
    cases hb1 : bigB c1 with
    | true =>
      have G1 := Lib.hid (fun w => big_any c1 true hb1 w)
      go_enter Try.func5, Try.ntmps5
      go_wp2_with (first | (go_at_call 19; first | ((with_reducible refine (G0.out _).mono ?_); rintro e w' ⟨rfl, rfl⟩) | ((with_reducible refine (G1.out _).mono ?_); rintro e w' ⟨rfl, rfl⟩)) | (go_at_call 20; refine (HA.out _).mono ?_; rintro e W1 ⟨rfl, b1⟩))
      go_ret
      exact ⟨rfl, bel_next ((Below.refl _ _).alloc (Nat.le_refl _) _) b1⟩
    | false =>
      have G1 := Lib.hid (fun w => big_any c1 false hb1 w)
      have n1 := big_no hb1
      cases hb2 : bigB c2 with
      | true =>
        have G2 := Lib.hid (fun w => big_any c2 true hb2 w)
        go_enter Try.func5, Try.ntmps5
        go_wp2_with (first | (go_at_call 19; first | ((with_reducible refine (G0.out _).mono ?_); rintro e w' ⟨rfl, rfl⟩) | ((with_reducible refine (G1.out _).mono ?_); rintro e w' ⟨rfl, rfl⟩) | ((with_reducible refine (G2.out _).mono ?_); rintro e w' ⟨rfl, rfl⟩)) | (go_at_call 20; refine (HA.out _).mono ?_; rintro e W1 ⟨rfl, b1⟩))
        go_ret
        exact ⟨rfl, bel_next ((Below.refl _ _).alloc (Nat.le_refl _) _) b1⟩
      | false =>
        have G2 := Lib.hid (fun w => big_any c2 false hb2 w)
        have n2 := big_no hb2
        cases hb3 : bigB c3 with
        | true =>
          have G3 := Lib.hid (fun w => big_any c3 true hb3 w)
          go_enter Try.func5, Try.ntmps5
          go_wp2_with (first | (go_at_call 19; first | ((with_reducible refine (G0.out _).mono ?_); rintro e w' ⟨rfl, rfl⟩) | ((with_reducible refine (G1.out _).mono ?_); rintro e w' ⟨rfl, rfl⟩) | ((with_reducible refine (G2.out _).mono ?_); rintro e w' ⟨rfl, rfl⟩) | ((with_reducible refine (G3.out _).mono ?_); rintro e w' ⟨rfl, rfl⟩)) | (go_at_call 20; refine (HA.out _).mono ?_; rintro e W1 ⟨rfl, b1⟩))
          go_ret
          exact ⟨rfl, bel_next ((Below.refl _ _).alloc (Nat.le_refl _) _) b1⟩
        | false =>
          have G3 := Lib.hid (fun w => big_any c3 false hb3 w)
          have n3 := big_no hb3
          cases hb4 : bigB c4 with
          | true =>
            have G4 := Lib.hid (fun w => big_any c4 true hb4 w)
            go_enter Try.func5, Try.ntmps5
            go_wp2_with (first | (go_at_call 19; first | ((with_reducible refine (G0.out _).mono ?_); rintro e w' ⟨rfl, rfl⟩) | ((with_reducible refine (G1.out _).mono ?_); rintro e w' ⟨rfl, rfl⟩) | ((with_reducible refine (G2.out _).mono ?_); rintro e w' ⟨rfl, rfl⟩) | ((with_reducible refine (G3.out _).mono ?_); rintro e w' ⟨rfl, rfl⟩) | ((with_reducible refine (G4.out _).mono ?_); rintro e w' ⟨rfl, rfl⟩)) | (go_at_call 20; refine (HA.out _).mono ?_; rintro e W1 ⟨rfl, b1⟩))
            go_ret
            exact ⟨rfl, bel_next ((Below.refl _ _).alloc (Nat.le_refl _) _) b1⟩
          | false =>
            have G4 := Lib.hid (fun w => big_any c4 false hb4 w)
            have n4 := big_no hb4
            cases hb5 : bigB c5 with
            | true =>
              have G5 := Lib.hid (fun w => big_any c5 true hb5 w)
              go_enter Try.func5, Try.ntmps5
              go_wp2_with (first | (go_at_call 19; first | ((with_reducible refine (G0.out _).mono ?_); rintro e w' ⟨rfl, rfl⟩) | ((with_reducible refine (G1.out _).mono ?_); rintro e w' ⟨rfl, rfl⟩) | ((with_reducible refine (G2.out _).mono ?_); rintro e w' ⟨rfl, rfl⟩) | ((with_reducible refine (G3.out _).mono ?_); rintro e w' ⟨rfl, rfl⟩) | ((with_reducible refine (G4.out _).mono ?_); rintro e w' ⟨rfl, rfl⟩) | ((with_reducible refine (G5.out _).mono ?_); rintro e w' ⟨rfl, rfl⟩)) | (go_at_call 20; refine (HA.out _).mono ?_; rintro e W1 ⟨rfl, b1⟩))
              go_ret
              exact ⟨rfl, bel_next ((Below.refl _ _).alloc (Nat.le_refl _) _) b1⟩
            | false =>
              have G5 := Lib.hid (fun w => big_any c5 false hb5 w)
              have n5 := big_no hb5
              cases hb6 : bigB c6 with
              | true =>
                have G6 := Lib.hid (fun w => big_any c6 true hb6 w)
                go_enter Try.func5, Try.ntmps5
                go_wp2_with (first | (go_at_call 19; first | ((with_reducible refine (G0.out _).mono ?_); rintro e w' ⟨rfl, rfl⟩) | ((with_reducible refine (G1.out _).mono ?_); rintro e w' ⟨rfl, rfl⟩) | ((with_reducible refine (G2.out _).mono ?_); rintro e w' ⟨rfl, rfl⟩) | ((with_reducible refine (G3.out _).mono ?_); rintro e w' ⟨rfl, rfl⟩) | ((with_reducible refine (G4.out _).mono ?_); rintro e w' ⟨rfl, rfl⟩) | ((with_reducible refine (G5.out _).mono ?_); rintro e w' ⟨rfl, rfl⟩) | ((with_reducible refine (G6.out _).mono ?_); rintro e w' ⟨rfl, rfl⟩)) | (go_at_call 20; refine (HA.out _).mono ?_; rintro e W1 ⟨rfl, b1⟩))
                go_ret
                exact ⟨rfl, bel_next ((Below.refl _ _).alloc (Nat.le_refl _) _) b1⟩
              | false =>
                have G6 := Lib.hid (fun w => big_any c6 false hb6 w)
                have n6 := big_no hb6
                cases hb7 : bigB c7 with
                | true =>
                  have G7 := Lib.hid (fun w => big_any c7 true hb7 w)
                  go_enter Try.func5, Try.ntmps5
                  go_wp2_with (first | (go_at_call 19; first | ((with_reducible refine (G0.out _).mono ?_); rintro e w' ⟨rfl, rfl⟩) | ((with_reducible refine (G1.out _).mono ?_); rintro e w' ⟨rfl, rfl⟩) | ((with_reducible refine (G2.out _).mono ?_); rintro e w' ⟨rfl, rfl⟩) | ((with_reducible refine (G3.out _).mono ?_); rintro e w' ⟨rfl, rfl⟩) | ((with_reducible refine (G4.out _).mono ?_); rintro e w' ⟨rfl, rfl⟩) | ((with_reducible refine (G5.out _).mono ?_); rintro e w' ⟨rfl, rfl⟩) | ((with_reducible refine (G6.out _).mono ?_); rintro e w' ⟨rfl, rfl⟩) | ((with_reducible refine (G7.out _).mono ?_); rintro e w' ⟨rfl, rfl⟩)) | (go_at_call 20; refine (HA.out _).mono ?_; rintro e W1 ⟨rfl, b1⟩))
                  go_ret
                  exact ⟨rfl, bel_next ((Below.refl _ _).alloc (Nat.le_refl _) _) b1⟩
                | false =>
                  have G7 := Lib.hid (fun w => big_any c7 false hb7 w)
                  have n7 := big_no hb7
                  cases hb8 : bigB c8 with
                  | true =>
                    have G8 := Lib.hid (fun w => big_any c8 true hb8 w)
                    go_enter Try.func5, Try.ntmps5
                    go_wp2_with (first | (go_at_call 19; first | ((with_reducible refine (G0.out _).mono ?_); rintro e w' ⟨rfl, rfl⟩) | ((with_reducible refine (G1.out _).mono ?_); rintro e w' ⟨rfl, rfl⟩) | ((with_reducible refine (G2.out _).mono ?_); rintro e w' ⟨rfl, rfl⟩) | ((with_reducible refine (G3.out _).mono ?_); rintro e w' ⟨rfl, rfl⟩) | ((with_reducible refine (G4.out _).mono ?_); rintro e w' ⟨rfl, rfl⟩) | ((with_reducible refine (G5.out _).mono ?_); rintro e w' ⟨rfl, rfl⟩) | ((with_reducible refine (G6.out _).mono ?_); rintro e w' ⟨rfl, rfl⟩) | ((with_reducible refine (G7.out _).mono ?_); rintro e w' ⟨rfl, rfl⟩) | ((with_reducible refine (G8.out _).mono ?_); rintro e w' ⟨rfl, rfl⟩)) | (go_at_call 20; refine (HA.out _).mono ?_; rintro e W1 ⟨rfl, b1⟩))
                    go_ret
                    exact ⟨rfl, bel_next ((Below.refl _ _).alloc (Nat.le_refl _) _) b1⟩
                  | false =>
                    have G8 := Lib.hid (fun w => big_any c8 false hb8 w)
                    have n8 := big_no hb8
                    exact reportcounts_small c0 c1 c2 c3 c4 c5 c6 c7 c8 w0 hb0 hb1 hb2 hb3 hb4 hb5 hb6 hb7 hb8
end Go.Proofs.Ytkmfcaaionmfoaa.Rp
