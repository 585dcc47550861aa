/- lightshiplaw52.ReportEvents returns true where every string's size is a length; printed by a program of ours. -/
import Derived.Test.YtkmfcaaionmfoaaRptLaw1
set_option maxRecDepth 100000
namespace Go.Proofs.Ytkmfcaaionmfoaa.Rp
open Go.RowKit Go.Proofs.Ytkmfcaaionmfoaa.Sp

theorem eTxt_list (i0 i1 k0 k1 k2 : Int) (y1 : ByteArray) (a0 : Int) (y2 : ByteArray) (er t0 t1 : Int) : eTxt i0 i1 k0 k1 k2 y1 a0 y2 er t0 t1 = dig i0 ++ [32] ++ dig i1 ++ [32] ++ dig k0 ++ [32] ++ dig k1 ++ [32] ++ dig k2 ++ [32] ++ dig (y1.size : Int) ++ [32] ++ dig a0 ++ [32] ++ dig er ++ [32] ++ dig (y2.size : Int) ++ [32] ++ dig t0 ++ [32] ++ dig t1 := by
  show Lib.join (List.map dig (eNs i0 i1 k0 k1 k2 y1 a0 y2 er t0 t1)) [32] = _
  simp only [eNs, List.map, Lib.join_cons, Lib.joinTail, List.flatten_cons, List.flatten_nil, List.append_assoc, List.cons_append, List.nil_append, List.append_nil]
theorem eTxt_chain (i0 i1 k0 k1 k2 : Int) (y1 : ByteArray) (a0 : Int) (y2 : ByteArray) (er t0 t1 : Int) : bsOf (eTxt i0 i1 k0 k1 k2 y1 a0 y2 er t0 t1) = bsOf (dig i0) ++ bsOf [32] ++ bsOf (dig i1) ++ bsOf [32] ++ bsOf (dig k0) ++ bsOf [32] ++ bsOf (dig k1) ++ bsOf [32] ++ bsOf (dig k2) ++ bsOf [32] ++ bsOf (dig (y1.size : Int)) ++ bsOf [32] ++ bsOf (dig a0) ++ bsOf [32] ++ bsOf (dig er) ++ bsOf [32] ++ bsOf (dig (y2.size : Int)) ++ bsOf [32] ++ bsOf (dig t0) ++ bsOf [32] ++ bsOf (dig t1) := by
  rw [eTxt_list]
  simp only [bsOf_app]
theorem evs_keep {e0 : Int} {e1 : Int} {e2 : Int} {e3 : Int} {e4 : Int} {e5 : ByteArray} {e6 : Int} {e7 : ByteArray} {e8 : Int} {e9 : Int} {e10 : Int} {b g : Nat} {w0 w w2 : World} (h : w.cell? ⟨b, 0, none⟩ = some (.int .i64 e0) ∧ w.cell? ⟨b, 1, none⟩ = some (.int .i64 e1) ∧ w.cell? ⟨b, 2, none⟩ = some (.int .i64 e2) ∧ w.cell? ⟨b, 3, none⟩ = some (.int .i64 e3) ∧ w.cell? ⟨b, 4, none⟩ = some (.int .i64 e4) ∧ w.cell? ⟨b, 5, none⟩ = some (.string e5) ∧ w.cell? ⟨b, 6, none⟩ = some (.int .i64 e6) ∧ w.cell? ⟨b, 7, none⟩ = some (.string e7) ∧ w.cell? ⟨b, 8, none⟩ = some (.int .i64 e8) ∧ w.cell? ⟨b, 9, none⟩ = some (.int .i64 e9) ∧ w.cell? ⟨b, 10, none⟩ = some (.int .i64 e10) ∧ g ≤ b ∧ Below g w0 w) (hb : Below w.heap.size w w2) : w2.cell? ⟨b, 0, none⟩ = some (.int .i64 e0) ∧ w2.cell? ⟨b, 1, none⟩ = some (.int .i64 e1) ∧ w2.cell? ⟨b, 2, none⟩ = some (.int .i64 e2) ∧ w2.cell? ⟨b, 3, none⟩ = some (.int .i64 e3) ∧ w2.cell? ⟨b, 4, none⟩ = some (.int .i64 e4) ∧ w2.cell? ⟨b, 5, none⟩ = some (.string e5) ∧ w2.cell? ⟨b, 6, none⟩ = some (.int .i64 e6) ∧ w2.cell? ⟨b, 7, none⟩ = some (.string e7) ∧ w2.cell? ⟨b, 8, none⟩ = some (.int .i64 e8) ∧ w2.cell? ⟨b, 9, none⟩ = some (.int .i64 e9) ∧ w2.cell? ⟨b, 10, none⟩ = some (.int .i64 e10) ∧ g ≤ b ∧ Below g w0 w2 := by
  have hlt := World.block_lt_of_cell? w ⟨b, 0, none⟩ h.1
  obtain ⟨h0, h1, h2, h3, h4, h5, h6, h7, h8, h9, h10, hg, hB⟩ := h
  have hgw : g ≤ w.heap.size := Nat.le_trans hg (Nat.le_of_lt hlt)
  exact ⟨below_cell hb h0, below_cell hb h1, below_cell hb h2, below_cell hb h3, below_cell hb h4, below_cell hb h5, below_cell hb h6, below_cell hb h7, below_cell hb h8, below_cell hb h9, below_cell hb h10, hg, hB.trans (hb.mono hgw)⟩
theorem evs_drew {e0 : Int} {e1 : Int} {e2 : Int} {e3 : Int} {e4 : Int} {e5 : ByteArray} {e6 : Int} {e7 : ByteArray} {e8 : Int} {e9 : Int} {e10 : Int} {b g : Nat} {w0 w : World} (h : w.cell? ⟨b, 0, none⟩ = some (.int .i64 e0) ∧ w.cell? ⟨b, 1, none⟩ = some (.int .i64 e1) ∧ w.cell? ⟨b, 2, none⟩ = some (.int .i64 e2) ∧ w.cell? ⟨b, 3, none⟩ = some (.int .i64 e3) ∧ w.cell? ⟨b, 4, none⟩ = some (.int .i64 e4) ∧ w.cell? ⟨b, 5, none⟩ = some (.string e5) ∧ w.cell? ⟨b, 6, none⟩ = some (.int .i64 e6) ∧ w.cell? ⟨b, 7, none⟩ = some (.string e7) ∧ w.cell? ⟨b, 8, none⟩ = some (.int .i64 e8) ∧ w.cell? ⟨b, 9, none⟩ = some (.int .i64 e9) ∧ w.cell? ⟨b, 10, none⟩ = some (.int .i64 e10) ∧ g ≤ b ∧ Below g w0 w) : w.drew.cell? ⟨b, 0, none⟩ = some (.int .i64 e0) ∧ w.drew.cell? ⟨b, 1, none⟩ = some (.int .i64 e1) ∧ w.drew.cell? ⟨b, 2, none⟩ = some (.int .i64 e2) ∧ w.drew.cell? ⟨b, 3, none⟩ = some (.int .i64 e3) ∧ w.drew.cell? ⟨b, 4, none⟩ = some (.int .i64 e4) ∧ w.drew.cell? ⟨b, 5, none⟩ = some (.string e5) ∧ w.drew.cell? ⟨b, 6, none⟩ = some (.int .i64 e6) ∧ w.drew.cell? ⟨b, 7, none⟩ = some (.string e7) ∧ w.drew.cell? ⟨b, 8, none⟩ = some (.int .i64 e8) ∧ w.drew.cell? ⟨b, 9, none⟩ = some (.int .i64 e9) ∧ w.drew.cell? ⟨b, 10, none⟩ = some (.int .i64 e10) ∧ g ≤ b ∧ Below g w0 w.drew := by
  obtain ⟨h0, h1, h2, h3, h4, h5, h6, h7, h8, h9, h10, hg, hB⟩ := h
  exact ⟨h0, h1, h2, h3, h4, h5, h6, h7, h8, h9, h10, hg, hB.drew⟩
theorem evs_size {e0 : Int} {e1 : Int} {e2 : Int} {e3 : Int} {e4 : Int} {e5 : ByteArray} {e6 : Int} {e7 : ByteArray} {e8 : Int} {e9 : Int} {e10 : Int} {b g : Nat} {w0 w : World} (h : w.cell? ⟨b, 0, none⟩ = some (.int .i64 e0) ∧ w.cell? ⟨b, 1, none⟩ = some (.int .i64 e1) ∧ w.cell? ⟨b, 2, none⟩ = some (.int .i64 e2) ∧ w.cell? ⟨b, 3, none⟩ = some (.int .i64 e3) ∧ w.cell? ⟨b, 4, none⟩ = some (.int .i64 e4) ∧ w.cell? ⟨b, 5, none⟩ = some (.string e5) ∧ w.cell? ⟨b, 6, none⟩ = some (.int .i64 e6) ∧ w.cell? ⟨b, 7, none⟩ = some (.string e7) ∧ w.cell? ⟨b, 8, none⟩ = some (.int .i64 e8) ∧ w.cell? ⟨b, 9, none⟩ = some (.int .i64 e9) ∧ w.cell? ⟨b, 10, none⟩ = some (.int .i64 e10) ∧ g ≤ b ∧ Below g w0 w) : g ≤ w.heap.size := Nat.le_trans h.2.2.2.2.2.2.2.2.2.2.2.1 (Nat.le_of_lt (World.block_lt_of_cell? w ⟨b, 0, none⟩ h.1))
theorem evs_below {e0 : Int} {e1 : Int} {e2 : Int} {e3 : Int} {e4 : Int} {e5 : ByteArray} {e6 : Int} {e7 : ByteArray} {e8 : Int} {e9 : Int} {e10 : Int} {b g : Nat} {w0 w : World} (h : w.cell? ⟨b, 0, none⟩ = some (.int .i64 e0) ∧ w.cell? ⟨b, 1, none⟩ = some (.int .i64 e1) ∧ w.cell? ⟨b, 2, none⟩ = some (.int .i64 e2) ∧ w.cell? ⟨b, 3, none⟩ = some (.int .i64 e3) ∧ w.cell? ⟨b, 4, none⟩ = some (.int .i64 e4) ∧ w.cell? ⟨b, 5, none⟩ = some (.string e5) ∧ w.cell? ⟨b, 6, none⟩ = some (.int .i64 e6) ∧ w.cell? ⟨b, 7, none⟩ = some (.string e7) ∧ w.cell? ⟨b, 8, none⟩ = some (.int .i64 e8) ∧ w.cell? ⟨b, 9, none⟩ = some (.int .i64 e9) ∧ w.cell? ⟨b, 10, none⟩ = some (.int .i64 e10) ∧ g ≤ b ∧ Below g w0 w) : Below g w0 w := h.2.2.2.2.2.2.2.2.2.2.2.2
theorem evok_of (d : Ev) (h5 : d.y1.size ≤ 9223372036854775807) (h7 : d.y2.size ≤ 9223372036854775807) (h0 : bigB d.i0 = false) (h1 : bigB d.i1 = false) (h2 : bigB d.k0 = false) (h3 : bigB d.k1 = false) (h4 : bigB d.k2 = false) (h6 : bigB d.a0 = false) (h8 : bigB d.er = false) (h9 : bigB d.t0 = false) (h10 : bigB d.t1 = false) : EvOk d := by
  intro x hx
  simp only [eNs, List.mem_cons, List.not_mem_nil, or_false] at hx
  rcases hx with rfl | rfl | rfl | rfl | rfl | rfl | rfl | rfl | rfl | rfl | rfl
  · exact big_no h0
  · exact big_no h1
  · exact big_no h2
  · exact big_no h3
  · exact big_no h4
  · omega
  · exact big_no h6
  · exact big_no h8
  · omega
  · exact big_no h9
  · exact big_no h10
set_option maxHeartbeats 8000000 in
theorem reportevents_walk (A : Option Addr) (n c : Nat) (l : List Ev) (w0 : World) (hr : RowE w0 A n l) (hy : ∀ d ∈ l, d.y1.size ≤ 9223372036854775807 ∧ d.y2.size ≤ 9223372036854775807) :
    Calls Try.prog 6 #[.slice A n c] w0 fun e w' => e = .returned (.bool true) ∧ Below w0.heap.size w0 w' := by
  have HA := Lib.hid awake52
  have HL := Lib.hid hr.1
  have HR := Lib.hid hr
  have HY := Lib.hid hy
  clear hr hy
  by_cases h30 : n ≤ 30
  case neg =>
    go_enter Try.func6, Try.ntmps6
    go_wp2_with (go_at_call 20; refine (HA.out _).mono ?_; rintro e W1 ⟨rfl, b1⟩)
    go_ret
    exact ⟨rfl, b1⟩
  obtain ⟨g, hg⟩ : ∃ g, g = w0.heap.size := ⟨_, rfl⟩
  have HG := Lib.hid hg
  have HN := Lib.hid h30
  have hB0 : Below g w0 w0 := Below.refl _ _
  go_enter Try.func6, Try.ntmps6
  go_wp2_with fail
  try rw [← hg]
  clear hg
  go_loopw [3, 4] (fun v3 v4 wr => ∃ (i : Nat) (V : ByteArray), i ≤ n ∧ v3 = .string V ∧ v4 = .int .i64 i ∧ Hid (V = bsOf (txt (l.take i))) ∧ Hid (∀ d ∈ l.take i, EvOk d) ∧ Hid (V.size ≤ 301 * i) ∧ Below g w0 wr) (fun _ v _ => n - (intOf v).toNat)
  case atStart => exact ⟨0, ⟨#[]⟩, by omega, rfl, rfl, Lib.hid rfl, Lib.hid (fun d hd => by simp at hd), Lib.hid (by simp [ByteArray.size]), hB0⟩
  case round =>
    obtain ⟨i, V, hi, rfl, rfl, HV, HK, HZ, hb⟩ := hrel
    clear hB0
    have hgr : g ≤ wr.heap.size := by have := hb.size; have := HG.out; omega
    have HR2 := Lib.hid (HR.out.on (bel_on HG.out hb))
    by_cases hlt : i < n
    · have hil := Lib.hid (show i < l.length by rw [HL.out]; exact hlt)
      obtain ⟨ad, q, had, hq, hqb, c0, c1, c2, c3, c4, c5, c6, c7, c8, c9, c10⟩ := HR2.out.cell hlt
      obtain ⟨d, hd⟩ : ∃ d, d = evAt l i := ⟨_, rfl⟩
      rw [← hd] at c0 c1 c2 c3 c4 c5 c6 c7 c8 c9 c10
      have hdm : d ∈ l := by
        rw [hd]
        have h := hil.out
        simp [evAt, List.getD, List.getElem?_eq_getElem h]
      have HT := Lib.hid (show txt (l.take (i + 1)) = txt (l.take i) ++ (evT d ++ [10]) by rw [txt_take hil.out, hd])
      have HKN := Lib.hid (show EvOk d → ∀ d' ∈ l.take (i + 1), EvOk d' by
        intro h d' hd'
        rw [List.take_succ_eq_append_getElem hil.out] at hd'
        rcases List.mem_append.1 hd' with h1 | h1
        · exact HK.out d' h1
        · have e : d' = d := by
            rw [hd]
            have h := hil.out
            simp [evAt, List.getD, List.getElem?_eq_getElem h]
            simpa using h1
          rw [e]; exact h)
      obtain ⟨hy1, hy2⟩ := HY.out d hdm
      have HO := Lib.hid (evok_of d hy1 hy2)
      have HC := Lib.hid (show bsOf (evT d) = _ from eTxt_chain d.i0 d.i1 d.k0 d.k1 d.k2 d.y1 d.a0 d.y2 d.er d.t0 d.t1)
      have ME := Lib.hid (show EvOk d → ∀ w, Calls Try.prog 23 #[.agg #[.int .i64 d.i0, .int .i64 d.i1, .int .i64 d.k0, .int .i64 d.k1, .int .i64 d.k2, .string d.y1, .int .i64 d.a0, .string d.y2, .int .i64 d.er, .int .i64 d.t0, .int .i64 d.t1]] w fun e w' => e = .returned (.string (bsOf (evT d))) ∧ Below w.heap.size w w' from fun h w => event_row d.i0 d.i1 d.k0 d.k1 d.k2 d.y1 d.a0 d.y2 d.er d.t0 d.t1 w h)
      clear hd hdm
      generalize d.i0 = e0 at *
      generalize d.i1 = e1 at *
      generalize d.k0 = e2 at *
      generalize d.k1 = e3 at *
      generalize d.k2 = e4 at *
      generalize d.y1 = e5 at *
      generalize d.a0 = e6 at *
      generalize d.y2 = e7 at *
      generalize d.er = e8 at *
      generalize d.t0 = e9 at *
      generalize d.t1 = e10 at *
      subst had
      have HY1 := Lib.hid hy1
      have HY2 := Lib.hid hy2
      clear hy1 hy2
      cases hb0 : bigB e0 with
      | true =>
        have G0 := Lib.hid (fun w => big_any e0 true hb0 w)
        clear hb0
        go_wp2_with (first | (go_at_call 19; first | ((with_reducible refine (G0.out _).mono ?_); rintro e w' ⟨rfl, rfl⟩)) | (go_at_call 20; refine (HA.out _).mono ?_; rintro e W1 ⟨rfl, b1⟩))
        go_ret
        exact ⟨rfl, by rw [← HG.out]; exact hb.trans ((bel_next ((Below.refl _ _).alloc (Nat.le_refl _) _) b1).mono hgr)⟩
      | false =>
        have G0 := Lib.hid (fun w => big_any e0 false hb0 w)
        have n0 := Lib.hid (big_no hb0)
        have HB0 := Lib.hid hb0
        clear hb0
        cases hb1 : bigB e1 with
        | true =>
          have G1 := Lib.hid (fun w => big_any e1 true hb1 w)
          clear hb1
          go_wp2_with (first | (go_at_call 19; first | ((with_reducible refine (G0.out _).mono ?_); rintro e w' ⟨rfl, rfl⟩) | ((with_reducible refine (G1.out _).mono ?_); rintro e w' ⟨rfl, rfl⟩)) | (go_at_call 20; refine (HA.out _).mono ?_; rintro e W1 ⟨rfl, b1⟩))
          go_ret
          exact ⟨rfl, by rw [← HG.out]; exact hb.trans ((bel_next ((Below.refl _ _).alloc (Nat.le_refl _) _) b1).mono hgr)⟩
        | false =>
          have G1 := Lib.hid (fun w => big_any e1 false hb1 w)
          have n1 := Lib.hid (big_no hb1)
          have HB1 := Lib.hid hb1
          clear hb1
          cases hb2 : bigB e2 with
          | true =>
            have G2 := Lib.hid (fun w => big_any e2 true hb2 w)
            clear hb2
            go_wp2_with (first | (go_at_call 19; first | ((with_reducible refine (G0.out _).mono ?_); rintro e w' ⟨rfl, rfl⟩) | ((with_reducible refine (G1.out _).mono ?_); rintro e w' ⟨rfl, rfl⟩) | ((with_reducible refine (G2.out _).mono ?_); rintro e w' ⟨rfl, rfl⟩)) | (go_at_call 20; refine (HA.out _).mono ?_; rintro e W1 ⟨rfl, b1⟩))
            go_ret
            exact ⟨rfl, by rw [← HG.out]; exact hb.trans ((bel_next ((Below.refl _ _).alloc (Nat.le_refl _) _) b1).mono hgr)⟩
          | false =>
            have G2 := Lib.hid (fun w => big_any e2 false hb2 w)
            have n2 := Lib.hid (big_no hb2)
            have HB2 := Lib.hid hb2
            clear hb2
            cases hb3 : bigB e3 with
            | true =>
              have G3 := Lib.hid (fun w => big_any e3 true hb3 w)
              clear hb3
              go_wp2_with (first | (go_at_call 19; first | ((with_reducible refine (G0.out _).mono ?_); rintro e w' ⟨rfl, rfl⟩) | ((with_reducible refine (G1.out _).mono ?_); rintro e w' ⟨rfl, rfl⟩) | ((with_reducible refine (G2.out _).mono ?_); rintro e w' ⟨rfl, rfl⟩) | ((with_reducible refine (G3.out _).mono ?_); rintro e w' ⟨rfl, rfl⟩)) | (go_at_call 20; refine (HA.out _).mono ?_; rintro e W1 ⟨rfl, b1⟩))
              go_ret
              exact ⟨rfl, by rw [← HG.out]; exact hb.trans ((bel_next ((Below.refl _ _).alloc (Nat.le_refl _) _) b1).mono hgr)⟩
            | false =>
              have G3 := Lib.hid (fun w => big_any e3 false hb3 w)
              have n3 := Lib.hid (big_no hb3)
              have HB3 := Lib.hid hb3
              clear hb3
              cases hb4 : bigB e4 with
              | true =>
                have G4 := Lib.hid (fun w => big_any e4 true hb4 w)
                clear hb4
                go_wp2_with (first | (go_at_call 19; first | ((with_reducible refine (G0.out _).mono ?_); rintro e w' ⟨rfl, rfl⟩) | ((with_reducible refine (G1.out _).mono ?_); rintro e w' ⟨rfl, rfl⟩) | ((with_reducible refine (G2.out _).mono ?_); rintro e w' ⟨rfl, rfl⟩) | ((with_reducible refine (G3.out _).mono ?_); rintro e w' ⟨rfl, rfl⟩) | ((with_reducible refine (G4.out _).mono ?_); rintro e w' ⟨rfl, rfl⟩)) | (go_at_call 20; refine (HA.out _).mono ?_; rintro e W1 ⟨rfl, b1⟩))
                go_ret
                exact ⟨rfl, by rw [← HG.out]; exact hb.trans ((bel_next ((Below.refl _ _).alloc (Nat.le_refl _) _) b1).mono hgr)⟩
              | false =>
                have G4 := Lib.hid (fun w => big_any e4 false hb4 w)
                have n4 := Lib.hid (big_no hb4)
                have HB4 := Lib.hid hb4
                clear hb4
                cases hb5 : bigB e6 with
                | true =>
                  have G5 := Lib.hid (fun w => big_any e6 true hb5 w)
                  clear hb5
                  go_wp2_with (first | (go_at_call 19; first | ((with_reducible refine (G0.out _).mono ?_); rintro e w' ⟨rfl, rfl⟩) | ((with_reducible refine (G1.out _).mono ?_); rintro e w' ⟨rfl, rfl⟩) | ((with_reducible refine (G2.out _).mono ?_); rintro e w' ⟨rfl, rfl⟩) | ((with_reducible refine (G3.out _).mono ?_); rintro e w' ⟨rfl, rfl⟩) | ((with_reducible refine (G4.out _).mono ?_); rintro e w' ⟨rfl, rfl⟩) | ((with_reducible refine (G5.out _).mono ?_); rintro e w' ⟨rfl, rfl⟩)) | (go_at_call 20; refine (HA.out _).mono ?_; rintro e W1 ⟨rfl, b1⟩))
                  go_ret
                  exact ⟨rfl, by rw [← HG.out]; exact hb.trans ((bel_next ((Below.refl _ _).alloc (Nat.le_refl _) _) b1).mono hgr)⟩
                | false =>
                  have G5 := Lib.hid (fun w => big_any e6 false hb5 w)
                  have n5 := Lib.hid (big_no hb5)
                  have HB5 := Lib.hid hb5
                  clear hb5
                  cases hb6 : bigB e8 with
                  | true =>
                    have G6 := Lib.hid (fun w => big_any e8 true hb6 w)
                    clear hb6
                    go_wp2_with (first | (go_at_call 19; first | ((with_reducible refine (G0.out _).mono ?_); rintro e w' ⟨rfl, rfl⟩) | ((with_reducible refine (G1.out _).mono ?_); rintro e w' ⟨rfl, rfl⟩) | ((with_reducible refine (G2.out _).mono ?_); rintro e w' ⟨rfl, rfl⟩) | ((with_reducible refine (G3.out _).mono ?_); rintro e w' ⟨rfl, rfl⟩) | ((with_reducible refine (G4.out _).mono ?_); rintro e w' ⟨rfl, rfl⟩) | ((with_reducible refine (G5.out _).mono ?_); rintro e w' ⟨rfl, rfl⟩) | ((with_reducible refine (G6.out _).mono ?_); rintro e w' ⟨rfl, rfl⟩)) | (go_at_call 20; refine (HA.out _).mono ?_; rintro e W1 ⟨rfl, b1⟩))
                    go_ret
                    exact ⟨rfl, by rw [← HG.out]; exact hb.trans ((bel_next ((Below.refl _ _).alloc (Nat.le_refl _) _) b1).mono hgr)⟩
                  | false =>
                    have G6 := Lib.hid (fun w => big_any e8 false hb6 w)
                    have n6 := Lib.hid (big_no hb6)
                    have HB6 := Lib.hid hb6
                    clear hb6
                    cases hb7 : bigB e9 with
                    | true =>
                      have G7 := Lib.hid (fun w => big_any e9 true hb7 w)
                      clear hb7
                      go_wp2_with (first | (go_at_call 19; first | ((with_reducible refine (G0.out _).mono ?_); rintro e w' ⟨rfl, rfl⟩) | ((with_reducible refine (G1.out _).mono ?_); rintro e w' ⟨rfl, rfl⟩) | ((with_reducible refine (G2.out _).mono ?_); rintro e w' ⟨rfl, rfl⟩) | ((with_reducible refine (G3.out _).mono ?_); rintro e w' ⟨rfl, rfl⟩) | ((with_reducible refine (G4.out _).mono ?_); rintro e w' ⟨rfl, rfl⟩) | ((with_reducible refine (G5.out _).mono ?_); rintro e w' ⟨rfl, rfl⟩) | ((with_reducible refine (G6.out _).mono ?_); rintro e w' ⟨rfl, rfl⟩) | ((with_reducible refine (G7.out _).mono ?_); rintro e w' ⟨rfl, rfl⟩)) | (go_at_call 20; refine (HA.out _).mono ?_; rintro e W1 ⟨rfl, b1⟩))
                      go_ret
                      exact ⟨rfl, by rw [← HG.out]; exact hb.trans ((bel_next ((Below.refl _ _).alloc (Nat.le_refl _) _) b1).mono hgr)⟩
                    | false =>
                      have G7 := Lib.hid (fun w => big_any e9 false hb7 w)
                      have n7 := Lib.hid (big_no hb7)
                      have HB7 := Lib.hid hb7
                      clear hb7
                      cases hb8 : bigB e10 with
                      | true =>
                        have G8 := Lib.hid (fun w => big_any e10 true hb8 w)
                        clear hb8
                        go_wp2_with (first | (go_at_call 19; first | ((with_reducible refine (G0.out _).mono ?_); rintro e w' ⟨rfl, rfl⟩) | ((with_reducible refine (G1.out _).mono ?_); rintro e w' ⟨rfl, rfl⟩) | ((with_reducible refine (G2.out _).mono ?_); rintro e w' ⟨rfl, rfl⟩) | ((with_reducible refine (G3.out _).mono ?_); rintro e w' ⟨rfl, rfl⟩) | ((with_reducible refine (G4.out _).mono ?_); rintro e w' ⟨rfl, rfl⟩) | ((with_reducible refine (G5.out _).mono ?_); rintro e w' ⟨rfl, rfl⟩) | ((with_reducible refine (G6.out _).mono ?_); rintro e w' ⟨rfl, rfl⟩) | ((with_reducible refine (G7.out _).mono ?_); rintro e w' ⟨rfl, rfl⟩) | ((with_reducible refine (G8.out _).mono ?_); rintro e w' ⟨rfl, rfl⟩)) | (go_at_call 20; refine (HA.out _).mono ?_; rintro e W1 ⟨rfl, b1⟩))
                        go_ret
                        exact ⟨rfl, by rw [← HG.out]; exact hb.trans ((bel_next ((Below.refl _ _).alloc (Nat.le_refl _) _) b1).mono hgr)⟩
                      | false =>
                        have G8 := Lib.hid (fun w => big_any e10 false hb8 w)
                        have n8 := Lib.hid (big_no hb8)
                        have HB8 := Lib.hid hb8
                        clear hb8
                        have okd := HO.out HB0.out HB1.out HB2.out HB3.out HB4.out HB5.out HB6.out HB7.out HB8.out
                        have MC := ME.out okd
                        have HKN2 := Lib.hid (HKN.out okd)
                        have hC := HC.out
                        clear okd HO HKN HC ME HB0 HB1 HB2 HB3 HB4 HB5 HB6 HB7 HB8
                        obtain ⟨X, hX⟩ : ∃ X, X = bsOf (evT d) := ⟨_, rfl⟩
                        rw [← hX] at MC hC
                        have HX := Lib.hid hX
                        clear hX
                        have m0 := n0.out
                        have l0 := dig_len m0.1 m0.2
                        have M0 := fun w => ldigits_any e0 m0.1 m0.2 w
                        rw [← bsOf_size] at l0
                        generalize bsOf (dig e0) = D0 at hC l0 M0
                        have M0 := Lib.hid M0
                        clear m0
                        have m1 := n1.out
                        have l1 := dig_len m1.1 m1.2
                        have M1 := fun w => ldigits_any e1 m1.1 m1.2 w
                        rw [← bsOf_size] at l1
                        generalize bsOf (dig e1) = D1 at hC l1 M1
                        have M1 := Lib.hid M1
                        clear m1
                        have m2 := n2.out
                        have l2 := dig_len m2.1 m2.2
                        have M2 := fun w => ldigits_any e2 m2.1 m2.2 w
                        rw [← bsOf_size] at l2
                        generalize bsOf (dig e2) = D2 at hC l2 M2
                        have M2 := Lib.hid M2
                        clear m2
                        have m3 := n3.out
                        have l3 := dig_len m3.1 m3.2
                        have M3 := fun w => ldigits_any e3 m3.1 m3.2 w
                        rw [← bsOf_size] at l3
                        generalize bsOf (dig e3) = D3 at hC l3 M3
                        have M3 := Lib.hid M3
                        clear m3
                        have m4 := n4.out
                        have l4 := dig_len m4.1 m4.2
                        have M4 := fun w => ldigits_any e4 m4.1 m4.2 w
                        rw [← bsOf_size] at l4
                        generalize bsOf (dig e4) = D4 at hC l4 M4
                        have M4 := Lib.hid M4
                        clear m4
                        have m5 : -9223372036854775808 < (e5.size : Int) ∧ (e5.size : Int) < 9223372036854775808 := by have := HY1.out; omega
                        have l5 := dig_len m5.1 m5.2
                        have M5 := fun w => ldigits_any (e5.size : Int) m5.1 m5.2 w
                        rw [← bsOf_size] at l5
                        generalize bsOf (dig (e5.size : Int)) = D5 at hC l5 M5
                        have M5 := Lib.hid M5
                        clear m5
                        have m6 := n5.out
                        have l6 := dig_len m6.1 m6.2
                        have M6 := fun w => ldigits_any e6 m6.1 m6.2 w
                        rw [← bsOf_size] at l6
                        generalize bsOf (dig e6) = D6 at hC l6 M6
                        have M6 := Lib.hid M6
                        clear m6
                        have m7 := n6.out
                        have l7 := dig_len m7.1 m7.2
                        have M7 := fun w => ldigits_any e8 m7.1 m7.2 w
                        rw [← bsOf_size] at l7
                        generalize bsOf (dig e8) = D7 at hC l7 M7
                        have M7 := Lib.hid M7
                        clear m7
                        have m8 : -9223372036854775808 < (e7.size : Int) ∧ (e7.size : Int) < 9223372036854775808 := by have := HY2.out; omega
                        have l8 := dig_len m8.1 m8.2
                        have M8 := fun w => ldigits_any (e7.size : Int) m8.1 m8.2 w
                        rw [← bsOf_size] at l8
                        generalize bsOf (dig (e7.size : Int)) = D8 at hC l8 M8
                        have M8 := Lib.hid M8
                        clear m8
                        have m9 := n7.out
                        have l9 := dig_len m9.1 m9.2
                        have M9 := fun w => ldigits_any e9 m9.1 m9.2 w
                        rw [← bsOf_size] at l9
                        generalize bsOf (dig e9) = D9 at hC l9 M9
                        have M9 := Lib.hid M9
                        clear m9
                        have m10 := n8.out
                        have l10 := dig_len m10.1 m10.2
                        have M10 := fun w => ldigits_any e10 m10.1 m10.2 w
                        rw [← bsOf_size] at l10
                        generalize bsOf (dig e10) = D10 at hC l10 M10
                        have M10 := Lib.hid M10
                        clear m10
                        clear HY1 HY2 n0 n1 n2 n3 n4 n5 n6 n7 n8
                        change X = D0 ++ (⟨#[32]⟩ : ByteArray) ++ D1 ++ (⟨#[32]⟩ : ByteArray) ++ D2 ++ (⟨#[32]⟩ : ByteArray) ++ D3 ++ (⟨#[32]⟩ : ByteArray) ++ D4 ++ (⟨#[32]⟩ : ByteArray) ++ D5 ++ (⟨#[32]⟩ : ByteArray) ++ D6 ++ (⟨#[32]⟩ : ByteArray) ++ D7 ++ (⟨#[32]⟩ : ByteArray) ++ D8 ++ (⟨#[32]⟩ : ByteArray) ++ D9 ++ (⟨#[32]⟩ : ByteArray) ++ D10 at hC
                        have r0 := Nat.le_refl D0.size
                        have z1 : ¬ 9223372036854775807 < D0.size + 1 := by omega
                        have y1 : ¬ 9223372036854775807 < D0.size + (⟨#[32]⟩ : ByteArray).size := z1
                        have r1 : (D0 ++ (⟨#[32]⟩ : ByteArray)).size = D0.size + 1 := by rw [ByteArray.size_append]; rfl
                        generalize hT1 : D0 ++ (⟨#[32]⟩ : ByteArray) = T1 at hC r1
                        have z2 : ¬ 9223372036854775807 < T1.size + D1.size := by omega
                        have r2 : (T1 ++ D1).size = T1.size + D1.size := by rw [ByteArray.size_append]
                        generalize hT2 : T1 ++ D1 = T2 at hC r2
                        have z3 : ¬ 9223372036854775807 < T2.size + 1 := by omega
                        have y3 : ¬ 9223372036854775807 < T2.size + (⟨#[32]⟩ : ByteArray).size := z3
                        have r3 : (T2 ++ (⟨#[32]⟩ : ByteArray)).size = T2.size + 1 := by rw [ByteArray.size_append]; rfl
                        generalize hT3 : T2 ++ (⟨#[32]⟩ : ByteArray) = T3 at hC r3
                        have z4 : ¬ 9223372036854775807 < T3.size + D2.size := by omega
                        have r4 : (T3 ++ D2).size = T3.size + D2.size := by rw [ByteArray.size_append]
                        generalize hT4 : T3 ++ D2 = T4 at hC r4
                        have z5 : ¬ 9223372036854775807 < T4.size + 1 := by omega
                        have y5 : ¬ 9223372036854775807 < T4.size + (⟨#[32]⟩ : ByteArray).size := z5
                        have r5 : (T4 ++ (⟨#[32]⟩ : ByteArray)).size = T4.size + 1 := by rw [ByteArray.size_append]; rfl
                        generalize hT5 : T4 ++ (⟨#[32]⟩ : ByteArray) = T5 at hC r5
                        have z6 : ¬ 9223372036854775807 < T5.size + D3.size := by omega
                        have r6 : (T5 ++ D3).size = T5.size + D3.size := by rw [ByteArray.size_append]
                        generalize hT6 : T5 ++ D3 = T6 at hC r6
                        have z7 : ¬ 9223372036854775807 < T6.size + 1 := by omega
                        have y7 : ¬ 9223372036854775807 < T6.size + (⟨#[32]⟩ : ByteArray).size := z7
                        have r7 : (T6 ++ (⟨#[32]⟩ : ByteArray)).size = T6.size + 1 := by rw [ByteArray.size_append]; rfl
                        generalize hT7 : T6 ++ (⟨#[32]⟩ : ByteArray) = T7 at hC r7
                        have z8 : ¬ 9223372036854775807 < T7.size + D4.size := by omega
                        have r8 : (T7 ++ D4).size = T7.size + D4.size := by rw [ByteArray.size_append]
                        generalize hT8 : T7 ++ D4 = T8 at hC r8
                        have z9 : ¬ 9223372036854775807 < T8.size + 1 := by omega
                        have y9 : ¬ 9223372036854775807 < T8.size + (⟨#[32]⟩ : ByteArray).size := z9
                        have r9 : (T8 ++ (⟨#[32]⟩ : ByteArray)).size = T8.size + 1 := by rw [ByteArray.size_append]; rfl
                        generalize hT9 : T8 ++ (⟨#[32]⟩ : ByteArray) = T9 at hC r9
                        have z10 : ¬ 9223372036854775807 < T9.size + D5.size := by omega
                        have r10 : (T9 ++ D5).size = T9.size + D5.size := by rw [ByteArray.size_append]
                        generalize hT10 : T9 ++ D5 = T10 at hC r10
                        have z11 : ¬ 9223372036854775807 < T10.size + 1 := by omega
                        have y11 : ¬ 9223372036854775807 < T10.size + (⟨#[32]⟩ : ByteArray).size := z11
                        have r11 : (T10 ++ (⟨#[32]⟩ : ByteArray)).size = T10.size + 1 := by rw [ByteArray.size_append]; rfl
                        generalize hT11 : T10 ++ (⟨#[32]⟩ : ByteArray) = T11 at hC r11
                        have z12 : ¬ 9223372036854775807 < T11.size + D6.size := by omega
                        have r12 : (T11 ++ D6).size = T11.size + D6.size := by rw [ByteArray.size_append]
                        generalize hT12 : T11 ++ D6 = T12 at hC r12
                        have z13 : ¬ 9223372036854775807 < T12.size + 1 := by omega
                        have y13 : ¬ 9223372036854775807 < T12.size + (⟨#[32]⟩ : ByteArray).size := z13
                        have r13 : (T12 ++ (⟨#[32]⟩ : ByteArray)).size = T12.size + 1 := by rw [ByteArray.size_append]; rfl
                        generalize hT13 : T12 ++ (⟨#[32]⟩ : ByteArray) = T13 at hC r13
                        have z14 : ¬ 9223372036854775807 < T13.size + D7.size := by omega
                        have r14 : (T13 ++ D7).size = T13.size + D7.size := by rw [ByteArray.size_append]
                        generalize hT14 : T13 ++ D7 = T14 at hC r14
                        have z15 : ¬ 9223372036854775807 < T14.size + 1 := by omega
                        have y15 : ¬ 9223372036854775807 < T14.size + (⟨#[32]⟩ : ByteArray).size := z15
                        have r15 : (T14 ++ (⟨#[32]⟩ : ByteArray)).size = T14.size + 1 := by rw [ByteArray.size_append]; rfl
                        generalize hT15 : T14 ++ (⟨#[32]⟩ : ByteArray) = T15 at hC r15
                        have z16 : ¬ 9223372036854775807 < T15.size + D8.size := by omega
                        have r16 : (T15 ++ D8).size = T15.size + D8.size := by rw [ByteArray.size_append]
                        generalize hT16 : T15 ++ D8 = T16 at hC r16
                        have z17 : ¬ 9223372036854775807 < T16.size + 1 := by omega
                        have y17 : ¬ 9223372036854775807 < T16.size + (⟨#[32]⟩ : ByteArray).size := z17
                        have r17 : (T16 ++ (⟨#[32]⟩ : ByteArray)).size = T16.size + 1 := by rw [ByteArray.size_append]; rfl
                        generalize hT17 : T16 ++ (⟨#[32]⟩ : ByteArray) = T17 at hC r17
                        have z18 : ¬ 9223372036854775807 < T17.size + D9.size := by omega
                        have r18 : (T17 ++ D9).size = T17.size + D9.size := by rw [ByteArray.size_append]
                        generalize hT18 : T17 ++ D9 = T18 at hC r18
                        have z19 : ¬ 9223372036854775807 < T18.size + 1 := by omega
                        have y19 : ¬ 9223372036854775807 < T18.size + (⟨#[32]⟩ : ByteArray).size := z19
                        have r19 : (T18 ++ (⟨#[32]⟩ : ByteArray)).size = T18.size + 1 := by rw [ByteArray.size_append]; rfl
                        generalize hT19 : T18 ++ (⟨#[32]⟩ : ByteArray) = T19 at hC r19
                        have z20 : ¬ 9223372036854775807 < T19.size + D10.size := by omega
                        have r20 : (T19 ++ D10).size = T19.size + D10.size := by rw [ByteArray.size_append]
                        generalize hT20 : T19 ++ D10 = T20 at hC r20
                        have hz := HZ.out
                        have hn := HN.out
                        have u1 : ¬ 9223372036854775807 < V.size + T20.size := by omega
                        have ur1 : (V ++ T20).size = V.size + T20.size := by rw [ByteArray.size_append]
                        have hYv : bsOf (txt (l.take (i + 1))) = V ++ T20 ++ (⟨#[10]⟩ : ByteArray) := by
                          rw [HT.out, HV.out, ← hC, HX.out]
                          show _ = bsOf _ ++ bsOf _ ++ bsOf [10]
                          rw [bsOf_app, bsOf_app, List.append_assoc]
                        generalize hY1 : V ++ T20 = Y1 at hYv ur1
                        have u2 : ¬ 9223372036854775807 < Y1.size + 1 := by omega
                        have uy2 : ¬ 9223372036854775807 < Y1.size + (⟨#[10]⟩ : ByteArray).size := u2
                        have ur2 : (Y1 ++ (⟨#[10]⟩ : ByteArray)).size = Y1.size + 1 := by rw [ByteArray.size_append]; rfl
                        generalize hY2 : Y1 ++ (⟨#[10]⟩ : ByteArray) = Y2 at hYv ur2
                        have HZ2 := Lib.hid (show Y2.size ≤ 301 * (i + 1) by omega)
                        have HV2 := Lib.hid hYv.symm
                        rw [hC] at MC
                        have MC := Lib.hid MC
                        clear hC hYv hz hn ur1 ur2 HX HT r0 r1 r2 r3 r4 r5 r6 r7 r8 r9 r10 r11 r12 r13 r14 r15 r16 r17 r18 r19 r20 l0 l1 l2 l3 l4 l5 l6 l7 l8 l9 l10
                        go_wp2_with (go_at_call 19; first | ((with_reducible refine (G0.out _).mono ?_); rintro e w' ⟨rfl, rfl⟩) | ((with_reducible refine (G1.out _).mono ?_); rintro e w' ⟨rfl, rfl⟩) | ((with_reducible refine (G2.out _).mono ?_); rintro e w' ⟨rfl, rfl⟩) | ((with_reducible refine (G3.out _).mono ?_); rintro e w' ⟨rfl, rfl⟩) | ((with_reducible refine (G4.out _).mono ?_); rintro e w' ⟨rfl, rfl⟩) | ((with_reducible refine (G5.out _).mono ?_); rintro e w' ⟨rfl, rfl⟩) | ((with_reducible refine (G6.out _).mono ?_); rintro e w' ⟨rfl, rfl⟩) | ((with_reducible refine (G7.out _).mono ?_); rintro e w' ⟨rfl, rfl⟩) | ((with_reducible refine (G8.out _).mono ?_); rintro e w' ⟨rfl, rfl⟩))
                        obtain ⟨b, hbx⟩ : ∃ b, b = wr.heap.size := ⟨_, rfl⟩
                        obtain ⟨W0, hW0⟩ : ∃ W0, W0 = wr.alloc (.cells #[.int .i64 e0, .int .i64 e1, .int .i64 e2, .int .i64 e3, .int .i64 e4, .string e5, .int .i64 e6, .string e7, .int .i64 e8, .int .i64 e9, .int .i64 e10] 50) := ⟨_, rfl⟩
                        have hS : W0.cell? ⟨b, 0, none⟩ = some (.int .i64 e0) ∧ W0.cell? ⟨b, 1, none⟩ = some (.int .i64 e1) ∧ W0.cell? ⟨b, 2, none⟩ = some (.int .i64 e2) ∧ W0.cell? ⟨b, 3, none⟩ = some (.int .i64 e3) ∧ W0.cell? ⟨b, 4, none⟩ = some (.int .i64 e4) ∧ W0.cell? ⟨b, 5, none⟩ = some (.string e5) ∧ W0.cell? ⟨b, 6, none⟩ = some (.int .i64 e6) ∧ W0.cell? ⟨b, 7, none⟩ = some (.string e7) ∧ W0.cell? ⟨b, 8, none⟩ = some (.int .i64 e8) ∧ W0.cell? ⟨b, 9, none⟩ = some (.int .i64 e9) ∧ W0.cell? ⟨b, 10, none⟩ = some (.int .i64 e10) ∧ g ≤ b ∧ Below g w0 W0 := by
                          rw [hW0, hbx]
                          exact ⟨by go_simp, by go_simp, by go_simp, by go_simp, by go_simp, by go_simp, by go_simp, by go_simp, by go_simp, by go_simp, by go_simp, hgr, hb.trans ((Below.refl _ _).alloc hgr _)⟩
                        rw [← hW0, ← hbx]
                        clear hW0 hbx c0 c1 c2 c3 c4 c5 c6 c7 c8 c9 c10 G0 G1 G2 G3 G4 G5 G6 G7 G8
                        go_region_held3 (fun w' => w'.cell? ⟨b, 0, none⟩ = some (.int .i64 e0) ∧ w'.cell? ⟨b, 1, none⟩ = some (.int .i64 e1) ∧ w'.cell? ⟨b, 2, none⟩ = some (.int .i64 e2) ∧ w'.cell? ⟨b, 3, none⟩ = some (.int .i64 e3) ∧ w'.cell? ⟨b, 4, none⟩ = some (.int .i64 e4) ∧ w'.cell? ⟨b, 5, none⟩ = some (.string e5) ∧ w'.cell? ⟨b, 6, none⟩ = some (.int .i64 e6) ∧ w'.cell? ⟨b, 7, none⟩ = some (.string e7) ∧ w'.cell? ⟨b, 8, none⟩ = some (.int .i64 e8) ∧ w'.cell? ⟨b, 9, none⟩ = some (.int .i64 e9) ∧ w'.cell? ⟨b, 10, none⟩ = some (.int .i64 e10) ∧ g ≤ b ∧ Below g w0 w') (first | exact hS | exact evs_drew hS)
                          ((go_simp; go_at_call 21; first | ((with_reducible refine (M0.out _).mono ?_); rintro e W1 ⟨rfl, b1⟩; have hS := evs_keep (by assumption) b1) | ((with_reducible refine (M1.out _).mono ?_); rintro e W1 ⟨rfl, b1⟩; have hS := evs_keep (by assumption) b1) | ((with_reducible refine (M2.out _).mono ?_); rintro e W1 ⟨rfl, b1⟩; have hS := evs_keep (by assumption) b1) | ((with_reducible refine (M3.out _).mono ?_); rintro e W1 ⟨rfl, b1⟩; have hS := evs_keep (by assumption) b1) | ((with_reducible refine (M4.out _).mono ?_); rintro e W1 ⟨rfl, b1⟩; have hS := evs_keep (by assumption) b1) | ((with_reducible refine (M5.out _).mono ?_); rintro e W1 ⟨rfl, b1⟩; have hS := evs_keep (by assumption) b1)))
                        go_wp2_with fail
                        go_region_held3 (fun w' => w'.cell? ⟨b, 0, none⟩ = some (.int .i64 e0) ∧ w'.cell? ⟨b, 1, none⟩ = some (.int .i64 e1) ∧ w'.cell? ⟨b, 2, none⟩ = some (.int .i64 e2) ∧ w'.cell? ⟨b, 3, none⟩ = some (.int .i64 e3) ∧ w'.cell? ⟨b, 4, none⟩ = some (.int .i64 e4) ∧ w'.cell? ⟨b, 5, none⟩ = some (.string e5) ∧ w'.cell? ⟨b, 6, none⟩ = some (.int .i64 e6) ∧ w'.cell? ⟨b, 7, none⟩ = some (.string e7) ∧ w'.cell? ⟨b, 8, none⟩ = some (.int .i64 e8) ∧ w'.cell? ⟨b, 9, none⟩ = some (.int .i64 e9) ∧ w'.cell? ⟨b, 10, none⟩ = some (.int .i64 e10) ∧ g ≤ b ∧ Below g w0 w') (first | exact hS | exact evs_drew hS)
                          ((go_simp; go_at_call 21; first | ((with_reducible refine (M6.out _).mono ?_); rintro e W1 ⟨rfl, b1⟩; have hS := evs_keep (by assumption) b1) | ((with_reducible refine (M7.out _).mono ?_); rintro e W1 ⟨rfl, b1⟩; have hS := evs_keep (by assumption) b1) | ((with_reducible refine (M8.out _).mono ?_); rintro e W1 ⟨rfl, b1⟩; have hS := evs_keep (by assumption) b1) | ((with_reducible refine (M9.out _).mono ?_); rintro e W1 ⟨rfl, b1⟩; have hS := evs_keep (by assumption) b1) | ((with_reducible refine (M10.out _).mono ?_); rintro e W1 ⟨rfl, b1⟩; have hS := evs_keep (by assumption) b1)))
                        go_wp2_with fail
                        have hge := evs_size hS
                        obtain ⟨p0, p1, p2, p3, p4, p5, p6, p7, p8, p9, p10, hgb, hbW⟩ := hS
                        go_wp2_with (go_at_call 23; (with_reducible refine (MC.out _).mono ?_); rintro e W1 ⟨rfl, b1⟩; have hbE := hbW.trans (b1.mono hge))
                        go_roundw
                        case rel => exact ⟨i + 1, Y2, by omega, rfl, by go_num, HV2, HKN2, HZ2, hbE⟩
                        case measure => simp [intOf]; omega
    · obtain rfl : i = n := by omega
      have e : l.take i = l := by rw [← HL.out, List.take_length]
      have hv := HV.out
      have hk := HK.out
      rw [e] at hv hk
      have MT := text_row A i c l wr HR2.out (by have := HN.out; omega) hk
      rw [← hv] at MT
      have MT := Lib.hid MT
      clear e hv hk
      go_wp2_with (first | (go_at_call 24; (with_reducible refine MT.out.mono ?_); rintro e W2 ⟨rfl, b2⟩) | (go_at_call 20; refine (HA.out _).mono ?_; rintro e W1 ⟨rfl, b1⟩))
      go_ret
      exact ⟨rfl, by rw [← HG.out]; exact hb.trans ((bel_next b2 b1).mono hgr)⟩
end Go.Proofs.Ytkmfcaaionmfoaa.Rp
