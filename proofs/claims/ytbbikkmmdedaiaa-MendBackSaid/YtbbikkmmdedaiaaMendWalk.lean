/- What mend's places, values, bad, apart, Put and the reference's Put, Apart and wide compute. -/
import Derived.Test.YtbbikkmmdedaiaaLagLaws
import Derived.Test.YtbbikkmmdedaiaaMendPlain2
set_option maxRecDepth 100000
namespace Go.Proofs.Ytbbikkmmdedaiaa.Pr
open Go.RowKit Go.Proofs.Ytbbikkmmdedaiaa.Gf Go.Proofs.Ytbbikkmmdedaiaa.Vec

theorem co_set_cut (q : List F) (n i : Nat) (p : Po) (hq : q.length = n) (hi : i < n) (h : co q = cut i p) : co (q.set i (p i)) = cut (i + 1) p := by
  rw [co_set_new q i (p i) (by omega) (by rw [h]; exact if_neg (by omega)), h, cut_succ]
theorem eq_firsts {q : List F} {n : Nat} {p : Po} (hq : q.length = n) (h : co q = cut n p) : q = firsts n p :=
  ext_co (by rw [hq, firsts_len]) (by rw [h, co_firsts])

/-- a row in a new block of its own -/
def GvN (l : List F) (w : World) (e : Ending) (w' : World) : Prop := ∃ n, n = l.length ∧ e = .returned (.slice (some ⟨w.heap.size, 0, none⟩) n n) ∧ VBF w' w.heap.size l ∧ Below w.heap.size w w'
theorem GvN.gv {l : List F} {w w' : World} {e : Ending} (h : GvN l w e w') : Gv l w e w' := by
  obtain ⟨n, rfl, he, hv, hb⟩ := h
  exact ⟨_, _, _, he, hv.row, hb⟩
theorem VBF.far {w : World} {g : Nat} {m : List F} (h : VBF w g m) {p : Addr} (hp : g ≠ p.block) (u : Value) : VBF (w.setCell p u) g m := Blk.far h hp u
theorem places_row (n : Nat) (w : World) (hn : n ≤ 1000) : Calls Try.prog 74 #[.int .i64 (n : Nat)] w (GvN (pls n) w) := by
  obtain ⟨g, hg⟩ : ∃ g, g = w.heap.size := ⟨_, rfl⟩
  obtain ⟨W, hW⟩ : ∃ W, W = w.alloc (.cells (madeCells #[.int .u8 0] n) 5) := ⟨_, rfl⟩
  have hvb : VBF W g (List.replicate n 0) := by rw [hW, hg]; exact VBF.made w n
  have hbl : Below g w W := by rw [hW, hg]; exact (Below.refl _ w).alloc (Nat.le_refl _) _
  have hmk := run_make_row' (P := Try.prog) 22 5 (.int .u8 0) 1 Try.underlying22 info5 rfl .i64 .i64 n (by omega) (by omega)
  have HW := Lib.hid hW
  have HG := Lib.hid hg
  clear hW hg
  go_enter Try.func74, Try.ntmps74
  go_wp2_with fail
  rw [← HW.out, ← HG.out]
  clear hmk
  go_loopw [4, 10] (fun x v wr => ∃ (i x0 : Nat) (q : List F), i ≤ n ∧ x = .int .u8 (x0 : Nat) ∧ v = .int .i64 i ∧ x0 = (pw i).1 ∧ q.length = n ∧ co q = cut i pw ∧ VBF wr g q ∧ Below g w wr) (fun _ v _ => n - (intOf v).toNat)
  case atStart => exact ⟨0, 1, List.replicate n 0, by omega, rfl, rfl, rfl, by simp, by rw [cut_0, co_zeros], hvb, hbl⟩
  case round =>
    obtain ⟨i, x0, q, hi, rfl, rfl, hx, hq, hco, hv, hb⟩ := hrel
    clear hvb hbl
    have HQ := Lib.hid hq
    have HCO := Lib.hid hco
    have HX := Lib.hid hx
    clear hq hco hx
    by_cases hlt : i < n
    · obtain ⟨y, hy⟩ : ∃ y, y = (pw (i + 1)).1 := ⟨_, rfl⟩
      obtain ⟨z, hz⟩ : ∃ z, z = (co q i).1 := ⟨_, rfl⟩
      have c1 := hv.cell i (by rw [HQ.out]; exact hlt)
      rw [← hz] at c1
      have f1 := hv.frozen i
      have MM := Lib.hid (show ∀ w, Calls Try.prog 33 #[.int .u8 (x0 : Nat), .int .u8 2] w fun e w' => e = .returned (.int .u8 (y : Nat)) ∧ w = w' by
        rw [HX.out, hy]; exact fmul_at (y := ⟨2, by omega⟩) (pw_succ i).symm)
      have HV2 := Lib.hid (show VBF (wr.setCell ⟨g, i, none⟩ (.int .u8 (x0 : Nat))) g (q.set i (pw i)) by rw [HX.out]; exact hv.set i _)
      have HY := Lib.hid hy
      clear hy hz hv
      go_wp2_with (go_at_call 33; (with_reducible refine (MM.out _).mono ?_); rintro e w' ⟨rfl, rfl⟩)
      go_roundw
      case rel => exact ⟨i + 1, y, q.set i (pw i), by omega, rfl, by go_num, HY.out, by rw [List.length_set]; exact HQ.out, co_set_cut q n i pw HQ.out hlt HCO.out, HV2.out, hb.setCell (p := ⟨g, i, none⟩) (Nat.le_refl _) _⟩
      case measure => simp [intOf]; omega
    · obtain rfl : i = n := by omega
      have HE := Lib.hid (eq_firsts HQ.out HCO.out)
      go_wp2_with fail
      go_ret
      rw [HE.out] at hv
      exact ⟨i, (pls_len i).symm, by rw [← HG.out]; rfl, by rw [← HG.out]; exact hv, by rw [← HG.out]; exact hb⟩

theorem values_row (A : Option Addr) (n c : Nat) (f : List F) (m : Nat) (w : World) (h1 : RowAt w A n c f) (hn : n ≤ 1000) (hm : m ≤ 1000) :
    Calls Try.prog 72 #[.slice A n c, .int .i64 (m : Nat)] w (GvN (wd f m) w) := by
  obtain ⟨g, hg⟩ : ∃ g, g = w.heap.size := ⟨_, rfl⟩
  obtain ⟨W, hW⟩ : ∃ W, W = w.alloc (.cells (madeCells #[.int .u8 0] m) 5) := ⟨_, rfl⟩
  have hvb : VBF W g (List.replicate m 0) := by rw [hW, hg]; exact VBF.made w m
  have hbl : Below g w W := by rw [hW, hg]; exact (Below.refl _ w).alloc (Nat.le_refl _) _
  have hmk := run_make_row' (P := Try.prog) 22 5 (.int .u8 0) 1 Try.underlying22 info5 rfl .i64 .i64 m (by omega) (by omega)
  obtain ⟨P, hP⟩ : ∃ P : Po, P = fun i => pe f (pw i) := ⟨_, rfl⟩
  have HP := Lib.hid hP
  have HW := Lib.hid hW
  have HG := Lib.hid hg
  have H1 := Lib.hid h1
  have MP := Lib.hid (places_row m W hm)
  clear hW hg h1 hP
  go_enter Try.func72, Try.ntmps72
  go_wp2_with fail
  rw [← HW.out, ← HG.out]
  refine (MP.out).mono ?_
  rintro e W2 ⟨np, hnp, rfl, hvp, u2⟩
  rw [pls_len] at hnp
  subst hnp
  obtain ⟨gp, hgp⟩ : ∃ gp, gp = W.heap.size := ⟨_, rfl⟩
  rw [← hgp] at hvp ⊢
  have hggp : g < gp := by rw [hgp]; exact hvb.lt
  have hvb2 : VBF W2 g (List.replicate np 0) := hvb.below u2 hvb.lt
  have hbl2 : Below g w W2 := below_to HG.out hbl u2
  clear hvb hbl hmk MP u2 hgp
  go_wp2_with fail
  go_loopw [13] (fun v wr => ∃ (i : Nat) (q : List F), i ≤ np ∧ v = .int .i64 i ∧ q.length = np ∧ co q = cut i P ∧ VBF wr g q ∧ Below g w wr ∧ VBF wr gp (pls np)) (fun v _ => np - (intOf v).toNat)
  case atStart => exact ⟨0, List.replicate np 0, by omega, rfl, by simp, by rw [cut_0, co_zeros], hvb2, hbl2, hvp⟩
  case round =>
    obtain ⟨i, q, hi, rfl, hq, hco, hv, hb, hrp⟩ := hrel
    clear hvb2 hbl2 hvp
    have HQ := Lib.hid hq
    have HCO := Lib.hid hco
    clear hq hco
    by_cases hlt : i < np
    · have hcx := hrp.cell i (by rw [pls_len]; exact hlt)
      obtain ⟨x, hx⟩ : ∃ x, x = (pw i).1 := ⟨_, rfl⟩
      rw [pls_at np i hlt, ← hx] at hcx
      obtain ⟨y, hy⟩ : ∃ y, y = (P i).1 := ⟨_, rfl⟩
      obtain ⟨z, hz⟩ : ∃ z, z = (co q i).1 := ⟨_, rfl⟩
      have ME := Lib.hid (show Calls Try.prog 49 #[.slice A n c, .int .u8 (x : Nat)] wr fun e w' => e = .returned (.int .u8 (y : Nat)) ∧ ∃ k, w' = wr.drewN k by
        rw [hx, hy, HP.out]
        exact eval_row A n c f (pw i) wr (H1.out.on (by rw [← HG.out]; exact hb)) (by omega))
      have c1 := hv.cell i (by rw [HQ.out]; exact hlt)
      rw [← hz] at c1
      have f1 := hv.frozen i
      have HY := Lib.hid hy
      clear hx hy hz
      go_wp2_with fail
      refine (ME.out).mono ?_
      rintro e W3 ⟨rfl, k, hW3⟩
      have hv3 : VBF W3 g q := by rw [hW3]; exact hv
      have hb3 : Below g w W3 := by rw [hW3]; exact below_drewN hb k
      have hrp3 : VBF W3 gp (pls np) := by rw [hW3]; exact hrp
      have c3 : W3.cell? ⟨g, i, none⟩ = some (.int .u8 (z : Nat)) := by rw [hW3]; exact c1
      have f3 : W3.frozen? ⟨g, i, none⟩ = false := by rw [hW3]; exact f1
      have HV2 := Lib.hid (show VBF (W3.setCell ⟨g, i, none⟩ (.int .u8 (y : Nat))) g (q.set i (P i)) by rw [HY.out]; exact hv3.set i _)
      have HV3 := Lib.hid (show VBF (W3.setCell ⟨g, i, none⟩ (.int .u8 (y : Nat))) gp (pls np) from hrp3.far (by show gp ≠ g; omega) _)
      clear hW3 hv hb hrp c1 f1 ME hcx hv3 hrp3
      go_wp2_with fail
      go_roundw
      case rel => exact ⟨i + 1, q.set i (P i), by omega, by go_num, by rw [List.length_set]; exact HQ.out, co_set_cut q np i P HQ.out hlt HCO.out, HV2.out, hb3.setCell (p := ⟨g, i, none⟩) (Nat.le_refl _) _, HV3.out⟩
      case measure => simp [intOf]; omega
    · obtain rfl : i = np := by omega
      have HE := Lib.hid (show q = wd f i by
        have h := eq_firsts HQ.out HCO.out
        rw [HP.out] at h
        exact h)
      go_wp2_with fail
      go_ret
      rw [HE.out] at hv
      exact ⟨i, (wd_len f i).symm, by rw [← HG.out]; rfl, by rw [← HG.out]; exact hv, by rw [← HG.out]; exact hb⟩
end Go.Proofs.Ytbbikkmmdedaiaa.Pr
