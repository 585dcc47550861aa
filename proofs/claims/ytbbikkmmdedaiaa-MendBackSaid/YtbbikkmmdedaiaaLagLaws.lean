/- Contracts of the calls of law 41: values of the polynomial through points; no condition. -/
import Derived.Test.YtbbikkmmdedaiaaLagThr2
set_option maxRecDepth 100000
namespace Go.Proofs.Ytbbikkmmdedaiaa.Pr
open Go.RowKit Go.Proofs.Ytbbikkmmdedaiaa.Gf Go.Proofs.Ytbbikkmmdedaiaa.Vec

theorem thr_of {x y l : List F} (h1 : Trd l) (h2 : l.length ≤ x.length) (h3 : ∀ i, i < x.length → pe l (co x i) = co y i) : Thr x y l := ⟨h1, h2, h3⟩

section
variable {A A2 : Option Addr} {n c n2 c2 : Nat} {l m : List F} {w : World}
theorem lat_ok (h1 : RowAt w A n c l) (h2 : RowAt w A2 n2 c2 m) (hn : n ≤ 1000) (h0 : chk l m = 0) {p : List F} (hp : Thr l m p) (z : F) (z0 v : Nat) (hz : z0 = z.1) (hv : v = (pe p z).1) :
    Calls Try.prog 56 #[.slice A n c, .slice A2 n2 c2, .int .u8 z0] w fun e w' => e = .returned (.tuple #[.int .u8 v, .int .i64 0]) ∧ Below w.heap.size w w' := by
  have HL := Lib.hid h1.1
  have MT := Lib.hid (through_row A n c A2 n2 c2 l m w h1 h2 hn h0)
  have HD := Lib.hid (chk_zero h0).2
  have HP := Lib.hid hp
  have HZ := Lib.hid hz
  have HV := Lib.hid hv
  clear h1 h2 h0 hp hz hv
  go_enter Try.func56, Try.ntmps56
  go_wp2_with fail
  refine (MT.out).mono ?_
  rintro e W1 ⟨p', A1, n1, c1, rfl, hp', r1, u1⟩
  have hpp := Thr.uniq HD.out hp' HP.out
  subst hpp
  have hn1 : n1 ≤ 1000 := by have h1 := r1.1; have h2 := hp'.2.1; have h3 := HL.out; omega
  clear hp'
  go_wp2_with fail
  refine (eval_b r1 z z0 v HZ.out HV.out (by omega)).mono ?_
  rintro e W2 ⟨rfl, u2⟩
  go_wp2_with fail
  go_ret2
  exact ⟨rfl, below_chain u1 u2⟩
theorem lat_bad (h1 : RowAt w A n c l) (h2 : RowAt w A2 n2 c2 m) (hn : n ≤ 1000) (E : Int) (hE : E = chk l m) (h0 : chk l m ≠ 0) (z0 : Nat) :
    Calls Try.prog 56 #[.slice A n c, .slice A2 n2 c2, .int .u8 z0] w fun e w' => e = .returned (.tuple #[.int .u8 0, .int .i64 E]) ∧ Below w.heap.size w w' := by
  have MT := Lib.hid (through_bad A n c A2 n2 c2 l m E w h1 h2 hn hE h0)
  rw [← hE] at h0
  have hE1 : (E == 0) = false := by simp [h0]
  have hE2 : (E != 0) = true := by simp [h0]
  clear hE h0 h1 h2
  go_enter Try.func56, Try.ntmps56
  go_wp2_with fail
  refine (MT.out).mono ?_
  rintro e W1 ⟨rfl, u1⟩
  go_wp2_with fail
  go_ret2
  exact ⟨rfl, u1⟩
theorem ref_lat_ok (h1 : RowAt w A n c l) (h2 : RowAt w A2 n2 c2 m) (hn : n ≤ 1000) (h0 : chk l m = 0) {p : List F} (hp : Thr l m p) (z : F) (z0 v : Nat) (hz : z0 = z.1) (hv : v = (pe p z).1) :
    Calls Try.prog 57 #[.slice A n c, .slice A2 n2 c2, .int .u8 z0] w fun e w' => e = .returned (.tuple #[.int .u8 v, .int .i64 0]) ∧ Below w.heap.size w w' := by
  have HL := Lib.hid h1.1
  have MT := Lib.hid (ref_through_row A n c A2 n2 c2 l m w h1 h2 hn h0)
  have HD := Lib.hid (chk_zero h0).2
  have HP := Lib.hid hp
  have HZ := Lib.hid hz
  have HV := Lib.hid hv
  clear h1 h2 h0 hp hz hv
  go_enter Try.func57, Try.ntmps57
  go_wp2_with fail
  refine (MT.out).mono ?_
  rintro e W1 ⟨p', A1, n1, c1, rfl, hp', r1, u1⟩
  have hpp := Thr.uniq HD.out hp' HP.out
  subst hpp
  have hn1 : n1 ≤ 1000 := by have h1 := r1.1; have h2 := hp'.2.1; have h3 := HL.out; omega
  clear hp'
  go_wp2_with fail
  refine (ref_eval_b r1 z z0 v HZ.out HV.out (by omega)).mono ?_
  rintro e W2 ⟨rfl, u2⟩
  go_wp2_with fail
  go_ret2
  exact ⟨rfl, below_chain u1 u2⟩
theorem ref_lat_bad (h1 : RowAt w A n c l) (h2 : RowAt w A2 n2 c2 m) (hn : n ≤ 1000) (E : Int) (hE : E = chk l m) (h0 : chk l m ≠ 0) (z : F) (z0 : Nat) (hz : z0 = z.1) :
    Calls Try.prog 57 #[.slice A n c, .slice A2 n2 c2, .int .u8 z0] w fun e w' => e = .returned (.tuple #[.int .u8 0, .int .i64 E]) ∧ Below w.heap.size w w' := by
  have MT := Lib.hid (ref_through_bad A n c A2 n2 c2 l m E w h1 h2 hn hE h0)
  have HZ := Lib.hid hz
  clear hE h0 h1 h2 hz
  go_enter Try.func57, Try.ntmps57
  go_wp2_with fail
  refine (MT.out).mono ?_
  rintro e W1 ⟨rfl, u1⟩
  go_wp2_with fail
  have ME : Calls Try.prog 50 #[.slice none 0 0, .int .u8 z0] W1 fun e w' => e = .returned (.int .u8 0) ∧ Below W1.heap.size W1 w' := ref_eval_b (RowAt.nil W1) z z0 0 HZ.out rfl (by omega)
  refine ME.mono ?_
  rintro e W2 ⟨rfl, u2⟩
  go_wp2_with fail
  go_ret2
  exact ⟨rfl, below_chain u1 u2⟩
end
end Go.Proofs.Ytbbikkmmdedaiaa.Pr
