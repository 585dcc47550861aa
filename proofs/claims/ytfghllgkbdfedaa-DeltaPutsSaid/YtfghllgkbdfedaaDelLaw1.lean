/- lightshiplaw57.DeltaPuts returns true; condition: the argument is a row of words. -/
import Derived.Test.YtfghllgkbdfedaaDelAwake
import Derived.Test.YtfghllgkbdfedaaDelIn
import Derived.Test.YtfghllgkbdfedaaWords6
import Derived.Test.YtfghllgkbdfedaaDelSteps
set_option maxRecDepth 100000
namespace Go.Proofs.Ytfghllgkbdfedaa.Dl
open Go.RowKit

def wantL (n : Nat) (l : List Nat) (i : Nat) : List UInt8 := Var.put n ++ puts (stepsTo l i)
def wantB (n : Nat) (l : List Nat) (i : Nat) : ByteArray := ⟨(wantL n l i).toArray⟩
def putB (x : Nat) : ByteArray := ⟨(Var.put x).toArray⟩
theorem bytes_app (a b : List UInt8) : (⟨a.toArray⟩ : ByteArray) ++ ⟨b.toArray⟩ = ⟨(a ++ b).toArray⟩ := by
  apply ByteArray.ext
  rw [ByteArray.data_append]
  simp
theorem wantB_zero (n : Nat) (l : List Nat) : putB n = wantB n l 0 := by simp [putB, wantB, wantL, stepsTo, puts]
theorem wantB_succ (n : Nat) (l : List Nat) (i : Nat) : wantB n l i ++ putB (nthS l i) = wantB n l (i + 1) := by
  unfold wantB putB wantL
  rw [bytes_app, stepsTo_succ, puts_snoc, List.append_assoc]
theorem wantB_end (l : List Nat) : wantB l.length l l.length = ⟨(enc l).toArray⟩ := rfl
theorem putB_size (x : Nat) : (putB x).size ≤ 10 := by
  have := put_len x
  show (Var.put x).toArray.size ≤ 10
  rw [List.size_toArray]; exact this
theorem wantB_size (n : Nat) (l : List Nat) (i : Nat) : (wantB n l i).size ≤ 10 * (i + 1) := by
  show (wantL n l i).toArray.size ≤ _
  rw [List.size_toArray]
  have h1 := put_len n
  have h2 := puts_len (stepsTo l i)
  rw [stepsTo_len] at h2
  unfold wantL
  rw [List.length_append]
  omega
def RiseTo (l : List Nat) (i : Nat) : Prop := ∀ j, j + 1 < i → l.getD j 0 < l.getD (j + 1) 0
theorem refput_b (x : Nat) (w : World) (hx : x < 18446744073709551616) : Calls Try.prog 24 #[.int .u64 x] w fun e w' => e = .returned (.string (putB x)) ∧ Below w.heap.size w w' := Var.refput_put x w hx

theorem two_keep {p q : Addr} {u v : Value} {g : Nat} {w0 w w2 : World} (h : w.cell? p = some u ∧ w.cell? q = some v ∧ g ≤ w.heap.size ∧ Below g w0 w) (hb : Below w.heap.size w w2) : w2.cell? p = some u ∧ w2.cell? q = some v ∧ g ≤ w2.heap.size ∧ Below g w0 w2 :=
  ⟨(hb.cell (World.block_lt_of_cell? w p h.1)).trans h.1, (hb.cell (World.block_lt_of_cell? w q h.2.1)).trans h.2.1, Nat.le_trans h.2.2.1 hb.size, h.2.2.2.trans (hb.mono h.2.2.1)⟩
theorem two_drew {p q : Addr} {u v : Value} {g : Nat} {w0 w : World} (h : w.cell? p = some u ∧ w.cell? q = some v ∧ g ≤ w.heap.size ∧ Below g w0 w) : w.drew.cell? p = some u ∧ w.drew.cell? q = some v ∧ g ≤ w.drew.heap.size ∧ Below g w0 w.drew := ⟨h.1, h.2.1, h.2.2.1, h.2.2.2.drew⟩
theorem riseTo_next {l : List Nat} {i p : Nat} (hp : p + 1 = i) : RiseTo l (i + 1) ↔ RiseTo l i ∧ l.getD p 0 < l.getD i 0 := by
  constructor
  · intro h
    exact ⟨fun j hj => h j (by omega), by have := h p (by omega); rwa [hp] at this⟩
  · rintro ⟨h, h2⟩ j hj
    by_cases e : j + 1 < i
    · exact h j e
    · obtain rfl : j = p := by omega
      rw [hp]; exact h2
theorem riseTo_end {l : List Nat} : RiseTo l l.length ↔ Rise l := Iff.rfl

set_option maxHeartbeats 8000000 in
theorem deltaputs_walk (A : Option Addr) (n c : Nat) (l : List Nat) (w : World) (hr : RowU w A n l) :
    Calls Try.prog 13 #[.slice A n c] w fun e w' => e = .returned (.bool true) ∧ Below w.heap.size w w' := by
  have HA := Lib.hid awake57
  have HR := Lib.hid hr
  by_cases h2 : 200 < n
  · have h22 : (200 : Int) < n := by omega
    clear h2 hr
    go_enter Try.func13, Try.ntmps13
    go_wp2_with (go_at_call 41; refine (HA.out _).mono ?_; rintro e W1 ⟨rfl, b1⟩)
    go_ret
    exact ⟨rfl, b1⟩
  have h22 : (n : Int) ≤ 200 := by omega
  have hcv : IntKind.u64.wrap (n : Int) = (n : Int) := by rw [IntWalk.u64_in _ ⟨by omega, by omega⟩]
  have M0 := Lib.hid (fun W => refput_b n W (by omega))
  obtain ⟨V0, hV0⟩ : ∃ V0, V0 = putB n := ⟨_, rfl⟩
  rw [← hV0] at M0
  have HV0 := Lib.hid hV0
  obtain ⟨g, hg⟩ : ∃ g, g = w.heap.size := ⟨_, rfl⟩
  have HG := Lib.hid hg
  have hB0 : Below g w w := Below.refl _ _
  clear hr hV0 hg h2
  go_enter Try.func13, Try.ntmps13
  go_wp2_with (go_at_call 24; (with_reducible refine (M0.out _).mono ?_); rintro e W0 ⟨rfl, b0⟩; have hB0 := hB0.trans (b0.mono (by rw [HG.out]; exact Nat.le_refl _)))
  go_loopw [3, 4, 5] (fun v3 v4 v5 wr => ∃ (i : Nat) (r : Bool) (V : ByteArray), i ≤ n ∧ v3 = .bool r ∧ v4 = .string V ∧ v5 = .int .i64 i ∧ Hid (r = true ↔ RiseTo l i) ∧ Hid (V = wantB n l i) ∧ Below g w wr) (fun _ _ v _ => n - (intOf v).toNat)
  case atStart => exact ⟨0, true, V0, by omega, rfl, rfl, rfl, Lib.hid (by simp [RiseTo]), Lib.hid (by rw [HV0.out]; exact wantB_zero n l), hB0⟩
  case round =>
    obtain ⟨i, r, V, hi, rfl, rfl, rfl, HRT, HV, hb⟩ := hrel
    clear hB0
    have hgr : g ≤ wr.heap.size := by have := hb.size; have := HG.out; omega
    have HR2 := Lib.hid (HR.out.on (show Below w.heap.size w wr by rw [← HG.out]; exact hb))
    by_cases hlt : i < n
    · obtain ⟨ad, had, hab, cc⟩ := HR2.out.cell hlt
      have HM := Lib.hid (fun W => refput_b (nthS l i) W (nthS_lt HR.out.2.2 i))
      have hsz := wantB_size n l i
      have hpz := putB_size (nthS l i)
      have hws := wantB_succ n l i
      rw [← HV.out] at hsz hws
      obtain ⟨X, hX⟩ : ∃ X, X = putB (nthS l i) := ⟨_, rfl⟩
      rw [← hX] at hpz hws
      have z1 : ¬ 9223372036854775807 < V.size + X.size := by omega
      obtain ⟨V2, hV2⟩ : ∃ V2, V ++ X = V2 := ⟨_, rfl⟩
      have HV2 := Lib.hid (show V2 = wantB n l (i + 1) by rw [← hV2]; exact hws)
      have HM2 := HM.out
      rw [← hX] at HM2
      clear hws hsz hpz hX HM HV
      by_cases hi0 : i = 0
      · subst hi0
        have e1 : nthS l 0 = l.getD 0 0 := rfl
        rw [e1] at HM2
        have e2 : ad.add 0 = ad := by cases ad; simp [Addr.add]
        rw [e2] at cc
        generalize l.getD 0 0 = a at cc HM2
        have HM2 := Lib.hid HM2
        subst had
        clear e1 e2
        have HRN := Lib.hid (show r = true ↔ RiseTo l (0 + 1) by
          refine HRT.out.trans ⟨fun _ j hj => by omega, fun _ j hj => by omega⟩)
        go_wp2_with (go_at_call 24; (with_reducible refine (HM2.out _).mono ?_); rintro e W1 ⟨rfl, b1⟩)
        go_roundw
        case rel => exact ⟨0 + 1, r, V2, by omega, rfl, rfl, by go_num, HRN, HV2, hb.trans (b1.mono hgr)⟩
        case measure => simp [intOf]; omega
      · obtain ⟨p, hp⟩ : ∃ p : Nat, p + 1 = i := ⟨i - 1, by omega⟩
        obtain ⟨ad2, had2, _, cp⟩ := HR2.out.cell (show p < n by omega)
        have e3 : ad2 = ad := by rw [had] at had2; injection had2 with h; exact h.symm
        subst e3
        have e1 : nthS l i = stp (l.getD i 0) (l.getD p 0) := by
          unfold nthS
          rw [if_neg hi0, show i - 1 = p by omega]
        rw [e1] at HM2
        have HN := Lib.hid (riseTo_next (l := l) hp)
        generalize l.getD i 0 = a at cc HM2 HN
        generalize l.getD p 0 = b at cp HM2 HN
        have es : IntKind.i64.wrap ((i : Int) - 1) = (p : Int) := by rw [IntWalk.i64_in _ ⟨by omega, by omega⟩]; omega
        obtain ⟨P, hP⟩ : ∃ P : Nat, P = (((a : Int) - (b : Int)) % 18446744073709551616).toNat := ⟨_, rfl⟩
        have eP : IntKind.u64.wrap ((a : Int) - (b : Int)) = (P : Int) := by rw [u64_wrap]; omega
        have eY : IntKind.u64.wrap ((P : Int) - 1) = ((stp a b : Nat) : Int) := by rw [u64_wrap]; unfold stp; omega
        have hpn : p < n := by omega
        have hiz : ((i : Int) == 0) = false := by simp; omega
        generalize stp a b = Y at HM2 eY
        have HM2 := Lib.hid HM2
        have HP := Lib.hid hp
        subst had
        clear e1 hP hi0 hp
        cases r with
        | false =>
          have HRN := Lib.hid (show false = true ↔ RiseTo l (i + 1) from ⟨fun h => by simp at h, fun h => absurd (HRT.out.2 (HN.out.1 h).1) (by simp)⟩)
          go_wp2_with fail
          go_quiet (fail)
          go_wp2_with fail
          obtain ⟨W, hW⟩ : ∃ W, W = wr.drewN nq := ⟨_, rfl⟩
          rw [← hW]
          have hS : W.cell? (ad2.add i) = some (.int .u64 (a : Int)) ∧ W.cell? (ad2.add p) = some (.int .u64 (b : Int)) ∧ g ≤ W.heap.size ∧ Below g w W := by
            rw [hW]
            exact ⟨cc, cp, hgr, below_drewN hb nq⟩
          clear hW
          go_region_held3 (fun w' => w'.cell? (ad2.add i) = some (.int .u64 (a : Int)) ∧ w'.cell? (ad2.add p) = some (.int .u64 (b : Int)) ∧ g ≤ w'.heap.size ∧ Below g w w') (first | exact hS | exact two_drew hS)
            ((go_simp; go_at_call 24; (with_reducible refine (HM2.out _).mono ?_); rintro e W1 ⟨rfl, b1⟩; have hS := two_keep (by assumption) b1))
          go_wp2_with fail
          go_roundw
          case rel => exact ⟨i + 1, false, V2, by omega, rfl, rfl, by go_num, HRN, HV2, hS.2.2.2⟩
          case measure => simp [intOf]; omega
        | true =>
          by_cases hba : b < a
          · have hba2 : (b : Int) < a := by omega
            have HRN := Lib.hid (show true = true ↔ RiseTo l (i + 1) from ⟨fun _ => HN.out.2 ⟨HRT.out.1 rfl, hba⟩, fun _ => rfl⟩)
            clear hba
            go_wp2_with fail
            go_quiet (fail)
            go_wp2_with fail
            obtain ⟨W, hW⟩ : ∃ W, W = wr.drewN nq := ⟨_, rfl⟩
            rw [← hW]
            have hS : W.cell? (ad2.add i) = some (.int .u64 (a : Int)) ∧ W.cell? (ad2.add p) = some (.int .u64 (b : Int)) ∧ g ≤ W.heap.size ∧ Below g w W := by
              rw [hW]
              exact ⟨cc, cp, hgr, below_drewN hb nq⟩
            clear hW
            go_region_held3 (fun w' => w'.cell? (ad2.add i) = some (.int .u64 (a : Int)) ∧ w'.cell? (ad2.add p) = some (.int .u64 (b : Int)) ∧ g ≤ w'.heap.size ∧ Below g w w') (first | exact hS | exact two_drew hS)
              ((go_simp; go_at_call 24; (with_reducible refine (HM2.out _).mono ?_); rintro e W1 ⟨rfl, b1⟩; have hS := two_keep (by assumption) b1))
            go_wp2_with fail
            go_roundw
            case rel => exact ⟨i + 1, true, V2, by omega, rfl, rfl, by go_num, Lib.hid (by simpa using HRN.out), HV2, hS.2.2.2⟩
            case measure => simp [intOf]; omega
          · have hba2 : (a : Int) ≤ b := by omega
            have HRN := Lib.hid (show false = true ↔ RiseTo l (i + 1) from ⟨fun h => by simp at h, fun h => absurd (HN.out.1 h).2 hba⟩)
            clear hba
            go_wp2_with fail
            go_quiet (fail)
            go_wp2_with fail
            obtain ⟨W, hW⟩ : ∃ W, W = wr.drewN nq := ⟨_, rfl⟩
            rw [← hW]
            have hS : W.cell? (ad2.add i) = some (.int .u64 (a : Int)) ∧ W.cell? (ad2.add p) = some (.int .u64 (b : Int)) ∧ g ≤ W.heap.size ∧ Below g w W := by
              rw [hW]
              exact ⟨cc, cp, hgr, below_drewN hb nq⟩
            clear hW
            go_region_held3 (fun w' => w'.cell? (ad2.add i) = some (.int .u64 (a : Int)) ∧ w'.cell? (ad2.add p) = some (.int .u64 (b : Int)) ∧ g ≤ w'.heap.size ∧ Below g w w') (first | exact hS | exact two_drew hS)
              ((go_simp; go_at_call 24; (with_reducible refine (HM2.out _).mono ?_); rintro e W1 ⟨rfl, b1⟩; have hS := two_keep (by assumption) b1))
            go_wp2_with fail
            go_roundw
            case rel => exact ⟨i + 1, false, V2, by omega, by rw [decide_eq_false (by omega)], rfl, by go_num, HRN, HV2, hS.2.2.2⟩
            case measure => simp [intOf]; omega
    · obtain rfl : i = n := by omega
      have hl := HR.out.1
      have hv := HV.out
      have hrt := HRT.out
      rw [← hl, wantB_end] at hv
      rw [← hl, riseTo_end] at hrt
      by_cases hR : Rise l
      · obtain rfl : r = true := hrt.2 hR
        have C1 := put57_rise A i c l wr HR2.out (by omega) hR
        rw [← hv] at C1
        have C1 := Lib.hid C1
        have Z := Lib.hid (fun W (hw : RowU W A i l) => rises_any A i c l true (by simp [hR]) (by omega) W hw)
        clear hl hv hrt hR
        go_wp2_with (first
          | (go_at_call 42; (with_reducible refine C1.out.mono ?_); rintro e W1 ⟨rfl, b1⟩; have Z1 := Lib.hid (Z.out W1 (HR2.out.on b1)))
          | (go_at_call 43; (with_reducible refine Z1.out.mono ?_); rintro e W2 ⟨rfl, b2⟩; have b2' := bel_next b1 b2)
          | (go_at_call 41; (with_reducible refine (HA.out W2).mono ?_); rintro e W3 ⟨rfl, b3⟩; have b3' := bel_next b2' b3))
        go_ret
        exact ⟨rfl, by rw [← HG.out]; exact hb.trans (b3'.mono hgr)⟩
      · obtain rfl : r = false := by
          cases r with
          | false => rfl
          | true => exact absurd (hrt.1 rfl) hR
        have C1 := Lib.hid (put57_bad A i c l wr HR2.out (by omega) hR)
        have Z := Lib.hid (fun W (hw : RowU W A i l) => rises_any A i c l false (by simp [hR]) (by omega) W hw)
        clear hl hv hrt hR
        go_wp2_with (first
          | (go_at_call 42; (with_reducible refine C1.out.mono ?_); rintro e W1 ⟨rfl, b1⟩; have Z1 := Lib.hid (Z.out W1 (HR2.out.on b1)))
          | (go_at_call 43; (with_reducible refine Z1.out.mono ?_); rintro e W2 ⟨rfl, b2⟩; have b2' := bel_next b1 b2)
          | (go_at_call 41; (with_reducible refine (HA.out W2).mono ?_); rintro e W3 ⟨rfl, b3⟩; have b3' := bel_next b2' b3))
        go_ret
        exact ⟨rfl, by rw [← HG.out]; exact hb.trans (b3'.mono hgr)⟩
theorem deltaPuts_walk (a0 : Option Addr) (len0 cap0 : Nat) (z0 : List Int) (w : World) (w0 : IsRow .u64 w a0 len0 cap0 z0) :
    Calls Try.prog 13 #[.slice a0 len0 cap0] w fun e w' => e = .returned (.bool true) ∧ Below w.heap.size w w' := by
  obtain ⟨l, hl⟩ := row_in w0
  exact deltaputs_walk a0 len0 cap0 l w hl
end Go.Proofs.Ytfghllgkbdfedaa.Dl
