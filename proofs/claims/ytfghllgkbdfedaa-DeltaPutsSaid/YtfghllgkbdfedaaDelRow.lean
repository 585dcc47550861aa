/- Rows of words that came in, and what delta.Rises and the law's 'same' compute; no condition but that the rows are rows. -/
import Derived.Test.YtfghllgkbdfedaaDelPlain
import Derived.Test.YtfghllgkbdfedaaVarPutRef
import Derived.Test.YtfghllgkbdfedaaVarRef
import Derived.Test.YtfghllgkbdfedaaWords2
import Derived.Test.YtfghllgkbdfedaaWords3
import Derived.BigQuiet
import Derived.Deep.Light
import Derived.Lib.Hide
import Derived.IntWalk
namespace Go.Proofs.Ytfghllgkbdfedaa.Dl
open Go.RowKit
set_option maxRecDepth 100000

def Us (l : List Nat) : List Value := l.map fun (n : Nat) => .int .u64 (n : Int)
theorem Us_snoc (l : List Nat) (x : Nat) : Us (l ++ [x]) = Us l ++ [.int .u64 (x : Int)] := by simp [Us]
theorem Us_len (l : List Nat) : (Us l).length = l.length := by simp [Us]
def RowU (w : World) (A : Option Addr) (n : Nat) (l : List Nat) : Prop := l.length = n ∧ Reads w w.heap.size 1 A n (Us l) ∧ Ok64 l
theorem RowU.on {w w' : World} {A : Option Addr} {n : Nat} {l : List Nat} (h : RowU w A n l) (hb : Below w.heap.size w w') : RowU w' A n l :=
  ⟨h.1, (h.2.1.below hb).more hb.size, h.2.2⟩
theorem RowU.drewN {w : World} {A : Option Addr} {n : Nat} {l : List Nat} (h : RowU w A n l) (q : Nat) : RowU (w.drewN q) A n l := h
theorem RowU.cell {w : World} {A : Option Addr} {n : Nat} {l : List Nat} (h : RowU w A n l) {i : Nat} (hi : i < n) :
    ∃ ad : Addr, A = some ad ∧ ad.block < w.heap.size ∧ w.cell? (ad.add i) = some (.int .u64 ((l.getD i 0 : Nat) : Int)) := by
  obtain ⟨ad, u, ha, hb, hu, hc⟩ := h.2.1.at_ hi
  refine ⟨ad, ha, hb, ?_⟩
  rw [hc, ← hu]
  have hl := h.1
  simp [Us, List.getD, List.getElem?_eq_getElem (show i < l.length by omega)]
theorem RowU.none_ (w : World) : RowU w none 0 [] := ⟨rfl, (Reads.none_ : Reads w w.heap.size 1 none 0 []), fun x hx => by simp at hx⟩
theorem RowU.size {w : World} {A : Option Addr} {n : Nat} {l : List Nat} (h : RowU w A n l) : l.length = n := h.1

set_option maxHeartbeats 1000000 in
theorem rises_any (A : Option Addr) (n c : Nat) (l : List Nat) (b : Bool) (hb : b = true ↔ Rise l) (hn : n ≤ 4096) (w : World) (hr : RowU w A n l) :
    Calls Try.prog 43 #[.slice A n c] w fun e w' => e = .returned (.bool b) ∧ Below w.heap.size w w' := by
  have HB := Lib.hid hb
  have HR := Lib.hid hr
  clear hb hr
  go_enter Try.func43, Try.ntmps43
  go_wp2_with fail
  go_loopw [7] (fun v wr => ∃ i : Nat, (i : Int) ≤ n ∧ v = .int .i64 i ∧ (∀ j, j < i → l.getD j 0 < l.getD (j + 1) 0) ∧ ∃ q, wr = w.drewN q) (fun v _ => n - (intOf v).toNat)
  case atStart => exact ⟨0, by omega, rfl, fun j hj => by omega, 0, rfl⟩
  case round =>
    obtain ⟨i, hi, rfl, hj, q, rfl⟩ := hrel
    by_cases hlt : (i : Int) < (n : Int) - 1
    · obtain ⟨p, hp⟩ : ∃ p : Nat, p = i + 1 := ⟨_, rfl⟩
      have hi1 : p < n := by omega
      have hi0 : i < n := by omega
      obtain ⟨ad, had, hb0, c0⟩ := (HR.out.drewN q).cell hi0
      obtain ⟨ad2, had2, hb1, c1⟩ := (HR.out.drewN q).cell hi1
      have e3 : ad2 = ad := by rw [had] at had2; injection had2 with h; exact h.symm
      subst e3
      subst had
      have HJ := Lib.hid hj
      obtain ⟨x, hx⟩ : ∃ x, x = l.getD i 0 := ⟨_, rfl⟩
      obtain ⟨y, hy⟩ : ∃ y, y = l.getD p 0 := ⟨_, rfl⟩
      rw [← hx] at c0
      rw [← hy] at c1
      have HX := Lib.hid hx
      have HY := Lib.hid hy
      obtain ⟨W, hW⟩ : ∃ W, W = w.drewN q := ⟨_, rfl⟩
      rw [← hW] at c0 c1 ⊢
      have HW := Lib.hid hW
      have es : IntKind.i64.wrap ((i : Int) + 1) = (p : Int) := by rw [IntWalk.i64_in _ ⟨by omega, by omega⟩]; omega
      have HP := Lib.hid hp
      clear hj hx hy hW hb0 hb1 hp
      by_cases hxy : x < y
      · have hxy2 : (x : Int) < y := by omega
        go_wp2_with fail
        go_quiet (fail)
        go_wp2_with fail
        go_roundw
        case rel => exact ⟨p, by omega, rfl, fun j hj => by
          have := HP.out
          by_cases h : j < i
          · exact HJ.out j h
          · obtain rfl : j = i := by omega
            rw [← HP.out, ← HX.out, ← HY.out]; exact hxy, q + _, by rw [HW.out, World.drewN_drewN]⟩
        case measure => have := HP.out; simp [intOf]; omega
      · have hxy2 : (y : Int) ≤ x := by omega
        have hbf : b = false := by
          cases b with
          | false => rfl
          | true =>
            have h := HB.out.1 rfl i (by rw [HR.out.1, ← HP.out]; exact hi1)
            rw [← HP.out, ← HX.out, ← HY.out] at h
            exact absurd h hxy
        subst hbf
        go_wp2_with fail
        go_quiet (fail)
        go_wp2_with fail
        go_ret
        exact ⟨rfl, by rw [HW.out, World.drewN_drewN]; exact below_drewN (Below.refl _ _) _⟩
    · have hbt : b = true := by
        refine HB.out.2 fun j hj2 => hj j ?_
        have := HR.out.1
        omega
      have HJ := Lib.hid hj
      clear hj
      go_wp2_with fail
      go_ret
      exact ⟨rfl, below_drewN (Below.refl _ _) _⟩

set_option maxHeartbeats 1000000 in
theorem same_any (A : Option Addr) (n c : Nat) (l : List Nat) (A2 : Option Addr) (n2 c2 : Nat) (l2 : List Nat) (b : Bool) (hb : b = true ↔ l = l2) (hn : n ≤ 1000000) (w : World) (hr : RowU w A n l) (hr2 : RowU w A2 n2 l2) :
    Calls Try.prog 45 #[.slice A n c, .slice A2 n2 c2] w fun e w' => e = .returned (.bool b) ∧ Below w.heap.size w w' := by
  have HB := Lib.hid hb
  have HR := Lib.hid hr
  have HR2 := Lib.hid hr2
  clear hb hr hr2
  by_cases hne : n = n2
  case neg =>
    have hbf : b = false := by
      cases b with
      | false => rfl
      | true =>
        have h := HB.out.1 rfl
        have h1 := HR.out.1
        have h2 := HR2.out.1
        rw [h] at h1
        omega
    have hne2 : ¬ ((n : Int) = n2) := by omega
    subst hbf
    go_enter Try.func45, Try.ntmps45
    go_wp2_with fail
    go_ret
    exact ⟨rfl, Below.refl _ _⟩
  subst hne
  go_enter Try.func45, Try.ntmps45
  go_wp2_with fail
  go_loopw [5] (fun v wr => ∃ i : Nat, i ≤ n ∧ v = .int .i64 i ∧ (∀ j, j < i → l.getD j 0 = l2.getD j 0) ∧ ∃ q, wr = w.drewN q) (fun v _ => n - (intOf v).toNat)
  case atStart => exact ⟨0, by omega, rfl, fun j hj => by omega, 0, rfl⟩
  case round =>
    obtain ⟨i, hi, rfl, hj, q, rfl⟩ := hrel
    by_cases hlt : i < n
    · obtain ⟨ad, rfl, hb0, c0⟩ := (HR.out.drewN q).cell hlt
      obtain ⟨ad2, rfl, hb1, c1⟩ := (HR2.out.drewN q).cell hlt
      have HJ := Lib.hid hj
      obtain ⟨x, hx⟩ : ∃ x, x = l.getD i 0 := ⟨_, rfl⟩
      obtain ⟨y, hy⟩ : ∃ y, y = l2.getD i 0 := ⟨_, rfl⟩
      rw [← hx] at c0
      rw [← hy] at c1
      have HX := Lib.hid hx
      have HY := Lib.hid hy
      obtain ⟨W, hW⟩ : ∃ W, W = w.drewN q := ⟨_, rfl⟩
      rw [← hW] at c0 c1 ⊢
      have HW := Lib.hid hW
      clear hj hx hy hW hb0 hb1
      by_cases hxy : x = y
      · have HE := Lib.hid hxy
        have hb1 : ((x : Int) == (y : Int)) = true := by simp [hxy]
        have hb2 : ((x : Int) != (y : Int)) = false := by simp [hxy]
        clear hxy
        go_wp2_with fail
        go_quiet (fail)
        go_wp2_with fail
        go_roundw
        case rel => exact ⟨i + 1, by omega, by go_num, fun j hj => by
          by_cases h : j < i
          · exact HJ.out j h
          · obtain rfl : j = i := by omega
            rw [← HX.out, ← HY.out]; exact HE.out, q + _, by rw [HW.out, World.drewN_drewN]⟩
        case measure => simp [intOf]; omega
      · have hbf : b = false := by
          cases b with
          | false => rfl
          | true =>
            have h := HB.out.1 rfl
            exact absurd (by rw [HX.out, HY.out, h]) hxy
        have hxy2 : ¬ ((x : Int) = y) := by omega
        subst hbf
        go_wp2_with fail
        go_quiet (fail)
        go_wp2_with fail
        go_ret
        exact ⟨rfl, by rw [HW.out, World.drewN_drewN]; exact below_drewN (Below.refl _ _) _⟩
    · obtain rfl : i = n := by omega
      have hbt : b = true := by
        refine HB.out.2 (List.ext_getElem (by rw [HR.out.1, HR2.out.1]) fun j h1 h2 => ?_)
        have h := hj j (by have := HR.out.1; omega)
        simpa [List.getD, List.getElem?_eq_getElem h1, List.getElem?_eq_getElem h2] using h
      have HJ := Lib.hid hj
      clear hj
      subst hbt
      go_wp2_with fail
      go_ret
      exact ⟨rfl, below_drewN (Below.refl _ _) _⟩
end Go.Proofs.Ytfghllgkbdfedaa.Dl
