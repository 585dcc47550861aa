/- Contracts of the calls of law 42: readings of what is near, and of what is not; no condition. -/
import Derived.Test.YtbbikkmmdedaiaaMendRef
set_option maxRecDepth 100000
namespace Go.Proofs.Ytbbikkmmdedaiaa.Pr
open Go.RowKit Go.Proofs.Ytbbikkmmdedaiaa.Gf Go.Proofs.Ytbbikkmmdedaiaa.Vec

def GvR (f : List F) (D : Nat) (w : World) (e : Ending) (w' : World) : Prop := ∃ A n c, e = .returned (.tuple #[.slice A n c, .int .i64 (D : Nat), .int .i64 0]) ∧ RowAt w' A n c f ∧ Below w.heap.size w w'
section
variable {A : Option Addr} {n c : Nat} {wo f : List F} {k D : Nat} {w : World}
theorem read_yes (h1 : RowAt w A n c wo) (hk : 1 ≤ k) (hkn : k ≤ n) (hn : n ≤ 255) (hf : Near wo k f) (hD : D = off f wo) : Calls Try.prog 64 #[.slice A n c, .int .i64 (k : Nat)] w (GvR f D w) := by
  refine (read_row A n c wo k w h1 hk hkn hn).mono ?_
  rintro e w' ⟨⟨f', A', n', c', hf', he, hr⟩ | ⟨hno, _⟩, hb⟩
  · have := Near.uniq (by rw [h1.1]; exact hn) (by rw [h1.1]; exact hkn) hf' hf
    subst this
    exact ⟨A', n', c', by rw [hD]; exact he, hr, hb⟩
  · exact absurd hf (hno f)
theorem read_no (h1 : RowAt w A n c wo) (hk : 1 ≤ k) (hkn : k ≤ n) (hn : n ≤ 255) (hno : GuessNo wo k) : Calls Try.prog 64 #[.slice A n c, .int .i64 (k : Nat)] w fun e w' => e = .returned (.tuple #[.slice none 0 0, .int .i64 0, .int .i64 7]) ∧ Below w.heap.size w w' := by
  refine (read_row A n c wo k w h1 hk hkn hn).mono ?_
  rintro e w' ⟨⟨f', A', n', c', hf', he, hr⟩ | ⟨_, he⟩, hb⟩
  · exact absurd hf' (hno f')
  · exact ⟨he, hb⟩
theorem ref_read_yes (h1 : RowAt w A n c wo) (hk : 1 ≤ k) (hkn : k ≤ n) (hn : n ≤ 8) (hf : Near wo k f) (hD : D = off f wo) : Calls Try.prog 65 #[.slice A n c, .int .i64 (k : Nat)] w (GvR f D w) := by
  refine (ref_read_row A n c wo k w h1 hk hkn hn).mono ?_
  rintro e w' ⟨⟨f', A', n', c', hf', he, hr⟩ | ⟨hno, _⟩, hb⟩
  · have := Near.uniq (by rw [h1.1]; omega) (by rw [h1.1]; exact hkn) hf' hf
    subst this
    exact ⟨A', n', c', by rw [hD]; exact he, hr, hb⟩
  · exact absurd hf (hno f)
theorem ref_read_no (h1 : RowAt w A n c wo) (hk : 1 ≤ k) (hkn : k ≤ n) (hn : n ≤ 8) (hno : GuessNo wo k) : Calls Try.prog 65 #[.slice A n c, .int .i64 (k : Nat)] w fun e w' => e = .returned (.tuple #[.slice none 0 0, .int .i64 0, .int .i64 7]) ∧ Below w.heap.size w w' := by
  refine (ref_read_row A n c wo k w h1 hk hkn hn).mono ?_
  rintro e w' ⟨⟨f', A', n', c', hf', he, hr⟩ | ⟨_, he⟩, hb⟩
  · exact absurd hf' (hno f')
  · exact ⟨he, hb⟩
end
theorem off_self (f : List F) (m : Nat) : off f (wd f m) = 0 := by
  rw [off_zero, wd_len]
theorem near_exact {f wo : List F} {k : Nat} (hf : f.length = k) (h0 : off f wo = 0) : Near wo k f := ⟨hf, by rw [h0]; omega⟩

/-! The words of the example -/
theorem near_712 : GuessNo (lf [7, 1, 2]) 1 := by
  rintro f ⟨hf, ho⟩
  match f, hf with
  | [a], _ =>
    have key : ∀ i : Fin 256, 1 < off [(⟨i.val, i.isLt⟩ : F)] (lf [7, 1, 2]) := by decide +kernel
    have h1 : 1 < off [a] (lf [7, 1, 2]) := key ⟨a.1, a.2⟩
    have h2 : off [a] (lf [7, 1, 2]) ≤ 1 := ho
    exact absurd h1 (Nat.not_lt.2 h2)
theorem near_717 : Near (lf [7, 1, 7]) 1 (lf [7]) := ⟨rfl, by decide +kernel⟩
theorem off_717 : 1 = off (lf [7]) (lf [7, 1, 7]) := by decide +kernel
theorem good_777 : true = true ↔ ∃ f, f.length = 1 ∧ off f (wd (lf [7]) 3) = 0 := ⟨fun _ => ⟨lf [7], rfl, off_self _ _⟩, fun _ => rfl⟩
theorem good_717 : false = true ↔ ∃ f, f.length = 1 ∧ off f (lf [7, 1, 7]) = 0 := by
  refine ⟨fun h => absurd h (by decide), ?_⟩
  rintro ⟨f, hf, h0⟩
  have h1 := Near.uniq (by decide) (by decide) (near_exact hf h0) near_717
  rw [h1, ← off_717] at h0
  cases h0
end Go.Proofs.Ytbbikkmmdedaiaa.Pr
