/- Two pairs in memory, one moved into the other's place; no condition. -/
import Derived.Test.YtbbikkmmdedaiaaMendWalk2
set_option maxRecDepth 100000
namespace Go.Proofs.Ytbbikkmmdedaiaa.Pr
open Go.RowKit Go.Proofs.Ytbbikkmmdedaiaa.Gf Go.Proofs.Ytbbikkmmdedaiaa.Vec

/-- a pair in a block of its own -/
def PairAt (w : World) (b : Nat) (r y : List F) : Prop := ∃ (A : Option Addr) (n c : Nat) (A' : Option Addr) (n' c' : Nat), Blk w b 90 #[.slice A n c, .slice A' n' c'] ∧ RowAt w A n c r ∧ RowAt w A' n' c' y
theorem RowAt.setOther {w : World} {A : Option Addr} {n c : Nat} {l : List F} (h : RowAt w A n c l) {p : Addr} {A' : Option Addr} {n' c' : Nat} (hp : w.cell? p = some (.slice A' n' c')) (u : Value) : RowAt (w.setCell p u) A n c l := by
  obtain ⟨h1, h2, h3, h4⟩ := h
  refine ⟨h1, h2, h3, fun hn => ?_⟩
  obtain ⟨ad, e, hb, hc⟩ := h4 hn
  refine ⟨ad, e, by simpa [World.setCell] using hb, fun j v hj => ?_⟩
  rw [World.cell?_setCell_other _ _ _ _ (fun e2 => ?_)]
  · exact hc j v hj
  · have h5 := hc j v hj
    rw [← e2, hp] at h5
    injection h5 with h5
    obtain ⟨h6, _⟩ := U8s_at hj
    rw [← h5] at h6
    cases h6
theorem blk_c0 {w : World} {b : Nat} {x y : Value} (h : Blk w b 90 #[x, y]) : w.cell? ⟨b, 0, none⟩ = some x := by rw [h.cell 0]; rfl
theorem blk_c1 {w : World} {b : Nat} {x y : Value} (h : Blk w b 90 #[x, y]) : w.cell? ⟨b, 1, none⟩ = some y := by rw [h.cell 1]; rfl
theorem blk_s0 {w : World} {b : Nat} {x y : Value} (h : Blk w b 90 #[x, y]) (u : Value) : Blk (w.setCell ⟨b, 0, none⟩ u) b 90 #[u, y] := h.set_ 0 u
theorem blk_s1 {w : World} {b : Nat} {x y : Value} (h : Blk w b 90 #[x, y]) (u : Value) : Blk (w.setCell ⟨b, 1, none⟩ u) b 90 #[x, u] := h.set_ 1 u

theorem pair_swap {w : World} {ba bb : Nat} {x0 x1 : Value} {Aa : Option Addr} {na ca : Nat} {Ay : Option Addr} {ny cy : Nat} {Ab : Option Addr} {nb cb : Nat} {Az : Option Addr} {nz cz : Nat} {Ar : Option Addr} {nr cr : Nat} {A7 : Option Addr} {n7 c7 : Nat} {br bz r s : List F}
    (hx0 : x0 = .slice Aa na ca) (hx1 : x1 = .slice Ay ny cy)
    (kA : Blk w ba 90 #[x0, x1]) (kB : Blk w bb 90 #[.slice Ab nb cb, .slice Az nz cz]) (hne : ba < bb)
    (r1 : RowAt w Ab nb cb br) (r2 : RowAt w Az nz cz bz) (r3 : RowAt w Ar nr cr r) (r4 : RowAt w A7 n7 c7 s) :
    PairAt ((((w.setCell ⟨ba, 0, none⟩ (.slice Ab nb cb)).setCell ⟨ba, 1, none⟩ (.slice Az nz cz)).setCell ⟨bb, 0, none⟩ (.slice Ar nr cr)).setCell ⟨bb, 1, none⟩ (.slice A7 n7 c7)) ba br bz ∧
    PairAt ((((w.setCell ⟨ba, 0, none⟩ (.slice Ab nb cb)).setCell ⟨ba, 1, none⟩ (.slice Az nz cz)).setCell ⟨bb, 0, none⟩ (.slice Ar nr cr)).setCell ⟨bb, 1, none⟩ (.slice A7 n7 c7)) bb r s := by
  subst hx0 hx1
  have a1 := blk_s0 kA (.slice Ab nb cb)
  have b1 := kB.far (p := ⟨ba, 0, none⟩) (by show bb ≠ ba; omega) (.slice Ab nb cb)
  have a2 := blk_s1 a1 (.slice Az nz cz)
  have b2 := b1.far (p := ⟨ba, 1, none⟩) (by show bb ≠ ba; omega) (.slice Az nz cz)
  have a3 := a2.far (p := ⟨bb, 0, none⟩) (by show ba ≠ bb; omega) (.slice Ar nr cr)
  have b3 := blk_s0 b2 (.slice Ar nr cr)
  have a4 := a3.far (p := ⟨bb, 1, none⟩) (by show ba ≠ bb; omega) (.slice A7 n7 c7)
  have b4 := blk_s1 b3 (.slice A7 n7 c7)
  have all : ∀ {A : Option Addr} {n c : Nat} {l : List F}, RowAt w A n c l → RowAt ((((w.setCell ⟨ba, 0, none⟩ (.slice Ab nb cb)).setCell ⟨ba, 1, none⟩ (.slice Az nz cz)).setCell ⟨bb, 0, none⟩ (.slice Ar nr cr)).setCell ⟨bb, 1, none⟩ (.slice A7 n7 c7)) A n c l := fun h =>
    (((h.setOther (blk_c0 kA) _).setOther (blk_c1 a1) _).setOther (blk_c0 b2) _).setOther (blk_c1 b3) _
  exact ⟨⟨_, _, _, _, _, _, a4, all r1, all r2⟩, ⟨_, _, _, _, _, _, b4, all r3, all r4⟩⟩
end Go.Proofs.Ytbbikkmmdedaiaa.Pr
