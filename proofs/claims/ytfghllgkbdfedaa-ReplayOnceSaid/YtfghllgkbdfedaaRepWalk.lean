/- What replay.New, Fresh, Take, Top and the inner mark and on do with a window in memory; conditions: the window lies in a block of its own, the numbers are of their kinds. -/
import Derived.Test.YtfghllgkbdfedaaProg
import Derived.Test.YtfghllgkbdfedaaWords
import Derived.Test.YtfghllgkbdfedaaRepPlain
import Derived.WalkKit
import Derived.WalkSpells
import Derived.WalkLawsBesides
import Derived.Outline
import Derived.Deep.Light
import Derived.Laws.BitsAllLaws
import Derived.BigQuiet
import Derived.Deep.RegionHeld3
import Derived.Deep.MidRow
namespace Go.Proofs.Ytfghllgkbdfedaa.Rep
open Go.RowKit
set_option maxRecDepth 100000

def winCells (size : Nat) (m : Nat → Bool) (top : Nat) (sm : Bool) : Array Value :=
  Array.ofFn (n := 259) fun j => if j.val = 0 then .int .i64 size else if j.val ≤ 256 then .bool (m (j.val - 1)) else if j.val = 257 then .int .u64 top else .bool sm
theorem win_size (size : Nat) (m : Nat → Bool) (top : Nat) (sm : Bool) : (winCells size m top sm)[0]? = some (.int .i64 size) := by simp [winCells]
theorem win_mark (size : Nat) (m : Nat → Bool) (top : Nat) (sm : Bool) (r : Nat) (h : r < 256) : (winCells size m top sm)[1 + r]? = some (.bool (m r)) := by
  simp only [winCells, Array.getElem?_ofFn]
  rw [dif_pos (by omega), if_neg (by omega), if_pos (by omega)]
  rw [show 1 + r - 1 = r by omega]
theorem win_top (size : Nat) (m : Nat → Bool) (top : Nat) (sm : Bool) : (winCells size m top sm)[257]? = some (.int .u64 top) := by simp [winCells]
theorem win_some (size : Nat) (m : Nat → Bool) (top : Nat) (sm : Bool) : (winCells size m top sm)[258]? = some (.bool sm) := by simp [winCells]
theorem win_set_mark (size : Nat) (m : Nat → Bool) (top : Nat) (sm : Bool) (r : Nat) (h : r < 256) (v : Bool) : (winCells size m top sm).setIfInBounds (1 + r) (.bool v) = winCells size (upd m r v) top sm := by
  apply Array.ext
  · simp [winCells]
  · intro j h1 h2
    simp [winCells] at h1
    have hj : j < (winCells size m top sm).size := by simp only [winCells, Array.size_ofFn]; exact h1
    rw [Array.getElem_setIfInBounds hj]
    simp only [winCells, Array.getElem_ofFn, upd]
    by_cases e : 1 + r = j
    · subst e
      rw [if_pos rfl, if_neg (by omega), if_pos (by omega), if_pos (by omega)]
    · rw [if_neg e]
      by_cases h0 : j = 0
      · simp [h0]
      · by_cases h6 : j ≤ 256
        · rw [if_neg h0, if_neg h0, if_pos h6, if_pos h6, if_neg (by omega)]
        · rw [if_neg h0, if_neg h0, if_neg h6, if_neg h6]
theorem win_set_top (size : Nat) (m : Nat → Bool) (top : Nat) (sm : Bool) (x : Nat) : (winCells size m top sm).setIfInBounds 257 (.int .u64 x) = winCells size m x sm := by
  apply Array.ext
  · simp [winCells]
  · intro j h1 h2
    simp [winCells] at h1
    have hj : j < (winCells size m top sm).size := by simp only [winCells, Array.size_ofFn]; exact h1
    rw [Array.getElem_setIfInBounds hj]
    simp only [winCells, Array.getElem_ofFn]
    by_cases e : 257 = j
    · subst e; simp
    · rw [if_neg e]
      by_cases h0 : j = 0
      · simp [h0]
      · by_cases h6 : j ≤ 256
        · simp [h0, h6]
        · have : j ≠ 257 := fun h => e h.symm
          simp [h0, h6, this]
theorem win_set_some (size : Nat) (m : Nat → Bool) (top : Nat) (sm : Bool) (x : Bool) : (winCells size m top sm).setIfInBounds 258 (.bool x) = winCells size m top x := by
  apply Array.ext
  · simp [winCells]
  · intro j h1 h2
    simp [winCells] at h1
    have hj : j < (winCells size m top sm).size := by simp only [winCells, Array.size_ofFn]; exact h1
    rw [Array.getElem_setIfInBounds hj]
    simp only [winCells, Array.getElem_ofFn]
    by_cases e : 258 = j
    · subst e; simp
    · rw [if_neg e]
      by_cases h0 : j = 0
      · simp [h0]
      · by_cases h6 : j ≤ 256
        · simp [h0, h6]
        · have : j = 257 := by omega
          simp [this]

/-- A window lies in block g. -/
def Win (w : World) (g size : Nat) (m : Nat → Bool) (top : Nat) (sm : Bool) : Prop := Blk w g 83 (winCells size m top sm)
section
variable {w : World} {g size : Nat} {m : Nat → Bool} {top : Nat} {sm : Bool}
theorem Win.c0 (h : Win w g size m top sm) : w.cell? ⟨g, 0, none⟩ = some (.int .i64 size) := (Blk.cell h 0).trans (win_size ..)
theorem Win.cm (h : Win w g size m top sm) (r : Nat) (hr : r < 256) : w.cell? ⟨g, 1 + r, none⟩ = some (.bool (m r)) := (Blk.cell h _).trans (win_mark _ _ _ _ r hr)
theorem Win.ct (h : Win w g size m top sm) : w.cell? ⟨g, 257, none⟩ = some (.int .u64 top) := (Blk.cell h _).trans (win_top ..)
theorem Win.cs (h : Win w g size m top sm) : w.cell? ⟨g, 258, none⟩ = some (.bool sm) := (Blk.cell h _).trans (win_some ..)
theorem Win.setm (h : Win w g size m top sm) (r : Nat) (hr : r < 256) (v : Bool) : Win (w.setCell ⟨g, 1 + r, none⟩ (.bool v)) g size (upd m r v) top sm := by
  have := Blk.set_ h (1 + r) (.bool v)
  rw [win_set_mark _ _ _ _ r hr] at this
  exact this
theorem Win.sett (h : Win w g size m top sm) (x : Nat) : Win (w.setCell ⟨g, 257, none⟩ (.int .u64 x)) g size m x sm := by
  have := Blk.set_ h 257 (.int .u64 x)
  rw [win_set_top] at this
  exact this
theorem Win.sets (h : Win w g size m top sm) (x : Bool) : Win (w.setCell ⟨g, 258, none⟩ (.bool x)) g size m top x := by
  have := Blk.set_ h 258 (.bool x)
  rw [win_set_some] at this
  exact this
theorem Win.drew (h : Win w g size m top sm) : Win w.drew g size m top sm := h
theorem Win.drewN (h : Win w g size m top sm) (n : Nat) : Win (w.drewN n) g size m top sm := h
end
theorem grown_trans2 {a b c : World} {r : Option Nat} (h : a.grownBy b r) (k : b.grownBy c r) : a.grownBy c r :=
  ⟨k.os.trans h.os, k.tape.trans h.tape, k.output.trans h.output, Nat.le_trans h.size k.size, fun i hi hne => (k.block i (Nat.lt_of_lt_of_le hi h.size) hne).trans (h.block i hi hne)⟩

theorem mark_any (g : Nat) (x : Nat) (w : World) (hx : x < 18446744073709551616) :
    Calls Try.prog 49 #[.pointer (some ⟨g, 0, none⟩), .int .u64 x] w fun en w' => en = .returned (.pointer (some ⟨g, 1 + x % 256, none⟩)) ∧ w = w' := by
  go_enter Try.func49, Try.ntmps49
  go_wp2
  go_ret
  exact ⟨rfl, rfl⟩

theorem top_any (g size : Nat) (m : Nat → Bool) (top : Nat) (sm : Bool) (w : World) (h : Win w g size m top sm) :
    Calls Try.prog 32 #[.pointer (some ⟨g, 0, none⟩)] w fun en w' => en = .returned (.int .u64 top) ∧ w = w' := by
  have ct := h.ct
  go_enter Try.func32, Try.ntmps32
  go_wp2
  go_ret
  exact ⟨rfl, rfl⟩

theorem fresh_any (g size : Nat) (m : Nat → Bool) (top : Nat) (sm : Bool) (x : Nat) (w : World) (h : Win w g size m top sm) (h1 : 1 ≤ size) (h2 : size ≤ 256) (ht : top < 18446744073709551616) (hx : x < 18446744073709551616) :
    Calls Try.prog 30 #[.pointer (some ⟨g, 0, none⟩), .int .u64 x] w fun en w' => en = .returned (.bool (freshP size m top sm x)) ∧ ∃ n, w' = w.drewN n := by
  have c0 := h.c0
  have ct := h.ct
  have cs := h.cs
  have cm := h.cm (x % 256) (by omega)
  cases sm with
  | false =>
    go_enter Try.func30, Try.ntmps30
    go_wp2
    go_ret
    exact ⟨rfl, 0, rfl⟩
  | true =>
    by_cases hlt : top < x
    · have HF := Lib.hid (show freshP size m top true x = true by simp [freshP, hlt])
      go_enter Try.func30, Try.ntmps30
      go_wp2
      go_ret
      exact ⟨by rw [HF.out]; rfl, 0, rfl⟩
    · have e1 : IntKind.u64.wrap ((top : Int) - (x : Int)) = ((top - x : Nat) : Int) := by rw [IntKind.wrap_u64]; omega
      have e2 : IntKind.u64.wrap (size : Int) = (size : Int) := by rw [IntKind.wrap_u64]; omega
      obtain ⟨d, hd⟩ : ∃ d, d = top - x := ⟨_, rfl⟩
      rw [← hd] at e1
      by_cases hz : size ≤ d
      · have HF := Lib.hid (show freshP size m top true x = false by simp [freshP, hlt, ← hd, hz])
        clear hd
        go_enter Try.func30, Try.ntmps30
        go_wp2
        go_quiet (fail)
        go_wp2
        go_ret
        exact ⟨by rw [HF.out]; rfl, _, rfl⟩
      · have HF := Lib.hid (show freshP size m top true x = !m (x % 256) by simp [freshP, hlt, ← hd, hz])
        clear hd
        go_enter Try.func30, Try.ntmps30
        go_wp2
        go_quiet (fail)
        go_wp2_with (go_at_call 49; refine (mark_any _ _ _ hx).mono ?_; rintro e w' ⟨rfl, rfl⟩)
        go_ret
        exact ⟨by rw [HF.out]; rfl, _, rfl⟩

/-- everything but block g as it was -/
theorem on_near (g size : Nat) (m : Nat → Bool) (top x : Nat) (w : World) (h : Win w g size m top true) (ht : top < x) (hn : x - top < 256) (hx : x < 18446744073709551616) :
    Calls Try.prog 50 #[.pointer (some ⟨g, 0, none⟩), .int .u64 x] w fun en w' => en = .returned (.tuple #[]) ∧ Win w' g size (clr m (top + 1) (x - top - 1)) x true ∧ w.grownBy w' (some g) := by
  have ct := h.ct
  have cs := h.cs
  have hs := Blk.lt h
  have hd : decide ((x : Int) - (top : Int) < 256) = true := by simp; omega
  go_enter Try.func50, Try.ntmps50
  go_wp2_with fail
  go_loopw [4] (fun v wr => ∃ y : Nat, top + 1 ≤ y ∧ y ≤ x ∧ v = .int .u64 y ∧ Win wr g size (clr m (top + 1) (y - top - 1)) top true ∧ w.grownBy wr (some g)) (fun v _ => x - (intOf v).toNat)
  case atStart => exact ⟨top + 1, by omega, by omega, by go_num, by rw [show top + 1 - top - 1 = 0 by omega]; exact h, World.grownBy.refl _ _⟩
  case round =>
    obtain ⟨y, hy1, hy2, rfl, hw, hg⟩ := hrel
    by_cases hlt : y < x
    · obtain ⟨r, hr⟩ : ∃ r, r = y % 256 := ⟨_, rfl⟩
      have hne : ((y : Int) == (x : Int)) = false := by simp; omega
      have hcm := hw.cm r (by omega)
      have hfz := Blk.frozen hw (1 + r)
      have HS : Win (wr.setCell ⟨g, 1 + r, none⟩ (.bool false)) g size (clr m (top + 1) (y + 1 - top - 1)) top true := by
        have := hw.setm r (by omega) false
        rw [show y + 1 - top - 1 = y - top - 1 + 1 by omega, clr, show top + 1 + (y - top - 1) = y by omega, ← hr]
        exact this
      have HG : w.grownBy (wr.setCell ⟨g, 1 + r, none⟩ (.bool false)) (some g) := only_setCell hg (.inl rfl) _
      have HR := Lib.hid hr
      clear hr
      go_wp2_with fail
      refine (mark_any g y _ (by omega)).mono ?_
      rintro e w' ⟨rfl, rfl⟩
      rw [← HR.out]
      go_wp2_with fail
      go_roundw
      case rel => exact ⟨y + 1, by omega, by omega, by go_num, HS, HG⟩
      case measure => simp [intOf]; omega
    · have hyx : ((y : Int) == (x : Int)) = true := by simp; omega
      have cs := hw.cs
      have ct := hw.ct
      have ft := Blk.frozen hw 257
      have fs := Blk.frozen hw 258
      have HS : Win ((wr.setCell ⟨g, 257, none⟩ (.int .u64 x)).setCell ⟨g, 258, none⟩ (.bool true)) g size (clr m (top + 1) (x - top - 1)) x true := by
        rw [show x - top - 1 = y - top - 1 by omega]
        exact (hw.sett x).sets true
      have HG : w.grownBy ((wr.setCell ⟨g, 257, none⟩ (.int .u64 x)).setCell ⟨g, 258, none⟩ (.bool true)) (some g) := only_setCell (only_setCell hg (.inl rfl) _) (.inl rfl) _
      go_wp2_with fail
      go_end0
      exact ⟨rfl, HS, HG⟩

theorem info49 : (Try.prog.info? 49).map (·.size) = some 256 := by kernel_rfl
def none256 : Array Value := Array.replicate 256 (.bool false)
theorem zero49 (W : World) : (zeroValue 49).run Try.prog W = .ok (.agg none256) W := by kernel_rfl
theorem win_congr (size : Nat) (m m' : Nat → Bool) (top : Nat) (sm : Bool) (h : ∀ j, j < 256 → m j = m' j) : winCells size m top sm = winCells size m' top sm := by
  unfold winCells
  congr 1
  funext j
  by_cases h0 : j.val = 0
  · simp [h0]
  · by_cases h6 : j.val ≤ 256
    · rw [if_neg h0, if_neg h0, if_pos h6, if_pos h6, h _ (by omega)]
    · rw [if_neg h0, if_neg h0, if_neg h6, if_neg h6]
theorem win_clear (g size top : Nat) (sm : Bool) : ∀ (n k : Nat) (w : World) (m : Nat → Bool), k + n = 256 → Win w g size m top sm →
    Win (w.setCells g (1 + k) (List.replicate n (.bool false))) g size (fun j => if k ≤ j then false else m j) top sm ∧ w.grownBy (w.setCells g (1 + k) (List.replicate n (.bool false))) (some g) := by
  intro n
  induction n with
  | zero =>
    intro k w m hk h
    refine ⟨?_, World.grownBy.refl _ _⟩
    unfold Win at h ⊢
    rw [win_congr size (fun j => if k ≤ j then false else m j) m top sm (fun j hj => by rw [if_neg (by omega)])]
    exact h
  | succ n ih =>
    intro k w m hk h
    rw [List.replicate_succ, World.setCells]
    obtain ⟨h1, h2⟩ := ih (k + 1) (w.setCell ⟨g, 1 + k, none⟩ (.bool false)) (upd m k false) (by omega) (h.setm k (by omega) false)
    rw [show 1 + (k + 1) = 1 + k + 1 by omega] at h1 h2
    refine ⟨?_, grown_trans2 (only_setCell (World.grownBy.refl _ _) (.inl rfl) _) h2⟩
    unfold Win at h1 ⊢
    rw [win_congr size (fun j => if k ≤ j then false else m j) (fun j => if k + 1 ≤ j then false else upd m k false j) top sm (fun j hj => by
      unfold upd
      by_cases e : j = k
      · subst e; simp
      · by_cases e2 : k ≤ j
        · rw [if_pos e2, if_pos (by omega)]
        · rw [if_neg e2, if_neg (by omega), if_neg e])]
    exact h1
theorem win_there {w : World} {g size : Nat} {m : Nat → Bool} {top : Nat} {sm : Bool} (h : Win w g size m top sm) : w.there g 1 none256.size := by
  intro j hj
  have hj : j < 256 := by simpa [none256] using hj
  exact ⟨by rw [h.cm j hj]; rfl, Blk.frozen h _⟩
theorem none256_one : none256.all (·.oneCell') = true := by decide +kernel
theorem none256_list : none256.toList = List.replicate 256 (.bool false) := by simp [none256]
/-- the marks go, and a new greatest number is set -/
theorem win_far {w : World} {g size : Nat} {m : Nat → Bool} {top : Nat} {sm : Bool} (h : Win w g size m top sm) (x : Nat) :
    Win (((w.setCells g 1 none256.toList).setCell ⟨g, 257, none⟩ (.int .u64 x)).setCell ⟨g, 258, none⟩ (.bool true)) g size none_ x true ∧
    w.grownBy (((w.setCells g 1 none256.toList).setCell ⟨g, 257, none⟩ (.int .u64 x)).setCell ⟨g, 258, none⟩ (.bool true)) (some g) ∧ Win (w.setCells g 1 none256.toList) g size none_ top sm := by
  rw [none256_list]
  obtain ⟨h1, h2⟩ := win_clear g size top sm 256 0 w m rfl h
  have h3 : Win (w.setCells g 1 (List.replicate 256 (.bool false))) g size none_ top sm := by
    unfold Win at h1 ⊢
    rw [win_congr size none_ (fun j => if 0 ≤ j then false else m j) top sm (fun j _ => by simp [none_])]
    exact h1
  exact ⟨(h3.sett x).sets true, only_setCell (only_setCell h2 (.inl rfl) _) (.inl rfl) _, h3⟩

theorem on_far (g size : Nat) (m : Nat → Bool) (top x : Nat) (sm : Bool) (w : World) (h : Win w g size m top sm) (hn : sm = true → top < x ∧ 256 ≤ x - top) (hx : x < 18446744073709551616) (ht : top < 18446744073709551616) :
    Calls Try.prog 50 #[.pointer (some ⟨g, 0, none⟩), .int .u64 x] w fun en w' => en = .returned (.tuple #[]) ∧ Win w' g size none_ x true ∧ w.grownBy w' (some g) := by
  have ct := h.ct
  have cs := h.cs
  obtain ⟨hf1, hf2, hf3⟩ := win_far h x
  have HF := Lib.hid hf1
  have HG := Lib.hid hf2
  clear hf1 hf2
  have cs3 := hf3.cs
  have ct3 := hf3.ct
  have ft3 := Blk.frozen hf3 257
  have fs3 := Blk.frozen hf3 258
  have hth := win_there h
  have HT := Lib.hid hth
  clear hth
  have hz := zero49
  clear hf3
  cases sm with
  | false =>
    go_enter Try.func50, Try.ntmps50
    go_wp2_with ((with_reducible show wpList _ _ _ (⟨none, Op.store 49 (.tmp 35) (.tmp 33), _, _, _, _⟩ :: _) _ _); refine wpList_store_mid rfl 49 (.tmp 35) (.tmp 33) rfl g 1 none256 rfl rfl HT.out info49 none256_one ?_)
    go_end0
    exact ⟨rfl, HF.out, HG.out⟩
  | true =>
    obtain ⟨h1, h2⟩ := hn rfl
    have hd : decide ((x : Int) - (top : Int) < 256) = false := by simp; omega
    clear hn
    go_enter Try.func50, Try.ntmps50
    go_wp2_with ((with_reducible show wpList _ _ _ (⟨none, Op.store 49 (.tmp 35) (.tmp 33), _, _, _, _⟩ :: _) _ _); refine wpList_store_mid rfl 49 (.tmp 35) (.tmp 33) rfl g 1 none256 rfl rfl HT.out info49 none256_one ?_)
    go_end0
    exact ⟨rfl, HF.out, HG.out⟩
end Go.Proofs.Ytfghllgkbdfedaa.Rep
