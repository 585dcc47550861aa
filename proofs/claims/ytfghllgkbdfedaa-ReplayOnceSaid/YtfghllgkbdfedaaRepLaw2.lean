/- ReplayOnce, walked: it returns true; no condition but that the arguments are of their kinds. -/
import Derived.Test.YtfghllgkbdfedaaRepLaw1
import Derived.RegionTactic
import Derived.BigRegion
namespace Go.Proofs.Ytfghllgkbdfedaa.Rep
open Go.RowKit
set_option maxRecDepth 100000

def U8s (l : List Nat) : List Value := l.map fun n : Nat => .int .u8 (n : Int)
theorem U8s_at {l : List Nat} {k : Nat} {u : Value} (h : (U8s l)[k]? = some u) : u = .int .u8 ((l.getD k 0 : Nat) : Int) ∧ k < l.length := by
  simp only [U8s, List.getElem?_map, Option.map_eq_some_iff] at h
  obtain ⟨n, h1, rfl⟩ := h
  have := (List.getElem?_eq_some_iff.1 h1)
  exact ⟨by simp [List.getD, h1], this.1⟩
theorem u8_nat {a : Int} (h : (Lit.int .u8 a).wf = true) : 0 ≤ a ∧ a < 256 := by
  have hx : 0 ≤ a ∧ a ≤ 255 := by simpa [Lit.wf, IntKind.min, IntKind.max, IntKind.signed, IntKind.bits] using h
  omega
theorem row_bytes {w : World} {a : Option Addr} {len cap : Nat} {zs : List Int} (h : IsRow .u8 w a len cap zs) : ∃ l : List Nat, l.length = len ∧ Reads w w.heap.size 1 a len (U8s l) ∧ ∀ x ∈ l, x < 256 := by
  obtain ⟨h1, _, h3⟩ := h.reads
  have hw := h.wf
  refine ⟨(zs.take len).map Int.toNat, by simpa using h3, ?_, ?_⟩
  · have e : U8s ((zs.take len).map Int.toNat) = (zs.take len).map (Value.int .u8) := by
      unfold U8s
      rw [List.map_map]
      apply List.map_congr_left
      intro n hn
      have := u8_nat (hw n (List.mem_of_mem_take hn))
      simp; omega
    rw [e]; exact h1
  · intro x hx
    obtain ⟨n, hn, rfl⟩ := List.mem_map.1 hx
    have := u8_nat (hw n (List.mem_of_mem_take hn))
    omega

def tkCells (f : Nat → Bool) : Array Value := Array.ofFn (n := 256) fun j => .bool (f j.val)
theorem tk_at (f : Nat → Bool) (r : Nat) (h : r < 256) : (tkCells f)[r]? = some (.bool (f r)) := by
  simp only [tkCells, Array.getElem?_ofFn]
  rw [dif_pos h]
theorem tk_set (f : Nat → Bool) (r : Nat) (v : Bool) : (tkCells f).setIfInBounds r (.bool v) = tkCells (upd f r v) := by
  apply Array.ext
  · simp [tkCells]
  · intro j h1 h2
    simp [tkCells] at h1
    have hj : j < (tkCells f).size := by simp only [tkCells, Array.size_ofFn]; exact h1
    rw [Array.getElem_setIfInBounds hj]
    simp only [tkCells, Array.getElem_ofFn, upd]
    by_cases e : r = j
    · rw [if_pos e, if_pos e.symm]
    · rw [if_neg e, if_neg (fun h => e h.symm)]
def Tk (w : World) (g : Nat) (f : Nat → Bool) : Prop := Blk w g 49 (tkCells f)
theorem Tk.at_ {w : World} {g : Nat} {f : Nat → Bool} (h : Tk w g f) (r : Nat) (hr : r < 256) : w.cell? ⟨g, r, none⟩ = some (.bool (f r)) := (Blk.cell h r).trans (tk_at f r hr)
theorem Tk.set_ {w : World} {g : Nat} {f : Nat → Bool} (h : Tk w g f) (r : Nat) (v : Bool) : Tk (w.setCell ⟨g, r, none⟩ (.bool v)) g (upd f r v) := by
  have := Blk.set_ h r (.bool v)
  rw [tk_set] at this
  exact this
theorem zero49b (W : World) : (zeroValue 49).run Try.prog W = .ok (.agg (tkCells none_)) W := by kernel_rfl

/-- what stands between the window and the list of the law -/
structure Rel (base : Nat) (hv : List Nat) (s : St) (f : Nat → Bool) (last : Int) : Prop where
  inv : Inv hv s
  f_ : ∀ v, v < 256 → f v = hv.contains (base + v)
  no_ : s.sm = false → last = -1
  yes_ : s.sm = true → 0 ≤ last ∧ (s.top : Int) = base + last
  lt_ : last < 256
theorem Rel.start (base : Nat) : Rel base [] ⟨none_, 0, false⟩ none_ (-1) := ⟨Inv.start _, fun _ _ => rfl, fun _ => rfl, fun h => Bool.noConfusion h, by decide⟩
theorem Rel.taken {base : Nat} {hv : List Nat} {s : St} {f : Nat → Bool} {last : Int} (h : Rel base hv s f last) (v : Nat) (hv' : v < 256) (hf : freshP 64 s.m s.top s.sm (base + v) = true) : f v = false := by
  cases hc : f v with
  | false => rfl
  | true =>
    rw [h.f_ v hv'] at hc
    have := take_no h.inv 64 (base + v) (by omega) (by omega) (by simpa using hc)
    rw [hf] at this
    cases this
theorem Rel.small {base : Nat} {hv : List Nat} {s : St} {f : Nat → Bool} {last : Int} (h : Rel base hv s f last) (v : Nat) (hf : freshP 64 s.m s.top s.sm (base + v) = false) : (v : Int) ≤ last := by
  cases hs : s.sm with
  | false => rw [fresh_greater 64 (base + v) (fun e => by rw [hs] at e; cases e)] at hf; cases hf
  | true =>
    obtain ⟨h1, h2⟩ := h.yes_ hs
    rcases Int.lt_or_le last (v : Int) with h3 | h3
    · rw [fresh_greater 64 (base + v) (fun _ => by omega)] at hf; cases hf
    · exact h3
theorem Rel.step_yes {base : Nat} {hv : List Nat} {s : St} {f : Nat → Bool} {last : Int} (h : Rel base hv s f last) (v : Nat) (hv' : v < 256) (hf : freshP 64 s.m s.top s.sm (base + v) = true) :
    Rel base (hv ++ [base + v]) (takeP 64 s (base + v)) (upd f v true) (max last (v : Int)) := by
  have hi := take_inv h.inv 64 (base + v) (by omega) (by omega)
  rw [if_pos hf] at hi
  have ht := take_top (s := s) 64 (base + v) (fun e => (h.inv.none_ e).2)
  rw [if_pos hf] at ht
  have hsm : (takeP 64 s (base + v)).sm = true := by
    cases hh : (takeP 64 s (base + v)).sm with
    | true => rfl
    | false => have := (hi.none_ hh).1; simp at this
  refine ⟨hi, ?_, fun e => (by rw [hsm] at e; cases e), fun _ => ?_, by have := h.lt_; omega⟩
  · intro u hu
    unfold upd
    by_cases e : u = v
    · subst e; simp
    · rw [if_neg e, h.f_ u hu, Bool.eq_iff_iff]
      simp [e]
  · rw [ht]
    cases hs : s.sm with
    | false =>
      have h1 := h.no_ hs
      have h2 := (h.inv.none_ hs).2
      omega
    | true =>
      have h1 := h.yes_ hs
      omega
theorem Rel.step_no {base : Nat} {hv : List Nat} {s : St} {f : Nat → Bool} {last : Int} (h : Rel base hv s f last) (v : Nat) (hf : freshP 64 s.m s.top s.sm (base + v) = false) :
    Rel base hv (takeP 64 s (base + v)) (upd f v (f v)) (max last (v : Int)) := by
  have hs := h.small v hf
  have e1 : takeP 64 s (base + v) = s := by unfold takeP; rw [if_neg (by rw [hf]; simp)]
  have e2 : upd f v (f v) = f := by funext u; unfold upd; by_cases e : u = v <;> simp [e]
  rw [e1, e2, show max last (v : Int) = last by omega]
  exact h

theorem replayOnce_walk (a0 : Int) (a1 : Option Addr) (len1 cap1 : Nat) (z1 : List Int) (w : World) (w0 : (Lit.int .u64 a0).wf = true) (w1 : IsRow .u8 w a1 len1 cap1 z1) :
    Calls Try.prog 10 #[.int .u64 a0, .slice a1 len1 cap1] w fun e w' => e = .returned (.bool true) ∧ Below w.heap.size w w' := by
  obtain ⟨h1, h2⟩ := u64_nat w0
  obtain ⟨l, hlen, hrd, hlt⟩ := row_bytes w1
  obtain ⟨base, rfl⟩ := Int.eq_ofNat_of_zero_le h1
  clear w0 w1 h1
  by_cases hl : 200 < len1
  · have d3 : decide (200 < (len1 : Int)) = true := by simp; omega
    clear h2 hl
    go_enter Try.func10, Try.ntmps10
    go_wp2_with (go_at_call 27; refine (awake_any _).mono ?_; rintro e w' ⟨rfl, hb⟩)
    go_ret
    exact ⟨rfl, hb⟩
  by_cases hbad : 4611686018427387904 < base
  · have d3 : decide (200 < (len1 : Int)) = false := by simp; omega
    have d4 : decide (4611686018427387904 < (base : Int)) = true := by simp; omega
    clear h2 hbad
    go_enter Try.func10, Try.ntmps10
    go_wp2_with (go_at_call 27; refine (awake_any _).mono ?_; rintro e w' ⟨rfl, hb⟩)
    go_ret
    exact ⟨rfl, hb⟩
  have HL := Lib.hid hlt
  have HLen := Lib.hid hlen
  have d3 : decide (200 < (len1 : Int)) = false := by simp; omega
  have d4 : decide (4611686018427387904 < (base : Int)) = false := by simp; omega
  clear h2 hlt hlen
  go_enter Try.func10, Try.ntmps10
  go_wp2_with fail
  refine (new_ok 64 _ (by omega) (by omega)).mono ?_; rintro e w' ⟨rfl, rfl⟩
  have hwin := new_win 64 w
  have hbel0 : Below w.heap.size w (w.alloc (.cells (winCells 64 none_ 0 false) 83)) := (Below.refl _ _).alloc (Nat.le_refl _) _
  obtain ⟨g, hg⟩ : ∃ g, g = w.heap.size := ⟨_, rfl⟩
  obtain ⟨w0, hw0⟩ : ∃ w0, w0 = w.alloc (.cells (winCells 64 none_ 0 false) 83) := ⟨_, rfl⟩
  have hs0 : g < w0.heap.size := by rw [hw0, hg]; simp
  rw [← hw0, ← hg]
  rw [← hw0, ← hg] at hwin
  rw [← hw0] at hbel0
  have hgB : w.heap.size ≤ g := by omega
  have hz := zero49b
  clear hg hw0
  go_wp2_with fail
  obtain ⟨gt, hgt⟩ : ∃ gt, gt = w0.heap.size := ⟨_, rfl⟩
  obtain ⟨wa, hwa⟩ : ∃ wa, wa = w0.alloc (.cells (tkCells none_) 49) := ⟨_, rfl⟩
  have hwinA : Win wa g 64 none_ 0 false := by rw [hwa]; exact Blk.alloc hwin _
  have htkA : Tk wa gt none_ := by rw [hwa, hgt]; exact Blk.new _ _ _
  have hbelA : Below w.heap.size w wa := by rw [hwa]; exact hbel0.alloc hbel0.size _
  have hgtB : w.heap.size ≤ gt := by rw [hgt]; exact hbel0.size
  rw [← hgt, ← hwa]
  clear hgt hwa hwin hbel0
  go_loopw [8, 9] (fun la i wr => ∃ (last : Int) (hv : List Nat) (s : St) (f : Nat → Bool) (k : Nat), k ≤ len1 ∧ la = .int .i64 last ∧ i = .int .i64 k ∧
      Win wr g 64 s.m s.top s.sm ∧ Tk wr gt f ∧ Rel base hv s f last ∧ -1 ≤ last ∧ Below w.heap.size w wr) (fun _ i _ => len1 - (intOf i).toNat)
  case atStart => exact ⟨-1, [], ⟨none_, 0, false⟩, none_, 0, by omega, rfl, rfl, hwinA, htkA, Rel.start base, by omega, hbelA⟩
  case round =>
    obtain ⟨last, hv, s, f, k, hk, rfl, rfl, hwn, htk, hR, hlast, hbel⟩ := hrel
    by_cases hkl : k < len1
    · obtain ⟨ad, u, rfl, hadb, hu, hc⟩ := hrd.at_ hkl
      obtain ⟨rfl, hkl2⟩ := U8s_at hu
      obtain ⟨x, hx⟩ : ∃ x, x = l.getD k 0 := ⟨_, rfl⟩
      rw [← hx] at hc
      have hxl : x < 256 := HL.out x (by rw [hx, List.getD, List.getElem?_eq_getElem hkl2]; simp)
      have hadd : (ad.add k).block < w.heap.size := by rw [block_of_add]; exact hadb
      have hcr := (hbel.cell (p := ad.add k) hadd).trans hc
      obtain ⟨y, hy⟩ : ∃ y, y = base + x := ⟨_, rfl⟩
      have e1 : IntKind.u64.wrap ((base : Int) + (x : Int)) = (y : Int) := by rw [IntKind.wrap_u64]; omega
      have hst : s.top < 18446744073709551616 := by
        cases hs : s.sm with
        | false => rw [(hR.inv.none_ hs).2]; omega
        | true => have := (hR.yes_ hs).2; have := hR.lt_; omega
      have hyl : y < 18446744073709551616 := by omega
      have HR := Lib.hid hR
      have HY := Lib.hid hy
      have hl256 := hR.lt_
      clear hu hx hkl2 hR hy
      have i1 : (0 : Int) ≤ (k : Int) := by omega
      have i2 : (k : Int) < (len1 : Int) := by omega
      have i3 : (0 : Int) ≤ (x : Int) := by omega
      have i4 : (x : Int) < 256 := by omega
      go_wp2_with fail
      refine (take_any g 64 y s _ hwn (by omega) (by omega) hst hyl).mono ?_; rintro e w1 ⟨rfl, hw1, hg1⟩
      have hsz := hbel.size
      have hbel1 : Below w.heap.size w w1 := below_of_grown hbel hg1 hgB hsz
      have hc1 := (hbel1.cell (p := ad.add k) hadd).trans hc
      have htk1 : Tk w1 gt f := Blk.grown htk hg1 (fun e => by injection e with e; exact Blk.ne_ htk hwn (by decide) e)
      have hct := htk1.at_ x hxl
      have hfz := Blk.frozen htk1 x
      have hne : (⟨gt, x, none⟩ : Addr) ≠ ad.add k := fun e => by have := congrArg Addr.block e; simp at this; omega
      clear hcr
      cases hb : freshP 64 s.m s.top s.sm y with
      | true =>
        have hfx : f x = false := HR.out.taken x hxl (by rw [← HY.out]; exact hb)
        rw [hfx] at hct
        have hc3 : (w1.setCell ⟨gt, x, none⟩ (.bool true)).cell? (ad.add k) = some (.int .u8 (x : Int)) := (World.cell?_setCell_other w1 _ _ _ hne).trans hc1
        have HB := Lib.hid hb
        clear hb hfx
        go_wp2_with fail
        go_region
        go_wp2_with fail
        have HS := HR.out.step_yes x hxl (by rw [← HY.out]; exact HB.out)
        rw [← HY.out] at HS
        have hmax : (if last < (x : Int) then (x : Int) else last) = max last (x : Int) := by split <;> omega
        go_roundw
        case rel => exact ⟨max last (x : Int), hv ++ [y], takeP 64 s y, upd f x true, k + 1, by omega, by rw [hmax], by go_num, Blk.far hw1 (p := ⟨gt, x, none⟩) (Ne.symm (Blk.ne_ htk1 hw1 (by decide))) _, htk1.set_ x true, HS, by omega, (hbel1.setCell hgtB _).drew⟩
        case measure => simp [intOf]; omega
      | false =>
        have hsm := HR.out.small x (by rw [← HY.out]; exact hb)
        have hd : decide (last < (x : Int)) = false := by simp; omega
        have HS := HR.out.step_no x (by rw [← HY.out]; exact hb)
        rw [← HY.out] at HS
        have HB := Lib.hid hb
        obtain ⟨fx, hfx⟩ : ∃ fx, fx = f x := ⟨_, rfl⟩
        rw [← hfx] at hct HS
        have hc3 : (w1.setCell ⟨gt, x, none⟩ (.bool fx)).cell? (ad.add k) = some (.int .u8 (x : Int)) := (World.cell?_setCell_other w1 _ _ _ hne).trans hc1
        have HS2 := Lib.hid HS
        clear hb hfx HS
        cases fx
        all_goals
          go_wp2_with fail
          go_region
          go_wp2_with fail
          have hmax : last = max last (x : Int) := by omega
          go_roundw
          case rel => exact ⟨max last (x : Int), hv, takeP 64 s y, upd f x _, k + 1, by omega, by rw [← hmax], by go_num, Blk.far hw1 (p := ⟨gt, x, none⟩) (Ne.symm (Blk.ne_ htk1 hw1 (by decide))) _, htk1.set_ x _, HS2.out, by omega, (hbel1.setCell hgtB _).drew⟩
          case measure => simp [intOf]; omega
    · have hd : decide (k < len1) = false := by simp; omega
      go_wp2_with fail
      refine (fresh_nil 1 _).mono ?_; rintro e w' ⟨rfl, rfl⟩
      go_wp2_with fail
      refine (take_nil 1 _).mono ?_; rintro e w' ⟨rfl, rfl⟩
      go_wp2_with fail
      refine (top_nil _).mono ?_; rintro e w' ⟨rfl, rfl⟩
      go_wp2_with fail
      refine (awake_any _).mono ?_; rintro e w' ⟨rfl, hb⟩
      go_wp2_with fail
      go_ret
      exact ⟨rfl, hbel.trans (hb.mono hbel.size)⟩
end Go.Proofs.Ytfghllgkbdfedaa.Rep
