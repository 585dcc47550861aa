/- lightshiplaw45.SpansHave returns true; no condition. -/
import Derived.Test.YtkmfcaaionmfoaaSpanCount
import Derived.Test.YtkmfcaaionmfoaaSpanAwake
set_option maxRecDepth 100000
namespace Go.Proofs.Ytkmfcaaionmfoaa.Sp
open Go.RowKit

abbrev Tr := Nat × Nat × Nat
def tv (d : Tr) : List Value := [.int .u8 (d.1 : Int), .int .u8 (d.2.1 : Int), .int .u8 (d.2.2 : Int)]
def Ts (l : List Tr) : List Value := l.flatMap tv
def tr (l : List Tr) (i : Nat) : Tr := l.getD i (0, 0, 0)
def RowT (w : World) (A : Option Addr) (n : Nat) (l : List Tr) : Prop := l.length = n ∧ Reads w w.heap.size 3 A n (Ts l) ∧ ∀ d ∈ l, d.1 < 256 ∧ d.2.1 < 256 ∧ d.2.2 < 256
theorem RowT.cell {w : World} {A : Option Addr} {n : Nat} {l : List Tr} (h : RowT w A n l) {i : Nat} (hi : i < n) :
    ∃ (ad q : Addr), A = some ad ∧ ad.add (i * 3) = q ∧ q.block < w.heap.size ∧ w.cell? q = some (.int .u8 ((tr l i).1 : Int)) ∧ w.cell? ⟨q.block, q.off + 1, none⟩ = some (.int .u8 ((tr l i).2.1 : Int)) ∧ w.cell? ⟨q.block, q.off + 2, none⟩ = some (.int .u8 ((tr l i).2.2 : Int)) ∧
      (tr l i).1 < 256 ∧ (tr l i).2.1 < 256 ∧ (tr l i).2.2 < 256 := by
  obtain ⟨hl, hr, hb⟩ := h
  obtain ⟨ad, e, hbk, hc⟩ := hr.2 (by omega)
  have hil : i < l.length := by omega
  have hd : l[i]? = some (tr l i) := by simp [tr, List.getD, List.getElem?_eq_getElem hil]
  have hf := flat_at tv 3 (fun _ => rfl) l i
  have hm := hb (tr l i) (List.mem_of_getElem? hd)
  refine ⟨ad, _, e, rfl, by rw [block_of_add]; exact hbk, hc _ _ (hf 0 _ hd (by omega)), ?_, ?_, hm⟩
  · have := hc _ _ (hf 1 _ hd (by omega))
    rw [← add_of_add, add_one] at this
    exact this
  · have := hc _ _ (hf 2 _ hd (by omega))
    rw [← add_of_add] at this
    exact this
theorem info35 : (Try.prog.info? 35).map (·.size) = some 512 := by kernel_rfl
def none512 : Array Value := Array.replicate 512 (.bool false)
theorem zero35 (W : World) : (zeroValue 35).run Try.prog W = .ok (.agg none512) W := by kernel_rfl
/-- a row's numbers are no truth values -/
theorem RowS.set {w : World} {A : Option Addr} {n c : Nat} {l : List Sn} (h : RowS w A n c l) {p : Addr} {b : Bool} (hp : w.cell? p = some (.bool b)) (v : Value) : RowS (w.setCell p v) A n c l := by
  refine ⟨h.1, h.2.1, h.2.2.1, fun hn => ?_⟩
  obtain ⟨ad, e, hb, hc⟩ := h.2.2.2 hn
  refine ⟨ad, e, by simpa using hb, fun j u hu => ?_⟩
  have h1 := hc j u hu
  rw [World.cell?_setCell_other _ _ _ _ ?_, h1]
  intro hpe
  rw [hpe, h1] at hp
  injection hp with hp
  subst hp
  obtain ⟨s, _, h2⟩ := List.mem_flatMap.1 (List.mem_of_getElem? hu)
  simp [pv] at h2
/-- truth values in a row of 512 -/
def HvW (w : World) (b : Nat) (h : Nat → Bool) : Prop := ∀ x, x < 512 → w.cell? ⟨b, x, none⟩ = some (.bool (h x)) ∧ w.frozen? ⟨b, x, none⟩ = false
theorem HvW.on {w w' : World} {b : Nat} {h : Nat → Bool} (H : HvW w b h) {B : Nat} (hb : b < B) (hw : Below B w w') : HvW w' b h := fun x hx => ⟨(hw.cell (p := ⟨b, x, none⟩) hb).trans (H x hx).1, (hw.frozen (p := ⟨b, x, none⟩) hb).trans (H x hx).2⟩
theorem HvW.set {w : World} {b : Nat} {h : Nat → Bool} (H : HvW w b h) {x : Nat} (hx : x < 512) (u : Bool) {h' : Nat → Bool} (hh : ∀ y, h' y = if y = x then u else h y) : HvW (w.setCell ⟨b, x, none⟩ (.bool u)) b h' := by
  intro y hy
  refine ⟨?_, by rw [World.frozen?_setCell]; exact (H y hy).2⟩
  rw [hh y]
  by_cases e : y = x
  · rw [if_pos e, e]
    exact World.cell?_setCell_same _ _ _ (H x hx).1
  · rw [if_neg e, World.cell?_setCell_other _ _ _ _ (by intro h2; injection h2 with _ h3 _; exact e h3.symm), (H y hy).1]
theorem HvW.new (w : World) : HvW (w.alloc (.cells none512 35)) w.heap.size (fun _ => false) := by
  intro x hx
  have hs : none512.size = 512 := by simp [none512]
  refine ⟨?_, World.frozen?_alloc_at _ _ _ _ rfl⟩
  rw [World.cell?_alloc_at (hn := rfl), Array.getElem?_eq_getElem (by omega)]
  simp [none512]

set_option maxHeartbeats 2000000 in
theorem spanshave_walk (A : Option Addr) (n c : Nat) (l : List Tr) (w : World) (h1 : RowT w A n l) :
    Calls Try.prog 4 #[.slice A n c] w fun e w' => e = .returned (.bool true) ∧ Below w.heap.size w w' := by
  have HA := Lib.hid awake_true
  by_cases hlong : 60 < n
  · have d1 : decide (60 < (n : Int)) = true := by simp; omega
    clear hlong h1
    go_enter Try.func4, Try.ntmps4
    go_wp2_with (go_at_call 7; (with_reducible refine (HA.out _).mono ?_); rintro e W1 ⟨rfl, u1⟩)
    go_ret
    exact ⟨rfl, u1⟩
  · have d1 : decide (60 < (n : Int)) = false := by simp; omega
    have hn : n ≤ 60 := by omega
    have H1 := Lib.hid h1
    have hz := zero35
    clear hlong h1
    go_enter Try.func4, Try.ntmps4
    go_wp2_with fail
    obtain ⟨b, hbw⟩ : ∃ b, b = w.heap.size := ⟨_, rfl⟩
    have HB := Lib.hid hbw
    have hHv : HvW (w.alloc (.cells none512 35)) b (fun _ => false) := by rw [hbw]; exact HvW.new w
    have hBl : Below b w (w.alloc (.cells none512 35)) := (Below.refl _ _).alloc (by omega) _
    have hbl : b < (w.alloc (.cells none512 35)).heap.size := by simp; omega
    clear hz
    try rw [← hbw]
    clear hbw
    go_loopw [4, 5] (fun vl v wr => ∃ (i : Nat) (m : List Sn) (h : Nat → Bool) (Al : Option Addr) (nl cl : Nat), i ≤ n ∧ vl = .slice Al nl cl ∧ v = .int .i64 i ∧ Hid (HvSt i m h) ∧ RowS wr Al nl cl m ∧ HvW wr b h ∧ b < wr.heap.size ∧ Below b w wr) (fun _ v _ => n - (intOf v).toNat)
    case atStart => exact ⟨0, [], fun _ => false, none, 0, 0, by omega, rfl, rfl, Lib.hid HvSt.start, RowS.nil _, hHv, hbl, hBl⟩
    case round =>
      obtain ⟨i, m, h, Al, nl, cl, hi, rfl, rfl, hst, hrow, hhv, hbr, hb⟩ := hrel
      clear hHv hBl hbl
      by_cases hlt : i < n
      · obtain ⟨ad, q, had, hq, hqb, c0', c1', c2', b0, b1, b2⟩ := H1.out.cell hlt
        rw [← HB.out] at hqb
        have c0 := (hb.cell (p := q) hqb).trans c0'
        have c1 := (hb.cell (p := ⟨q.block, q.off + 1, none⟩) hqb).trans c1'
        have c2 := (hb.cell (p := ⟨q.block, q.off + 2, none⟩) hqb).trans c2'
        obtain ⟨x0, hx0⟩ : ∃ x0, x0 = (tr l i).1 := ⟨_, rfl⟩
        obtain ⟨x1, hx1⟩ : ∃ x1, x1 = (tr l i).2.1 := ⟨_, rfl⟩
        obtain ⟨x2, hx2⟩ : ∃ x2, x2 = (tr l i).2.2 := ⟨_, rfl⟩
        rw [← hx0] at c0 b0
        rw [← hx1] at c1 b1
        rw [← hx2] at c2 b2
        subst had
        clear c0' c1' c2' hx0 hx1 hx2
        obtain ⟨t, ht⟩ : ∃ t, t = x0 + x1 % 32 + 1 := ⟨_, rfl⟩
        have hto : (x0 : Int) + (x1 : Int) % 32 + 1 = (t : Int) := by omega
        have hft : x0 < t := by omega
        have ht300 : t ≤ 300 := by omega
        clear ht
        by_cases hadd : x2 % 3 = 0
        · have hne : ((x2 : Int) % 3 != 0) = false := by simp; omega
          clear hadd
          have HOK := Lib.hid (hst.out.subOk (by omega) hft ht300)
          have HST2 := Lib.hid (hst.out.sub hft)
          obtain ⟨m2, hm2⟩ : ∃ m2, subP m x0 t = m2 := ⟨_, rfl⟩
          rw [hm2] at HOK HST2
          have HCK := Lib.hid (HST2.out.ok (by omega))
          clear hft hm2
          go_wp2_with (first
            | (go_at_call 10; (with_reducible refine (sub_any Al nl cl m x0 t m2 0 wr hrow HOK.out.1 HOK.out.2).mono ?_); rintro e W1 ⟨A1, n1, c1, rfl, r1, b1⟩; have hv1 := hhv.on hbr b1; have hb1 := hb.trans (b1.mono (by omega)); have hbr1 : b < W1.heap.size := by have := b1.size; omega)
            | (go_at_call 13; (with_reducible refine (check_any A1 n1 c1 m2 0 W1 r1 HCK.out).mono ?_); rintro e W2 ⟨rfl, b2'⟩; have r2 := r1.on b2'; have hv2 := hv1.on hbr1 b2'; have hb2 := hb1.trans (b2'.mono (by omega)); have hbr2 : b < W2.heap.size := (by have := b2'.size; omega); clear b2' r1 hv1 hb1 hbr1))
          go_loopw [11] (fun v wr => ∃ (x : Nat), x0 ≤ x ∧ x ≤ t ∧ v = .int .i64 x ∧ RowS wr A1 n1 c1 m2 ∧ HvW wr b (put h x0 x false) ∧ b < wr.heap.size ∧ Below b w wr) (fun v _ => t - (intOf v).toNat)
          case atStart => exact ⟨x0, by omega, by omega, rfl, r2, by rw [put_zero]; exact hv2, hbr2, hb2⟩
          case round =>
            obtain ⟨x, hx0, hxt, rfl, hrow3, hhv3, hbr3, hb3⟩ := hrel
            clear r2 hv2 hbr2 hb2
            by_cases hlt2 : x < t
            · obtain ⟨hc, hf⟩ := hhv3 x (by omega)
              have hx512 : (x : Int) < 512 := by omega
              go_wp2_with fail
              go_roundw
              case rel => exact ⟨x + 1, by omega, by omega, by go_num, hrow3.set hc _, hhv3.set (by omega) _ (fun y => put_at y hx0), by simpa using hbr3, hb3.setCell (by simp) _⟩
              case measure => simp [intOf]; omega
            · obtain rfl : x = t := by omega
              go_wp2_with fail
              go_roundw
              case rel => exact ⟨i + 1, m2, put h x0 x false, A1, n1, c1, by omega, rfl, by go_num, HST2, hrow3, hhv3, hbr3, hb3⟩
              case measure => simp [intOf]; omega
        · have hne : ((x2 : Int) % 3 != 0) = true := by simp; omega
          clear hadd
          have HOK := Lib.hid (hst.out.addOk (by omega) hft ht300)
          have HST2 := Lib.hid (hst.out.add hft ht300)
          obtain ⟨m2, hm2⟩ : ∃ m2, addP m x0 t = m2 := ⟨_, rfl⟩
          rw [hm2] at HOK HST2
          have HCK := Lib.hid (HST2.out.ok (by omega))
          clear hft hm2
          go_wp2_with (first
            | (go_at_call 8; (with_reducible refine (add_any Al nl cl m x0 t m2 0 wr hrow HOK.out.1 HOK.out.2).mono ?_); rintro e W1 ⟨A1, n1, c1, rfl, r1, b1⟩; have hv1 := hhv.on hbr b1; have hb1 := hb.trans (b1.mono (by omega)); have hbr1 : b < W1.heap.size := by have := b1.size; omega)
            | (go_at_call 13; (with_reducible refine (check_any A1 n1 c1 m2 0 W1 r1 HCK.out).mono ?_); rintro e W2 ⟨rfl, b2'⟩; have r2 := r1.on b2'; have hv2 := hv1.on hbr1 b2'; have hb2 := hb1.trans (b2'.mono (by omega)); have hbr2 : b < W2.heap.size := (by have := b2'.size; omega); clear b2' r1 hv1 hb1 hbr1))
          go_loopw [11] (fun v wr => ∃ (x : Nat), x0 ≤ x ∧ x ≤ t ∧ v = .int .i64 x ∧ RowS wr A1 n1 c1 m2 ∧ HvW wr b (put h x0 x true) ∧ b < wr.heap.size ∧ Below b w wr) (fun v _ => t - (intOf v).toNat)
          case atStart => exact ⟨x0, by omega, by omega, rfl, r2, by rw [put_zero]; exact hv2, hbr2, hb2⟩
          case round =>
            obtain ⟨x, hx0, hxt, rfl, hrow3, hhv3, hbr3, hb3⟩ := hrel
            clear r2 hv2 hbr2 hb2
            by_cases hlt2 : x < t
            · obtain ⟨hc, hf⟩ := hhv3 x (by omega)
              have hx512 : (x : Int) < 512 := by omega
              go_wp2_with fail
              go_roundw
              case rel => exact ⟨x + 1, by omega, by omega, by go_num, hrow3.set hc _, hhv3.set (by omega) _ (fun y => put_at y hx0), by simpa using hbr3, hb3.setCell (by simp) _⟩
              case measure => simp [intOf]; omega
            · obtain rfl : x = t := by omega
              go_wp2_with fail
              go_roundw
              case rel => exact ⟨i + 1, m2, put h x0 x true, A1, n1, c1, by omega, rfl, by go_num, HST2, hrow3, hhv3, hbr3, hb3⟩
              case measure => simp [intOf]; omega
      · obtain rfl : i = n := by omega
        have HHAS := Lib.hid (fun x => hst.out.has (by omega) x)
        have HLEN := Lib.hid (hst.out.len (by omega))
        clear hst
        go_wp2_with fail
        go_loopw [12, 13] (fun vn v wr => ∃ (x : Nat), x ≤ 512 ∧ vn = .int .i64 (cnt h x : Nat) ∧ v = .int .i64 x ∧ RowS wr Al nl cl m ∧ HvW wr b h ∧ b < wr.heap.size ∧ Below b w wr) (fun _ v _ => 512 - (intOf v).toNat)
        case atStart => exact ⟨0, by omega, rfl, rfl, hrow, hhv, hbr, hb⟩
        case round =>
          obtain ⟨x, hx, rfl, rfl, hrow3, hhv3, hbr3, hb3⟩ := hrel
          clear hrow hhv hbr hb
          by_cases hx5 : x < 512
          · obtain ⟨hc, _⟩ := hhv3 x hx5
            have hx512 : (x : Int) < 512 := by omega
            have hcl := cnt_le h x
            have HCN := Lib.hid (show cnt h (x + 1) = cnt h x + if h x = true then 1 else 0 from rfl)
            have HX := HHAS.out x
            cases hv : h x with
            | true =>
              rw [hv] at hc HCN HX
              have HX' := Lib.hid HX
              clear HX hv
              go_wp2_with fail
              go_region_with (first
                | (go_at_call 15; (with_reducible refine (has_any Al nl cl m wr hrow3 x true HX'.out).mono ?_); rintro e W1 ⟨rfl, b1⟩; have hc2 := (b1.cell (p := ⟨b, x, none⟩) hbr3).trans hc)
                | (go_at_call 15; (with_reducible refine (has_any Al nl cl m wr.drew (hrow3.on ((Below.refl _ _).drew)) x true HX'.out).mono ?_); rintro e W1 ⟨rfl, b1'⟩; have b1 := ((Below.refl wr.heap.size wr).drew).trans b1'; clear b1'; have hc2 := (b1.cell (p := ⟨b, x, none⟩) hbr3).trans hc))
              all_goals
                go_wp2_with fail
                go_roundw
                case rel => exact ⟨x + 1, by omega, by rw [HCN.out]; simp, by go_num, hrow3.on b1, hhv3.on hbr3 b1, by have := b1.size; omega, hb3.trans (b1.mono (by omega))⟩
                case measure => simp [intOf]; omega
            | false =>
              rw [hv] at hc HCN HX
              have HX' := Lib.hid HX
              clear HX hv
              go_wp2_with fail
              go_region_with (first
                | (go_at_call 15; (with_reducible refine (has_any Al nl cl m wr hrow3 x false HX'.out).mono ?_); rintro e W1 ⟨rfl, b1⟩; have hc2 := (b1.cell (p := ⟨b, x, none⟩) hbr3).trans hc)
                | (go_at_call 15; (with_reducible refine (has_any Al nl cl m wr.drew (hrow3.on ((Below.refl _ _).drew)) x false HX'.out).mono ?_); rintro e W1 ⟨rfl, b1'⟩; have b1 := ((Below.refl wr.heap.size wr).drew).trans b1'; clear b1'; have hc2 := (b1.cell (p := ⟨b, x, none⟩) hbr3).trans hc))
              all_goals
                go_wp2_with fail
                go_roundw
                case rel => exact ⟨x + 1, by omega, by rw [HCN.out, if_neg (by decide)]; rfl, by go_num, hrow3.on b1, hhv3.on hbr3 b1, by have := b1.size; omega, hb3.trans (b1.mono (by omega))⟩
                case measure => simp [intOf]; omega
          · obtain rfl : x = 512 := by omega
            obtain ⟨N, hN⟩ : ∃ N, N = cnt h 512 := ⟨_, rfl⟩
            have HLN := Lib.hid (show lenB m = (N : Int) by rw [hN]; exact HLEN.out)
            rw [← hN]
            clear hN
            go_wp2_with (first
              | (go_at_call 17; (with_reducible refine (len_any Al nl cl m N wr hrow3 HLN.out).mono ?_); rintro e W1 ⟨rfl, b1⟩)
              | (go_at_call 7; (with_reducible refine (HA.out W1).mono ?_); rintro e W2 ⟨rfl, b2⟩))
            go_ret
            exact ⟨rfl, by rw [← HB.out]; exact (hb3.trans (b1.mono (by omega))).trans (b2.mono (by have := b1.size; omega))⟩
end Go.Proofs.Ytkmfcaaionmfoaa.Sp
