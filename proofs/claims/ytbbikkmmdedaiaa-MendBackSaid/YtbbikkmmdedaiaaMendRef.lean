/- What the reference's Read computes, at words of no more than 8 bytes. -/
import Derived.Test.YtbbikkmmdedaiaaMendNextW
import Derived.Test.YtbbikkmmdedaiaaMendRead
import Derived.Deep.LoopGhost
set_option maxRecDepth 100000
namespace Go.Proofs.Ytbbikkmmdedaiaa.Pr
open Go.RowKit Go.Proofs.Ytbbikkmmdedaiaa.Gf Go.Proofs.Ytbbikkmmdedaiaa.Vec Nx

theorem ref_read_bad (A : Option Addr) (n c : Nat) (k : Int) (w : World) (h : k < 1 ∨ (n : Int) < k ∨ 255 < n) :
    Calls Try.prog 65 #[.slice A n c, .int .i64 k] w fun e w' => e = .returned (.tuple #[.slice none 0 0, .int .i64 0, .int .i64 1]) ∧ w = w' := by
  have hc : (decide (k < 1) = true) ∨ (decide (k < 1) = false ∧ decide ((n : Int) < k) = true) ∨ (decide (k < 1) = false ∧ decide ((n : Int) < k) = false ∧ decide (255 < (n : Int)) = true) := by
    by_cases h1 : k < 1
    · left; simp [h1]
    · by_cases h2 : (n : Int) < k
      · right; left; simp [h1, h2]
      · right; right
        refine ⟨by simp [h1], by simp [h2], ?_⟩
        simp; omega
  clear h
  rcases hc with h1 | ⟨h1, h2⟩ | ⟨h1, h2, h3⟩
  all_goals
    go_enter Try.func65, Try.ntmps65
    go_wp2_with fail
    go_ret3
    exact ⟨rfl, rfl⟩

theorem cx_firsts (l : List Nat) {k : Nat} (h : l.length = k) : firsts k (fun i => pw (l.getD i 0)) = cx l := by
  refine ext_co (by rw [firsts_len, cx_len, h]) (funext fun i => ?_)
  by_cases e : i < k
  · rw [firsts_at _ _ i e, cx, co_map pw l i (by omega)]
  · rw [co_out _ _ (by rw [firsts_len]; omega), co_out _ _ (by rw [cx_len]; omega)]
theorem cy_firsts (wo : List F) (l : List Nat) {k : Nat} (h : l.length = k) : firsts k (fun i => co wo (l.getD i 0)) = cy wo l := by
  refine ext_co (by rw [firsts_len, cy_len, h]) (funext fun i => ?_)
  by_cases e : i < k
  · rw [firsts_at _ _ i e, cy, co_map (co wo) l i (by omega)]
  · rw [co_out _ _ (by rw [firsts_len]; omega), co_out _ _ (by rw [cy_len]; omega)]
theorem Is_range (i : Nat) : Is (List.range (i + 1)) = Is (List.range i) ++ [.int .i64 (i : Int)] := by rw [List.range_succ, Is_snoc]

theorem ap_step {x y : Value} {gx n c H : Nat} (hap : Ap y x) (hat : x.ownBlock = some gx ∨ gx = H) (hy : ∀ g, y.ownBlock = some g → g < H) : Ap (.slice (some ⟨gx, 0, none⟩) n c) y := by
  intro g hg hy2
  have hgx : gx = g := by simpa [Value.ownBlock] using hg
  subst hgx
  rcases hat with h | h
  · exact hap gx hy2 h
  · have := hy gx hy2
    omega
/-- the state of the choices: at one that is still to be tried, or at the end -/
def ChSt (wo : List F) (n k : Nat) (gk : Nat) (vl vm : Value) (w : World) : Prop :=
  (∃ t l A c, vl = .slice A k c ∧ vm = .bool true ∧ t + gk = 101 ∧ Ch n k t l ∧ RowI w A k c l ∧ ∀ j m, j < t → (full n k)[j]? = some m → Fails wo k m) ∨
  (∃ A m c, vl = .slice A m c ∧ vm = .bool false ∧ GuessNo wo k)

set_option maxHeartbeats 2000000 in
theorem ref_read_row (A : Option Addr) (n c : Nat) (wo : List F) (k : Nat) (w : World) (h1 : RowAt w A n c wo) (hk : 1 ≤ k) (hkn : k ≤ n) (hn : n ≤ 8) :
    Calls Try.prog 65 #[.slice A n c, .int .i64 (k : Nat)] w (ReadGv wo k w) := by
  have d1 : decide ((k : Int) < 1) = false := by simp; omega
  have d2 : decide (n < k) = false := by simp; omega
  have d3 : decide (255 < (n : Int)) = false := by simp; omega
  obtain ⟨g, hg⟩ : ∃ g, g = w.heap.size := ⟨_, rfl⟩
  have HG := Lib.hid hg
  have H1 := Lib.hid h1
  have HWL := Lib.hid h1.1
  have hgw : g ≤ w.heap.size := by omega
  have hb0 : Below g w w := Below.refl _ _
  clear hg h1
  go_enter Try.func65, Try.ntmps65
  go_wp2_with fail
  clear d1 d2 d3
  -- the first choice
  go_loopw [8, 9] (fun o v wr => ∃ (i : Nat) (Ao : Option Addr) (co' : Nat), i ≤ k ∧ o = .slice Ao i co' ∧ v = .int .i64 i ∧ Own wr g 3 (.slice Ao i co') (Is (List.range i)) ∧ Below g w wr) (fun _ v _ => k - (intOf v).toNat)
  case atStart => exact ⟨0, none, 0, by omega, rfl, rfl, Own.nil _ _ _, hb0⟩
  case round =>
    obtain ⟨i, Ao, co', hi, rfl, rfl, ho, hb⟩ := hrel
    clear hb0
    have hgr : g ≤ wr.heap.size := by have := hb.size; omega
    by_cases hlt : i < k
    · obtain ⟨S, hS⟩ : ∃ S, S = Is (List.range i) := ⟨_, rfl⟩
      have HS := Lib.hid (show Is (List.range (i + 1)) = S ++ [.int .i64 (i : Int)] by rw [hS]; exact Is_range i)
      have HSL := Lib.hid (show S.length = i by rw [hS, Is_len, List.length_range])
      rw [← hS] at ho
      clear hS
      go_wp2_with (at_builtin; refine wpList_app1 _ rfl (.tmp 38) (.tmp 40) 85 rfl g 3 (.int .i64 0) 8 Try.underlying85 info3 rfl _ S rfl (ho.alloc _) ⟨wr.heap.size, 0, none⟩ 1 (.int .i64 (i : Nat)) rfl (by go_simp) rfl (by rw [HSL.out]; omega) (by rw [HSL.out]; omega) (by simp; omega) ?_; rw [HSL.out]; intro g2 cap w2 hown2 hbel2 hgr2 hge2 hlt2)
      go_roundw
      case rel => exact ⟨i + 1, some ⟨g2, 0, none⟩, cap, by omega, rfl, by go_num, by rw [HS.out]; exact hown2, (hb.alloc hgr _).trans hbel2⟩
      case measure => simp [intOf]; omega
    · obtain rfl : i = k := by omega
      have hr0 := own_rowI ho (List.length_range (n := i))
      have hch0 := Ch.of hn hk hkn (first n i hn hk hkn)
      have HST := Lib.hid (show ChSt wo n i 101 (.slice Ao i co') (.bool true) wr from .inl ⟨0, List.range i, Ao, co', rfl, rfl, rfl, hch0, hr0, fun j m hj _ => by omega⟩)
      clear ho hr0 hch0
      go_wp2_with fail
      go_loopg [8, 10] 101 (fun gk vl vm wr => ChSt wo n i gk vl vm wr ∧ Below g w wr)
      case atStart => exact ⟨HST.out, hb⟩
      case round =>
        obtain ⟨hst, hbr⟩ := hrel
        clear hb hgr
        rcases hst with ⟨t, l, Al, cl, rfl, rfl, ht, hch, hl, hfail⟩ | ⟨Al, ml, cl, rfl, rfl, hno⟩
        · obtain ⟨W0, rfl⟩ : ∃ W0, W0 = wr := ⟨_, rfl⟩
          have HCH := Lib.hid hch
          have HF := Lib.hid hfail
          have HL := Lib.hid hl
          have HLL := Lib.hid hch.len
          have hT := hch.lt
          obtain ⟨B, hB⟩ : ∃ B, B = W0.heap.size := ⟨_, rfl⟩
          have HB := Lib.hid hB
          have hBW : Below B W0 W0 := Below.refl _ _
          have HBR := Lib.hid hbr
          have hrw : RowAt W0 A n c wo := H1.out.on (by rw [← HG.out]; exact hbr)
          have HRW := Lib.hid hrw
          obtain ⟨PX, hPX⟩ : ∃ PX : Po, PX = fun j => pw (l.getD j 0) := ⟨_, rfl⟩
          obtain ⟨PY, hPY⟩ : ∃ PY : Po, PY = fun j => co wo (l.getD j 0) := ⟨_, rfl⟩
          have HPX := Lib.hid hPX
          have HPY := Lib.hid hPY
          clear hch hfail hl hbr hrw hB hPX hPY
          go_wp2_with fail
          go_loopw [11, 12, 13] (fun ox oy v wr => ∃ (i2 : Nat) (Ax : Option Addr) (cx' : Nat) (Ay : Option Addr) (cy' : Nat), i2 ≤ i ∧ ox = .slice Ax i2 cx' ∧ oy = .slice Ay i2 cy' ∧ v = .int .i64 i2 ∧ Own wr B 5 (.slice Ax i2 cx') (U8s (vals (firsts i2 PX))) ∧ Own wr B 5 (.slice Ay i2 cy') (U8s (vals (firsts i2 PY))) ∧ Ap (.slice Ay i2 cy') (.slice Ax i2 cx') ∧ Below B W0 wr) (fun _ _ v _ => i - (intOf v).toNat)
          case atStart => exact ⟨0, none, 0, none, 0, by omega, rfl, rfl, rfl, Own.nil _ _ _, Own.nil _ _ _, fun _ h => by simp [Value.ownBlock] at h, hBW⟩
          case round =>
            obtain ⟨i2, Ax, cx', Ay, cy', hi2, rfl, rfl, rfl, hox, hoy, hap, hbw⟩ := hrel
            clear hBW
            have hBr : B ≤ wr.heap.size := by have h := hbw.size; have := HB.out; omega
            have hbw' : Below W0.heap.size W0 wr := by rw [← HB.out]; exact hbw
            by_cases hlt2 : i2 < i
            · obtain ⟨al, hal, hall, hcl⟩ := (HL.out.on hbw').cell hlt2
              subst hal
              obtain ⟨li, hli⟩ : ∃ li, li = l.getD i2 0 := ⟨_, rfl⟩
              have hlin : li < n := by rw [hli]; exact rises_lt HCH.out.rise _ (getD_mem (by rw [HLL.out]; exact hlt2))
              rw [← hli] at hcl
              obtain ⟨aw, haw, hawl, hcw⟩ := (HRW.out.on hbw').cell hlin
              subst haw
              obtain ⟨px, hpx⟩ : ∃ px, px = (PX i2).1 := ⟨_, rfl⟩
              obtain ⟨py, hpy⟩ : ∃ py, py = (PY i2).1 := ⟨_, rfl⟩
              have epy : (co wo li).1 = py := by rw [hpy, HPY.out, hli]
              rw [epy] at hcw
              have MX := Lib.hid (show ∀ w, Calls Try.prog 39 #[.int .i64 (li : Nat)] w fun e w' => e = .returned (.int .u8 (px : Nat)) ∧ w = w' from fun w => by
                have h := ref_exp_any (li : Int) w
                rw [expp_nat li (by omega)] at h
                rw [hpx, HPX.out]
                rw [hli] at h ⊢
                exact h)
              obtain ⟨SX, hSX⟩ : ∃ S, S = U8s (vals (firsts i2 PX)) := ⟨_, rfl⟩
              have HSX := Lib.hid (show U8s (vals (firsts (i2 + 1) PX)) = SX ++ [.int .u8 (px : Int)] by rw [hSX]; exact cells_succ i2 PX hpx)
              have HSXL := Lib.hid (show SX.length = i2 by rw [hSX]; exact cells_len i2 PX)
              obtain ⟨SY, hSY⟩ : ∃ S, S = U8s (vals (firsts i2 PY)) := ⟨_, rfl⟩
              have HSY := Lib.hid (show U8s (vals (firsts (i2 + 1) PY)) = SY ++ [.int .u8 (py : Int)] by rw [hSY]; exact cells_succ i2 PY hpy)
              have HSYL := Lib.hid (show SY.length = i2 by rw [hSY]; exact cells_len i2 PY)
              rw [← hSX] at hox
              rw [← hSY] at hoy
              -- cells below B, as W0 has them
              have hallB : (al.add i2).block < B := by
                obtain ⟨al', e, h, _⟩ := HL.out.cell hlt2
                injection e with e
                subst e
                rw [HB.out]; exact h
              have hawB : (aw.add li).block < B := by
                obtain ⟨aw', e, h, _⟩ := HRW.out.cell hlin
                injection e with e
                subst e
                rw [HB.out]; exact h
              have HAP := Lib.hid hap
              clear hli hpx hpy epy hSX hSY hbw' hap hall hawl
              go_wp2_with (first
                | (go_at_call 39; (with_reducible refine (MX.out _).mono ?_); rintro e w' ⟨rfl, rfl⟩)
                | (at_builtin; refine wpList_app1h _ rfl (.tmp 54) (.tmp 60) 22 rfl B 5 (.int .u8 0) 1 Try.underlying22 info5 rfl _ SX rfl (hox.alloc _) ⟨wr.heap.size, 0, none⟩ 1 (.int .u8 px) rfl (by go_simp) rfl (by rw [HSXL.out]; omega) (by rw [HSXL.out]; omega) (by simp; omega) ?_; rw [HSXL.out]; intro gx capx w2 hownx hbelx hgrx hatx hltx; have hbX := (hbw.alloc hBr (.cells #[.int .u8 (px : Nat)] 5)).trans hbelx; have hcl2 := ((hbelx.cell hallB).trans (((Below.refl B wr).alloc hBr (.cells #[.int .u8 (px : Nat)] 5)).cell hallB)).trans hcl; have hcw2 := ((hbelx.cell hawB).trans (((Below.refl B wr).alloc hBr (.cells #[.int .u8 (px : Nat)] 5)).cell hawB)).trans hcw; have hoy2 := Own.ap (hoy.alloc (.cells #[.int .u8 (px : Nat)] 5)) hgrx HAP.out; have hB2 : B ≤ w2.heap.size := (by have h := hbelx.size; simp at h; omega))
                | (at_builtin; refine wpList_app1h _ rfl (.tmp 62) (.tmp 70) 22 rfl B 5 (.int .u8 0) 1 Try.underlying22 info5 rfl _ SY rfl (hoy2.alloc _) ⟨w2.heap.size, 0, none⟩ 1 (.int .u8 py) rfl (by go_simp) rfl (by rw [HSYL.out]; omega) (by rw [HSYL.out]; omega) (by simp; omega) ?_; rw [HSYL.out]; intro gy capy w3 howny hbely hgry haty hlty))
              have hxy : Ap (.slice (some ⟨gx, 0, none⟩) (i2 + 1) capx) (.slice Ay i2 cy') := ap_step HAP.out hatx (fun g h => by have := Own.lt (hoy.alloc (.cells #[.int .u8 (px : Nat)] 5)) g h; exact this)
              have hox3 := Own.ap (hownx.alloc (.cells #[.int .u8 (py : Nat)] 5)) hgry hxy
              have hyx : Ap (.slice (some ⟨gy, 0, none⟩) (i2 + 1) capy) (.slice (some ⟨gx, 0, none⟩) (i2 + 1) capx) := ap_step hxy haty (fun g h => by have := Own.lt (hownx.alloc (.cells #[.int .u8 (py : Nat)] 5)) g h; exact this)
              go_roundw
              case rel => exact ⟨i2 + 1, some ⟨gx, 0, none⟩, capx, some ⟨gy, 0, none⟩, capy, by omega, rfl, rfl, by go_num, by rw [HSX.out]; exact hox3, by rw [HSY.out]; exact howny, hyx, (hbX.alloc hB2 _).trans hbely⟩
              case measure => simp [intOf]; omega
            · obtain rfl : i2 = i := by omega
              have hrx := own_row hox (firsts_len i2 PX)
              have hry := own_row hoy (firsts_len i2 PY)
              have ex : firsts i2 PX = cx l := by rw [HPX.out]; exact cx_firsts l HLL.out
              have ey : firsts i2 PY = cy wo l := by rw [HPY.out]; exact cy_firsts wo l HLL.out
              rw [ex] at hrx
              rw [ey] at hry
              have HC := Lib.hid (show chk (cx l) (cy wo l) = 0 from chk_once (by rw [cx_len, cy_len]) (cx_nodup (rises_nodup HCH.out.rise) fun x hx => by have := rises_lt HCH.out.rise x hx; omega))
              have hlr := HL.out.on hbw'
              have hwr := HRW.out.on hbw'
              have hbx : Below w.heap.size w wr := by rw [← HG.out]; exact below_to HG.out HBR.out hbw'
              clear hox hoy hap hbw hbw' ex ey hBr
              go_wp2_with fail
              refine (ref_through_row _ _ _ _ _ _ _ _ wr hrx hry (by omega) HC.out).mono ?_
              rintro e W1 ⟨p, Ap', np, cp, rfl, hp, rp, u1⟩
              have hlr1 := hlr.on u1
              have hwr1 := hwr.on u1
              have hbx1 := below_chain hbx u1
              have hnp : np ≤ i2 := by have h1 := rp.1; have h2 := hp.2.1; rw [cx_len, HLL.out] at h2; omega
              have HDAT := Lib.hid (show DataOf wo i2 l (pad i2 p) from ⟨p, hp, rfl⟩)
              clear hrx hry hlr hwr hbx u1 hp
              go_wp2_with fail
              refine (wide_row _ _ _ _ i2 W1 rp hnp (by omega)).mono ?_
              rintro e W2 ⟨Ad, nd, cd, rfl, rd, u2⟩
              have hlr2 := hlr1.on u2
              have hwr2 := hwr1.on u2
              have hbx2 := below_chain hbx1 u2
              have hnd : nd = i2 := by have h := rd.1; rw [pad_len] at h; exact h.symm
              subst hnd
              clear rp hlr1 hwr1 hbx1 u2 hnp
              go_wp2_with fail
              refine (ref_put_ok _ _ _ _ n W2 rd hk hkn (by omega)).mono ?_
              rintro e W3 ⟨Aw, nw, cw, rfl, rw3, u3⟩
              have hlr3 := hlr2.on u3
              have hwr3 := hwr2.on u3
              have rd3 := rd.on u3
              have hbx3 := below_chain hbx2 u3
              have hnw : nw = n := by have h := rw3.1; rw [wd_len] at h; exact h.symm
              subst hnw
              clear rd hlr2 hwr2 hbx2 u3
              obtain ⟨D, hD⟩ : ∃ D, D = off (pad nd p) wo := ⟨_, rfl⟩
              have MA := Lib.hid (ref_apart_row Aw nw cw A c (wd (pad nd p) nw) wo D W3 rw3 hwr3 (by omega) (by rw [hD]; unfold off; rw [HWL.out]))
              have HD := Lib.hid hD
              have hDn : D ≤ nw := by rw [hD]; have h := ap_le (co (wd (pad nd p) wo.length)) (co wo) wo.length; rw [HWL.out] at h; unfold off; rw [HWL.out]; exact h
              clear hD rw3
              go_wp2_with fail
              refine (MA.out).mono ?_
              rintro e W4 ⟨rfl, u4⟩
              have hlr4 := hlr3.on u4
              have rd4 := rd3.on u4
              have hbx4 := below_chain hbx3 u4
              clear hlr3 hwr3 rd3 hbx3 u4 MA
              obtain ⟨s, hs⟩ : ∃ s, s = nw - nd := ⟨_, rfl⟩
              obtain ⟨t2, ht2⟩ : ∃ t2, t2 = s / 2 := ⟨_, rfl⟩
              have hsI : (nw : Int) - (nd : Int) = (s : Int) := by omega
              have htI : (s : Int) / 2 = (t2 : Int) := by omega
              have HS := Lib.hid hs
              have HT := Lib.hid ht2
              clear hs ht2
              by_cases hle : D ≤ t2
              · have dd : decide (D ≤ t2) = true := by simp [hle]
                have HYES := Lib.hid (show Near wo nd (pad nd p) from data_yes HDAT.out (by rw [← HD.out, HWL.out, ← HS.out, ← HT.out]; exact hle))
                clear hle
                go_wp2_with fail
                go_ret3
                exact ⟨.inl ⟨pad nd p, _, _, _, HYES.out, by rw [← HD.out]; rfl, rd4⟩, hbx4⟩
              · have dd : decide (D ≤ t2) = false := by simp; omega
                have HFAIL := Lib.hid (show ∀ j m, j < t + 1 → (full nw nd)[j]? = some m → Fails wo nd m from fun j m hj hm => by
                  by_cases e : j = t
                  · subst e
                    have h := HCH.out.at_
                    rw [h] at hm
                    injection hm with hm
                    subst hm
                    exact ⟨_, HDAT.out, by rw [← HD.out, HWL.out, ← HS.out, ← HT.out]; omega⟩
                  · exact HF.out j m (by omega) hm)
                have hb4 : Below g w W4 := by rw [HG.out]; exact hbx4
                clear hle
                go_wp2_with fail
                refine (next_row Al nd cl l nw W4 hlr4 hk hkn (by omega) (fun m => ?_)).mono ?_
                · by_cases e : m < l.length
                  · have := rises_lt HCH.out.rise _ (getD_mem e)
                    omega
                  · have e2 : l.getD m 0 = 0 := by simp [List.getD, List.getElem?_eq_none (show l.length ≤ m by omega)]
                    omega
                rintro e W5 (⟨m, hm, A5, n5, c5, rfl, r5, u5⟩ | ⟨hm, A5, n5, c5, rfl, u5⟩)
                · have hat : (full nw nd)[t + 1]? = some m := by rw [HCH.out.next, hm]
                  have hch5 := Ch.of hn hk hkn hat
                  have hn5 : n5 = nd := by have h := r5.1; rw [hch5.len] at h; exact h.symm
                  subst hn5
                  have HST5 := Lib.hid (show ChSt wo nw n5 (gk - 1) (.slice A5 n5 c5) (.bool true) W5 from .inl ⟨t + 1, m, A5, c5, rfl, rfl, by omega, hch5, r5, HFAIL.out⟩)
                  have hb5 := below_to HG.out hb4 u5
                  have hms : gk - 1 < gk := by omega
                  clear hm hat hch5 r5 u5 hb4 hbx4
                  go_wp2_with fail
                  go_roundg (gk - 1)
                  case measure => exact hms
                  case rel => exact ⟨HST5.out, hb5⟩
                · have hnone : (full nw nd)[t + 1]? = none := by rw [HCH.out.next, hm]
                  have HNO := Lib.hid (show GuessNo wo nd from none_near (by rw [HWL.out]; exact hn) hk (by rw [HWL.out]; exact hkn) fun j m hj => by
                    rw [HWL.out] at hj
                    refine HFAIL.out j m ?_ hj
                    have h1 := (List.getElem?_eq_some_iff.1 hj).1
                    have h2 := List.getElem?_eq_none_iff.1 hnone
                    omega)
                  have HST5 := Lib.hid (show ChSt wo nw nd (gk - 1) (.slice A5 n5 c5) (.bool false) W5 from .inr ⟨A5, n5, c5, rfl, rfl, HNO.out⟩)
                  have hb5 := below_to HG.out hb4 u5
                  have hms : gk - 1 < gk := by omega
                  clear hm hnone u5 hb4 hbx4
                  go_wp2_with fail
                  go_roundg (gk - 1)
                  case measure => exact hms
                  case rel => exact ⟨HST5.out, hb5⟩
        · have HNO := Lib.hid hno
          clear hno
          go_wp2_with fail
          go_ret3
          exact ⟨.inr ⟨HNO.out, rfl⟩, by rw [← HG.out]; exact hbr⟩
end Go.Proofs.Ytbbikkmmdedaiaa.Pr
