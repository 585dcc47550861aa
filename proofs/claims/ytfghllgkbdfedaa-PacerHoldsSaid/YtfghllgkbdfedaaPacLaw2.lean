/- PacerHolds, walked: it returns true; no condition but that the arguments are of their kinds. -/
import Derived.Test.YtfghllgkbdfedaaPacLaw
import Derived.Test.YtfghllgkbdfedaaPacPlain2
import Derived.Test.YtfghllgkbdfedaaWords4
namespace Go.Proofs.Ytfghllgkbdfedaa.Pac
open Go.RowKit
set_option maxRecDepth 100000

/-- a row of pairs of bytes in memory -/
def bv (d : Nat × Nat) : List Value := [.int .u8 (d.1 : Int), .int .u8 (d.2 : Int)]
def Prs (w : World) (a : Option Addr) (len : Nat) (l : List (Nat × Nat)) : Prop := l.length = len ∧ Reads w w.heap.size 2 a len (l.flatMap bv) ∧ ∀ d ∈ l, d.1 < 256 ∧ d.2 < 256
theorem Prs.at_ {w : World} {a : Option Addr} {len k : Nat} {l : List (Nat × Nat)} (h : Prs w a len l) (hk : k < len) : ∃ (ad : Addr) (d : Nat × Nat) (q : Addr), a = some ad ∧ (d.1 < 256 ∧ d.2 < 256) ∧ ad.add (k * 2) = q ∧ q.block < w.heap.size ∧
    w.cell? q = some (.int .u8 (d.1 : Int)) ∧ w.cell? ⟨q.block, q.off + 1, none⟩ = some (.int .u8 (d.2 : Int)) := by
  obtain ⟨hl, hr, hb⟩ := h
  obtain ⟨ad, e, hbl, hc⟩ := hr.2 (by omega)
  have hd : l[k]? = some l[k] := List.getElem?_eq_getElem (by omega)
  have hf := flat_at bv 2 (fun _ => rfl) l k
  refine ⟨ad, l[k], _, e, hb _ (List.getElem_mem _), rfl, by rw [block_of_add]; exact hbl, hc _ _ (hf 0 _ hd (by omega)), ?_⟩
  have := hc _ _ (hf 1 _ hd (by omega))
  rw [← add_of_add, add_one] at this
  exact this
def I1 (ps : List (Int × Int)) : List Value := ps.map fun q => .int .i64 q.1
def I2 (ps : List (Int × Int)) : List Value := ps.map fun q => .int .i64 q.2
theorem I1_len (ps : List (Int × Int)) : (I1 ps).length = ps.length := by simp [I1]
theorem I2_len (ps : List (Int × Int)) : (I2 ps).length = ps.length := by simp [I2]
theorem I1_snoc (ps : List (Int × Int)) (a s : Int) : I1 (ps ++ [(a, s)]) = I1 ps ++ [.int .i64 a] := by simp [I1]
theorem I2_snoc (ps : List (Int × Int)) (a s : Int) : I2 (ps ++ [(a, s)]) = I2 ps ++ [.int .i64 s] := by simp [I2]
theorem info3 : (Try.prog.info? 3).map (fun i => (i.zero, i.size, i.bytes)) = some (some (.int .i64 0), 1, 8) := by kernel_rfl

set_option maxHeartbeats 4000000 in
theorem pacerHolds_walk (r m : Nat) (a2 : Option Addr) (len2 cap2 : Nat) (l : List (Nat × Nat)) (w : World) (hr : r < 256) (hm : m < 256) (hd : Prs w a2 len2 l) :
    Calls Try.prog 12 #[.int .u8 r, .int .u8 m, .slice a2 len2 cap2] w fun e w' => e = .returned (.bool true) ∧ Below w.heap.size w w' := by
  by_cases hl : 60 < len2
  · go_enter Try.func12, Try.ntmps12
    go_wp2_with (go_at_call 33; refine (awake_any _).mono ?_; rintro e w' ⟨rfl, hb⟩)
    go_ret
    exact ⟨rfl, hb⟩
  by_cases hr0 : r = 0
  · have e0 : ((r : Int) == 0) = true := by rw [beq_iff_eq]; omega
    clear hr0
    go_enter Try.func12, Try.ntmps12
    go_wp2_with (go_at_call 33; refine (awake_any _).mono ?_; rintro e w' ⟨rfl, hb⟩)
    go_ret
    exact ⟨rfl, hb⟩
  have e0 : ((r : Int) == 0) = false := by rw [beq_eq_false_iff_ne]; omega
  by_cases hm0 : m = 0
  · have e1 : ((m : Int) == 0) = true := by rw [beq_iff_eq]; omega
    clear hm0 hr0
    go_enter Try.func12, Try.ntmps12
    go_wp2_with (go_at_call 33; refine (awake_any _).mono ?_; rintro e w' ⟨rfl, hb⟩)
    go_ret
    exact ⟨rfl, hb⟩
  have e1 : ((m : Int) == 0) = false := by rw [beq_eq_false_iff_ne]; omega
  have hbad : ¬ newBad (r : Int) (m : Int) := by unfold newBad; omega
  have hok := new_is _ _ hbad
  have HNB := Lib.hid hbad
  have HST := Lib.hid (Hs.start hok)
  have hr1 : 1 ≤ r := by omega
  have hm1 : 1 ≤ m := by omega
  have d5 : decide (60 < (len2 : Int)) = false := by simp; omega
  clear hbad hr0 hm0
  go_enter Try.func12, Try.ntmps12
  go_wp2_with fail
  refine (new_ok _ _ _ HNB.out).mono ?_; rintro e w' ⟨rfl, rfl⟩
  obtain ⟨B, hB⟩ : ∃ B, B = w.heap.size := ⟨_, rfl⟩
  have hw0 := new_win (r : Int) (m : Int) w
  rw [← hB] at hw0 ⊢
  have hb0 : Below B w (w.alloc (.cells #[.int .i64 r, .int .i64 m, .int .i64 m, .int .i64 0] 89)) := by rw [hB]; exact (Below.refl _ _).alloc (Nat.le_refl _) _
  obtain ⟨W0, hW0⟩ : ∃ W0, W0 = w.alloc (.cells #[.int .i64 r, .int .i64 m, .int .i64 m, .int .i64 0] 89) := ⟨_, rfl⟩
  rw [← hW0] at hw0 hb0 ⊢
  have HB := Lib.hid hB
  clear hW0 hB
  go_wp2_with fail
  go_loopw [9, 10, 11, 12, 13] (fun v1 v2 nw sm i wr => ∃ (A1 A2 : Option Addr) (c1 c2 : Nat) (ps : List (Int × Int)) (p : P) (now sum : Int) (k : Nat), k ≤ len2 ∧ v1 = .slice A1 ps.length c1 ∧ v2 = .slice A2 ps.length c2 ∧ nw = .int .i64 now ∧ sm = .int .i64 sum ∧ i = .int .i64 k ∧
      Own wr B 3 (.slice A1 ps.length c1) (I1 ps) ∧ Own wr B 3 (.slice A2 ps.length c2) (I2 ps) ∧ Ap (.slice A1 ps.length c1) (.slice A2 ps.length c2) ∧ Pw wr B p ∧ Hs p now sum ps ∧ (p.rate = r ∧ p.most = m) ∧ (0 ≤ now ∧ now ≤ 8 * k) ∧ (0 ≤ sum ∧ sum ≤ 255 * k) ∧ ps.length ≤ k ∧ Below B w wr) (fun _ _ _ _ i _ => len2 - (intOf i).toNat)
  case atStart => exact ⟨none, none, 0, 0, [], ⟨r, m, m, 0⟩, 0, 0, 0, by omega, rfl, rfl, rfl, rfl, rfl, Own.nil _ _ _, Own.nil _ _ _, fun g h => by simp [Value.ownBlock] at h, hw0, HST.out, ⟨rfl, rfl⟩, by omega, by omega, by simp, hb0⟩
  case round =>
    obtain ⟨A1, A2, c1, c2, ps, p, now, sum, k, hk, rfl, rfl, rfl, rfl, rfl, ho1, ho2, hap, hpw, hhs, ⟨hpr, hpm⟩, ⟨hn0, hn1⟩, ⟨hs0, hs1⟩, hpl, hbel⟩ := hrel
    by_cases hkl : k < len2
    · obtain ⟨ad, ⟨x, y⟩, q, rfl, ⟨hx, hy⟩, hq, hqb, hc0, hc1⟩ := hd.at_ hkl
      rw [← HB.out] at hqb
      simp only at hx hy hc0 hc1
      have k0 := (hbel.cell (p := q) hqb).trans hc0
      have k1 := (hbel.cell (p := ⟨q.block, q.off + 1, none⟩) hqb).trans hc1
      obtain ⟨t, ht⟩ : ∃ t : Int, t = now + (x : Int) % 8 := ⟨_, rfl⟩
      have et : IntKind.i64.wrap (now + (x : Int) % 8) = t := by rw [IntWalk.i64_in _ (by omega)]; exact ht.symm
      have ht1 : now ≤ t := by omega
      have ht2 : t ≤ 8 * (k + 1 : Nat) := by omega
      have hon := hhs.on t ht1 (by unfold T; omega)
      have HON := Lib.hid hon
      have hpok := hhs.ok
      have HPR := Lib.hid (show (onP p t).rate = r ∧ (onP p t).most = m from ⟨hpr, hpm⟩)
      clear hon hhs ht hpr hpm hc0 hc1
      go_wp2_with fail
      refine (take_any B p (y : Int) t _ hpw hpok (by omega) (by omega) (by omega) (by omega)).mono ?_; rintro e w1 ⟨rfl, hp1, hg1⟩
      have hz0 : B ≤ wr.heap.size := Nat.le_of_lt (Blk.lt hpw)
      have hbel1 := below_of_grown hbel hg1 (Nat.le_refl _) hz0
      have ho1' := ho1.far hg1 hpw (by decide)
      have ho2' := ho2.far hg1 hpw (by decide)
      have hz1 : B < w1.heap.size := Blk.lt hp1
      clear ho1 ho2 hbel k0 k1
      obtain ⟨bT, hbT⟩ : ∃ bT, bT = takeB (onP p t) (y : Int) := ⟨_, rfl⟩
      rw [← hbT]
      cases bT with
      | true =>
        have hyl : 1 ≤ (y : Int) ∧ (y : Int) ≤ (onP p t).left := by
          have := hbT.symm; unfold takeB at this; simp at this; omega
        have hst : takeP p (y : Int) t = { onP p t with left := (onP p t).left - (y : Int) } := by unfold takeP; rw [← hbT]; simp
        have hHS := HON.out.take (y : Int) hyl.1 hyl.2
        rw [← hst] at hHS
        have HHS := Lib.hid hHS
        have HST2 := Lib.hid hst
        obtain ⟨s2, hs2⟩ : ∃ s2, s2 = sum + (y : Int) := ⟨_, rfl⟩
        have es : IntKind.i64.wrap (sum + (y : Int)) = s2 := by rw [IntWalk.i64_in _ (by omega)]; exact hs2.symm
        have hs3 : 0 ≤ s2 ∧ s2 ≤ 255 * (k + 1 : Nat) := by omega
        rw [← hs2] at hHS
        have HH := Lib.hid hHS
        clear hbT hyl hst hHS hs2
        go_wp2_with (first
          | (at_builtin; refine wpList_app1h _ rfl (.tmp 65) (.tmp 67) 69 rfl B 3 (.int .i64 0) 8 Try.underlying69 info3 rfl _ (I1 ps) rfl (ho1'.alloc _) ⟨w1.heap.size, 0, none⟩ 1 (.int .i64 t) rfl (by go_simp) rfl (by rw [I1_len]; omega) (by rw [I1_len]; omega) (by simp; omega) ?_; intro g3 cap3 w3 ho3 hbel3 hg3 hat3 hlt3; have ho2a := (ho2'.alloc (.cells #[.int .i64 t] 3)).ap hg3 hap.symm)
          | (at_builtin; refine wpList_app1h _ rfl (.tmp 69) (.tmp 71) 69 rfl B 3 (.int .i64 0) 8 Try.underlying69 info3 rfl _ (I2 ps) rfl (ho2a.alloc _) ⟨w3.heap.size, 0, none⟩ 1 (.int .i64 sum) rfl (by go_simp) rfl (by rw [I2_len]; omega) (by rw [I2_len]; omega) (by have := hbel3.size; simp at this ⊢; omega) ?_; intro g4 cap4 w4 ho4 hbel4 hg4 hat4 hlt4))
        have hap3 : Ap (.slice (some ⟨g3, 0, none⟩) ((I1 ps).length + 1) cap3) (.slice A2 ps.length c2) := by
          intro g hg h2
          have hg' : g3 = g := by simpa [Value.ownBlock] using hg
          subst hg'
          rcases hat3 with h | h
          · exact hap g3 h h2
          · have := ho2'.lt g3 h2
            simp at h; omega
        have ho1f := (ho3.alloc (.cells #[.int .i64 sum] 3)).ap hg4 hap3
        have hap4 : Ap (.slice (some ⟨g3, 0, none⟩) ((I1 ps).length + 1) cap3) (.slice (some ⟨g4, 0, none⟩) ((I2 ps).length + 1) cap4) := by
          intro g hg h2
          have hg' : g3 = g := by simpa [Value.ownBlock] using hg
          have h2' : g4 = g := by simpa [Value.ownBlock] using h2
          subst hg'
          subst h2'
          rcases hat4 with h | h
          · exact hap3 g4 (by simp [Value.ownBlock]) h
          · simp at h; omega
        have hp3 : Pw w3 B (takeP p (y : Int) t) := (Blk.alloc hp1 _).grown hg3 (fun e => own_blk_ne ho1' hp1 (by decide) e.symm)
        have hp4 : Pw w4 B (takeP p (y : Int) t) := (Blk.alloc hp3 _).grown hg4 (fun e => own_blk_ne ho2a hp3 (by decide) e.symm)
        have hbel4 : Below B w w4 := ((hbel1.alloc (by omega) _).trans hbel3).trans (((Below.refl B w3).alloc (by have := hbel3.size; simp at this; omega) _).trans hbel4)
        have hl1 : (I1 ps).length + 1 = ps.length + 1 := by rw [I1_len]
        have hl2 : (I2 ps).length + 1 = ps.length + 1 := by rw [I2_len]
        have ho1g : Own w4 B 3 (.slice (some ⟨g3, 0, none⟩) ((I1 ps).length + 1) cap3) (I1 (ps ++ [(t, sum)])) := by rw [I1_snoc]; exact ho1f
        have ho2g : Own w4 B 3 (.slice (some ⟨g4, 0, none⟩) ((I2 ps).length + 1) cap4) (I2 (ps ++ [(t, sum)])) := by rw [I2_snoc]; exact ho4
        have HMR := Lib.hid (show (takeP p (y : Int) t).rate = r ∧ (takeP p (y : Int) t).most = m by rw [HST2.out]; exact HPR.out)
        rw [hl1] at hap4 ho1g
        rw [hl2] at hap4 ho2g
        rw [hl1, hl2]
        clear hap3 ho1f hp3 hat3 hat4 hg3 hg4 hbel3 ho3 ho4 ho2a ho1' ho2' hp1 hg1 hbel1 hl1 hl2 HST2
        go_loopw [15] (fun i wx => ∃ j nq : Nat, j ≤ ps.length + 1 ∧ i = .int .i64 j ∧ wx = w4.drewN nq) (fun i _ => ps.length + 1 - (intOf i).toNat)
        case atStart => exact ⟨0, 0, by omega, rfl, rfl⟩
        case round =>
          obtain ⟨j, nq, hj, rfl, rfl⟩ := hrel
          by_cases hjl : j < ps.length + 1
          · obtain ⟨⟨aj, sj⟩, hmj⟩ : ∃ d, (ps ++ [(t, sum)])[j]? = some d := ⟨_, List.getElem?_eq_getElem (by simp; omega)⟩
            have z1 : w4.cell? ⟨g3, j, none⟩ = some (.int .i64 aj) := by
              rw [ho1g.cellAt j (by rw [I1_len]; simp; omega)]
              unfold I1; rw [List.getElem?_map, hmj]; rfl
            have z2 : w4.cell? ⟨g4, j, none⟩ = some (.int .i64 sj) := by
              rw [ho2g.cellAt j (by rw [I2_len]; simp; omega)]
              unfold I2; rw [List.getElem?_map, hmj]; rfl
            have hmem := List.mem_of_getElem? hmj
            have hch := HH.out.check aj sj hmem
            obtain ⟨_, i2, i3, i4, i5⟩ := HH.out.inv aj sj hmem
            rw [HMR.out.1, HMR.out.2] at hch
            obtain ⟨x1, hx1⟩ : ∃ x1, x1 = s2 - sj := ⟨_, rfl⟩
            have f1 : IntKind.i64.wrap (s2 - sj) = x1 := by rw [IntWalk.i64_in _ (by omega)]; exact hx1.symm
            obtain ⟨x2, hx2⟩ : ∃ x2, x2 = t - aj := ⟨_, rfl⟩
            have f2 : IntKind.i64.wrap (t - aj) = x2 := by rw [IntWalk.i64_in _ (by omega)]; exact hx2.symm
            obtain ⟨x3, hx3⟩ : ∃ x3, x3 = (r : Int) * x2 := ⟨_, rfl⟩
            have b0 : 0 ≤ x3 := by rw [hx3]; exact mul_nonneg (by omega) (by omega)
            have b1 : x3 ≤ 255 * 488 := by rw [hx3]; exact mul_le_of (by omega) (by omega) (by omega) (by omega)
            have f3 : IntKind.i64.wrap ((r : Int) * x2) = x3 := by rw [← hx3, IntWalk.i64_in _ (by omega)]
            obtain ⟨x4, hx4⟩ : ∃ x4, x4 = (m : Int) + x3 := ⟨_, rfl⟩
            have f4 : IntKind.i64.wrap ((m : Int) + x3) = x4 := by rw [IntWalk.i64_in _ (by omega)]; exact hx4.symm
            rw [← hx1, ← hx2, ← hx3, ← hx4] at hch
            have f5 : decide (x4 < x1) = false := by simp; exact hch
            have f6 : IntKind.i64.wrap (m : Int) = (m : Int) := IntWalk.i64_in _ (by omega)
            have f7 : IntKind.i64.wrap (r : Int) = (r : Int) := IntWalk.i64_in _ (by omega)
            have j1 : (0 : Int) ≤ (j : Int) := by omega
            have j2 : (j : Int) < ((ps.length + 1 : Nat) : Int) := by omega
            clear hx1 hx2 hx3 hx4 hmj hmem hch i2 i3 i4 i5 b0 b1
            go_wp2_with fail
            go_quiet (fail)
            go_wp2_with fail
            go_roundw
            case rel => exact ⟨j + 1, _, by omega, by go_num, rfl⟩
            case measure => simp [intOf]; omega
          · have hdj : decide (j < ps.length + 1) = false := by simp; omega
            go_wp2_with fail
            go_roundw
            case rel => exact ⟨some ⟨g3, 0, none⟩, some ⟨g4, 0, none⟩, cap3, cap4, ps ++ [(t, sum)], takeP p (y : Int) t, t, s2, k + 1, by omega, by simp, by simp, rfl, rfl, by go_num, by simpa using ho1g.drewN nq, by simpa using ho2g.drewN nq, by simpa using hap4, hp4.drewN nq, HH.out, HMR.out, ⟨by omega, ht2⟩, hs3, by simp; omega, below_drewN hbel4 nq⟩
            case measure => simp [intOf]; omega
      | false =>
        have hno : takeB (onP p t) (y : Int) = false := hbT.symm
        have hst : takeP p (y : Int) t = onP p t := by unfold takeP; rw [hno]; simp
        rw [hst] at hp1
        obtain ⟨hw, hlater, hwS⟩ := when_later HON.out (by omega) (y : Int) (by rw [HPR.out.2]; omega) hno
        rw [HPR.out.1, HPR.out.2] at hw hlater
        have HWS := Lib.hid hwS
        have hokp := HON.out.ok
        obtain ⟨z, hz⟩ : ∃ z, z = t + ticks (r : Int) ((y : Int) - (onP p t).left) := ⟨_, rfl⟩
        rw [← hz] at hw hlater
        have HZ := Lib.hid hlater
        by_cases hy1 : 1 ≤ (y : Int)
        · by_cases hym : (y : Int) ≤ m
          · rw [if_pos ⟨hy1, hym⟩] at hw
            have HW := Lib.hid hw
            have hzt := HZ.out hy1 hym
            have hd1 : decide (z ≤ t) = false := by simp; exact hzt
            have hd2 : decide ((y : Int) ≤ (m : Int)) = true := by simp; omega
            have hd3 : decide ((1 : Int) ≤ (y : Int)) = true := by simp; omega
            clear hbT hno hst hw hlater hwS hz
            go_wp2_with fail
            refine (when_is B (onP p t) (onP p t) (y : Int) t z true _ hp1 hokp (by omega) (by omega) (by omega) (by omega) HW.out HWS.out).mono ?_; rintro e w2 ⟨rfl, hp2, hg2⟩
            go_wp2_with fail
            go_roundw
            case rel => exact ⟨A1, A2, c1, c2, ps, onP p t, t, sum, k + 1, by omega, rfl, rfl, rfl, rfl, by go_num, ho1'.far hg2 hp1 (by decide), ho2'.far hg2 hp1 (by decide), hap, hp2, HON.out, HPR.out, ⟨by omega, ht2⟩, by omega, by omega, below_of_grown hbel1 hg2 (Nat.le_refl _) (by omega)⟩
            case measure => simp [intOf]; omega
          · rw [if_neg (fun h => hym h.2)] at hw
            have HW := Lib.hid hw
            have hd3 : decide ((1 : Int) ≤ (y : Int)) = true := by simp; omega
            have hd2 : decide (y ≤ m) = false := by simp; omega
            clear hbT hno hst hw hlater hwS hz
            go_wp2_with fail
            refine (when_is B (onP p t) (onP p t) (y : Int) t 0 false _ hp1 hokp (by omega) (by omega) (by omega) (by omega) HW.out HWS.out).mono ?_; rintro e w2 ⟨rfl, hp2, hg2⟩
            go_wp2_with fail
            go_roundw
            case rel => exact ⟨A1, A2, c1, c2, ps, onP p t, t, sum, k + 1, by omega, rfl, rfl, rfl, rfl, by go_num, ho1'.far hg2 hp1 (by decide), ho2'.far hg2 hp1 (by decide), hap, hp2, HON.out, HPR.out, ⟨by omega, ht2⟩, by omega, by omega, below_of_grown hbel1 hg2 (Nat.le_refl _) (by omega)⟩
            case measure => simp [intOf]; omega
        · rw [if_neg (fun h => hy1 h.1)] at hw
          have HW := Lib.hid hw
          have hd3 : decide ((1 : Int) ≤ (y : Int)) = false := by simp; omega
          clear hbT hno hst hw hlater hwS hz
          go_wp2_with fail
          refine (when_is B (onP p t) (onP p t) (y : Int) t 0 false _ hp1 hokp (by omega) (by omega) (by omega) (by omega) HW.out HWS.out).mono ?_; rintro e w2 ⟨rfl, hp2, hg2⟩
          go_wp2_with fail
          go_roundw
          case rel => exact ⟨A1, A2, c1, c2, ps, onP p t, t, sum, k + 1, by omega, rfl, rfl, rfl, rfl, by go_num, ho1'.far hg2 hp1 (by decide), ho2'.far hg2 hp1 (by decide), hap, hp2, HON.out, HPR.out, ⟨by omega, ht2⟩, by omega, by omega, below_of_grown hbel1 hg2 (Nat.le_refl _) (by omega)⟩
          case measure => simp [intOf]; omega
    · have hdd : decide (k < len2) = false := by simp; omega
      go_wp2_with fail
      refine (awake_any _).mono ?_; rintro e w' ⟨rfl, hb⟩
      go_wp2_with fail
      go_ret
      exact ⟨rfl, by rw [← HB.out]; exact hbel.trans (hb.mono (Nat.le_of_lt (Blk.lt hpw)))⟩
end Go.Proofs.Ytfghllgkbdfedaa.Pac
