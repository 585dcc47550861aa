/- ReplayTakes, walked: it returns true; no condition but that the arguments are of their kinds. -/
import Derived.Test.YtfghllgkbdfedaaRepLaws
namespace Go.Proofs.Ytfghllgkbdfedaa.Rep
open Go.RowKit
set_option maxRecDepth 100000

theorem i64_of_wf {a : Int} (h : (Lit.int .i64 a).wf = true) : -9223372036854775808 ≤ a ∧ a ≤ 9223372036854775807 := by
  simpa [Lit.wf, IntKind.min, IntKind.max, IntKind.signed, IntKind.bits] using h
theorem u64_nat {a : Int} (h : (Lit.int .u64 a).wf = true) : 0 ≤ a ∧ a < 18446744073709551616 := by
  have hx : 0 ≤ a ∧ a ≤ 18446744073709551615 := by simpa [Lit.wf, IntKind.min, IntKind.max, IntKind.signed, IntKind.bits] using h
  omega
/-- the numbers of a row of words, as natural numbers -/
theorem row_nats {w : World} {a : Option Addr} {len cap : Nat} {zs : List Int} (h : IsRow .u64 w a len cap zs) : ∃ l : List Nat, l.length = len ∧ Reads w w.heap.size 1 a len (U64s l) ∧ ∀ x ∈ l, x < 18446744073709551616 := by
  obtain ⟨h1, _, h3⟩ := h.reads
  have hw := h.wf
  refine ⟨(zs.take len).map Int.toNat, by simpa using h3, ?_, ?_⟩
  · have e : U64s ((zs.take len).map Int.toNat) = (zs.take len).map (Value.int .u64) := by
      unfold U64s
      rw [List.map_map]
      apply List.map_congr_left
      intro n hn
      have := u64_nat (hw n (List.mem_of_mem_take hn))
      simp; omega
    rw [e]; exact h1
  · intro x hx
    obtain ⟨n, hn, rfl⟩ := List.mem_map.1 hx
    have := u64_nat (hw n (List.mem_of_mem_take hn))
    omega

theorem U64s_snoc (l : List Nat) (x : Nat) : U64s (l ++ [x]) = U64s l ++ [.int .u64 (x : Int)] := by simp [U64s]
theorem info30 : (Try.prog.info? 30).map (fun i => (i.zero, i.size, i.bytes)) = some (some (.int .u64 0), 1, 8) := by kernel_rfl

theorem replayTakes_walk (a0 : Int) (a1 : Option Addr) (len1 cap1 : Nat) (z1 : List Int) (w : World) (w0 : (Lit.int .i64 a0).wf = true) (w1 : IsRow .u64 w a1 len1 cap1 z1) :
    Calls Try.prog 9 #[.int .i64 a0, .slice a1 len1 cap1] w fun e w' => e = .returned (.bool true) ∧ Below w.heap.size w w' := by
  obtain ⟨h1, h2⟩ := i64_of_wf w0
  obtain ⟨l, hlen, hrd, hlt⟩ := row_nats w1
  clear w0 w1
  by_cases hl : 100 < len1
  · go_enter Try.func9, Try.ntmps9
    go_wp2_with (go_at_call 27; refine (awake_any _).mono ?_; rintro e w' ⟨rfl, hb⟩)
    go_ret
    exact ⟨rfl, hb⟩
  by_cases hbad : a0 < 1 ∨ 256 < a0
  · have HB := Lib.hid hbad
    rcases hbad with hbad | hbad
    · go_enter Try.func9, Try.ntmps9
      go_wp2_with fail
      refine (new_bad a0 _ HB.out).mono ?_; rintro e w' ⟨rfl, rfl⟩
      go_wp2_with (go_at_call 27; refine (awake_any _).mono ?_; rintro e w' ⟨rfl, hb⟩)
      go_ret
      exact ⟨rfl, hb⟩
    · go_enter Try.func9, Try.ntmps9
      go_wp2_with fail
      refine (new_bad a0 _ HB.out).mono ?_; rintro e w' ⟨rfl, rfl⟩
      go_wp2_with (go_at_call 27; refine (awake_any _).mono ?_; rintro e w' ⟨rfl, hb⟩)
      go_ret
      exact ⟨rfl, hb⟩
  obtain ⟨n, rfl⟩ := Int.eq_ofNat_of_zero_le (by omega : 0 ≤ a0)
  have hn1 : 1 ≤ n := by omega
  have hn2 : n ≤ 256 := by omega
  have HL := Lib.hid hlt
  have HLen := Lib.hid hlen
  have d1 : decide ((n : Int) < 1) = false := by simp; omega
  have d2 : decide (256 < (n : Int)) = false := by simp; omega
  have d3 : decide (100 < (len1 : Int)) = false := by simp; omega
  clear hbad h1 h2 hlt hlen
  go_enter Try.func9, Try.ntmps9
  go_wp2_with fail
  refine (new_ok n _ hn1 hn2).mono ?_; rintro e w' ⟨rfl, rfl⟩
  have hwin := new_win n w
  have hbel0 : Below w.heap.size w (w.alloc (.cells (winCells n none_ 0 false) 83)) := (Below.refl _ _).alloc (Nat.le_refl _) _
  obtain ⟨g, hg⟩ : ∃ g, g = w.heap.size := ⟨_, rfl⟩
  obtain ⟨w0, hw0⟩ : ∃ w0, w0 = w.alloc (.cells (winCells n none_ 0 false) 83) := ⟨_, rfl⟩
  have hs0 : g < w0.heap.size := by rw [hw0, hg]; simp
  rw [← hw0, ← hg]
  rw [← hw0, ← hg] at hwin
  rw [← hw0] at hbel0
  have hgB : w.heap.size ≤ g := by omega
  clear hg hw0
  go_wp2_with fail
  go_loopw [7, 8, 9] (fun v t i wr => ∃ (A : Option Addr) (c : Nat) (hv : List Nat) (s : St) (k : Nat), k ≤ len1 ∧ v = .slice A hv.length c ∧ t = .int .u64 s.top ∧ i = .int .i64 k ∧
      Own wr w.heap.size 30 (.slice A hv.length c) (U64s hv) ∧ Win wr g n s.m s.top s.sm ∧ Inv hv s ∧ hv.length ≤ k ∧ s.top < 18446744073709551616 ∧ Below w.heap.size w wr) (fun _ _ i _ => len1 - (intOf i).toNat)
  case atStart => exact ⟨none, 0, [], ⟨none_, 0, false⟩, 0, by omega, rfl, rfl, rfl, Own.nil _ _ _, hwin, Inv.start _, by simp, by simp, hbel0⟩
  case round =>
    obtain ⟨A, c, hv, s, k, hk, rfl, rfl, rfl, hown, hwn, hinv, hvk, hst, hbel⟩ := hrel
    by_cases hkl : k < len1
    · obtain ⟨ad, u, rfl, hadb, hu, hc⟩ := hrd.at_ hkl
      obtain ⟨rfl, hkl2⟩ := U64s_at hu
      obtain ⟨x, hx⟩ : ∃ x, x = l.getD k 0 := ⟨_, rfl⟩
      rw [← hx] at hc
      have hxl : x < 18446744073709551616 := HL.out x (by rw [hx, List.getD, List.getElem?_eq_getElem hkl2]; simp)
      have hadd : (ad.add k).block < w.heap.size := by rw [block_of_add]; exact hadb
      have hcr := (hbel.cell (p := ad.add k) hadd).trans hc
      have hreads : Reads wr wr.heap.size 1 A hv.length (U64s hv) := by have := hown.reads; rw [U64s_len] at this; exact this
      have HFQ := Lib.hid (fresh_eq hinv n x hn1 hn2)
      have HTI := Lib.hid (take_inv hinv n x hn1 hn2)
      have HTT := Lib.hid (take_top (s := s) n x (fun e => (hinv.none_ e).2))
      have HINV := Lib.hid hinv
      clear hu hx hinv hkl2
      go_wp2_with fail
      refine (freshL_any A c wr.heap.size hv s.top n x _ hreads (by omega) hn2 hst hxl).mono ?_; rintro e w' ⟨rfl, rfl⟩
      rw [← HFQ.out]
      go_wp2_with fail
      refine (fresh_any g n s.m s.top s.sm x _ hwn hn1 hn2 hst hxl).mono ?_; rintro e w' ⟨rfl, m, rfl⟩
      go_wp2_with fail
      refine (take_any g n x s _ (hwn.drewN m) hn1 hn2 hst hxl).mono ?_; rintro e w1 ⟨rfl, hw1, hg1⟩
      have hbel1 : Below w.heap.size w w1 := below_of_grown (below_drewN hbel m) hg1 hgB (by have := hbel.size; simpa using this)
      have hc1 := (hbel1.cell (p := ad.add k) hadd).trans hc
      have hown1 : Own w1 w.heap.size 30 (.slice A hv.length c) (U64s hv) := (hown.drewN m).far hg1 (hwn.drewN m) (by decide)
      have hsz1 := hbel1.size
      cases hb : freshP n s.m s.top s.sm x with
      | false =>
        have hT2 : (takeP n s x).top = s.top := by rw [HTT.out, if_neg (by rw [hb]; simp)]
        have hS2 : takeP n s x = s := by unfold takeP; rw [if_neg (by rw [hb]; simp)]
        have HS2 := Lib.hid hS2
        have HB := Lib.hid hb
        rw [hS2] at hw1
        clear hT2 HTI HTT hb hS2
        go_wp2_with fail
        refine (top_any g n _ _ _ _ hw1).mono ?_; rintro e w' ⟨rfl, rfl⟩
        go_wp2_with fail
        refine (fresh_any g n s.m s.top s.sm x _ hw1 hn1 hn2 hst hxl).mono ?_; rintro e w' ⟨rfl, m2, rfl⟩
        rw [HB.out]
        go_wp2_with fail
        go_roundw
        case rel => exact ⟨A, c, hv, s, k + 1, by omega, rfl, rfl, by go_num, hown1.drewN m2, hw1.drewN m2, HINV.out, by omega, hst, below_drewN hbel1 m2⟩
        case measure => simp [intOf]; omega
      | true =>
        have HI2 := HTI.out
        rw [if_pos hb] at HI2
        have HI3 := Lib.hid HI2
        have HB := Lib.hid hb
        have HNF := Lib.hid (take_no HI2 n x hn1 hn2 (by simp))
        have hTx : ((s.top < x ∧ (takeP n s x).top = x) ∨ (x ≤ s.top ∧ (takeP n s x).top = s.top)) := by
          have hT2 : (takeP n s x).top = max s.top x := by rw [HTT.out, if_pos hb]
          rw [hT2]; omega
        have hst2 : (takeP n s x).top < 18446744073709551616 := by omega
        clear HI2 HTI HTT hb
        rcases hTx with ⟨hm, hT⟩ | ⟨hm, hT⟩
        all_goals
          have HT2 := Lib.hid hT
          clear hT
          go_wp2_with (at_builtin; refine wpList_app1 _ rfl (.tmp 74) (.tmp 79) 41 rfl w.heap.size 30 (.int .u64 0) 8 Try.underlying41 info30 rfl _ (U64s hv) rfl (hown1.alloc _) ⟨w1.heap.size, 0, none⟩ 1 (.int .u64 x) rfl (by go_simp) rfl (by rw [U64s_len]; omega) (by rw [U64s_len]; omega) (by simp; omega) ?_; intro g2 cap w2 hown2 hbel2 hgr2 hge2 hlt2; have hbel3 := (hbel1.alloc hsz1 _).trans hbel2; have hc2 := (hbel3.cell (p := ad.add k) hadd).trans hc)
          have hw2 : Win w2 g n (takeP n s x).m (takeP n s x).top (takeP n s x).sm := Blk.grown (Blk.alloc hw1 _) hgr2 (fun e => own_blk_ne hown1 hw1 (by decide) e.symm)
          refine (top_any g n _ _ _ _ hw2).mono ?_; rintro e w' ⟨rfl, rfl⟩
          rw [HT2.out]
          go_wp2_with fail
          refine (fresh_any g n _ _ _ x _ hw2 hn1 hn2 hst2 hxl).mono ?_; rintro e w' ⟨rfl, m2, rfl⟩
          rw [HNF.out]
          go_wp2_with fail
          go_roundw
          case rel => exact ⟨some ⟨g2, 0, none⟩, cap, hv ++ [x], takeP n s x, k + 1, by omega, by simp [U64s_len], by rw [HT2.out], by go_num, by rw [U64s_snoc]; simpa [U64s_len] using hown2.drewN m2, hw2.drewN m2, HI3.out, by simp; omega, hst2, below_drewN hbel3 m2⟩
          case measure => simp [intOf]; omega
    · have hd : decide (k < len1) = false := by simp; omega
      go_wp2_with fail
      refine (awake_any _).mono ?_; rintro e w' ⟨rfl, hb⟩
      go_wp2_with fail
      go_ret
      exact ⟨rfl, hbel.trans (hb.mono hbel.size)⟩
end Go.Proofs.Ytfghllgkbdfedaa.Rep
