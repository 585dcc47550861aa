/- What the reference's next computes; rows of integers of a call's own; no condition. -/
import Derived.Test.YtbbikkmmdedaiaaMendWalk2
import Derived.Test.YtbbikkmmdedaiaaMendPlain3
set_option maxRecDepth 100000
namespace Go.Proofs.Ytbbikkmmdedaiaa.Pr
open Go.RowKit Go.Proofs.Ytbbikkmmdedaiaa.Gf Go.Proofs.Ytbbikkmmdedaiaa.Vec

theorem info3 : (Try.prog.info? 3).map (fun i => (i.zero, i.size, i.bytes)) = some (some (.int .i64 0), 1, 8) := by kernel_rfl
def Is (l : List Nat) : List Value := l.map fun n : Nat => .int .i64 (n : Int)
theorem Is_len (l : List Nat) : (Is l).length = l.length := by simp [Is]
theorem Is_at {l : List Nat} {k : Nat} {u : Value} (h : (Is l)[k]? = some u) : u = .int .i64 ((l.getD k 0 : Nat) : Int) ∧ k < l.length := by
  simp only [Is, List.getElem?_map, Option.map_eq_some_iff] at h
  obtain ⟨n, h1, rfl⟩ := h
  have := (List.getElem?_eq_some_iff.1 h1)
  exact ⟨by simp [List.getD, h1], this.1⟩
theorem Is_get (l : List Nat) (i : Nat) (h : i < l.length) : (Is l)[i]? = some (.int .i64 ((l.getD i 0 : Nat) : Int)) := by
  simp [Is, List.getD, List.getElem?_eq_getElem h]
theorem Is_one (l : List Nat) : ∀ v ∈ Is l, v.oneCell' = true := by
  intro v hv
  obtain ⟨n, _, rfl⟩ := List.mem_map.1 hv
  rfl
theorem Is_snoc (l : List Nat) (x : Nat) : Is (l ++ [x]) = Is l ++ [.int .i64 (x : Int)] := by simp [Is]
/-- a slice of integers -/
def RowI (w : World) (A : Option Addr) (n c : Nat) (l : List Nat) : Prop := l.length = n ∧ n ≤ c ∧ Reads w w.heap.size 1 A n (Is l)
theorem RowI.on {w w' : World} {A : Option Addr} {n c : Nat} {l : List Nat} (h : RowI w A n c l) (hb : Below w.heap.size w w') : RowI w' A n c l :=
  ⟨h.1, h.2.1, Reads.on h.2.2 hb (Nat.le_refl _)⟩
theorem RowI.cell {w : World} {A : Option Addr} {n c : Nat} {l : List Nat} (h : RowI w A n c l) {i : Nat} (hi : i < n) :
    ∃ ad, A = some ad ∧ (ad.add i).block < w.heap.size ∧ w.cell? (ad.add i) = some (.int .i64 ((l.getD i 0 : Nat) : Int)) := by
  obtain ⟨ad, u, rfl, hb, hu, hc⟩ := h.2.2.at_ hi
  obtain ⟨rfl, _⟩ := Is_at hu
  exact ⟨ad, rfl, by rw [block_of_add]; exact hb, hc⟩
theorem own_rowI {w : World} {B : Nat} {A : Option Addr} {n c : Nat} {l : List Nat} (h : Own w B 3 (.slice A n c) (Is l)) (hl : l.length = n) : RowI w A n c l := by
  have h2 := h.reads
  rw [Is_len, hl] at h2
  refine ⟨hl, ?_, h2⟩
  rcases h.2 with ⟨hv, h0⟩ | ⟨g, cap, cur, hv, _, _, h1, _⟩
  · injection hv with _ h2 h3; omega
  · injection hv with _ h2 h3
    rw [Is_len, hl] at h1
    omega
/-- the first cells of a block hold the integers, and may be written -/
def CI (w : World) (g : Nat) (m : List Nat) : Prop := g < w.heap.size ∧ (∀ i, i < m.length → w.cell? ⟨g, i, none⟩ = some (.int .i64 ((m.getD i 0 : Nat) : Int))) ∧ ∀ i, w.frozen? ⟨g, i, none⟩ = false
theorem CI.set {w : World} {g : Nat} {m : List Nat} (h : CI w g m) (i v : Nat) (hi : i < m.length) : CI (w.setCell ⟨g, i, none⟩ (.int .i64 (v : Nat))) g (m.set i v) := by
  refine ⟨by simpa [World.setCell] using h.1, fun j hj => ?_, fun j => (World.frozen?_setCell _ _ _ _).trans (h.2.2 j)⟩
  rw [List.length_set] at hj
  rw [getD_set m i j v hi]
  by_cases e : j = i
  · subst e
    rw [if_pos rfl]
    exact World.cell?_setCell_same _ _ _ (h.2.1 j hj)
  · rw [if_neg e, World.cell?_setCell_other _ _ _ _ (fun h => e (by injection h with _ h2 _; exact h2.symm))]
    exact h.2.1 j hj
theorem CI.row {w : World} {g : Nat} {m : List Nat} (h : CI w g m) {n c : Nat} (hn : m.length = n) (hc : n ≤ c) : RowI w (some ⟨g, 0, none⟩) n c m := by
  subst hn
  refine ⟨rfl, hc, by rw [Is_len]; omega, fun _ => ⟨_, rfl, h.1, fun j u hu => ?_⟩⟩
  obtain ⟨rfl, hj⟩ := Is_at hu
  have e : (⟨g, 0, none⟩ : Addr).add j = ⟨g, j, none⟩ := by unfold Addr.add; split <;> simp_all
  rw [e]
  exact h.2.1 j hj
theorem own_ci {w : World} {B g n c : Nat} {m : List Nat} (h : Own w B 3 (.slice (some ⟨g, 0, none⟩) n c) (Is m)) (hn : m.length = n) : CI w g m := by
  unfold Own at h
  rw [Is_len, hn] at h
  refine ⟨Own.lt (B := B) (e := 3) (l := Is m) (by unfold Own; rw [Is_len, hn]; exact h) g rfl, fun i hi => ?_, fun i => h.frozenAt i⟩
  rw [h.cellAt i (by omega), Is_get _ i hi]
theorem app_formI {w1 : World} {g0 na : Nat} {v1 : Value} {a : List Nat} (h : w1.ownsRow g0 3 1 v1 (0 + na) ([] ++ Is a)) (hl : a.length = na) (hp : 0 < na) :
    ∃ g c1, v1 = .slice (some ⟨g, 0, none⟩) na c1 ∧ g0 ≤ g ∧ na ≤ c1 ∧ CI w1 g a := by
  rw [Nat.zero_add, List.nil_append] at h
  have h3 : Own w1 g0 3 v1 (Is a) := by unfold Own; rw [Is_len, hl]; exact h
  rcases h.2 with ⟨rfl, h0⟩ | ⟨g, cap, cur, rfl, hg, _, hc, _⟩
  · omega
  · exact ⟨g, cap, rfl, hg, hc, own_ci h3 hl⟩

open Nx
theorem fill_len (l : List Nat) (i : Nat) : ∀ j, (fill l i j).length = l.length
  | 0 => by simp [fill]
  | j + 1 => by simp [fill, fill_len l i j]
theorem fill_le (l : List Nat) (i b : Nat) (hb : ∀ m, l.getD m 0 ≤ b) (hi : i < l.length) : ∀ j, i + j < l.length → ∀ m, (fill l i j).getD m 0 ≤ b + 1 + j
  | 0, _, m => by
    show (l.set i (l.getD i 0 + 1)).getD m 0 ≤ _
    rw [getD_set l i m _ hi]
    have := hb m
    have := hb i
    split <;> omega
  | j + 1, hj, m => by
    show ((fill l i j).set (i + 1 + j) ((fill l i j).getD (i + j) 0 + 1)).getD m 0 ≤ _
    rw [getD_set _ _ m _ (by rw [fill_len]; omega)]
    have h1 := fill_le l i b hb hi j (by omega) m
    have h2 := fill_le l i b hb hi j (by omega) (i + j)
    split <;> omega

def NextYes (m : List Nat) (w : World) (e : Ending) (w' : World) : Prop := ∃ A n c, e = .returned (.tuple #[.slice A n c, .bool true]) ∧ RowI w' A n c m ∧ Below w.heap.size w w'
def NextNo (w : World) (e : Ending) (w' : World) : Prop := ∃ A n c, e = .returned (.tuple #[.slice A n c, .bool false]) ∧ Below w.heap.size w w'
def NextGv (o : Option (List Nat)) (w : World) (e : Ending) (w' : World) : Prop := (∃ m, o = some m ∧ NextYes m w e w') ∨ (o = none ∧ NextNo w e w')

set_option maxHeartbeats 400000 in
theorem next_row (A : Option Addr) (k c : Nat) (l : List Nat) (n : Nat) (w : World) (h1 : RowI w A k c l) (hk : 1 ≤ k) (hkn : k ≤ n) (hn : n ≤ 100) (hl : ∀ m, l.getD m 0 ≤ 100) :
    Calls Try.prog 77 #[.slice A k c, .int .i64 (n : Nat)] w (NextGv (nxt l n) w) := by
  obtain ⟨i0, hi0, hz0, hz1, hz2⟩ := info_parts info3
  obtain ⟨g0, hg0⟩ : ∃ g0, g0 = w.heap.size := ⟨_, rfl⟩
  have HG0 := Lib.hid hg0
  have H1 := Lib.hid h1
  have HL := Lib.hid hl
  have HLEN := Lib.hid h1.1
  have hi0' := Lib.hid hi0
  have hz0' := Lib.hid hz0
  have hz1' := Lib.hid hz1
  have hz2' := Lib.hid hz2
  have hgw : g0 ≤ w.heap.size := by omega
  obtain ⟨d, hd⟩ : ∃ d, d = n - k := ⟨_, rfl⟩
  have hdI : (n : Int) - (k : Int) = (d : Int) := by omega
  have HD := Lib.hid hd
  clear hg0 h1 hl hi0 hz0 hz1 hz2 hd
  go_enter Try.func77, Try.ntmps77
  go_wp2_with (at_builtin; refine wpList_append_any _ rfl (.tmp 9) (.tmp 10) 85 rfl g0 3 i0 _ 1 8 Try.underlying85 hi0'.out hz0'.out hz1'.out hz2'.out rfl (by omega) (.slice none 0 0) 0 [] rfl ⟨by simp, .inl ⟨rfl, rfl⟩⟩ w.heap.size A k c (Is l) rfl H1.out.2.2 (Is_one _) (by simp only [maxLen]; omega) (by omega) hgw ?_; intro v1 w1 hown1 hg1 hat1; obtain ⟨g, c1, rfl, hg0g, hkc, hci⟩ := app_formI hown1 HLEN.out (by omega); have hb1 : Below g0 w w1 := (Below.refl _ _).grown hg1 hgw (by simp [Value.ownBlock]); clear hown1 hg1 hat1)
  have HCI := Lib.hid hci
  have HB1 := Lib.hid hb1
  clear hci hb1
  go_loop [7] (fun v => ∃ t : Nat, t ≤ k ∧ v = .int .i64 ((t : Int) - 1) ∧ back l n t = back l n l.length) (fun v => (intOf v + 1).toNat)
  case atStart => exact ⟨k, Nat.le_refl _, rfl, by rw [HLEN.out]⟩
  case round =>
    obtain ⟨t, ht, rfl, hbk⟩ := hrel
    have HBK := Lib.hid hbk
    clear hbk
    cases t with
    | zero =>
      rw [show ((0 : Nat) : Int) - 1 = -1 from rfl]
      have HN := Lib.hid (show nxt l n = none by unfold nxt; rw [← HBK.out]; rfl)
      go_wp2_with fail
      go_ret2
      exact .inr ⟨HN.out, _, _, _, rfl, by rw [← HG0.out]; exact HB1.out⟩
    | succ s =>
      rw [show ((s + 1 : Nat) : Int) - 1 = (s : Int) by omega]
      have hsk : s < k := by omega
      obtain ⟨x, hx⟩ : ∃ x, x = l.getD s 0 := ⟨_, rfl⟩
      obtain ⟨u, hu⟩ : ∃ u, u = d + s := ⟨_, rfl⟩
      have huI : (d : Int) + (s : Int) = (u : Int) := by omega
      have hcx := HCI.out.2.1 s (by rw [HLEN.out]; exact hsk)
      rw [← hx] at hcx
      have hfx := HCI.out.2.2 s
      have hx100 : x ≤ 100 := by rw [hx]; exact HL.out s
      by_cases he : x = u
      · have ht1 : ((x : Int) == (u : Int)) = true := by simp [he]
        have HBK2 := Lib.hid (show back l n s = back l n l.length by
          rw [← HBK.out, back, if_pos (by rw [← hx, he, hu, HD.out, HLEN.out])])
        clear hx hu he
        go_wp2_with fail
        go_round
        case rel => exact ⟨s, by omega, rfl, HBK2.out⟩
        case measure => simp [intOf]
      · have ht1 : ((x : Int) == (u : Int)) = false := by simp; omega
        have HN := Lib.hid (show nxt l n = some (fill l s (k - s - 1)) by
          unfold nxt
          rw [← HBK.out, back, if_neg (by rw [← hx, HLEN.out, ← HD.out, ← hu]; exact he)]
          show some (fill l s (l.length - s - 1)) = _
          rw [HLEN.out])
        obtain ⟨y, hy⟩ : ∃ y, y = x + 1 := ⟨_, rfl⟩
        have hyI : (x : Int) + 1 = (y : Int) := by omega
        obtain ⟨W2, hW2⟩ : ∃ W2, W2 = w1.setCell ⟨g, s, none⟩ (.int .i64 (y : Nat)) := ⟨_, rfl⟩
        have hci2 : CI W2 g (fill l s 0) := by
          rw [hW2, hy, hx]
          exact HCI.out.set s _ (by rw [HLEN.out]; exact hsk)
        have hb2 : Below g0 w W2 := by rw [hW2]; exact HB1.out.setCell (p := ⟨g, s, none⟩) hg0g _
        have HW2 := Lib.hid hW2
        clear hx hu he hy hW2
        go_wp2_with fail
        rw [← HW2.out]
        clear hcx hfx ht1 hyI huI hdI
        go_loopw [8] (fun v wr => ∃ j : Nat, s + 1 + j ≤ k ∧ v = .int .i64 ((s : Int) + 1 + (j : Int)) ∧ CI wr g (fill l s j) ∧ Below g0 w wr) (fun v _ => (k - (intOf v)).toNat)
        case atStart => exact ⟨0, by omega, by simp, hci2, hb2⟩
        case round =>
          obtain ⟨j, hj, rfl, hci, hb⟩ := hrel
          clear hci2 hb2
          obtain ⟨a, ha⟩ : ∃ a, a = s + 1 + j := ⟨_, rfl⟩
          rw [show (s : Int) + 1 + (j : Int) = (a : Int) by omega]
          by_cases hlt : a < k
          · obtain ⟨b, hb0⟩ : ∃ b, b = s + j := ⟨_, rfl⟩
            have hbI : (a : Int) - 1 = (b : Int) := by omega
            obtain ⟨x2, hx2⟩ : ∃ x2, x2 = (fill l s j).getD b 0 := ⟨_, rfl⟩
            obtain ⟨z, hz⟩ : ∃ z, z = (fill l s j).getD a 0 := ⟨_, rfl⟩
            have hx2b : x2 ≤ 100 + 1 + j := by rw [hx2]; exact fill_le l s 100 HL.out (by rw [HLEN.out]; exact hsk) j (by rw [HLEN.out]; omega) b
            have hbk : b < k := by omega
            have cb := hci.2.1 b (by rw [fill_len, HLEN.out]; exact hbk)
            have ca := hci.2.1 a (by rw [fill_len, HLEN.out]; exact hlt)
            have fa := hci.2.2 a
            rw [← hx2] at cb
            rw [← hz] at ca
            obtain ⟨y2, hy2⟩ : ∃ y2, y2 = x2 + 1 := ⟨_, rfl⟩
            have hy2I : (x2 : Int) + 1 = (y2 : Int) := by omega
            have HC3 := Lib.hid (show CI (wr.setCell ⟨g, a, none⟩ (.int .i64 (y2 : Nat))) g (fill l s (j + 1)) by
              show CI _ g ((fill l s j).set (s + 1 + j) ((fill l s j).getD (s + j) 0 + 1))
              rw [← ha, ← hb0, ← hx2, ← hy2]
              exact hci.set a y2 (by rw [fill_len, HLEN.out]; exact hlt))
            have HA := Lib.hid ha
            clear ha hb0 hx2 hz hy2 hci
            go_wp2_with fail
            go_roundw
            case rel => exact ⟨j + 1, by have := HA.out; omega, by have := HA.out; go_num, HC3.out, hb.setCell (p := ⟨g, a, none⟩) hg0g _⟩
            case measure => simp [intOf]; omega
          · have hjk : j = k - s - 1 := by omega
            have hr := hci.row (n := k) (c := c1) (by rw [fill_len, HLEN.out]) hkc
            rw [hjk] at hr
            clear ha hjk hci
            go_wp2_with fail
            go_ret2
            exact .inl ⟨_, HN.out, _, _, _, rfl, hr, by rw [← HG0.out]; exact hb⟩
end Go.Proofs.Ytbbikkmmdedaiaa.Pr
