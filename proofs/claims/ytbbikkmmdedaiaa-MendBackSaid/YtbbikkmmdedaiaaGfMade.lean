/- What gf.made computes: the tables of powers and of logarithms. -/
import Derived.Test.YtbbikkmmdedaiaaGfWalk3
import Derived.Test.YtbbikkmmdedaiaaWords2
import Derived.Deep.MidRow
set_option maxRecDepth 100000
namespace Go.Proofs.Ytbbikkmmdedaiaa.Gf
open Go.RowKit

def tab (P L : Nat → Nat) : Array Value := Array.ofFn (n := 766) fun j => if j.val < 510 then .int .u8 (P j.val) else .int .i64 (L (j.val - 510))
def z0 : Nat → Nat := fun _ => 0
def upd (f : Nat → Nat) (i v : Nat) : Nat → Nat := fun j => if j = i then v else f j
theorem tab_size (P L : Nat → Nat) : (tab P L).size = 766 := by simp [tab]
theorem tab_pow (P L : Nat → Nat) (j : Nat) (h : j < 510) : (tab P L)[j]? = some (.int .u8 (P j)) := by
  rw [Array.getElem?_eq_getElem (by rw [tab_size]; omega)]
  simp only [tab, Array.getElem_ofFn]
  rw [if_pos h]
theorem tab_log (P L : Nat → Nat) (j : Nat) (h : j < 256) : (tab P L)[510 + j]? = some (.int .i64 (L j)) := by
  rw [Array.getElem?_eq_getElem (by rw [tab_size]; omega)]
  simp only [tab, Array.getElem_ofFn]
  rw [if_neg (by omega), show 510 + j - 510 = j by omega]
theorem tab_setp (P L : Nat → Nat) (i v : Nat) (h : i < 510) : (tab P L).setIfInBounds i (.int .u8 v) = tab (upd P i v) L := by
  apply Array.ext
  · simp [tab]
  · intro j h1 h2
    rw [Array.getElem_setIfInBounds (by simpa using h1)]
    simp only [tab, Array.getElem_ofFn]
    unfold upd
    by_cases e : i = j
    · subst e; simp [h]
    · rw [if_neg e, if_neg (Ne.symm e)]
theorem tab_setl (P L : Nat → Nat) (i v : Nat) (h : i < 256) : (tab P L).setIfInBounds (510 + i) (.int .i64 v) = tab P (upd L i v) := by
  apply Array.ext
  · simp [tab]
  · intro j h1 h2
    have h3 : j < 766 := by rw [tab_size] at h2; exact h2
    rw [Array.getElem_setIfInBounds (by simpa using h1)]
    simp only [tab, Array.getElem_ofFn]
    unfold upd
    by_cases e : 510 + i = j
    · subst e; rw [if_pos rfl, if_neg (by omega), if_pos (by omega)]
    · rw [if_neg e]
      by_cases e2 : j < 510
      · rw [if_pos e2, if_pos e2]
      · rw [if_neg e2, if_neg e2, if_neg (by omega)]
theorem zero76 (W : World) : (zeroValue 76).run Try.prog W = .ok (.agg (tab z0 z0)) W := by kernel_rfl

theorem u76 : ∃ d, Try.prog.underlying 76 = some d ∧ d.isRow = true := ⟨_, rfl, rfl⟩
theorem info76' (P L : Nat → Nat) : (Try.prog.info? 76).map (·.size) = some (tab P L).size := by rw [tab_size]; kernel_rfl
theorem info76 (P L : Nat → Nat) : (Try.prog.info? 76).map (·.size) = some (tab P L).toList.length := by
  rw [Array.length_toList]; exact info76' P L
theorem tab_list (P L : Nat → Nat) : Value.agg (tab P L).toList.toArray = Value.agg (tab P L) := by simp
theorem tab_one (P L : Nat → Nat) : (tab P L).all (·.oneCell') = true := by
  rw [Array.all_eq_true]
  intro i hi
  simp only [tab, Array.getElem_ofFn]
  split <;> rfl
theorem made_meas (k : Nat) (h : k < 255) : 255 - (intOf (Value.int .i64 ((k : Int) + 1))).toNat < 255 - (intOf (Value.int .i64 (k : Int))).toNat := by
  show 255 - ((k : Int) + 1).toNat < 255 - (k : Int).toNat
  omega
theorem made_step (B k : Nat) (P L : Nat → Nat) (X : Nat) (v : Int) (wr w : World) (hk : k < 255) (hX : X = pow2 k) (hXl : X < 256) (hv : v = (dbl X : Nat))
    (hP : ∀ j, j < k → P j = pow2 j ∧ P (255 + j) = pow2 j) (hL : ∀ j, j < k → L (pow2 j) = j) (h0 : Blk wr B 76 (tab z0 z0)) (h1 : Blk wr (B + 1) 76 (tab P L)) (hbe : Below B w wr) :
    ∃ (k_1 : Nat) (P L : Nat → Nat), k_1 ≤ 255 ∧ Value.int .u8 v = .int .u8 (pow2 k_1 : Nat) ∧ Value.int .i64 ((k : Int) + 1) = .int .i64 k_1 ∧ (∀ j, j < k_1 → P j = pow2 j ∧ P (255 + j) = pow2 j) ∧ (∀ j, j < k_1 → L (pow2 j) = j) ∧
      Blk (((wr.setCell ⟨B + 1, k, none⟩ (.int .u8 X)).setCell ⟨B + 1, k + 255, none⟩ (.int .u8 X)).setCell ⟨B + 1, 510 + X, none⟩ (.int .i64 k)) B 76 (tab z0 z0) ∧
      Blk (((wr.setCell ⟨B + 1, k, none⟩ (.int .u8 X)).setCell ⟨B + 1, k + 255, none⟩ (.int .u8 X)).setCell ⟨B + 1, 510 + X, none⟩ (.int .i64 k)) (B + 1) 76 (tab P L) ∧
      Below B w (((wr.setCell ⟨B + 1, k, none⟩ (.int .u8 X)).setCell ⟨B + 1, k + 255, none⟩ (.int .u8 X)).setCell ⟨B + 1, 510 + X, none⟩ (.int .i64 k)) := by
  refine ⟨k + 1, upd (upd P k X) (k + 255) X, upd L X k, by omega, ?_, ?_, ?_, ?_, ?_, ?_, ?_⟩
  · rw [hv, hX, pow2]
  · exact i64_eq (by omega)
  · intro j hj
    unfold upd
    by_cases e : j = k
    · subst e
      rw [if_neg (by omega), if_pos rfl, if_pos (by omega)]
      exact ⟨hX, hX⟩
    · obtain ⟨a, b⟩ := hP j (by omega)
      rw [if_neg (by omega), if_neg e, if_neg (by omega), if_neg (by omega)]
      exact ⟨a, b⟩
  · intro j hj
    unfold upd
    by_cases e : j = k
    · subst e
      rw [if_pos hX.symm]
    · rw [if_neg ?_]
      · exact hL j (by omega)
      · intro e2
        rw [hX] at e2
        have a := log_pow2 j (by omega)
        have b := log_pow2 k (by omega)
        rw [e2, b] at a
        exact e a.symm
  · exact ((h0.far (p := ⟨B + 1, k, none⟩) (by simp) _).far (p := ⟨B + 1, k + 255, none⟩) (by simp) _).far (p := ⟨B + 1, 510 + X, none⟩) (by simp) _
  · have := ((h1.set_ k (.int .u8 X)).set_ (k + 255) (.int .u8 X)).set_ (510 + X) (.int .i64 k)
    rw [tab_setp P L k X (by omega), tab_setp _ L (k + 255) X (by omega), tab_setl _ L X k hXl] at this
    exact this
  · exact ((hbe.setCell (p := ⟨B + 1, k, none⟩) (by simp) _).setCell (p := ⟨B + 1, k + 255, none⟩) (by simp) _).setCell (p := ⟨B + 1, 510 + X, none⟩) (by simp) _

theorem results_cell76 (B : Nat) (tmps : Array Value) (W : World) (v : Value) (ht : tmps.getD 0 undef = .pointer (some ⟨B, 0, none⟩)) (hl : (loadVar 76 ⟨B, 0, none⟩).run Try.prog W = .ok v W) :
    (results Try.f67 tmps).run Try.prog W = .ok v W := by
  unfold results
  simp only [Try.f67]
  have ht2 : tmps[0]?.getD undef = .pointer (some ⟨B, 0, none⟩) := by rw [← ht]; simp
  simp [ht2, asAddr, hl]
theorem made_back (B : Nat) (P L : Nat → Nat) (wr : World) (ht : wr.there B 0 (tab P L).size) :
    (loadVar 76 ⟨B, 0, none⟩).run Try.prog (wr.setCells B 0 (tab P L).toList) = .ok (.agg (tab P L)) (wr.setCells B 0 (tab P L).toList) := by
  obtain ⟨d, hu, hd⟩ := u76
  have h := run_loadVar_mid (P := Try.prog) (wr.setCells B 0 (tab P L).toList) B 0 76 (tab P L).toList d
    (World.rangeAt_setCells_same wr B 0 (tab P L).toList (by rw [Array.length_toList]; exact ht)) hu hd (info76 P L)
  rw [tab_list] at h
  exact h
theorem made_pow (P : Nat → Nat) (h : ∀ j, j < 255 → P j = pow2 j ∧ P (255 + j) = pow2 j) (j : Nat) (hj : j < 510) : P j = pow2 j := by
  by_cases e : j < 255
  · exact (h j e).1
  · have := (h (j - 255) (by omega)).2
    rw [show 255 + (j - 255) = j by omega] at this
    have e2 : (j - 255) % 255 = j % 255 := by omega
    have e3 := pow2_mod (j - 255)
    rw [e2, ← pow2_mod j] at e3
    exact this.trans e3
theorem below_setCells {w : World} (B b : Nat) (h : B ≤ b) : ∀ (vs : List Value) (o : Nat) (W : World), Below B w W → Below B w (W.setCells b o vs)
  | [], _, _, hb => hb
  | v :: r, o, W, hb => by
    rw [World.setCells]
    exact below_setCells B b h r (o + 1) _ (hb.setCell (p := ⟨b, o, none⟩) h v)

set_option maxHeartbeats 1000000 in
theorem made_any (w : World) :
    Calls Try.prog 67 #[] w fun e w' => (∃ P L, e = .returned (.agg (tab P L)) ∧ (∀ j, j < 510 → P j = pow2 j) ∧ (∀ j, j < 255 → L (pow2 j) = j)) ∧ Below w.heap.size w w' := by
  have hz := zero76
  go_enter Try.func67, Try.ntmps67
  go_wp2_with fail
  obtain ⟨B, hB⟩ : ∃ B, B = w.heap.size := ⟨_, rfl⟩
  have hb0 : Blk ((w.alloc (.cells (tab z0 z0) 76)).alloc (.cells (tab z0 z0) 76)) B 76 (tab z0 z0) := by
    rw [hB]; exact (Blk.new w 76 (tab z0 z0)).alloc _
  have hb1 : Blk ((w.alloc (.cells (tab z0 z0) 76)).alloc (.cells (tab z0 z0) 76)) (B + 1) 76 (tab z0 z0) := by
    have := Blk.new (w.alloc (.cells (tab z0 z0) 76)) 76 (tab z0 z0)
    rw [show (w.alloc (.cells (tab z0 z0) 76)).heap.size = B + 1 by rw [hB]; simp] at this
    exact this
  have hbl : Below B w ((w.alloc (.cells (tab z0 z0) 76)).alloc (.cells (tab z0 z0) 76)) := by
    rw [hB]; exact ((Below.refl _ w).alloc (Nat.le_refl _) _).alloc (by simp) _
  rw [← hB]
  revert hb0 hb1 hbl
  generalize (w.alloc (.cells (tab z0 z0) 76)).alloc (.cells (tab z0 z0) 76) = W0
  intro hb0 hb1 hbl
  have HB := Lib.hid hB
  clear hB hz
  go_loopw [2, 5] (fun x i wr => ∃ (k : Nat) (P L : Nat → Nat), k ≤ 255 ∧ x = .int .u8 (pow2 k : Nat) ∧ i = .int .i64 k ∧ (∀ j, j < k → P j = pow2 j ∧ P (255 + j) = pow2 j) ∧ (∀ j, j < k → L (pow2 j) = j) ∧
      Blk wr B 76 (tab z0 z0) ∧ Blk wr (B + 1) 76 (tab P L) ∧ Below B w wr) (fun _ i _ => 255 - (intOf i).toNat)
  case atStart => exact ⟨0, z0, z0, by omega, rfl, rfl, fun j hj => by omega, fun j hj => by omega, hb0, hb1, hbl⟩
  case round =>
    obtain ⟨k, P, L, hk, rfl, rfl, hP, hL, h0, h1, hbe⟩ := hrel
    have HP := Lib.hid hP
    have HL := Lib.hid hL
    clear hP hL hb0 hb1 hbl
    by_cases hlt : k < 255
    · obtain ⟨X, hX⟩ : ∃ X, X = pow2 k := ⟨_, rfl⟩
      have hXl : X < 256 := by rw [hX]; exact pow2_lt k
      rw [← hX]
      have HX := Lib.hid hX
      clear hX
      have f1 := Blk.frozen h1 k
      have f2 := Blk.frozen h1 (k + 255)
      have f3 := Blk.frozen h1 (510 + X)
      have c1 := (Blk.cell h1 k).trans (tab_pow P L k (by omega))
      have c2 := (Blk.cell h1 (k + 255)).trans (tab_pow P L (k + 255) (by omega))
      have c3 := (Blk.cell h1 (510 + X)).trans (tab_log P L X hXl)
      go_wp2_with fail
      · rename_i hc
        refine ⟨made_step B k P L X _ wr w hlt HX.out hXl (dbl_hi X ?_) HP.out HL.out h0 h1 hbe, made_meas k hlt⟩
        apply Classical.byContradiction
        intro hn
        rw [and128 X hXl, show X / 128 = 0 by omega] at hc
        exact absurd hc (by decide)
      · rename_i hc
        refine ⟨made_step B k P L X _ wr w hlt HX.out hXl (dbl_lo X ?_) HP.out HL.out h0 h1 hbe, made_meas k hlt⟩
        intro hn
        rw [and128 X hXl, show X / 128 = 1 by omega] at hc
        exact absurd hc (by decide)
    · obtain rfl : k = 255 := by omega
      have hr : wr.rangeAt (B + 1) 0 (tab P L).toList := by
        intro j v hv
        rw [Nat.zero_add, Blk.cell h1 j, ← hv]; simp
      have HR := Lib.hid hr
      have ht : wr.there B 0 (tab P L).size := by
        intro j hj
        rw [tab_size] at hj
        rw [Nat.zero_add]
        refine ⟨?_, Blk.frozen h0 j⟩
        rw [Blk.cell h0 j, Array.getElem?_eq_getElem (by rw [tab_size]; exact hj)]; rfl
      have HT := Lib.hid ht
      clear hr ht
      obtain ⟨d, hu, hd⟩ := u76
      have HU := Lib.hid hu
      have HD := Lib.hid hd
      clear hu hd
      go_wp2_with (first | (refine wpList_load_mid rfl 76 (.tmp 1) rfl (B + 1) 0 rfl (tab P L).toList d HR.out HU.out HD.out (info76 P L) ?_) | (refine wpList_store_mid rfl 76 (.tmp 0) (.tmp 30) rfl B 0 (tab P L) rfl (tab_list _ _) HT.out (info76' P L) (tab_one P L) ?_))
      have hl := made_back B P L wr HT.out
      refine bodyPost_ret (v := .agg (tab P L)) ?_ rfl ⟨⟨P, L, rfl, ?_, fun j hj => HL.out j hj⟩, ?_⟩
      · refine results_cell76 B _ _ _ ?_ hl
        rfl
      · intro j hj
        exact made_pow P HP.out j hj
      · rw [← HB.out]
        exact below_setCells B B (Nat.le_refl _) _ 0 wr hbe
end Go.Proofs.Ytbbikkmmdedaiaa.Gf
