/- What lagrange.check and the reference's check compute. -/
import Derived.Test.YtbbikkmmdedaiaaLagZeros
set_option maxRecDepth 100000
namespace Go.Proofs.Ytbbikkmmdedaiaa.Pr
open Go.RowKit Go.Proofs.Ytbbikkmmdedaiaa.Gf Go.Proofs.Ytbbikkmmdedaiaa.Vec

/-- why points may not be -/
def chk (l m : List F) : Int := if l.length = m.length then (if l.Nodup then 0 else 8) else 16
theorem chk_unlike {l m : List F} (h : l.length ≠ m.length) : chk l m = 16 := by unfold chk; rw [if_neg h]
theorem chk_once {l m : List F} (h : l.length = m.length) (hd : l.Nodup) : chk l m = 0 := by unfold chk; rw [if_pos h, if_pos hd]
theorem chk_twice {l m : List F} (h : l.length = m.length) (hd : ¬ l.Nodup) : chk l m = 8 := by unfold chk; rw [if_pos h, if_neg hd]
theorem chk_zero {l m : List F} (h : chk l m = 0) : l.length = m.length ∧ l.Nodup := by
  unfold chk at h
  split at h
  · split at h
    · exact ⟨by assumption, by assumption⟩
    · cases h
  · cases h
theorem ret_i64 {a b : Int} (h : a = b) : Ending.returned (.int .i64 a) = .returned (.int .i64 b) := by rw [h]

/-- which bytes were seen -/
def marks (s : Nat → Bool) : Array Value := Array.ofFn fun j : Fin 256 => .bool (s j.val)
theorem marks_size (s : Nat → Bool) : (marks s).size = 256 := by simp [marks]
theorem marks_at (s : Nat → Bool) (j : Nat) (h : j < 256) : (marks s)[j]? = some (.bool (s j)) := by
  simp [marks, h]
theorem marks_set (s : Nat → Bool) (i : Nat) (b : Bool) : (marks s).setIfInBounds i (.bool b) = marks (fun j => if j = i then b else s j) := by
  apply Array.ext
  · simp [marks]
  · intro j h1 h2
    rw [Array.getElem_setIfInBounds (by simpa using h1)]
    simp only [marks, Array.getElem_ofFn]
    by_cases e : i = j
    · subst e; simp
    · rw [if_neg e, if_neg (Ne.symm e)]
def seen (l : List F) : Nat → Bool := fun j => (vals l).any (· == j)
theorem seen_nil : seen [] = fun _ => false := rfl
theorem seen_snoc (l : List F) (x : F) : seen (l ++ [x]) = fun j => if j = x.1 then true else seen l j := by
  funext j
  unfold seen
  rw [vals_snoc, List.any_append]
  by_cases e : j = x.1
  · rw [if_pos e, e]; simp
  · rw [if_neg e]
    have : (x.1 == j) = false := by simp; exact fun h => e h.symm
    simp [this]
theorem seen_mem (l : List F) (x : F) : seen l x.1 = true ↔ x ∈ l := by
  unfold seen vals
  simp only [List.any_map, List.any_eq_true, Function.comp, beq_iff_eq]
  constructor
  · rintro ⟨y, hy, e⟩
    rw [← F.ext e]; exact hy
  · exact fun h => ⟨x, h, rfl⟩
theorem nodup_snoc {l : List F} {x : F} : (l ++ [x]).Nodup ↔ l.Nodup ∧ x ∉ l := by
  rw [List.nodup_append]
  constructor
  · rintro ⟨h1, _, h3⟩
    exact ⟨h1, fun hx => h3 x hx x (by simp) rfl⟩
  · rintro ⟨h1, h2⟩
    exact ⟨h1, by simp, fun a ha b hb => by simp at hb; subst hb; exact fun e => h2 (e ▸ ha)⟩
theorem nodup_take {l : List F} (h : l.Nodup) (i : Nat) : (l.take i).Nodup := h.sublist (List.take_sublist i l)

theorem zero88 (W : World) : (zeroValue 88).run Try.prog W = .ok (.agg (marks fun _ => false)) W := by kernel_rfl

theorem check_row (A : Option Addr) (n c : Nat) (A2 : Option Addr) (n2 c2 : Nat) (l m : List F) (w : World) (h1 : RowAt w A n c l) (h2 : RowAt w A2 n2 c2 m) (hn : n ≤ 1000) :
    Calls Try.prog 69 #[.slice A n c, .slice A2 n2 c2] w fun e w' => e = .returned (.int .i64 (chk l m)) ∧ Below w.heap.size w w' := by
  by_cases hne : n = n2
  · subst hne
    have HLM := Lib.hid (h1.1.trans h2.1.symm)
    obtain ⟨g, hg⟩ : ∃ g, g = w.heap.size := ⟨_, rfl⟩
    have HG := Lib.hid hg
    have H1 := Lib.hid h1
    have HZ := zero88
    obtain ⟨W1, hW1⟩ : ∃ WX : World, WX = w.alloc (.cells (marks fun _ => false) 88) := ⟨_, rfl⟩
    have hbk : Blk W1 g 88 (marks (seen (l.take 0))) := by rw [hW1, hg]; exact Blk.new _ _ _
    have hb0 : Below g w W1 := by rw [hW1, hg]; exact (Below.refl _ _).alloc (Nat.le_refl _) _
    have HW1 := Lib.hid hW1
    obtain ⟨E, hE⟩ : ∃ E, E = chk l m := ⟨_, rfl⟩
    rw [← hE]
    have HE := Lib.hid hE
    clear hW1 hg h1 h2 hE
    go_enter Try.func69, Try.ntmps69
    go_wp2_with fail
    rw [← HW1.out, ← HG.out]
    clear HZ
    go_loopw [15] (fun v wr => ∃ i : Nat, i ≤ n ∧ v = .int .i64 i ∧ Blk wr g 88 (marks (seen (l.take i))) ∧ (l.take i).Nodup ∧ Below g w wr) (fun v _ => n - (intOf v).toNat)
    case atStart => exact ⟨0, by omega, rfl, hbk, List.nodup_nil, hb0⟩
    case round =>
      obtain ⟨i, hi, rfl, hk, hd, hb⟩ := hrel
      clear hbk hb0
      have HD := Lib.hid hd
      clear hd
      by_cases hlt : i < n
      · have hil : i < l.length := by rw [H1.out.1]; exact hlt
        obtain ⟨av, rfl, _, hc⟩ := (H1.out.on (by rw [← HG.out]; exact hb)).cell hlt
        obtain ⟨z, hz⟩ : ∃ z, z = (co l i).1 := ⟨_, rfl⟩
        have hz256 : z < 256 := by rw [hz]; exact (co l i).2
        rw [← hz] at hc
        obtain ⟨sb, hsb⟩ : ∃ sb, sb = seen (l.take i) z := ⟨_, rfl⟩
        have hcz : wr.cell? ⟨g, z, none⟩ = some (.bool sb) := by rw [hk.cell z, marks_at _ z hz256, hsb]
        have hfz := hk.frozen z
        have HK := Lib.hid (show Blk (wr.setCell ⟨g, z, none⟩ (.bool true)) g 88 (marks (seen (l.take (i + 1)))) by
          have h := hk.set_ z (.bool true)
          rw [marks_set] at h
          rw [take_co l i hil, seen_snoc, ← hz]
          exact h)
        have HI := Lib.hid hil
        cases sb with
        | true =>
          have HE2 := Lib.hid (show E = 8 by
            rw [HE.out]
            refine chk_twice HLM.out fun hnd => ?_
            have h3 := nodup_take hnd (i + 1)
            rw [take_co l i hil, nodup_snoc] at h3
            refine h3.2 ((seen_mem _ _).1 ?_)
            rw [← hz]; exact hsb.symm)
          clear hz hsb hk hil
          go_wp2_with fail
          go_ret
          exact ⟨ret_i64 HE2.out.symm, by rw [← HG.out]; exact hb⟩
        | false =>
          have HD2 := Lib.hid (show (l.take (i + 1)).Nodup by
            rw [take_co l i hil, nodup_snoc]
            refine ⟨HD.out, fun h => ?_⟩
            have := (seen_mem _ _).2 h
            rw [← hz, ← hsb] at this
            cases this)
          clear hz hsb hk hil
          go_wp2_with fail
          go_roundw
          case rel => exact ⟨i + 1, by omega, by go_num, HK.out, HD2.out, hb.setCell (p := ⟨g, z, none⟩) (Nat.le_refl _) _⟩
          case measure => simp [intOf]; omega
      · obtain rfl : i = n := by omega
        have HE2 := Lib.hid (show E = 0 by
          rw [HE.out]
          refine chk_once HLM.out ?_
          have := HD.out
          rwa [show l.take i = l from by rw [← H1.out.1]; exact List.take_length] at this)
        clear hk
        go_wp2_with fail
        go_ret
        exact ⟨ret_i64 HE2.out.symm, by rw [← HG.out]; exact hb⟩
  · have HE := Lib.hid (chk_unlike (l := l) (m := m) (by rw [h1.1, h2.1]; exact hne))
    have hb : (((n : Nat) : Int) != ((n2 : Nat) : Int)) = true := by simp; omega
    have hb2 : (((n : Nat) : Int) == ((n2 : Nat) : Int)) = false := by simp; omega
    clear h1 h2 hne
    go_enter Try.func69, Try.ntmps69
    go_wp2_with fail
    go_ret
    exact ⟨ret_i64 HE.out.symm, Below.refl _ _⟩

theorem ref_check_row (A : Option Addr) (n c : Nat) (A2 : Option Addr) (n2 c2 : Nat) (l m : List F) (w : World) (h1 : RowAt w A n c l) (h2 : RowAt w A2 n2 c2 m) (hn : n ≤ 1000) :
    Calls Try.prog 71 #[.slice A n c, .slice A2 n2 c2] w fun e w' => e = .returned (.int .i64 (chk l m)) ∧ Below w.heap.size w w' := by
  by_cases hne : n = n2
  · subst hne
    have HLM := Lib.hid (h1.1.trans h2.1.symm)
    have H1 := Lib.hid h1
    obtain ⟨E, hE⟩ : ∃ E, E = chk l m := ⟨_, rfl⟩
    rw [← hE]
    have HE := Lib.hid hE
    clear h1 h2 hE
    go_enter Try.func71, Try.ntmps71
    go_wp2_with fail
    go_loopw [5, 6] (fun v _ wr => ∃ i : Nat, i ≤ n ∧ v = .int .i64 i ∧ (l.take i).Nodup ∧ ∃ q, wr = w.drewN q) (fun v _ _ => n - (intOf v).toNat)
    case atStart => exact ⟨0, by omega, rfl, List.nodup_nil, 0, rfl⟩
    case round =>
      obtain ⟨i, hi, rfl, hd, q, hq⟩ := hrel
      have HD := Lib.hid hd
      have HQ := Lib.hid hq
      clear hd hq
      by_cases hlt : i < n
      · have HI := Lib.hid (show i < l.length by rw [H1.out.1]; exact hlt)
        go_wp2_with fail
        go_loopw [6] (fun v wr => ∃ k : Nat, k ≤ i ∧ v = .int .i64 k ∧ (∀ j, j < k → co l i ≠ co l j) ∧ ∃ q, wr = w.drewN q) (fun v _ => i - (intOf v).toNat)
        case atStart => exact ⟨0, by omega, rfl, fun j h => by omega, q, HQ.out⟩
        case round =>
          obtain ⟨k, hk, rfl, hj, q2, hq2⟩ := hrel
          have HJ := Lib.hid hj
          have HQ2 := Lib.hid hq2
          have hR : RowAt wr A n c l := by rw [hq2]; exact H1.out
          clear hj hq2
          by_cases hlt2 : k < i
          · have hkn : k < n := by omega
            obtain ⟨av, rfl, _, hc⟩ := hR.cell hlt
            obtain ⟨av', hav, _, hc2⟩ := hR.cell hkn
            injection hav with hav
            subst hav
            obtain ⟨y, hy⟩ : ∃ y, y = (co l i).1 := ⟨_, rfl⟩
            obtain ⟨z, hz⟩ : ∃ z, z = (co l k).1 := ⟨_, rfl⟩
            rw [← hy] at hc
            rw [← hz] at hc2
            by_cases he : y = z
            · have ht : ((y : Int) == (z : Int)) = true := by simp [he]
              have HE2 := Lib.hid (show E = 8 by
                rw [HE.out]
                refine chk_twice HLM.out fun hnd => ?_
                have := nodup_co hnd (by rw [H1.out.1]; exact hlt) (by rw [H1.out.1]; exact hkn) (F.ext (by rw [← hy, ← hz]; exact he))
                omega)
              clear hy hz hR he
              go_wp2_with fail
              go_quiet (fail)
              go_wp2_with fail
              go_ret
              exact ⟨ret_i64 HE2.out.symm, by rw [HQ2.out]; exact below_drewN (below_drewN (Below.refl _ _) _) _⟩
            · have ht : ((y : Int) == (z : Int)) = false := by simp; omega
              have HJ2 := Lib.hid (show ∀ j, j < k + 1 → co l i ≠ co l j from fun j hj => by
                by_cases e : j = k
                · subst e
                  intro h
                  exact he (by rw [hy, hz, h])
                · exact HJ.out j (by omega))
              clear hy hz hR he
              go_wp2_with fail
              go_quiet (fail)
              go_wp2_with fail
              go_roundw
              case rel => exact ⟨k + 1, by omega, by go_num, HJ2.out, q2 + _, by rw [HQ2.out, World.drewN_drewN]⟩
              case measure => simp [intOf]; omega
          · obtain rfl : k = i := by omega
            have HD2 := Lib.hid (show (l.take (k + 1)).Nodup by
              rw [take_co l k HI.out, nodup_snoc]
              refine ⟨HD.out, fun h => ?_⟩
              obtain ⟨j, hj, e⟩ := mem_co h
              rw [List.length_take] at hj
              have e2 : co (l.take k) j = co l j := by
                unfold co
                simp only [List.getD, List.getElem?_take]
                rw [if_pos (by omega)]
              rw [e2] at e
              exact HJ.out j (by omega) e.symm)
            clear hR
            go_wp2_with fail
            go_roundw
            case rel => exact ⟨k + 1, by omega, by go_num, HD2.out, q2, HQ2.out⟩
            case measure => simp [intOf]; omega
      · obtain rfl : i = n := by omega
        have HE2 := Lib.hid (show E = 0 by
          rw [HE.out]
          refine chk_once HLM.out ?_
          have := HD.out
          rwa [show l.take i = l from by rw [← H1.out.1]; exact List.take_length] at this)
        go_wp2_with fail
        go_ret
        exact ⟨ret_i64 HE2.out.symm, by rw [HQ.out]; exact below_drewN (Below.refl _ _) _⟩
  · have HE := Lib.hid (chk_unlike (l := l) (m := m) (by rw [h1.1, h2.1]; exact hne))
    have hb : (((n : Nat) : Int) != ((n2 : Nat) : Int)) = true := by simp; omega
    have hb2 : (((n : Nat) : Int) == ((n2 : Nat) : Int)) = false := by simp; omega
    clear h1 h2 hne
    go_enter Try.func71, Try.ntmps71
    go_wp2_with fail
    go_ret
    exact ⟨ret_i64 HE.out.symm, Below.refl _ _⟩
end Go.Proofs.Ytbbikkmmdedaiaa.Pr
