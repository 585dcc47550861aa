/- What lagrange's parts and Through compute. -/
import Derived.Test.YtbbikkmmdedaiaaLagCheck
set_option maxRecDepth 100000
namespace Go.Proofs.Ytbbikkmmdedaiaa.Pr
open Go.RowKit Go.Proofs.Ytbbikkmmdedaiaa.Gf Go.Proofs.Ytbbikkmmdedaiaa.Vec

/-- what parts gives back: a closure over three cells -/
def PartsAt (w : World) (gA gX gY : Nat) (A : Option Addr) (n c : Nat) (A2 : Option Addr) (n2 c2 : Nat) (l m : List F) : Prop :=
  gA < w.heap.size ∧ gX < w.heap.size ∧ gY < w.heap.size ∧ w.cell? ⟨gX, 0, none⟩ = some (.slice A n c) ∧ w.cell? ⟨gY, 0, none⟩ = some (.slice A2 n2 c2) ∧ RowAt w A n c l ∧ RowAt w A2 n2 c2 m ∧
    ∃ Az nz cz, w.cell? ⟨gA, 0, none⟩ = some (.slice Az nz cz) ∧ RowAt w Az nz cz (zs l)
theorem PartsAt.on {w w' : World} {gA gX gY : Nat} {A : Option Addr} {n c : Nat} {A2 : Option Addr} {n2 c2 : Nat} {l m : List F} (h : PartsAt w gA gX gY A n c A2 n2 c2 l m) (hb : Below w.heap.size w w') : PartsAt w' gA gX gY A n c A2 n2 c2 l m := by
  obtain ⟨h1, h2, h3, h4, h5, h6, h7, Az, nz, cz, h8, h9⟩ := h
  have hs := hb.size
  exact ⟨by omega, by omega, by omega, (hb.cell (p := ⟨gX, 0, none⟩) h2).trans h4, (hb.cell (p := ⟨gY, 0, none⟩) h3).trans h5, h6.on hb, h7.on hb, Az, nz, cz, (hb.cell (p := ⟨gA, 0, none⟩) h1).trans h8, h9.on hb⟩
def clo (gA gX gY : Nat) : Value := .func (Fn.func 79) #[] #[.pointer (some ⟨gA, 0, none⟩), .pointer (some ⟨gX, 0, none⟩), .pointer (some ⟨gY, 0, none⟩)]
def PartsGv (A : Option Addr) (n c : Nat) (A2 : Option Addr) (n2 c2 : Nat) (l m : List F) (w : World) (e : Ending) (w' : World) : Prop :=
  ∃ gA gX gY, e = .returned (.func (Fn.func 79) #[] #[.pointer (some ⟨gA, 0, none⟩), .pointer (some ⟨gX, 0, none⟩), .pointer (some ⟨gY, 0, none⟩)]) ∧ PartsAt w' gA gX gY A n c A2 n2 c2 l m ∧ Below w.heap.size w w'

theorem parts_row (A : Option Addr) (n c : Nat) (A2 : Option Addr) (n2 c2 : Nat) (l m : List F) (w : World) (h1 : RowAt w A n c l) (h2 : RowAt w A2 n2 c2 m) (hn : n ≤ 1000) :
    Calls Try.prog 70 #[.slice A n c, .slice A2 n2 c2] w (PartsGv A n c A2 n2 c2 l m w) := by
  obtain ⟨W2, hW2⟩ : ∃ WX : World, WX = (w.alloc (.cells #[.slice A n c] 22)).alloc (.cells #[.slice A2 n2 c2] 22) := ⟨_, rfl⟩
  have hb : Below w.heap.size w W2 := by rw [hW2]; exact ((Below.refl _ _).alloc (Nat.le_refl _) _).alloc (by simp) _
  have hs : W2.heap.size = w.heap.size + 2 := by rw [hW2]; simp
  have hx : W2.cell? ⟨w.heap.size, 0, none⟩ = some (.slice A n c) := by rw [hW2]; simp
  have hy : W2.cell? ⟨w.heap.size + 1, 0, none⟩ = some (.slice A2 n2 c2) := by rw [hW2]; simp
  have r1 := h1.on hb
  have r2 := h2.on hb
  have HW2 := Lib.hid hW2
  have HX := Lib.hid hx
  have HY := Lib.hid hy
  have HS := Lib.hid hs
  clear hW2 hx hy hs h1 h2
  go_enter Try.func70, Try.ntmps70
  go_wp2_with fail
  rw [← HW2.out]
  refine (zeros_row _ _ _ l _ r1 (by omega)).mono ?_
  rintro e W3 ⟨Az, nz, cz, rfl, rz, uz⟩
  have r3 := r1.on uz
  have r4 := r2.on uz
  clear r1 r2
  go_wp2_with fail
  go_ret
  have hs2 := HS.out
  have hs3 := uz.size
  have hal : Below W3.heap.size W3 (W3.alloc (.cells #[.slice Az nz cz] 22)) := (Below.refl _ _).alloc (Nat.le_refl _) _
  refine ⟨W3.heap.size, w.heap.size, w.heap.size + 1, rfl, ⟨by simp, by simp; omega, by simp; omega, ?_, ?_, r3.on hal, r4.on hal, Az, nz, cz, by simp, rz.on hal⟩, below_chain (below_chain hb uz) hal⟩
  · exact ((hal.cell (p := ⟨w.heap.size, 0, none⟩) (by show w.heap.size < W3.heap.size; omega)).trans (uz.cell (p := ⟨w.heap.size, 0, none⟩) (by show w.heap.size < W2.heap.size; omega))).trans HX.out
  · exact ((hal.cell (p := ⟨w.heap.size + 1, 0, none⟩) (by show w.heap.size + 1 < W3.heap.size; omega)).trans (uz.cell (p := ⟨w.heap.size + 1, 0, none⟩) (by show w.heap.size + 1 < W2.heap.size; omega))).trans HY.out

/-- one of the parts -/
def PartOf (l m : List F) (i : Nat) (p : List F) : Prop := Trd p ∧ p.length ≤ l.length ∧ ∀ j, j < l.length → pe p (co l j) = if j = i then co m i else 0
theorem part_of {l m q r : List F} {i : Nat} (hd : l.Nodup) (hi : i < l.length) (hq : Qr (zs l) [co l i, 1] q r) : pe q (co l i) ≠ 0 ∧ PartOf l m i (pm q [co m i * F.inv (pe q (co l i))]) := by
  obtain ⟨h1, h2, h3⟩ := part_vals hd (co_mem hi) hq
  refine ⟨h3, pm_trd _ _, ?_, fun j hj => ?_⟩
  · have := pm_con_len q (co m i * F.inv (pe q (co l i)))
    omega
  · rw [pe_pm, pe_con]
    by_cases e : j = i
    · subst e
      rw [if_pos rfl, F.mul_comm (co m j), ← F.mul_assoc, F.mul_inv h3, F.one_mul]
    · rw [if_neg e, h2 _ (co_mem hj) (fun h => e (nodup_co hd hj hi h)), F.zero_mul]
def PartGv (l m : List F) (i : Nat) (w : World) (e : Ending) (w' : World) : Prop := ∃ p A n c, e = .returned (.slice A n c) ∧ PartOf l m i p ∧ RowAt w' A n c p ∧ Below w.heap.size w w'

set_option maxHeartbeats 400000 in
theorem part_row (gA gX gY : Nat) (A : Option Addr) (n c : Nat) (A2 : Option Addr) (n2 c2 : Nat) (l m : List F) (i : Nat) (w : World) (h : PartsAt w gA gX gY A n c A2 n2 c2 l m) (hd : l.Nodup) (hi : i < n) (hn : n ≤ 1000) (hn2 : n = n2) :
    Calls Try.prog 79 #[.int .i64 (i : Nat), .pointer (some ⟨gA, 0, none⟩), .pointer (some ⟨gX, 0, none⟩), .pointer (some ⟨gY, 0, none⟩)] w (PartGv l m i w) := by
  subst hn2
  have H := Lib.hid h
  obtain ⟨lA, lX, lY, cX, cY, r1, r2, Az, nz, cz, cA, rz⟩ := h
  have hil : i < l.length := by rw [r1.1]; exact hi
  obtain ⟨ax, hax, hxl, hcx⟩ := r1.cell hi
  obtain ⟨ay, hay, hyl, hcy⟩ := r2.cell hi
  subst hax hay
  obtain ⟨x, hx⟩ : ∃ x, x = (co l i).1 := ⟨_, rfl⟩
  obtain ⟨y, hy⟩ : ∃ y, y = (co m i).1 := ⟨_, rfl⟩
  rw [← hx] at hcx
  rw [← hy] at hcy
  obtain ⟨t2', u2', _⟩ := lit_step w [co l i, 1] #[.int .u8 (x : Nat), .int .u8 1] (by rw [hx]; rfl) 2 rfl
  have t2 : RowAt (w.alloc (.cells #[.int .u8 (x : Nat), .int .u8 1] 5)).drew (some ⟨w.heap.size, 0, none⟩) 2 2 [co l i, 1] := t2'
  have u2 : Below w.heap.size w (w.alloc (.cells #[.int .u8 (x : Nat), .int .u8 1] 5)).drew := u2'.drew
  have rz2 := rz.on u2
  clear t2' u2'
  have hnz : nz ≤ 1001 := by have h1 := rz.1; rw [zs_len, r1.1] at h1; omega
  have htr : tr [co l i, 1] ≠ [] := by rw [tr_lin]; simp
  have HX := Lib.hid hx
  have HY := Lib.hid hy
  have HI := Lib.hid hil
  have HD := Lib.hid hd
  have HTR := Lib.hid htr
  have HCX := Lib.hid hcx
  have HCA := Lib.hid cA
  have HCcX := Lib.hid cX
  clear hx hy hil htr r1 r2 rz hd
  go_enter Try.func79, Try.ntmps79
  go_wp2_with fail
  go_region_held3 (fun w' => w'.cell? ⟨gA, 0, none⟩ = some (Value.slice Az nz cz) ∧ w'.cell? ⟨gX, 0, none⟩ = some (Value.slice (some ax) n c) ∧ w'.cell? (ax.add i) = some (Value.int .u8 (x : Int))) (first | go_keep | exact hS)
    ((go_at_call 41; (with_reducible refine (div_row _ _ _ _ _ _ _ _ _ rz2 t2 (by omega) (by omega) HTR.out).mono ?_); rintro e W3 ⟨q, r, Aq, nq0, cq, Ar, nr, cr, rfl, hq, rq, rr, u3⟩; have hS : W3.cell? ⟨gA, 0, none⟩ = some (Value.slice Az nz cz) ∧ W3.cell? ⟨gX, 0, none⟩ = some (Value.slice (some ax) n c) ∧ W3.cell? (ax.add i) = some (Value.int .u8 (x : Int)) := ⟨((below_chain u2 u3).cell (p := ⟨gA, 0, none⟩) lA).trans HCA.out, ((below_chain u2 u3).cell (p := ⟨gX, 0, none⟩) lX).trans HCcX.out, ((below_chain u2 u3).cell hxl).trans HCX.out⟩))
  obtain ⟨hpe, hpart⟩ := part_of (l := l) (m := m) HD.out HI.out hq
  have HP := Lib.hid hpart
  have hb3 : Below w.heap.size w W3 := below_chain u2 u3
  have hcy3 : W3.cell? (ay.add i) = some (.int .u8 (y : Nat)) := (hb3.cell hyl).trans hcy
  have hcY3 : W3.cell? ⟨gY, 0, none⟩ = some (.slice (some ay) n c2) := (hb3.cell (p := ⟨gY, 0, none⟩) lY).trans cY
  obtain ⟨_, hcX3, hcx3⟩ := hS
  have hnq0 : nq0 ≤ 1000 := by have h1 := rq.1; have h2 := (part_vals HD.out (co_mem HI.out) hq).1; have h3 := H.out.2.2.2.2.2.1.1; omega
  obtain ⟨v0, hv0⟩ : ∃ v0, v0 = (pe q (co l i)).1 := ⟨_, rfl⟩
  obtain ⟨c0, hc0⟩ : ∃ c0, c0 = (co m i * F.inv (pe q (co l i))).1 := ⟨_, rfl⟩
  obtain ⟨xe, hxe⟩ : ∃ xe, xe = nought v0 := ⟨_, rfl⟩
  have M49 := Lib.hid (show ∀ k, Calls Try.prog 49 #[.slice Aq nq0 cq, .int .u8 (x : Nat)] (W3.drewN k) fun e w' => e = .returned (.int .u8 (v0 : Nat)) ∧ ∃ j, w' = (W3.drewN k).drewN j from fun k => by
    rw [HX.out, hv0]
    exact eval_row Aq nq0 cq q (co l i) (W3.drewN k) rq (by omega))
  have M30 := Lib.hid (show ∀ w, Calls Try.prog 30 #[.int .u8 (y : Nat), .int .u8 (v0 : Nat)] w fun e w' => e = .returned (.tuple #[.int .u8 (c0 : Nat), .int .i64 xe]) ∧ w = w' from
    div_at y v0 c0 xe (by rw [HY.out]; exact (co m i).2) (by rw [hv0]; exact (pe q (co l i)).2) (by rw [HY.out, hv0, hc0]; exact divv_inv hpe) hxe.symm)
  have HC0 := Lib.hid hc0
  clear hpe hpart hq rr u2 u3 rz2 t2 hcx hcy cX cY cA hv0 hc0 hxe
  go_wp2_with fail
  go_quiet ((first | (go_at_call 49; exact Calls.quiet_of (M49.out _)) | (go_at_call 30; exact Calls.quiet_of_same ((M30.out _).mono fun _ _ h => ⟨h.1, h.2.symm⟩))))
  obtain ⟨W4, hW4⟩ : ∃ W4, W4 = W3.drewN nq := ⟨_, rfl⟩
  rw [← hW4]
  have hb4 : Below w.heap.size w W4 := by rw [hW4]; exact below_drewN hb3 nq
  have rq4 : RowAt W4 Aq nq0 cq q := by rw [hW4]; exact rq
  clear hW4 hb3 rq hcy3 hcY3 hcX3 hcx3
  obtain ⟨t5, u5, _⟩ := lit_step W4 [co m i * F.inv (pe q (co l i))] #[.int .u8 (c0 : Nat)] (by rw [HC0.out]; rfl) 1 rfl
  obtain ⟨W5, hW5⟩ : ∃ W5, W5 = W4.alloc (.cells #[.int .u8 (c0 : Nat)] 5) := ⟨_, rfl⟩
  rw [← hW5] at t5 u5
  have HW5 := Lib.hid hW5
  have rq5 := rq4.on u5
  have hb5 := below_chain hb4 u5
  clear hW5 hb4 rq4 u5
  go_wp2_with fail
  rw [← HW5.out]
  refine (mul_row _ _ _ _ _ _ _ _ W5 rq5 t5 (by omega) (by omega)).mono ?_
  rintro e W6 ⟨A6, n6, c6, rfl, r6, u6⟩
  have hb6 := below_chain hb5 u6
  clear rq5 t5 u6 hb5
  go_wp2_with fail
  go_ret
  exact ⟨_, A6, n6, c6, rfl, HP.out, r6, hb6⟩
end Go.Proofs.Ytbbikkmmdedaiaa.Pr
