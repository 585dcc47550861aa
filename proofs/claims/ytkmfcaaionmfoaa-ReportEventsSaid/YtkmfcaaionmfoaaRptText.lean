/- What report.Text computes; no condition. -/
import Derived.Test.YtkmfcaaionmfoaaRptEvent
set_option maxRecDepth 100000
namespace Go.Proofs.Ytkmfcaaionmfoaa.Rp
open Go.RowKit Go.Proofs.Ytkmfcaaionmfoaa.Sp

structure Ev where
  i0 : Int
  i1 : Int
  k0 : Int
  k1 : Int
  k2 : Int
  y1 : ByteArray
  a0 : Int
  y2 : ByteArray
  er : Int
  t0 : Int
  t1 : Int
def ev (d : Ev) : List Value := [.int .i64 d.i0, .int .i64 d.i1, .int .i64 d.k0, .int .i64 d.k1, .int .i64 d.k2, .string d.y1, .int .i64 d.a0, .string d.y2, .int .i64 d.er, .int .i64 d.t0, .int .i64 d.t1]
def Es (l : List Ev) : List Value := l.flatMap ev
def ev0 : Ev := ⟨0, 0, 0, 0, 0, ⟨#[]⟩, 0, ⟨#[]⟩, 0, 0, 0⟩
def evAt (l : List Ev) (i : Nat) : Ev := l.getD i ev0
def RowE (w : World) (A : Option Addr) (n : Nat) (l : List Ev) : Prop := l.length = n ∧ Reads w w.heap.size 11 A n (Es l)
theorem RowE.on {w w' : World} {A : Option Addr} {n : Nat} {l : List Ev} (h : RowE w A n l) (hb : Below w.heap.size w w') : RowE w' A n l :=
  ⟨h.1, (h.2.below hb).more hb.size⟩
theorem RowE.cell {w : World} {A : Option Addr} {n : Nat} {l : List Ev} (h : RowE w A n l) {i : Nat} (hi : i < n) :
    ∃ (ad q : Addr), A = some ad ∧ ad.add (i * 11) = q ∧ q.block < w.heap.size ∧ w.cell? q = some (.int .i64 (evAt l i).i0) ∧ w.cell? ⟨q.block, q.off + 1, none⟩ = some (.int .i64 (evAt l i).i1) ∧
      w.cell? ⟨q.block, q.off + 2, none⟩ = some (.int .i64 (evAt l i).k0) ∧ w.cell? ⟨q.block, q.off + 3, none⟩ = some (.int .i64 (evAt l i).k1) ∧ w.cell? ⟨q.block, q.off + 4, none⟩ = some (.int .i64 (evAt l i).k2) ∧
      w.cell? ⟨q.block, q.off + 5, none⟩ = some (.string (evAt l i).y1) ∧ w.cell? ⟨q.block, q.off + 6, none⟩ = some (.int .i64 (evAt l i).a0) ∧ w.cell? ⟨q.block, q.off + 7, none⟩ = some (.string (evAt l i).y2) ∧
      w.cell? ⟨q.block, q.off + 8, none⟩ = some (.int .i64 (evAt l i).er) ∧ w.cell? ⟨q.block, q.off + 9, none⟩ = some (.int .i64 (evAt l i).t0) ∧ w.cell? ⟨q.block, q.off + 10, none⟩ = some (.int .i64 (evAt l i).t1) := by
  obtain ⟨hl, hr⟩ := h
  obtain ⟨ad, e, hb, hc⟩ := hr.2 (by omega)
  have hil : i < l.length := by omega
  have hd : l[i]? = some (evAt l i) := by simp [evAt, List.getD, List.getElem?_eq_getElem hil]
  have hf := flat_at ev 11 (fun _ => rfl) l i
  have key : ∀ (r : Nat) (u : Value), 0 < r → r < 11 → (ev (evAt l i))[r]? = some u → w.cell? ⟨(ad.add (i * 11)).block, (ad.add (i * 11)).off + r, none⟩ = some u := by
    intro r u h0 hr11 hu
    have h1 := hc _ _ ((hf r _ hd (by omega)).trans hu)
    rw [← add_of_add] at h1
    have e2 : (ad.add (i * 11)).add r = ⟨(ad.add (i * 11)).block, (ad.add (i * 11)).off + r, none⟩ := by
      unfold Addr.add
      split
      · omega
      · rfl
    rw [e2] at h1
    exact h1
  refine ⟨ad, _, e, rfl, by rw [block_of_add]; exact hb, hc _ _ (hf 0 _ hd (by omega)), key 1 _ (by omega) (by omega) rfl, key 2 _ (by omega) (by omega) rfl, key 3 _ (by omega) (by omega) rfl, key 4 _ (by omega) (by omega) rfl, key 5 _ (by omega) (by omega) rfl, key 6 _ (by omega) (by omega) rfl, key 7 _ (by omega) (by omega) rfl, key 8 _ (by omega) (by omega) rfl, key 9 _ (by omega) (by omega) rfl, key 10 _ (by omega) (by omega) rfl⟩

/-- an event's text -/
def evT (d : Ev) : By := eTxt d.i0 d.i1 d.k0 d.k1 d.k2 d.y1 d.a0 d.y2 d.er d.t0 d.t1
def EvOk (d : Ev) : Prop := ∀ x ∈ eNs d.i0 d.i1 d.k0 d.k1 d.k2 d.y1 d.a0 d.y2 d.er d.t0 d.t1, -9223372036854775808 < x ∧ x < 9223372036854775808
theorem evT_len {d : Ev} (h : EvOk d) : (evT d).length ≤ 300 := by
  have h1 := join_len [32] 20 ((eNs d.i0 d.i1 d.k0 d.k1 d.k2 d.y1 d.a0 d.y2 d.er d.t0 d.t1).map dig) (fun x hx => by
    obtain ⟨y, hy, rfl⟩ := List.mem_map.1 hx
    exact dig_len (h y hy).1 (h y hy).2)
  refine Nat.le_trans h1 ?_
  rw [List.length_map]
  show 11 * (20 + 1) ≤ 300
  omega
def txt (l : List Ev) : By := l.flatMap fun d => evT d ++ [10]
theorem txt_take {l : List Ev} {i : Nat} (h : i < l.length) : txt (l.take (i + 1)) = txt (l.take i) ++ (evT (evAt l i) ++ [10]) := by
  rw [List.take_succ_eq_append_getElem h]
  unfold txt
  rw [List.flatMap_append]
  simp [evAt, List.getD, List.getElem?_eq_getElem h]
theorem txt_len {l : List Ev} (h : ∀ d ∈ l, EvOk d) : ∀ i, i ≤ l.length → (txt (l.take i)).length ≤ 301 * i := by
  intro i
  induction i with
  | zero => intro _; simp [txt]
  | succ i ih =>
    intro hi
    have hm : evAt l i ∈ l := by
      simp [evAt, List.getD, List.getElem?_eq_getElem (show i < l.length by omega)]
    have := evT_len (h _ hm)
    have := ih (by omega)
    rw [txt_take (by omega), List.length_append, List.length_append]
    simp; omega

theorem build_on {B b : Nat} {bs : List Value} {w w' : World} (h : Lib.IsBuilder 66 5 B b bs w) (hb : Below w.heap.size w w') : Lib.IsBuilder 66 5 B b bs w' := by
  have key : ∀ p, Lib.BuilderAt 66 5 B b p bs w → Lib.BuilderAt 66 5 B b p bs w' := by
    intro p hp
    have hlt := hp.lt
    obtain ⟨h1, v, h2, h3, h4⟩ := hp
    refine ⟨h1, v, by rw [hb.block b hlt]; exact h2, ?_, h4⟩
    exact h3.kept (row := none) ⟨hb.os, hb.tape, hb.output, hb.size, fun k hk _ => hb.block k hk⟩ (by
      cases v.ownBlock with
      | none => exact .inl rfl
      | some g => exact .inr (by simp))
  rcases h with h | h
  · exact .inl (key _ h)
  · exact .inr (key _ h)
theorem build_lt {B b : Nat} {bs : List Value} {w : World} (h : Lib.IsBuilder 66 5 B b bs w) : b < w.heap.size := by
  rcases h with h | h
  · exact h.lt
  · exact h.lt

set_option maxHeartbeats 2000000 in
theorem text_row (A : Option Addr) (n c : Nat) (l : List Ev) (w : World) (hr : RowE w A n l) (hn : n ≤ 1000) (hb : ∀ d ∈ l, EvOk d) :
    Calls Try.prog 24 #[.slice A n c] w fun e w' => e = .returned (.string (bsOf (txt l))) ∧ Below w.heap.size w w' := by
  obtain ⟨E, hE⟩ : ∃ E, E = bsOf (txt l) := ⟨_, rfl⟩
  rw [← hE]
  have HE := Lib.hid hE
  have HL := Lib.hid hr.1
  have HR := Lib.hid hr
  have HBD := Lib.hid hb
  obtain ⟨g, hg⟩ : ∃ g, g = w.heap.size := ⟨_, rfl⟩
  have HG := Lib.hid hg
  have HI0 := Lib.hid (show Lib.IsBuilder 66 5 g g (Lib.byteCells (txt (l.take 0))) (w.alloc (.cells #[.pointer none, .slice none 0 0] 66)) by rw [hg]; exact Lib.fresh_isBuilder 66 5 w)
  have hB0 : Below g w (w.alloc (.cells #[.pointer none, .slice none 0 0] 66)) := (Below.refl _ _).alloc (by omega) _
  clear hE hr hb
  go_enter Try.func24, Try.ntmps24
  go_wp2_with fail
  try rw [← hg]
  clear hg
  go_loopw [8] (fun v wr => ∃ (i : Nat), i ≤ n ∧ v = .int .i64 i ∧ Hid (Lib.IsBuilder 66 5 g g (Lib.byteCells (txt (l.take i))) wr) ∧ Below g w wr) (fun v _ => n - (intOf v).toNat)
  case atStart => exact ⟨0, by omega, rfl, HI0, hB0⟩
  case round =>
    obtain ⟨i, hi, rfl, hI, hb⟩ := hrel
    clear hB0
    have hgr : g ≤ wr.heap.size := by have := hb.size; have := HG.out; omega
    by_cases hlt : i < n
    · have hil := Lib.hid (show i < l.length by rw [HL.out]; exact hlt)
      obtain ⟨ad, q, had, hq, hqb, c0, c1, c2, c3, c4, c5, c6, c7, c8, c9, c10⟩ := (HR.out.on (bel_on HG.out hb)).cell hlt
      obtain ⟨d, hd⟩ : ∃ d, d = evAt l i := ⟨_, rfl⟩
      rw [← hd] at c0 c1 c2 c3 c4 c5 c6 c7 c8 c9 c10
      have hdm : d ∈ l := by
        rw [hd]
        have h := hil.out
        simp [evAt, List.getD, List.getElem?_eq_getElem h]
      have hok := HBD.out d hdm
      have hlen := evT_len hok
      have htl := txt_len HBD.out i (by have := HL.out; omega)
      have HT := Lib.hid (show txt (l.take (i + 1)) = txt (l.take i) ++ (evT d ++ [10]) by rw [txt_take hil.out, hd])
      have M := Lib.hid (fun w => event_row d.i0 d.i1 d.k0 d.k1 d.k2 d.y1 d.a0 d.y2 d.er d.t0 d.t1 w hok)
      obtain ⟨X, hX⟩ : ∃ X, X = bsOf (evT d) := ⟨_, rfl⟩
      have hXs : X.size ≤ 300 := by rw [hX, bsOf_size]; exact hlen
      obtain ⟨Y, hY⟩ : ∃ Y, X ++ (⟨#[10]⟩ : ByteArray) = Y := ⟨_, rfl⟩
      have hYe : Y = bsOf (evT d ++ [10]) := by
        rw [← hY, hX]
        show _ ++ bsOf [10] = _
        rw [bsOf_app]
      have z1 : ¬ 9223372036854775807 < X.size + 1 := by omega
      have z1' : ¬ 9223372036854775807 < X.size + (⟨#[10]⟩ : ByteArray).size := z1
      have hYs : Y.size ≤ 301 := by rw [hYe, bsOf_size, List.length_append]; simp; omega
      have HYC := Lib.hid (show Lib.byteCells (txt (l.take (i + 1))) = Lib.byteCells (txt (l.take i)) ++ Lib.strCells Y by rw [HT.out, Lib.byteCells_append, hYe, Lib.strCells_eq, bsOf_list])
      have HTL := Lib.hid (show (Lib.byteCells (txt (l.take i))).length + Y.size ≤ 140737488355328 by rw [Lib.byteCells_length]; omega)
      have hm : evT d = eTxt d.i0 d.i1 d.k0 d.k1 d.k2 d.y1 d.a0 d.y2 d.er d.t0 d.t1 := rfl
      rw [hm] at hX
      rw [← hX] at M
      have HI := hI
      generalize d.i0 = e0 at *
      generalize d.i1 = e1 at *
      generalize d.k0 = e2 at *
      generalize d.k1 = e3 at *
      generalize d.k2 = e4 at *
      generalize d.y1 = e5 at *
      generalize d.a0 = e6 at *
      generalize d.y2 = e7 at *
      generalize d.er = e8 at *
      generalize d.t0 = e9 at *
      generalize d.t1 = e10 at *
      subst had
      clear hd hdm hok hlen htl hX hXs hYe hYs hm HT hI
      go_wp2_with (first
        | (go_at_call 23; (with_reducible refine (M.out _).mono ?_); rintro e W1 ⟨rfl, b1⟩; have hW1 := bel_alloc (Below.refl _ wr) _ b1; have HI1 := build_on HI.out hW1; have hb1 := hb.trans (hW1.mono hgr); have hgr1 : g ≤ W1.heap.size := (by have := hW1.size; omega))
        | (go_at_call 31; (with_reducible refine (Sh.Builder_WriteString g g _ Y W1 HI1 HTL.out hgr1).mono ?_); rintro e W2 ⟨rfl, hB2, b2⟩))
      go_roundw
      case rel => exact ⟨i + 1, by omega, by go_num, Lib.hid (by rw [HYC.out]; exact .inr hB2), hb1.trans b2⟩
      case measure => simp [intOf]; omega
    · obtain rfl : i = n := by omega
      have e : l.take i = l := by rw [← HL.out, List.take_length]
      have HS := Lib.hid (Sh.Builder_String_any g g (txt (l.take i)) wr hI.out hgr)
      rw [e] at HS
      have hx : (⟨(txt l).toArray⟩ : ByteArray) = E := HE.out.symm
      rw [hx] at HS
      clear hx
      go_wp2_with (go_at_call 32; (with_reducible refine (HS.out).mono ?_); rintro e W1 ⟨rfl, b1⟩)
      go_ret
      exact ⟨rfl, by rw [← HG.out]; exact hb.trans b1⟩
end Go.Proofs.Ytkmfcaaionmfoaa.Rp
