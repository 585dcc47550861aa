/- What report.named computes; no condition. -/
import Derived.Test.YtkmfcaaionmfoaaRptLine
set_option maxRecDepth 100000
namespace Go.Proofs.Ytkmfcaaionmfoaa.Rp
open Go.RowKit Go.Proofs.Ytkmfcaaionmfoaa.Sp

abbrev Fd := By × Int
def fv (d : Fd) : List Value := [.string (bsOf d.1), .int .i64 d.2]
def Fs (l : List Fd) : List Value := l.flatMap fv
def fd (l : List Fd) (i : Nat) : Fd := l.getD i ([], 0)
def RowF (w : World) (A : Option Addr) (n : Nat) (l : List Fd) : Prop := l.length = n ∧ Reads w w.heap.size 2 A n (Fs l)
theorem RowF.on {w w' : World} {A : Option Addr} {n : Nat} {l : List Fd} (h : RowF w A n l) (hb : Below w.heap.size w w') : RowF w' A n l :=
  ⟨h.1, (h.2.below hb).more hb.size⟩
theorem RowF.cell {w : World} {A : Option Addr} {n : Nat} {l : List Fd} (h : RowF w A n l) {i : Nat} (hi : i < n) :
    ∃ (ad q : Addr), A = some ad ∧ ad.add (i * 2) = q ∧ q.block < w.heap.size ∧ w.cell? q = some (.string (bsOf (fd l i).1)) ∧ w.cell? ⟨q.block, q.off + 1, none⟩ = some (.int .i64 (fd l i).2) := by
  obtain ⟨hl, hr⟩ := h
  obtain ⟨ad, e, hb, hc⟩ := hr.2 (by omega)
  have hil : i < l.length := by omega
  have hd : l[i]? = some (fd l i) := by simp [fd, List.getD, List.getElem?_eq_getElem hil]
  have hf := flat_at fv 2 (fun _ => rfl) l i
  refine ⟨ad, _, e, rfl, by rw [block_of_add]; exact hb, hc _ _ (hf 0 _ hd (by omega)), ?_⟩
  have := hc _ _ (hf 1 _ hd (by omega))
  rw [← add_of_add, add_one] at this
  exact this
/-- a field as text -/
def ft (d : Fd) : By := d.1 ++ [32] ++ dig d.2
theorem take_ft {l : List Fd} {i : Nat} (h : i < l.length) : (l.take (i + 1)).map ft = (l.take i).map ft ++ [ft (fd l i)] := by
  rw [List.take_succ_eq_append_getElem h, List.map_append]
  simp [fd, List.getD, List.getElem?_eq_getElem h]
theorem grown_cell {w w2 : World} {row : Option Nat} (h : w.grownBy w2 row) {p : Addr} {u : Value} (hc : w.cell? p = some u) (hne : some p.block ≠ row) : w2.cell? p = some u := by
  rw [World.cell?_of_block (h.block p.block (World.block_lt_of_cell? w p hc) hne)]
  exact hc
theorem below_cell {w w2 : World} (h : Below w.heap.size w w2) {p : Addr} {u : Value} (hc : w.cell? p = some u) : w2.cell? p = some u :=
  (h.cell (World.block_lt_of_cell? w p hc)).trans hc
theorem cell_keep {w : World} {p : Addr} {u : Value} (h : w.cell? p = some u) (o : Obj) : (w.alloc o).cell? p = some u := (World.cell?_alloc_lt _ _ _ (World.block_lt_of_cell? w p h)).trans h
def FdOk (d : Fd) : Prop := d.1.length ≤ 100 ∧ -9223372036854775808 < d.2 ∧ d.2 < 9223372036854775808
theorem ft_len {d : Fd} (h : FdOk d) : (ft d).length ≤ 200 := by
  unfold ft
  have := dig_len h.2.1 h.2.2
  have := h.1
  simp; omega

set_option maxHeartbeats 2000000 in
theorem named_row (A : Option Addr) (n c : Nat) (l : List Fd) (w : World) (hr : RowF w A n l) (h0 : 0 < n) (hn : n ≤ 1000) (hb : ∀ d ∈ l, FdOk d) :
    Calls Try.prog 29 #[.slice A n c] w fun e w' => e = .returned (.string (bsOf (Lib.join (l.map ft) [44, 32]))) ∧ Below w.heap.size w w' := by
  obtain ⟨E, hE⟩ : ∃ E, E = bsOf (Lib.join (l.map ft) [44, 32]) := ⟨_, rfl⟩
  rw [← hE]
  have HE := Lib.hid hE
  have HL := Lib.hid hr.1
  have HR := Lib.hid hr
  have HBD := Lib.hid hb
  obtain ⟨g, hg⟩ : ∃ g, g = w.heap.size := ⟨_, rfl⟩
  have HG := Lib.hid hg
  have hb0 : Below g w w := Below.refl _ _
  clear hE hr hb hg
  go_enter Try.func29, Try.ntmps29
  go_wp2_with fail
  go_loopw [3, 8] (fun va v wr => ∃ (i : Nat) (Aa : Option Addr) (ca : Nat), i ≤ n ∧ va = .slice Aa i ca ∧ v = .int .i64 i ∧ Own wr g 9 (.slice Aa i ca) (Ss ((l.take i).map ft)) ∧ Below g w wr) (fun _ v _ => n - (intOf v).toNat)
  case atStart => exact ⟨0, none, 0, by omega, rfl, rfl, Own.nil _ _ _, hb0⟩
  case round =>
    obtain ⟨i, Aa, ca, hi, rfl, rfl, ho, hb⟩ := hrel
    clear hb0
    have hgr : g ≤ wr.heap.size := by have := hb.size; have := HG.out; omega
    by_cases hlt : i < n
    · have hil := Lib.hid (show i < l.length by rw [HL.out]; exact hlt)
      obtain ⟨ad, q, had, hq, hqb, c0, c1⟩ := (HR.out.on (bel_on HG.out hb)).cell hlt
      obtain ⟨d, hd⟩ : ∃ d, d = fd l i := ⟨_, rfl⟩
      rw [← hd] at c0 c1
      have hdm : d ∈ l := by
        rw [hd]
        have h := hil.out
        simp [fd, List.getD, List.getElem?_eq_getElem h]
      have hok := HBD.out d hdm
      obtain ⟨x, hx⟩ : ∃ x, x = d.2 := ⟨_, rfl⟩
      rw [← hx] at c1
      have M := Lib.hid (fun w => digits_any x (by have := hok.2; omega) (by have := hok.2; omega) w)
      have hT : bsOf (ft d) = bsOf d.1 ++ ⟨#[32]⟩ ++ bsOf (dig x) := by
        show _ = bsOf d.1 ++ bsOf [32] ++ _
        rw [bsOf_app, bsOf_app, hx]; rfl
      have HS := Lib.hid (show Ss ((l.take (i + 1)).map ft) = Ss ((l.take i).map ft) ++ [.string (bsOf (ft d))] by rw [take_ft hil.out, Ss_snoc, hd])
      have HSL := Lib.hid (show (Ss ((l.take i).map ft)).length = i by rw [Ss_len, List.length_map, List.length_take, HL.out]; omega)
      have s1 : (bsOf d.1).size ≤ 100 := by rw [bsOf_size]; exact hok.1
      have s2 : (bsOf (dig x)).size ≤ 20 := by rw [bsOf_size]; exact dig_len (by have := hok.2; omega) (by have := hok.2; omega)
      generalize Ss ((l.take i).map ft) = S at ho HS HSL
      generalize bsOf (dig x) = X at M hT s2
      generalize bsOf d.1 = N0 at hT s1 c0
      generalize bsOf (ft d) = T2 at hT HS
      obtain ⟨T1, hT1⟩ : ∃ T1, N0 ++ (⟨#[32]⟩ : ByteArray) = T1 := ⟨_, rfl⟩
      have s3 : T1.size = N0.size + 1 := by rw [← hT1, ByteArray.size_append]; rfl
      rw [hT1] at hT
      have hT2 : T1 ++ X = T2 := hT.symm
      have z1 : ¬ 9223372036854775807 < N0.size + 1 := by omega
      have z1' : ¬ 9223372036854775807 < N0.size + (⟨#[32]⟩ : ByteArray).size := z1
      have z2 : ¬ 9223372036854775807 < T1.size + X.size := by omega
      have HLT := Lib.hid (ho.lt)
      subst had
      clear hd hdm hok hx hT s1 s2 s3
      go_wp2_with fail
      obtain ⟨b, hbw⟩ : ∃ b, b = wr.heap.size := ⟨_, rfl⟩
      obtain ⟨W0, hW0⟩ : ∃ W0, W0 = wr.alloc (.cells #[.string N0, .int .i64 x] 62) := ⟨_, rfl⟩
      have k0 : W0.cell? ⟨b, 0, none⟩ = some (.string N0) := by rw [hW0, hbw]; go_simp
      have k1 : W0.cell? ⟨b, 1, none⟩ = some (.int .i64 x) := by rw [hW0, hbw]; go_simp
      have ho0 : Own W0 g 9 (.slice Aa i ca) S := by rw [hW0]; exact ho.alloc _
      have hb0 : Below g w W0 := by rw [hW0]; exact hb.alloc hgr _
      have hgr0 : g ≤ W0.heap.size := by rw [hW0]; simp; omega
      have HNE := Lib.hid (show some b ≠ (Value.slice Aa i ca).ownBlock by
        intro h
        have := HLT.out b h.symm
        omega)
      rw [← hW0, ← hbw]
      clear ho hb hW0 hbw hgr c0 c1 hqb hq HLT
      go_region_held3 (fun w' => w'.cell? ⟨b, 0, none⟩ = some (.string N0) ∧ w'.cell? ⟨b, 1, none⟩ = some (.int .i64 x)) (first | go_keep | exact hS)
        (first
          | (go_simp; go_at_call 33; refine (M.out _).mono ?_; rintro e W1 ⟨rfl, b1⟩; have hS : W1.cell? ⟨b, 0, none⟩ = some (.string N0) ∧ W1.cell? ⟨b, 1, none⟩ = some (.int .i64 x) := ⟨below_cell b1 k0, below_cell b1 k1⟩; have ho1 := (Own.drew ho0).on' b1; have hb1 := hb0.drew.trans (b1.mono hgr0); have hgr1 : g ≤ W1.heap.size := (by have := b1.size; simp at this; omega))
          | (refine step_app1h (by rfl) (.tmp 12) (.tmp 20) 73 (by rfl) g 9 (.string ⟨#[]⟩) 16 Try.underlying73 info9 (by rfl) _ S (by rfl) (by exact ho1.alloc _) ⟨W1.heap.size, 0, none⟩ 1 (.string T2) (by rfl) (by go_simp) (by rfl) (by rw [HSL.out]; omega) (by rw [HSL.out]; omega) (by simp; omega) ?_; rw [HSL.out]; intro g2 cap w2 hown2 hbel2 hgr2 hge2 hlt2; have hS : w2.cell? ⟨b, 0, none⟩ = some (.string N0) ∧ w2.cell? ⟨b, 1, none⟩ = some (.int .i64 x) := ⟨grown_cell hgr2 (cell_keep hS.1 _) HNE.out, grown_cell hgr2 (cell_keep hS.2 _) HNE.out⟩))
      go_wp2_with fail
      go_roundw
      case rel => exact ⟨i + 1, some ⟨g2, 0, none⟩, cap, by omega, rfl, by go_num, by rw [HS.out]; exact hown2, (hb1.alloc hgr1 _).trans hbel2⟩
      case measure => simp [intOf]; omega
    · obtain rfl : i = n := by omega
      have e : (l.take i).map ft = l.map ft := by rw [← HL.out, List.take_length]
      rw [e] at ho
      have HJ := Lib.hid (join_call [44, 32] ho (by rw [List.length_map]; exact HL.out) h0 (by omega) (fun x hx => by
        obtain ⟨y, hy, rfl⟩ := List.mem_map.1 hx
        have := ft_len (HBD.out y hy)
        omega) (by simp))
      rw [← HE.out] at HJ
      go_wp2_with (go_at_call 34; refine (HJ.out).mono ?_; rintro e W1 ⟨rfl, b1⟩)
      go_ret
      exact ⟨rfl, by rw [← HG.out]; exact hb.trans (b1.mono hgr)⟩
end Go.Proofs.Ytkmfcaaionmfoaa.Rp
