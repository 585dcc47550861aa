/-
  PROVED: 'lightshiplaw42.MendBack' returns true for every input, and each argument reads afterwards as it read before. No condition. (The frame follows the kit's proof-skeleton.mjs; a slice of arrays is opened by hand; three texts of ours are joined into this one.)
-/
import Derived.Test.YtbbikkmmdedaiaaWords2
import Derived.Deep.Slices
import Derived.Deep.Fields
import Derived.ChangeSame
import Derived.OpenShut
import Derived.Test.YtbbikkmmdedaiaaMendLaw1
import Derived.Test.YtbbikkmmdedaiaaRows
import Derived.WalkKit
import Derived.ProofKit
import Derived.ShutString
import Derived.ChangeOld
import Derived.Below

namespace Go.Proofs.Ytbbikkmmdedaiaa
open Go.RowKit Go.ChangeShapes Go.WideShapes Go.Deep
/-! K -/
section
variable {H : Type} {enc : TypeId × Value → H} {P : Program} {w : World} {base : Nat} {spare : Nat → Bool} {held : Bool}
theorem open_slice_fields {t e : TypeId} {fs : Array Field} {fuel : Nat} {cs : List Value} {x : DataW H × List MemPlace} (ht : P.underlying t = some (.slice e)) (he : P.underlying e = some (.struct fs))
    (hone : oneCellFields P fs = true) (hC : P.cellsOf e = fs.size) (h : DataW.trod enc P w base spare held fuel t cs = some x) :
    (cs = [.slice none 0 0] ∧ x = (.nil, [])) ∨
    ∃ (a : Addr) (len cap m : Nat) (D : Nat → DataW H) (Pl : Nat → List MemPlace), cs = [.slice (some a) len cap] ∧ base ≤ a.block ∧ len ≤ cap ∧ cap ≤ maxLen ∧ m = (if spare a.block then cap else len) ∧
      x = (.slice ((List.range len).map D) ((List.range (m - len)).map fun j => D (len + j)), MemPlace.row a (m * fs.size) ++ (List.range m).flatMap Pl) ∧
      ∀ i, i < m → ∃ (ys : List (DataW H × List MemPlace)) (n : Nat), D i = .agg (ys.map (·.1)) ∧ Pl i = ys.flatMap (·.2) ∧ ys.length = fs.size ∧
        ∀ (j : Nat) (f : Field), fs[j]? = some f → ∃ (v : Value) (y : DataW H × List MemPlace), w.cell? (a.add (i * fs.size + j)) = some v ∧ ys[j]? = some y ∧ DataW.trod enc P w base spare held n f.type [v] = some y := by
  rcases open_slice ht h with h0 | ⟨a, len, cap, m, n, D, Pl, hcs, hb, hl, hm, hmm, hx, hi⟩
  · exact .inl h0
  · refine .inr ⟨a, len, cap, m, D, Pl, hcs, hb, hl, hm, hmm, by rw [hC] at hx; exact hx, fun i him => ?_⟩
    obtain ⟨cs', hc, ht'⟩ := hi i him
    rw [hC] at hc
    obtain ⟨ys, n', hn', hy, hlen, hyl, hf⟩ := DataW.trod_struct he ht'
    obtain ⟨_, hcl, hat⟩ := World.cells?_some hc
    simp only [Prod.mk.injEq] at hy
    refine ⟨ys, n', hy.1, hy.2, hyl, fun j f hj => ?_⟩
    obtain ⟨ho, hk⟩ := hone_of hone j f hj
    have hjl : j < fs.size := (Array.getElem?_eq_some_iff.1 hj).1
    have hcell := hat j hjl
    have hv : cs'[j]? = some (cs'[j]'(by omega)) := List.getElem?_eq_getElem (by omega)
    have h1 := hf j f hj
    rw [ho, hk] at h1
    have hone' : (cs'.drop j).take 1 = [cs'[j]'(by omega)] := by
      rw [List.drop_eq_getElem_cons (by omega)]
      rfl
    rw [hone'] at h1
    have hys : ys[j]? = some (ys[j]'(by omega)) := List.getElem?_eq_getElem (by omega)
    refine ⟨_, _, ?_, hys, h1.trans hys⟩
    rw [← Go.Deep.add_add, hcell, hv]
end

/-! Of our own -/
theorem list_of {α : Type} (P : Nat → α → Prop) : ∀ (n : Nat), (∀ i, i < n → ∃ d, P i d) → ∃ l : List α, l.length = n ∧ ∀ i d, l[i]? = some d → P i d := by
  intro n
  induction n with
  | zero => intro _; exact ⟨[], rfl, fun i d h => by simp at h⟩
  | succ n ih =>
    intro h
    obtain ⟨l, hl, hp⟩ := ih (fun i hi => h i (by omega))
    obtain ⟨d, hd⟩ := h n (by omega)
    refine ⟨l ++ [d], by simp [hl], fun i e he => ?_⟩
    by_cases hi : i < l.length
    · rw [List.getElem?_append_left hi] at he
      exact hp i e he
    · rw [List.getElem?_append_right (by omega)] at he
      have h0 : i - l.length = 0 := by
        have := (List.getElem?_eq_some_iff.1 he).1
        simp at this; omega
      rw [h0] at he
      simp at he
      subst he
      rw [show i = n by omega]
      exact hd
theorem flat_at {α β : Type} (f : α → List β) (m : Nat) (hf : ∀ x, (f x).length = m) : ∀ (l : List α) (k j : Nat) (d : α), l[k]? = some d → j < m → (l.flatMap f)[k * m + j]? = (f d)[j]? := by
  intro l
  induction l with
  | nil => intro k j d h; simp at h
  | cons x l ih =>
    intro k j d h hj
    rw [List.flatMap_cons]
    cases k with
    | zero =>
      simp at h; subst h
      rw [Nat.zero_mul, Nat.zero_add, List.getElem?_append_left (by rw [hf]; exact hj)]
    | succ k =>
      rw [List.getElem?_append_right (by rw [hf, Nat.succ_mul]; omega), hf, show (k + 1) * m + j - m = k * m + j by rw [Nat.succ_mul]; omega]
      exact ih k j d (by simpa using h) hj
theorem flat_get {α β : Type} (f : α → List β) (m : Nat) (hf : ∀ x, (f x).length = m) : ∀ (l : List α) (j : Nat) (u : β), (l.flatMap f)[j]? = some u → ∃ k r d, j = k * m + r ∧ r < m ∧ l[k]? = some d ∧ (f d)[r]? = some u := by
  intro l
  induction l with
  | nil => intro j u h; simp at h
  | cons x l ih =>
    intro j u h
    rw [List.flatMap_cons] at h
    by_cases hj : j < m
    · rw [List.getElem?_append_left (by rw [hf]; exact hj)] at h
      exact ⟨0, j, x, by omega, hj, by simp, h⟩
    · rw [List.getElem?_append_right (by rw [hf]; omega), hf] at h
      obtain ⟨k, r, d, h1, h2, h3, h4⟩ := ih _ _ h
      exact ⟨k + 1, r, d, by rw [Nat.succ_mul]; omega, h2, by simpa using h3, h4⟩
theorem flat_len {α β : Type} (f : α → List β) (m : Nat) (hf : ∀ x, (f x).length = m) (l : List α) : (l.flatMap f).length = l.length * m := by
  induction l with
  | nil => simp
  | cons x l ih => rw [List.flatMap_cons, List.length_append, hf, ih, List.length_cons, Nat.succ_mul]; omega
/-- out of the elements' cells -/
theorem reads_of {α : Type} (f : α → List Value) (m : Nat) (hm : 0 < m) (hf : ∀ x, (f x).length = m) {w : World} (x : Addr) (l : List α) (h : ∀ i d, l[i]? = some d → ∀ r u, (f d)[r]? = some u → w.cell? (x.add (i * m + r)) = some u) :
    Reads w w.heap.size m (some x) l.length (l.flatMap f) := by
  refine ⟨flat_len f m hf l, fun hn => ⟨x, rfl, ?_, fun j u hu => ?_⟩⟩
  · have hd : l[0]? = some l[0] := List.getElem?_eq_getElem hn
    have hl := hf l[0]
    have := h 0 _ hd 0 _ (List.getElem?_eq_getElem (show 0 < (f l[0]).length by omega))
    have := cell_lt this
    rw [block_of_add] at this
    exact this
  · obtain ⟨k, r, d, rfl, hr, hd, hu'⟩ := flat_get f m hf l j u hu
    exact h k d hd r u hu'
theorem add_one (q : Addr) : q.add 1 = ⟨q.block, q.off + 1, none⟩ := rfl
theorem add_two (q : Addr) : q.add 2 = ⟨q.block, q.off + 2, none⟩ := rfl
/-- a field that is an integer -/
theorem field_int {H : Type} {enc : TypeId × Value → H} {P : Program} {w : World} {base : Nat} {spare : Nat → Bool} {held : Bool} {n : Nat} {t : TypeId} {k : IntKind} {v : Value} {y : DataW H × List MemPlace}
    (ht : P.underlying t = some (.int k)) (h : DataW.trod enc P w base spare held n t [v] = some y) : ∃ a : Int, v = .int k a ∧ (Lit.int k a).wf = true := by
  obtain ⟨a, e, _, wa⟩ := DataW.trod_int ht h
  simp at e
  exact ⟨a, e, wa⟩
end Go.Proofs.Ytbbikkmmdedaiaa

namespace Go.Proofs.Ytbbikkmmdedaiaa
open Go.RowKit Go.ChangeShapes Go.WideShapes Go.Deep
variable {H : Type} {enc : TypeId × Value → H} {P : Program} {w : World}
theorem open_slice_arrays {t e b : TypeId} {n : Nat} {k : IntKind} {fuel : Nat} {a : Option Addr} {len cap : Nat} {x : DataW H × List MemPlace} (ht : P.underlying t = some (.slice e)) (he : P.underlying e = some (.array n b)) (hb : P.underlying b = some (.int k))
    (hcb : P.cellsOf b = 1) (hce : P.cellsOf e = n) (h : DataW.trod enc P w 0 (fun _ => true) true fuel t [.slice a len cap] = some x) :
    (a = none ∧ len = 0 ∧ cap = 0) ∨ ∃ ad, a = some ad ∧ len ≤ cap ∧ ∀ i, i < len → ∃ zs : List Int, zs.length = n ∧ ∀ j z, zs[j]? = some z → w.cell? (ad.add (i * n + j)) = some (.int k z) ∧ (Lit.int k z).wf = true := by
  rcases open_slice ht h with ⟨hcs, _⟩ | ⟨ad, len', cap', m, fu, D, Pl, hcs, _, hl, _, hmm, _, hi⟩
  · simp at hcs
    exact .inl hcs
  · simp at hcs
    obtain ⟨rfl, rfl, rfl⟩ := hcs
    refine .inr ⟨ad, rfl, hl, fun i hil => ?_⟩
    have hm : m = cap := by simpa using hmm
    obtain ⟨cs', hc, ht'⟩ := hi i (by omega)
    rw [hce] at hc
    obtain ⟨xs, m', _, _, _, _, hel⟩ := DataW.trod_array he ht'
    obtain ⟨_, hcl, hat⟩ := World.cells?_some hc
    have hz : ∀ j, j < n → ∃ z : Int, cs'[j]? = some (.int k z) ∧ (Lit.int k z).wf = true := by
      intro j hj
      have h1 := hel j hj
      rw [hcb, Nat.mul_one] at h1
      have hone : (cs'.drop j).take 1 = [cs'[j]'(by omega)] := by
        rw [List.drop_eq_getElem_cons (by omega)]
        rfl
      rw [hone] at h1
      cases hx : xs[j]? with
      | none =>
        have hlen : xs.length = n := by assumption
        have := List.getElem?_eq_none_iff.1 hx
        omega
      | some y =>
        rw [hx] at h1
        obtain ⟨z, hz, wz⟩ := field_int hb h1
        exact ⟨z, by rw [List.getElem?_eq_getElem (by omega), hz], wz⟩
    obtain ⟨zs, hzl, hzs⟩ := list_of (fun j (z : Int) => cs'[j]? = some (.int k z) ∧ (Lit.int k z).wf = true) n hz
    refine ⟨zs, hzl, fun j z hj => ?_⟩
    have hjn : j < n := by
      have := (List.getElem?_eq_some_iff.1 hj).1
      omega
    obtain ⟨h1, h2⟩ := hzs j z hj
    refine ⟨?_, h2⟩
    rw [← Go.Deep.add_add, hat j hjn, h1]
end Go.Proofs.Ytbbikkmmdedaiaa

set_option maxRecDepth 100000
namespace Go.Proofs.Ytbbikkmmdedaiaa.Pr.Mend
open Go.RowKit Go.Proofs.Ytbbikkmmdedaiaa.Gf Go.Proofs.Ytbbikkmmdedaiaa.Vec Go.Proofs.Ytbbikkmmdedaiaa.Pr

def bv (d : Nat × Nat) : List Value := [.int .u8 (d.1 : Int), .int .u8 (d.2 : Int)]
def Prs (w : World) (a : Option Addr) (len : Nat) (l : List (Nat × Nat)) : Prop := l.length = len ∧ Reads w w.heap.size 2 a len (l.flatMap bv) ∧ ∀ d ∈ l, d.1 < 256 ∧ d.2 < 256
theorem Prs.at_ {w : World} {a : Option Addr} {len k : Nat} {l : List (Nat × Nat)} (h : Prs w a len l) (hk : k < len) : ∃ (ad : Addr) (d : Nat × Nat) (q : Addr), a = some ad ∧ (d.1 < 256 ∧ d.2 < 256) ∧ ad.add (k * 2) = q ∧ q.block < w.heap.size ∧
    w.cell? q = some (.int .u8 (d.1 : Int)) ∧ w.cell? ⟨q.block, q.off + 1, none⟩ = some (.int .u8 (d.2 : Int)) := by
  obtain ⟨hl, hr, hb⟩ := h
  obtain ⟨ad, e, hbl, hc⟩ := hr.2 (by omega)
  have hd : l[k]? = some l[k] := List.getElem?_eq_getElem (by omega)
  have hf := flat_at bv 2 (fun _ => rfl) l k
  refine ⟨ad, l[k], _, e, hb _ (List.getElem_mem _), rfl, by rw [block_of_add]; exact hbl, hc _ _ (hf 0 _ hd (by omega)), ?_⟩
  have := hc _ _ (hf 1 _ hd (by omega))
  rw [← add_of_add, add_one] at this
  exact this
/-- one byte more that is another one: one place more at most -/
theorem ap_set (S : List F) (q : Po) (j : Nat) (v : F) (hj : j < S.length) : ∀ n, ap (co (S.set j v)) q n ≤ ap (co S) q n + 1 ∧ (n ≤ j → ap (co (S.set j v)) q n = ap (co S) q n)
  | 0 => ⟨by unfold ap; omega, fun _ => rfl⟩
  | n + 1 => by
    obtain ⟨h1, h2⟩ := ap_set S q j v hj n
    have e := co_set S j n v hj
    unfold ap
    constructor
    · by_cases hn : n = j
      · have := h2 (by omega)
        split <;> split <;> omega
      · rw [e, if_neg hn]
        omega
    · intro hle
      have h3 := h2 (by omega)
      have e2 : co (S.set j v) n = co S n := by rw [e]; exact if_neg (by omega)
      rw [e2, h3]
theorem off_wd (f S : List F) (n : Nat) (h : S.length = n) : off f S = ap (co S) (co (wd f n)) n := by
  unfold off
  rw [h, ap_comm]

set_option maxHeartbeats 4000000 in
theorem back_ok (A : Option Addr) (len c : Nat) (mo : Nat) (a2 : Option Addr) (len2 c2 : Nat) (l : List (Nat × Nat)) (f : List F) (w : World) (hmo : mo < 256) (ra : RowAt w A len c f) (hps : Prs w a2 len2 l) (hl1 : 1 ≤ len) (hl : len ≤ 16) :
    Calls Try.prog 17 #[.slice A len c, .int .u8 (mo : Nat), .slice a2 len2 c2] w fun e w' => e = .returned (.bool true) ∧ Below w.heap.size w w' := by
  obtain ⟨i0, hi0, hz0, hz1, hz2⟩ := info_parts info5
  have hi0' := Lib.hid hi0
  have hz0' := Lib.hid hz0
  have hz1' := Lib.hid hz1
  have hz2' := Lib.hid hz2
  obtain ⟨r, hr⟩ : ∃ r, r = mo % 24 := ⟨_, rfl⟩
  obtain ⟨n, hn⟩ : ∃ n, n = len + r := ⟨_, rfl⟩
  have hr1 : (mo : Int) % 24 = (r : Int) := by omega
  have hr2 : (mo : Int).tmod 24 = (r : Int) := by rw [Int.tmod_eq_emod_of_nonneg (by omega)]; exact hr1
  have hr24 : r < 24 := by omega
  have hnI : (len : Int) + (r : Int) = (n : Int) := by omega
  have hnb : n ≤ 39 := by omega
  have hnr : len ≤ n := by omega
  have d1 : decide ((len : Int) < 1) = false := by simp; omega
  have d2 : decide (16 < (len : Int)) = false := by simp; omega
  have HNR := Lib.hid hn
  have HPS := Lib.hid hps
  have HFL := Lib.hid ra.1
  have hb0 := Below.refl w.heap.size w
  clear hi0 hz0 hz1 hz2 hr hn hps
  go_enter Try.func17, Try.ntmps17
  go_wp2_with fail
  refine (put_ok A len c f n w ra hl1 hnr (by omega)).mono ?_
  rintro e W1 ⟨Aw, nw, cw, rfl, rw1, u1⟩
  have hnw : nw = n := by have h := rw1.1; rw [wd_len] at h; exact h.symm
  subst hnw
  have ra1 := ra.on u1
  have hb1 := below_chain hb0 u1
  have HRW := Lib.hid rw1
  have HRA := Lib.hid ra1
  have HB1 := Lib.hid hb1
  obtain ⟨g, hg⟩ : ∃ g, g = W1.heap.size := ⟨_, rfl⟩
  have HG := Lib.hid hg
  have hgW : g ≤ W1.heap.size := by omega
  clear hr1 hr2 hnI d1 d2 ra ra1 rw1 u1 hb1 hb0 hg
  go_wp2_with (at_builtin; refine wpList_append_any _ rfl (.tmp 44) (.tmp 45) 22 rfl g 5 i0 _ 1 1 Try.underlying22 hi0'.out hz0'.out hz1'.out hz2'.out rfl (by omega) (.slice none 0 0) 0 [] rfl ⟨by simp, .inl ⟨rfl, rfl⟩⟩ W1.heap.size Aw nw cw (U8s (vals (wd f nw))) rfl HRW.out.2.2 (U8s_one _) (by simp only [maxLen]; omega) (by omega) hgW ?_; intro v1 w1 hown1 hg1 hat1; obtain ⟨A1, c1, rfl, hown, hform⟩ := app_form hown1 HRW.out.1; have hb2 : Below g W1 w1 := (Below.refl _ _).grown hg1 hgW (by simp [Value.ownBlock]); clear hown1 hg1 hat1)
  obtain ⟨gs, hgs, hgs0⟩ := hform (by omega)
  subst hgs
  have hcs : CF w1 gs (wd f nw) := own_cf hown (wd_len f nw)
  have hcap : nw ≤ c1 := (own_row hown (wd_len f nw)).2.1
  clear hown hform
  obtain ⟨t, ht⟩ : ∃ t, t = r / 2 := ⟨_, rfl⟩
  have hsI : (nw : Int) - (len : Int) = (r : Int) := by have := HNR.out; omega
  have htI : (r : Int) / 2 = (t : Int) := by omega
  have HT := Lib.hid ht
  have htb : t ≤ 12 := by omega
  clear ht
  go_loopw [11] (fun v wr => ∃ (i : Nat) (S : List F), i ≤ len2 ∧ i ≤ t ∧ v = .int .i64 i ∧ S.length = nw ∧ ap (co S) (co (wd f nw)) nw ≤ i ∧ CF wr gs S ∧ Below g W1 wr) (fun v _ => len2 - (intOf v).toNat)
  case atStart => exact ⟨0, wd f nw, by omega, by omega, rfl, wd_len f nw, by rw [(ap_zero _ _ _).2 (fun _ _ => rfl)]; exact Nat.le_refl _, hcs, hb2⟩
  case round =>
    obtain ⟨i, S, hi, hit, rfl, hS, hap, hcf, hb⟩ := hrel
    clear hcs hb2
    have HS := Lib.hid hS
    have HAP := Lib.hid hap
    clear hS hap
    have hbw : Below W1.heap.size W1 wr := by rw [← HG.out]; exact hb
    by_cases hgo : i < len2 ∧ i < t
    · obtain ⟨hi2, hti⟩ := hgo
      obtain ⟨ad, ⟨x, y⟩, q, hq0, ⟨hx, hy⟩, hq, hqb, hc0, hc1⟩ := HPS.out.at_ hi2
      subst hq0
      simp only at hx hy hc0 hc1
      have hwr : Below w.heap.size w wr := below_chain HB1.out hbw
      have k0 := (hwr.cell (p := q) hqb).trans hc0
      have k1 := (hwr.cell (p := ⟨q.block, q.off + 1, none⟩) hqb).trans hc1
      have hqg : q.block < gs := by have h1 := HB1.out.size; have h2 := HG.out; omega
      obtain ⟨j, hj⟩ : ∃ j, j = x % nw := ⟨_, rfl⟩
      have hjn : j < nw := by rw [hj]; exact Nat.mod_lt _ (by omega)
      have hjI : (x : Int).tmod (nw : Int) = (j : Int) := by rw [hj, Int.tmod_eq_emod_of_nonneg (by omega)]; omega
      have hjI2 : (x : Int) % (nw : Int) = (j : Int) := by rw [hj]; omega
      have hwx : IntKind.i64.wrap (x : Int) = (x : Int) := IntWalk.i64_in _ ⟨by omega, by omega⟩
      have hn0 : ((nw : Int) == 0) = false := by simp; omega
      have hj0 : (0 : Int) ≤ (j : Int) := by omega
      have hjn2 : (j : Int) < (nw : Int) := by omega
      obtain ⟨z, hz⟩ : ∃ z, z = (co S j).1 := ⟨_, rfl⟩
      have cj := hcf.2.1 j (by rw [HS.out]; exact hjn)
      rw [← hz] at cj
      have fj := hcf.2.2 j
      obtain ⟨Y, hY⟩ : ∃ Y : F, Y.1 = y := ⟨⟨y, hy⟩, rfl⟩
      have HC3 := Lib.hid (show CF (wr.setCell ⟨gs, j, none⟩ (.int .u8 (y : Nat))) gs (S.set j Y) by rw [← hY]; exact hcf.set j Y (by rw [HS.out]; exact hjn))
      have HA3 := Lib.hid (show ap (co (S.set j Y)) (co (wd f nw)) nw ≤ i + 1 by
        have h1 := (ap_set S (co (wd f nw)) j Y (by rw [HS.out]; exact hjn) nw).1
        have h2 := HAP.out
        omega)
      have dd1 : decide (i < len2) = true := by simp [hi2]
      have dd2 : decide (i < t) = true := by simp [hti]
      clear hc0 hc1 hj hz hY hwr hbw hcf
      go_wp2_with fail
      go_region_with (fail)
      all_goals
        clear hjI hjI2 hwx
        go_wp2_with fail
        go_roundw
        case rel => exact ⟨i + 1, S.set j Y, by omega, by omega, by go_num, by rw [List.length_set]; exact HS.out, HA3.out, HC3.out, by first | exact (hb.setCell (p := ⟨gs, j, none⟩) hgs0 _).drew | exact hb.drew.setCell (p := ⟨gs, j, none⟩) hgs0 _⟩
        case measure => simp [intOf]; omega
    · have hcases : (decide (i < len2) = false) ∨ (decide (i < len2) = true ∧ decide (i < t) = false) := by
        by_cases h1 : i < len2
        · right; exact ⟨by simp [h1], by simp; omega⟩
        · left; simp; omega
      have hrs := hcf.row (n := nw) (c := c1) HS.out hcap
      obtain ⟨D, hD⟩ : ∃ D, D = off f S := ⟨_, rfl⟩
      have hDi : D ≤ t := by rw [hD, off_wd f S nw HS.out]; have := HAP.out; omega
      have HN := Lib.hid (show Near S len f from ⟨HFL.out, by rw [← hD, HS.out]; have := HNR.out; have := HT.out; omega⟩)
      have HD := Lib.hid hD
      have hraw := HRA.out.on hbw
      have hrww := HRW.out.on hbw
      have hbx := below_chain HB1.out hbw
      clear hgo hcf hbw hD hb hgs0 hDi
      rcases hcases with h1 | ⟨h1, h2⟩
      all_goals
        go_wp2_with fail
        refine (read_yes (k := len) hrs (by omega) (by omega) (by omega) HN.out HD.out).mono ?_
        rintro e W2 ⟨A2, n2, c2, rfl, r2, u2⟩
        have hra2 := hraw.on u2
        have hrw2 := hrww.on u2
        have hrs2 := hrs.on u2
        have hbx2 := below_chain hbx u2
        clear hraw hrww hrs hbx u2
        go_wp2_with fail
        refine (same_b r2 hra2 rfl (by rw [HFL.out]; omega)).mono ?_
        rintro e W3 ⟨rfl, u3⟩
        have hrw3 := hrw2.on u3
        have hrs3 := hrs2.on u3
        have hbx3 := below_chain hbx2 u3
        clear r2 hra2 hrw2 hrs2 hbx2 u3
        have MA := Lib.hid (ref_apart_row _ nw c1 Aw cw S (wd f nw) D W3 hrs3 hrw3 (by omega) (by rw [HD.out]; exact off_wd f S nw HS.out))
        have hDD : ((D : Int) == (D : Int)) = true := by simp
        go_wp2_with fail
        refine (MA.out).mono ?_
        rintro e W4 ⟨rfl, u4⟩
        have hrw4 := hrw3.on u4
        have hbx4 := below_chain hbx3 u4
        clear hrw3 hrs3 hbx3 u4 MA
        go_wp2_with fail
        refine (good_row _ _ _ _ len true W4 hrw4 (by omega) (by omega) (by omega) ⟨fun _ => ⟨f, HFL.out, off_self _ _⟩, fun _ => rfl⟩).mono ?_
        rintro e W5 ⟨rfl, u5⟩
        have hbx5 := below_chain hbx4 u5
        clear hrw4 hbx4 u5
        go_wp2_with fail
        refine (awake_b hbx5).mono ?_
        rintro e W6 ⟨rfl, hb6⟩
        go_wp2_with fail
        go_ret
        exact ⟨rfl, hb6⟩

theorem mendBack_walk (a0 : Option Addr) (len0 cap0 : Nat) (z0 : List Int) (a1 : Int) (a2 : Option Addr) (len2 cap2 : Nat) (l : List (Nat × Nat)) (w : World) (w0 : IsRow .u8 w a0 len0 cap0 z0) (w1 : (Lit.int .u8 a1).wf = true) (w2 : Prs w a2 len2 l) :
    Calls Try.prog 17 #[.slice a0 len0 cap0, .int .u8 a1, .slice a2 len2 cap2] w fun e w' => e = .returned (.bool true) ∧ Below w.heap.size w w' := by
  obtain ⟨mo, rfl, hmo⟩ := nat_of_u8 w1
  obtain ⟨a, ra⟩ := row_of w0
  have hcap : cap0 ≤ maxLen := by
    rcases w0 with ⟨_, _, h, _⟩ | ⟨_, _, _, h, _⟩
    · rw [h]; unfold maxLen; omega
    · exact h
  have hlc := ra.2.1
  unfold maxLen at hcap
  clear w0
  by_cases h0 : len0 < 1 ∨ 16 < len0
  · have hc : (decide ((len0 : Int) < 1) = true) ∨ (decide ((len0 : Int) < 1) = false ∧ decide (16 < (len0 : Int)) = true) := by
      by_cases h1 : len0 < 1
      · left; exact decide_eq_true (by omega)
      · right; exact ⟨decide_eq_false (by omega), decide_eq_true (by omega)⟩
    clear ra w2 h0
    rcases hc with d1 | ⟨d1, d2⟩
    all_goals
      go_enter Try.func17, Try.ntmps17
      go_wp2_with (go_at_call 60; refine (awake_any _).mono ?_; rintro e w' ⟨rfl, hb⟩)
      go_ret
      exact ⟨rfl, hb⟩
  · exact back_ok a0 len0 cap0 mo a2 len2 cap2 l a w hmo ra w2 (by omega) (by omega)
end Go.Proofs.Ytbbikkmmdedaiaa.Pr.Mend

namespace Go.Proofs.Ytbbikkmmdedaiaa.mendBack
open Go.Proofs.Ytbbikkmmdedaiaa.Pr.Mend
open Go.ChangeShapes Go.WideShapes Go.ChangeAt Go.RowKit
open Go.ChangeMaps (open_string shut_string)
set_option linter.unusedVariables false

theorem own : ownKnob Try.prog.godebug = none := by kernel_rfl
theorem laidOut : laidOutB Try.prog = true := by kernel_rfl


theorem u8_of_wf {a : Int} (h : (Lit.int .u8 a).wf = true) : ∃ n : Nat, a = n ∧ n < 256 := by
  have hx : 0 ≤ a ∧ a ≤ 255 := by simpa [Lit.wf, IntKind.min, IntKind.max, IntKind.signed, IntKind.bits] using h
  exact ⟨a.toNat, by omega, by omega⟩

section
variable {H : Type} {enc : TypeId × Value → H} {w : World}
theorem prs_of {fuel : Nat} {a : Option Addr} {len cap : Nat} {x : DataW H × List MemPlace} (hf : DataW.trod enc Try.prog w 0 (fun _ => true) true fuel 68 [.slice a len cap] = some x) : ∃ l, Prs w a len l := by
  rcases open_slice_arrays (n := 2) (k := .u8) Try.underlying68 Try.underlying69 Try.underlying5 (by kernel_rfl) (by kernel_rfl) hf with ⟨rfl, rfl, rfl⟩ | ⟨ad, rfl, _, hi⟩
  · exact ⟨[], rfl, ⟨by simp, fun h => absurd h (by omega)⟩, fun d hd => by simp at hd⟩
  · obtain ⟨l, hl, hP⟩ := list_of (fun i (d : Nat × Nat) => w.cell? (ad.add (i * 2 + 0)) = some (.int .u8 (d.1 : Int)) ∧ w.cell? (ad.add (i * 2 + 1)) = some (.int .u8 (d.2 : Int)) ∧ d.1 < 256 ∧ d.2 < 256) len (fun i hil => by
      obtain ⟨zs, hzl, hz⟩ := hi i hil
      match zs, hzl with
      | [z0, z1], _ =>
        obtain ⟨c0, w0⟩ := hz 0 z0 rfl
        obtain ⟨c1, w1⟩ := hz 1 z1 rfl
        obtain ⟨n0, rfl, b0⟩ := u8_of_wf w0
        obtain ⟨n1, rfl, b1⟩ := u8_of_wf w1
        exact ⟨(n0, n1), c0, c1, b0, b1⟩)
    refine ⟨l, hl, ?_, fun d hd => ?_⟩
    · rw [← hl]
      refine reads_of bv 2 (by omega) (fun _ => rfl) ad l (fun i d hid r u hu => ?_)
      obtain ⟨c0, c1, _⟩ := hP i d hid
      match r, hu with
      | 0, hu => simp [bv] at hu; subst hu; exact c0
      | 1, hu => simp [bv] at hu; subst hu; exact c1
    · obtain ⟨i, hi2⟩ := List.mem_iff_getElem?.1 hd
      exact (hP i d hi2).2.2
end

set_option maxRecDepth 100000 in
theorem lifted (os : Os) (started : os.Started) (H : Type) (enc : TypeId × Value → H) :
    ReturnsInHanded {} Try.checked os 17 .any (Rows.mendBackSpec.pre6 enc Try.prog Try.f17 Rows.mendBackRow.domain false) (Rows.mendBackSpec.post enc Try.prog Try.f17 false true false false) := by
  refine returnsInHanded_of_change (C := Try.checked) own started (by kernel_rfl) Try.func17
    (ChangeSpec.witness6 (enc := enc) (C := Try.checked) false ⟨#[], #[.slice none 0 0, .int .u8 0, .slice none 0 0], []⟩ 8 (by kernel_rfl) (by kernel_rfl) (by kernel_rfl) (by kernel_rfl)) ?_
  intro W base args ds gs before hval0 hW hcnd _
  have hval : ∀ (j : Nat) t v, Try.f17.params[j]? = some t → args[j]? = some v → Value.okWide Try.prog W .any base t v := hval0
  have hW' := hW
  obtain ⟨p, q, hA0, hV, rfl, hfz, hnd⟩ := hW
  have hA : DataW.TrodAll enc Try.prog W 0 (fun _ => true) true Try.f17.params.toList args.toList ds p := hA0
  rw [Try.params17] at hA hval
  obtain ⟨v0, vs0, d0, ds0, p0, q0, hargs, rfl, rfl, h0, r0⟩ := trodAll_cons hA
  obtain ⟨v1, vs1, d1, ds1, p1, q1, rfl, rfl, rfl, h1, r1⟩ := trodAll_cons r0
  obtain ⟨v2, vs2, d2, ds2, p2, q2, rfl, rfl, rfl, h2, r2⟩ := trodAll_cons r1
  obtain ⟨rfl, rfl, rfl⟩ := trodAll_nil r2
  obtain rfl : args = #[v0, v1, v2] := by cases args; simp_all
  obtain ⟨rfl, rfl⟩ := trodVars_none hV
  obtain ⟨a0, len0, cap0, rfl⟩ := okWide_slice Try.underlying22 (hval 0 22 v0 rfl rfl)
  have k0 := h0
  have lt0 : ∀ x ∈ p0, x.block < W.heap.size := by obtain ⟨m, hm⟩ := k0; exact DataW.trod_lt m _ _ _ hm
  obtain ⟨z0, w0⟩ : ∃ zs, IsRow .u8 W a0 len0 cap0 zs := by
    obtain ⟨fuel, hf⟩ := h0
    rcases open_ints Try.underlying22 Try.underlying5 (by kernel_rfl) hf with ⟨hcs, _⟩ | ⟨x, l, c, zs, hcs, _, hl, hm, hz, _, hcell, hwz⟩
    · simp [Value.cells] at hcs
      obtain ⟨rfl, rfl, rfl⟩ := hcs
      exact ⟨[], .inl ⟨rfl, rfl, rfl, rfl⟩⟩
    · simp [Value.cells] at hcs
      obtain ⟨rfl, rfl, rfl⟩ := hcs
      exact ⟨zs, .inr ⟨_, rfl, hl, hm, by simpa using hz, hcell, hwz⟩⟩
  obtain ⟨a1, rfl, rfl, rfl, w1⟩ := open_int Try.underlying5 (hval 1 5 v1 rfl rfl) h1
  obtain ⟨a2, len2, cap2, rfl⟩ := okWide_slice Try.underlying68 (hval 2 68 v2 rfl rfl)
  have k2 := h2
  have lt2 : ∀ x ∈ p2, x.block < W.heap.size := by obtain ⟨m, hm⟩ := k2; exact DataW.trod_lt m _ _ _ hm
  obtain ⟨z2, w2⟩ : ∃ l, Prs W a2 len2 l := by
    obtain ⟨fuel, hf⟩ := h2
    exact prs_of hf
  clear hA0 hval0
  refine (mendBack_walk a0 len0 cap0 z0 a1 a2 len2 cap2 z2 W w0 w1 w2).mono fun e W' ⟨he, bel⟩ => ?_
  subst he
  exact ⟨_, rfl, _, _, _, [], _, [], hW', trodAll_mk1 (shut_bool Try.underlying4 _), (trodAll_cons_mk (Below.trod laidOut (by kernel_rfl) (of_decide_eq_true (by kernel_rfl)) k0 bel lt0) (trodAll_cons_mk (shut_int Try.underlying5 w1) (trodAll_cons_mk (Below.trod laidOut (by kernel_rfl) (of_decide_eq_true (by kernel_rfl)) k2 bel lt2) trodAll_mk0))), rfl, bel.frame _, fun h => by cases h⟩

theorem over : Rows.mendBackRow.holds Try.pinned (OpenSpec.ofChange Rows.mendBackSpec) :=
  OpenClaim.holds_of_wide 17 Try.f17 rfl rfl rfl rfl rfl rfl rfl ⟨rfl, rfl, rfl, rfl, rfl⟩ rfl rfl rfl rfl rfl (by kernel_rfl) Try.func17 (by kernel_rfl)
    (of_decide_eq_true (by kernel_rfl)) (by unfold Func.isWrapper; first | (rw [if_pos (by decide +kernel)]; kernel_rfl) | (rw [if_neg (by decide +kernel)]; exact ⟨rfl, rfl⟩))
    (fun os started H enc _ => lifted os started H enc)

theorem proved : Rows.MendBackSaid := over
end Go.Proofs.Ytbbikkmmdedaiaa.mendBack
