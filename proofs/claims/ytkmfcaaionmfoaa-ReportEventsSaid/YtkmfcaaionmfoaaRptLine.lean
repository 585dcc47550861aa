/- What report.line computes; strings joined; no condition. -/
import Derived.Test.YtkmfcaaionmfoaaRptDig2
import Derived.Test.YtkmfcaaionmfoaaShelf
import Derived.Test.YtkmfcaaionmfoaaWords6
set_option maxRecDepth 100000
namespace Go.Proofs.Ytkmfcaaionmfoaa.Rp
open Go.RowKit Go.Proofs.Ytkmfcaaionmfoaa.Sp

abbrev By := List UInt8
/-- texts as values -/
def Ss (l : List By) : List Value := l.map fun s => .string (bsOf s)
theorem Ss_len (l : List By) : (Ss l).length = l.length := by simp [Ss]
theorem Ss_snoc (l : List By) (s : By) : Ss (l ++ [s]) = Ss l ++ [.string (bsOf s)] := by simp [Ss]
/-- integers as values -/
def Ns (l : List Int) : List Value := l.map fun n => .int .i64 n
theorem Ns_at {l : List Int} {i : Nat} (h : i < l.length) : (Ns l)[i]? = some (.int .i64 (l.getD i 0)) := by
  simp [Ns, List.getD, List.getElem?_eq_getElem h]
theorem join_len (sep : By) (k : Nat) : ∀ (xs : List By), (∀ x ∈ xs, x.length ≤ k) → (Lib.join xs sep).length ≤ xs.length * (k + sep.length)
  | [], _ => by simp [Lib.join_nil]
  | x :: r, h => by
    have hx := h x (by simp)
    rw [Lib.join_cons]
    have ht : ∀ (r : List By), (∀ x ∈ r, x.length ≤ k) → (Lib.joinTail sep r).length ≤ r.length * (k + sep.length) := by
      intro r
      induction r with
      | nil => intro _; simp [Lib.joinTail]
      | cons y q ih =>
        intro hq
        have h1 := ih fun z hz => hq z (by simp [hz])
        have h2 := hq y (by simp)
        have e : Lib.joinTail sep (y :: q) = sep ++ y ++ Lib.joinTail sep q := by simp [Lib.joinTail]
        rw [e, List.length_append, List.length_append, List.length_cons, Nat.succ_mul]
        omega
    have := ht r fun z hz => h z (by simp [hz])
    rw [List.length_append, List.length_cons, Nat.succ_mul]
    omega
theorem bsOf_list (l : By) : (bsOf l).data.toList = l := by simp [bsOf]
theorem join_call {w : World} {g : Nat} {A : Option Addr} {n c : Nat} {xs : List By} (sep : By) (hown : Own w g 9 (.slice A n c) (Ss xs)) (hn : xs.length = n) (h0 : 0 < n) (hb : n * 2000 ≤ 1000000000) (hl : ∀ x ∈ xs, x.length ≤ 1000) (hs : sep.length ≤ 1000) :
    Calls Try.prog 34 #[.slice A n c, .string (bsOf sep)] w fun e w' => e = .returned (.string (bsOf (Lib.join xs sep))) ∧ Below w.heap.size w w' := by
  have hr := hown.2
  rcases hr with ⟨_, he⟩ | ⟨g', cap, cur, hv, hg, hh, h1, h2, h3⟩
  · rw [Ss_len] at he; omega
  · injection hv with hA hN hC
    subst hA hC
    have hreads := Reads.of_own (c := c) (A := some ⟨g', 0, none⟩) (n := n) (e := 9) (base := g) (w := w) (size := 1) (xs := Ss xs) (by have h := hown; unfold Own at h; rw [Ss_len, hn] at h; exact h)
    obtain ⟨ad, e, hlt, hcell⟩ := hreads.2 h0
    injection e with e
    subst e
    have hj := join_len sep 1000 xs hl
    have e1 : (xs.map bsOf).length = n := by simp [hn]
    have e2 : (xs.map bsOf).map (·.data.toList) = xs := by
      rw [List.map_map]
      exact (List.map_congr_left fun x _ => bsOf_list x).trans (List.map_id _)
    have hjb : (Lib.join xs sep).length ≤ 140737488355328 := by
      refine Nat.le_trans hj ?_
      have : xs.length * (1000 + sep.length) ≤ n * 2000 := Nat.mul_le_mul (by omega) (by omega)
      omega
    have h := Sh.strings_Join g' 0 c (xs.map bsOf) (bsOf sep) w (fun j x hx => by
      have hu : (Ss xs)[j]? = some (.string x) := by
        simp only [Ss, List.getElem?_map] at hx ⊢
        cases hq : xs[j]? with
        | none => rw [hq] at hx; simp at hx
        | some s => rw [hq] at hx; simp at hx; rw [← hx]; rfl
      have := hcell j _ hu
      by_cases hj0 : j = 0
      · subst hj0; simpa [Addr.add] using this
      · simpa [Addr.add, hj0] using this) hlt (by rw [e1]; omega) (by
        rw [e1]
        rw [Ss_len] at *
        omega) (by rw [e2, bsOf_list]; exact hjb)
    rw [e1, e2, bsOf_list] at h
    exact h
theorem _root_.Go.Proofs.Ytkmfcaaionmfoaa.Own.on' {w w' : World} {B : Nat} {e : TypeId} {v : Value} {l : List Value} (h : Own w B e v l) (hb : Below w.heap.size w w') : Own w' B e v l := by
  refine h.kept (row := none) ⟨hb.os, hb.tape, hb.output, hb.size, fun k hk _ => hb.block k hk⟩ ?_
  cases v.ownBlock with
  | none => exact .inl rfl
  | some g => exact .inr (by simp)
theorem info9 : (Try.prog.info? 9).map (fun i => (i.zero, i.size, i.bytes)) = some (some (.string ⟨#[]⟩), 1, 16) := by kernel_rfl
theorem take_dig {l : List Int} {i : Nat} (h : i < l.length) : (l.take (i + 1)).map dig = (l.take i).map dig ++ [dig (l.getD i 0)] := by
  rw [List.take_succ_eq_append_getElem h, List.map_append]
  simp [List.getD, List.getElem?_eq_getElem h]

set_option maxHeartbeats 1000000 in
theorem line_row (A : Option Addr) (n c : Nat) (l : List Int) (w : World) (hl : l.length = n) (h0 : 0 < n) (hn : n ≤ 1000) (hr : Reads w w.heap.size 1 A n (Ns l)) (hb : ∀ x ∈ l, -9223372036854775808 < x ∧ x < 9223372036854775808) :
    Calls Try.prog 30 #[.slice A n c] w fun e w' => e = .returned (.string (bsOf (Lib.join (l.map dig) [32]))) ∧ Below w.heap.size w w' := by
  obtain ⟨E, hE⟩ : ∃ E, E = bsOf (Lib.join (l.map dig) [32]) := ⟨_, rfl⟩
  rw [← hE]
  have HE := Lib.hid hE
  have HL := Lib.hid hl
  have HR := Lib.hid hr
  have HBD := Lib.hid hb
  obtain ⟨g, hg⟩ : ∃ g, g = w.heap.size := ⟨_, rfl⟩
  have HG := Lib.hid hg
  have hb0 : Below g w w := Below.refl _ _
  clear hE hl hr hb hg
  go_enter Try.func30, Try.ntmps30
  go_wp2_with fail
  go_loopw [3, 8] (fun va v wr => ∃ (i : Nat) (Aa : Option Addr) (ca : Nat), i ≤ n ∧ va = .slice Aa i ca ∧ v = .int .i64 i ∧ Own wr g 9 (.slice Aa i ca) (Ss ((l.take i).map dig)) ∧ Below g w wr) (fun _ v _ => n - (intOf v).toNat)
  case atStart => exact ⟨0, none, 0, by omega, rfl, rfl, Own.nil _ _ _, hb0⟩
  case round =>
    obtain ⟨i, Aa, ca, hi, rfl, rfl, ho, hb⟩ := hrel
    clear hb0
    have hgr : g ≤ wr.heap.size := by have := hb.size; have := HG.out; omega
    by_cases hlt : i < n
    · have hil := Lib.hid (show i < l.length by rw [HL.out]; exact hlt)
      obtain ⟨ad, had, hlb, hc⟩ := HR.out.2 (by omega)
      have hcu := hc i _ (Ns_at hil.out)
      rw [← HG.out] at hlb
      have hcell := (hb.cell (p := ad.add i) (by rw [block_of_add]; exact hlb)).trans hcu
      obtain ⟨x, hx⟩ : ∃ x, x = l.getD i 0 := ⟨_, rfl⟩
      rw [← hx] at hcell
      have hxm : x ∈ l := by
        rw [hx]
        have h := hil.out
        simp [List.getD, List.getElem?_eq_getElem h]
      have hxb := HBD.out x hxm
      have M := Lib.hid (fun w => digits_any x (by omega) hxb.2 w)
      have HS := Lib.hid (show Ss ((l.take (i + 1)).map dig) = Ss ((l.take i).map dig) ++ [.string (bsOf (dig x))] by rw [take_dig hil.out, Ss_snoc, hx])
      have HSL := Lib.hid (show (Ss ((l.take i).map dig)).length = i by rw [Ss_len, List.length_map, List.length_take, HL.out]; omega)
      generalize Ss ((l.take i).map dig) = S at ho HS HSL
      generalize bsOf (dig x) = X at M HS
      subst had
      clear hc hcu hx hxm hxb
      go_wp2_with (first
        | (go_at_call 33; (with_reducible refine (M.out wr).mono ?_); rintro e W1 ⟨rfl, b1⟩; have ho1 := ho.on' b1; have hgr1 : g ≤ W1.heap.size := (by have := b1.size; omega); have hb1 := hb.trans (b1.mono hgr))
        | (at_builtin; refine wpList_app1h _ rfl (.tmp 12) (.tmp 15) 73 rfl g 9 (.string ⟨#[]⟩) 16 Try.underlying73 info9 rfl _ S rfl (ho1.alloc _) ⟨W1.heap.size, 0, none⟩ 1 (.string X) rfl (by go_simp) rfl (by rw [HSL.out]; omega) (by rw [HSL.out]; omega) (by simp; omega) ?_; rw [HSL.out]; intro g2 cap w2 hown2 hbel2 hgr2 hge2 hlt2))
      go_roundw
      case rel => exact ⟨i + 1, some ⟨g2, 0, none⟩, cap, by omega, rfl, by go_num, by rw [HS.out]; exact hown2, (hb1.alloc hgr1 _).trans hbel2⟩
      case measure => simp [intOf]; omega
    · obtain rfl : i = n := by omega
      have e : (l.take i).map dig = l.map dig := by rw [← HL.out, List.take_length]
      rw [e] at ho
      have HJ := Lib.hid (join_call [32] ho (by rw [List.length_map]; exact HL.out) h0 (by omega) (fun x hx => by
        obtain ⟨y, hy, rfl⟩ := List.mem_map.1 hx
        have := HBD.out y hy
        have := dig_len this.1 this.2
        omega) (by simp))
      rw [← HE.out] at HJ
      go_wp2_with (go_at_call 34; refine (HJ.out).mono ?_; rintro e W1 ⟨rfl, b1⟩)
      go_ret
      exact ⟨rfl, by rw [← HG.out]; exact hb.trans (b1.mono hgr)⟩
end Go.Proofs.Ytkmfcaaionmfoaa.Rp
