/- What delta.steps hands to a loop's body; condition: the row is a row. -/
import Derived.RangeFuncNested
import Derived.RangeFuncBound
import Derived.RangeFuncCalls
import Derived.RangeFuncLeaves
import Derived.Shelf.Abstract
import Derived.Shelf.RegionOpen
import Derived.WalkKit
import Derived.OwnWalkIn
import Derived.TacticsInMore
import Derived.LoopNIn
import Derived.LoopIn
import Derived.Test.YtfghllgkbdfedaaDelRow
set_option maxRecDepth 100000
namespace Go.Proofs.Ytfghllgkbdfedaa.Dl
open Go.RowKit Go.Shelf
attribute [local go_sem] Oper.semAt_some

abbrev U64 := { n : Nat // n < 18446744073709551616 }
def stU (l : List Nat) (h : Ok64 l) (k : Nat) : List U64 := (List.range k).map fun j => ⟨nthS l j, nthS_lt h j⟩
theorem stU_succ (l : List Nat) (h : Ok64 l) (k : Nat) : stU l h (k + 1) = stU l h k ++ [⟨nthS l k, nthS_lt h k⟩] := by simp [stU, List.range_succ]
theorem stU_len (l : List Nat) (h : Ok64 l) (k : Nat) : (stU l h k).length = k := by simp [stU]
theorem stU_vals (l : List Nat) (h : Ok64 l) (k : Nat) : (stU l h k).map (·.1) = stepsTo l k := by simp [stU, stepsTo]
theorem u64_wrap (n : Int) : IntKind.u64.wrap n = n % 18446744073709551616 := by simp [IntKind.wrap, IntKind.bits, IntKind.signed]

/-- what a round of the loop keeps for the iterator: what lay below n₀, and its own box -/
def KpD (n₀ Bs : Nat) (W W' : World) : Prop := Below n₀ W W' ∧ ∀ o, W.heap[Bs]? = some o → W'.heap[Bs]? = some o
theorem KpD.refl (n₀ Bs : Nat) (W : World) : KpD n₀ Bs W W := ⟨Below.refl _ _, fun _ h => h⟩
theorem KpD.trans {n₀ Bs : Nat} {A B C : World} (h : KpD n₀ Bs A B) (k : KpD n₀ Bs B C) : KpD n₀ Bs A C := ⟨h.1.trans k.1, fun o ho => k.2 o (h.2 o ho)⟩
theorem KpD.blk {n₀ Bs : Nat} {W W' : World} {t : TypeId} {cs : Array Value} (h : KpD n₀ Bs W W') (hb : Blk W Bs t cs) : Blk W' Bs t cs := h.2 _ hb
theorem add_none (ad : Addr) : ad.add 0 = ad := by cases ad; simp [Addr.add]

set_option maxHeartbeats 2000000 in
theorem steps1_in (F : Fence) (n : Nat) (h58 : F.fn 58) (hro : F.round = none) (hn : 1 ≤ n) (y Bs n₀ len cap : Nat) (A : Option Addr) (l : List Nat) (h6 : Ok64 l) (hlen : len ≤ 4096) (J Jx : List U64 → World → Prop)
    (hY : ∀ pre x W, J pre W → pre.length < len → YieldAt F (n - 1) Try.prog y #[.int .u64 ((x : U64).1 : Int)] W fun e W' =>
      (e = .returned (.bool true) ∧ J (pre ++ [x]) W' ∧ KpD n₀ Bs W W') ∨ (e = .returned (.bool false) ∧ Jx (pre ++ [x]) W'))
    (W : World) (hBs : Blk W Bs 41 #[.slice A len cap]) (hc : ∀ j, j < len → ∃ ad : Addr, A = some ad ∧ ad.block < n₀ ∧ W.cell? (ad.add j) = some (.int .u64 ((l.getD j 0 : Nat) : Int))) (h0 : J [] W) :
    CallsIn F n Try.prog 58 #[.func (.yield y) #[] #[], .pointer (some ⟨Bs, 0, none⟩)] W fun e W' => (∃ v, e = .returned v) ∧
      ((∃ ys, ys = stU l h6 len ∧ J ys W') ∨ (∃ pre, (∃ k, k ≤ len ∧ pre = stU l h6 k) ∧ Jx pre W')) := by
  have hB1 : W.cell? ⟨Bs, 0, none⟩ = some (.slice A len cap) := hBs.cell 0
  refine callsIn_of_wp Try.func58 rfl h58 ?_ hro
  simp only [Try.ntmps58, List.size_toArray, List.length_cons, List.length_nil, Nat.reduceAdd, Nat.reduceSub, Array.replicate_succ, Array.replicate_zero, List.push_toArray, List.append_toArray, List.nil_append, List.cons_append]
  gi_wp2
  gi_loopw [7] (fun i wr => ∃ k : Nat, k ≤ len ∧ i = .int .i64 k ∧ J (stU l h6 k) wr ∧ KpD n₀ Bs W wr)
    (fun i _ => len - (intOf i).toNat)
  case atStart => exact ⟨0, Nat.zero_le _, rfl, h0, KpD.refl _ _ _⟩
  case round =>
    obtain ⟨k, hk, rfl, hJs, hnx⟩ := hrel
    have hB2 : wr.cell? ⟨Bs, 0, none⟩ = some (.slice A len cap) := (hnx.blk hBs).cell 0
    by_cases hlt : k < len
    · obtain ⟨ad, had, hab, hcc⟩ := hc k hlt
      have hck := (hnx.1.cell (p := ad.add k) (by rw [block_of_add]; exact hab)).trans hcc
      obtain ⟨fn, tmps, assign, body, hy, hR⟩ := hY _ ⟨nthS l k, nthS_lt h6 k⟩ wr hJs (by rw [stU_len]; exact hlt)
      dsimp only at hy
      have hJn : stU l h6 k ++ [⟨nthS l k, nthS_lt h6 k⟩] = stU l h6 (k + 1) := (stU_succ l h6 k).symm
      rw [hJn] at hR
      by_cases hk0 : k = 0
      · subst had
        subst hk0
        have e1 : nthS l 0 = l.getD 0 0 := rfl
        rw [e1] at hy
        rw [add_none] at hck
        generalize l.getD 0 0 = a at hy hck
        clear hJn hc e1 hcc
        gi_wp2
        refine hR.mono ?_
        rintro e W3 (⟨rfl, hJ3, hk3⟩ | ⟨rfl, hJx3⟩)
        · gi_wp2
          go_roundw
          case rel => exact ⟨0 + 1, by omega, by simp, hJ3, hnx.trans hk3⟩
          case measure => simp [intOf]; omega
        · gi_wp2
          refine bodyPost_ret (results_none rfl _ _ _) rfl ?_
          exact ⟨⟨_, rfl⟩, .inr ⟨_, ⟨0 + 1, by omega, rfl⟩, hJx3⟩⟩
      · obtain ⟨p, hp⟩ : ∃ p : Nat, p + 1 = k := ⟨k - 1, by omega⟩
        obtain ⟨ad2, had2, hab2, hcc2⟩ := hc p (by omega)
        have e3 : ad2 = ad := by rw [had] at had2; injection had2 with h; exact h.symm
        subst e3
        subst had
        have hcp := (hnx.1.cell (p := ad2.add p) (by rw [block_of_add]; exact hab)).trans hcc2
        have e1 : nthS l k = stp (l.getD k 0) (l.getD p 0) := by
          unfold nthS
          rw [if_neg hk0, show k - 1 = p by omega]
        rw [e1] at hy
        generalize l.getD k 0 = a at hy hck
        generalize l.getD p 0 = b at hy hcp
        have es : IntKind.i64.wrap ((k : Int) - 1) = (p : Int) := by rw [IntWalk.i64_in _ ⟨by omega, by omega⟩]; omega
        obtain ⟨P, hP⟩ : ∃ P : Nat, P = (b + 1) % 18446744073709551616 := ⟨_, rfl⟩
        have eP : IntKind.u64.wrap ((b : Int) + 1) = (P : Int) := by rw [u64_wrap]; omega
        have eY : IntKind.u64.wrap ((a : Int) - (P : Int)) = ((stp a b : Nat) : Int) := by rw [u64_wrap]; unfold stp; omega
        have hpl : p < len := by omega
        have hk1 : (0 : Int) < k := by omega
        generalize stp a b = Y at hy eY
        clear hJn hc e1 hcc hcc2 hP hk0 hp had2
        gi_wp2
        refine hR.mono ?_
        rintro e W3 (⟨rfl, hJ3, hk3⟩ | ⟨rfl, hJx3⟩)
        · gi_wp2
          go_roundw
          case rel => exact ⟨k + 1, by omega, by simp, hJ3, hnx.trans hk3⟩
          case measure => simp [intOf]; omega
        · gi_wp2
          refine bodyPost_ret (results_none rfl _ _ _) rfl ?_
          exact ⟨⟨_, rfl⟩, .inr ⟨_, ⟨k + 1, by omega, rfl⟩, hJx3⟩⟩
    · obtain rfl : k = len := by omega
      gi_wp2
      go_end0
      exact ⟨⟨_, rfl⟩, .inl ⟨_, rfl, hJs⟩⟩

set_option maxHeartbeats 1000000 in
theorem steps_in (F : Fence) (n : Nat) (h54 : F.fn 54) (hro : F.round = none) (A : Option Addr) (len cap : Nat) (w : World) :
    CallsIn F n Try.prog 54 #[.slice A len cap] w fun e w' => e = .returned (.func (.func 58) #[] #[.pointer (some ⟨w.heap.size, 0, none⟩)]) ∧ w' = w.alloc (.cells #[.slice A len cap] 41) := by
  refine callsIn_of_wp Try.func54 rfl h54 ?_ hro
  simp only [Try.ntmps54, List.size_toArray, List.length_cons, List.length_nil, Nat.reduceAdd, Nat.reduceSub, Array.replicate_succ, Array.replicate_zero, List.push_toArray, List.append_toArray, List.nil_append, List.cons_append]
  gi_wp2
  go_ret
  exact ⟨rfl, rfl⟩
theorem KpD_b {n₀ Bs : Nat} {w : World} (hn : n₀ ≤ w.heap.size) (hb : Bs < w.heap.size) (W : World) (l : Nat) (o o' : Obj) (hl : w.heap.size ≤ l) (h : W.heap[l]? = some o) (hc : o.isCells = false) (hw : o.isWalk = false) : KpD n₀ Bs W (W.putObj l o') :=
  ⟨belowK_b hn W l o o' hl h hc hw, fun x hx => (World.putObj_heap_other (by omega)).trans hx⟩
theorem KpD_t {n₀ Bs : Nat} {A B C : World} (h : KpD n₀ Bs A B) (k : KpD n₀ Bs B C) : KpD n₀ Bs A C := h.trans k
theorem steps_stops (F : Fence) (n : Nat) (h58 : F.fn 58) (hro : F.round = none) (hn : 1 ≤ n) (Bs n₀ len cap : Nat) (A : Option Addr) (l : List Nat) (h6 : Ok64 l) (hlen : len ≤ 4096) (w : World) (hn₀ : n₀ ≤ w.heap.size)
    (hBs : Blk w Bs 41 #[.slice A len cap]) (hc : ∀ j, j < len → ∃ ad : Addr, A = some ad ∧ ad.block < n₀ ∧ w.cell? (ad.add j) = some (.int .u64 ((l.getD j 0 : Nat) : Int))) :
    SeqStopsK F n Try.prog 58 #[.pointer (some ⟨Bs, 0, none⟩)] (fun x : U64 => #[.int .u64 (x.1 : Int)]) (KpD n₀ Bs) (fun ys => ys = stU l h6 len) (fun pre => ∃ k, k ≤ len ∧ pre = stU l h6 k) len w := fun y J Jx W hW _ _ hY h0 =>
  steps1_in F n h58 hro hn y Bs n₀ len cap A l h6 hlen J Jx hY W ((hW.block Bs hBs.lt).trans hBs)
    (fun j hj => by
      obtain ⟨ad, ha, hb, hcc⟩ := hc j hj
      exact ⟨ad, ha, hb, (hW.cell (p := ad.add j) (by rw [block_of_add]; omega)).trans hcc⟩) h0
end Go.Proofs.Ytfghllgkbdfedaa.Dl
