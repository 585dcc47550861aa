/- The two laws of layer 54, walked: each returns true; no condition but that the arguments are of their kinds. -/
import Derived.Test.YtfghllgkbdfedaaRepTake
import Derived.Test.YtfghllgkbdfedaaWords2
import Derived.ProofKit
import Derived.OpenShut
namespace Go.Proofs.Ytfghllgkbdfedaa.Rep
open Go.RowKit
set_option maxRecDepth 100000

def U64s (l : List Nat) : List Value := l.map fun n : Nat => .int .u64 (n : Int)
theorem U64s_len (l : List Nat) : (U64s l).length = l.length := by simp [U64s]
theorem U64s_at {l : List Nat} {k : Nat} {u : Value} (h : (U64s l)[k]? = some u) : u = .int .u64 ((l.getD k 0 : Nat) : Int) ∧ k < l.length := by
  simp only [U64s, List.getElem?_map, Option.map_eq_some_iff] at h
  obtain ⟨n, h1, rfl⟩ := h
  have := (List.getElem?_eq_some_iff.1 h1)
  exact ⟨by simp [List.getD, h1], this.1⟩
theorem take_contains (l : List Nat) (x k : Nat) (hk : k < l.length) : (l.take (k + 1)).contains x = ((l.take k).contains x || (l.getD k 0 == x)) := by
  have e : l.getD k 0 = l[k] := by simp [List.getD, List.getElem?_eq_getElem hk]
  rw [List.take_succ_eq_append_getElem hk, e, Bool.eq_iff_iff, Bool.or_eq_true]
  simp only [List.contains_eq_mem, List.mem_append, List.mem_singleton, decide_eq_true_eq, beq_iff_eq]
  exact or_congr Iff.rfl eq_comm

theorem in_any (A : Option Addr) (c B : Nat) (l : List Nat) (x : Nat) (w : World) (h : Reads w B 1 A l.length (U64s l)) (hl : l.length ≤ 1000000) :
    Calls Try.prog 48 #[.slice A l.length c, .int .u64 x] w fun e w' => e = .returned (.bool (l.contains x)) ∧ w = w' := by
  go_enter Try.func48, Try.ntmps48
  go_wp2_with fail
  go_loop [5] (fun i => ∃ k : Nat, k ≤ l.length ∧ i = .int .i64 k ∧ (l.take k).contains x = false) (fun i => l.length - (intOf i).toNat)
  case atStart => exact ⟨0, by omega, rfl, by simp⟩
  case round =>
    obtain ⟨k, hk, rfl, hn⟩ := hrel
    by_cases hlt : k < l.length
    · obtain ⟨ad, u, rfl, _, hu, hc⟩ := h.at_ hlt
      obtain ⟨rfl, _⟩ := U64s_at hu
      have HT := Lib.hid (take_contains l x k hlt)
      obtain ⟨y, hy⟩ : ∃ y, y = l.getD k 0 := ⟨_, rfl⟩
      rw [← hy] at hc
      have HY := Lib.hid hy
      have HN := Lib.hid hn
      clear hy hn hu h
      by_cases hxy : y = x
      · have hb : ((y : Int) == (x : Int)) = true := by simp; omega
        have HX := Lib.hid hxy
        clear hxy
        go_wp2
        go_ret
        refine ⟨congrArg (fun b => Ending.returned (.bool b)) ?_, rfl⟩
        have h1 : (l.take (k + 1)).contains x = true := by rw [HT.out, ← HY.out, HX.out]; simp
        symm
        have h2 : x ∈ l.take (k + 1) := by simpa using h1
        simpa using List.mem_of_mem_take h2
      · have hb : ((y : Int) == (x : Int)) = false := by simp; omega
        go_wp2
        go_round
        case rel => exact ⟨k + 1, by omega, by go_num, by rw [HT.out, ← HY.out, HN.out]; simp [hxy]⟩
        case measure => simp [intOf]; omega
    · have HN := Lib.hid hn
      have hd : decide (k < l.length) = false := by simp; omega
      clear hn
      go_wp2
      go_ret
      refine ⟨congrArg (fun b => Ending.returned (.bool b)) ?_, rfl⟩
      have h2 := HN.out
      rw [List.take_of_length_le (by omega), List.contains_eq_mem] at h2
      exact h2.symm

theorem freshL_any (A : Option Addr) (c B : Nat) (l : List Nat) (top size x : Nat) (w : World) (h : Reads w B 1 A l.length (U64s l)) (hl : l.length ≤ 1000000) (hs : size ≤ 256) (ht : top < 18446744073709551616) (hx : x < 18446744073709551616) :
    Calls Try.prog 29 #[.slice A l.length c, .int .u64 top, .int .i64 size, .int .u64 x] w fun e w' => e = .returned (.bool (freshL l top size x)) ∧ w = w' := by
  by_cases h0 : l.length = 0
  · have hb : ((l.length : Int) == 0) = true := by rw [beq_iff_eq]; omega
    have HF := Lib.hid (show freshL l top size x = true by unfold freshL; rw [List.eq_nil_of_length_eq_zero h0]; rfl)
    clear h0
    go_enter Try.func29, Try.ntmps29
    go_wp2_with fail
    go_ret
    exact ⟨by rw [HF.out]; rfl, rfl⟩
  · have hb : ((l.length : Int) == 0) = false := by rw [beq_eq_false_iff_ne]; omega
    have hne : l.isEmpty = false := by cases l <;> simp_all
    cases hc : l.contains x with
    | true =>
      have HF := Lib.hid (show freshL l top size x = false by unfold freshL; rw [hne, hc]; rfl)
      have HC := Lib.hid hc
      clear hc hne
      go_enter Try.func29, Try.ntmps29
      go_wp2_with fail
      refine (in_any A c B l x _ h hl).mono ?_; rintro e w' ⟨rfl, rfl⟩
      rw [HC.out]
      go_wp2_with fail
      go_ret
      exact ⟨by rw [HF.out]; rfl, rfl⟩
    | false =>
      have HC := Lib.hid hc
      by_cases h1 : top ≤ x
      · have HF := Lib.hid (show freshL l top size x = true by unfold freshL; rw [hne, hc]; simp [h1])
        clear hc hne
        go_enter Try.func29, Try.ntmps29
        go_wp2_with fail
        refine (in_any A c B l x _ h hl).mono ?_; rintro e w' ⟨rfl, rfl⟩
        rw [HC.out]
        go_wp2_with fail
        go_ret
        exact ⟨by rw [HF.out]; rfl, rfl⟩
      · by_cases h2 : top - x < size
        · have HF := Lib.hid (show freshL l top size x = true by unfold freshL; rw [hne, hc]; simp [h2])
          clear hc hne
          go_enter Try.func29, Try.ntmps29
          go_wp2_with fail
          refine (in_any A c B l x _ h hl).mono ?_; rintro e w' ⟨rfl, rfl⟩
          rw [HC.out]
          go_wp2_with fail
          go_ret
          have e : decide ((top : Int) - (x : Int) < (size : Int)) = true := by simp; omega
          exact ⟨by rw [HF.out, ← e]; rfl, rfl⟩
        · have HF := Lib.hid (show freshL l top size x = false by unfold freshL; rw [hne, hc]; simp [h1, h2])
          clear hc hne
          go_enter Try.func29, Try.ntmps29
          go_wp2_with fail
          refine (in_any A c B l x _ h hl).mono ?_; rintro e w' ⟨rfl, rfl⟩
          rw [HC.out]
          go_wp2_with fail
          go_ret
          have e : decide ((top : Int) - (x : Int) < (size : Int)) = false := by simp; omega
          exact ⟨by rw [HF.out, ← e]; rfl, rfl⟩
end Go.Proofs.Ytfghllgkbdfedaa.Rep
