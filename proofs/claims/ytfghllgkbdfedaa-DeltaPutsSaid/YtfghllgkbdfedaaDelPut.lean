/- What delta.Put computes; condition: at most 4096 numbers. -/
import Derived.Test.YtfghllgkbdfedaaDelSteps
import Derived.Test.YtfghllgkbdfedaaShelf
set_option maxRecDepth 100000
namespace Go.Proofs.Ytfghllgkbdfedaa.Dl
open Go.RowKit Go.Shelf
attribute [local go_sem] Oper.semAt_some

theorem builderF_own {β : Type} (T e : TypeId) (B b : Nat) (bs : β → List Value) : Go.Own (fun (s : β) W => Lib.IsBuilderF T e B b (bs s) W) := by
  intro s X Y row h hg hrow
  have key : ∀ p, Lib.BuilderAtF T e B b p (bs s) X → Lib.BuilderAtF T e B b p (bs s) Y := by
    rintro p ⟨hB, v, hb, hown, hne⟩
    have blk : ∀ (k : Nat) (cs : Array Value) (t : TypeId) (fz : Nat × Nat), X.heap[k]? = some (Obj.cells cs t fz) → Y.heap[k]? = some (Obj.cells cs t fz) := by
      intro k cs t fz hk
      rw [hg.block k (Array.getElem?_eq_some_iff.1 hk).1 (fun e' => by
        obtain ⟨o, ho, hc⟩ := hrow k e'.symm
        rw [hk] at ho; cases ho; cases hc)]
      exact hk
    refine ⟨hB, v, blk _ _ _ _ hb, ⟨hown.1, ?_⟩, hne⟩
    rcases hown.2 with hn | ⟨g, cap, cur, fz, hv, hbg, hgg, rest⟩
    · exact .inl hn
    · exact .inr ⟨g, cap, cur, fz, hv, hbg, blk _ _ _ _ hgg, rest⟩
  rcases h with h | h
  · exact .inl (key _ h)
  · exact .inr (key _ h)
theorem buildF_on {T e : TypeId} {B b : Nat} {bs : List Value} {w w' : World} (h : Lib.IsBuilderF T e B b bs w) (hb : Below w.heap.size w w') : Lib.IsBuilderF T e B b bs w' :=
  builderF_own (β := Unit) T e B b (fun _ => bs) () w w' none h (only_of_below hb none) (fun r e => by cases e)
theorem buildF_blk {T e : TypeId} {B b : Nat} {bs : List Value} {w : World} (h : Lib.IsBuilderF T e B b bs w) : ∃ cs, w.heap[b]? = some (.cells cs T (0, 0)) := by
  rcases h with ⟨_, v, h, _⟩ | ⟨_, v, h, _⟩
  · exact ⟨_, h⟩
  · exact ⟨_, h⟩
theorem blk_own {β : Type} (g : Nat) (t : TypeId) (cs : Array Value) : Go.Own (fun (_ : β) W => Blk W g t cs) := by
  intro s X Y row h hg hrow
  exact h.grown hg (fun e' => by
    obtain ⟨o, ho, hc⟩ := hrow g e'.symm
    rw [show X.heap[g]? = _ from h] at ho; cases ho; cases hc)
theorem keeps_of_below {W W' : World} (h : Below W.heap.size W W') : KeepsOthers W W' := ⟨h.size, fun k _ hk _ => (h.block k (Array.getElem?_eq_some_iff.1 hk).1).trans hk⟩
theorem keeps_of_others {b : Nat} {cs : Array Value} {T : TypeId} {W W' : World} (h : Lib.OthersKept 5 (some b) W W') (hs : W.heap.size ≤ W'.heap.size) (hb : W.heap[b]? = some (.cells cs T (0, 0))) : KeepsOthers W W' :=
  ⟨hs, fun k o hk ho => h k o hk (fun e => by injection e with e; subst e; rw [hb] at hk; cases hk; cases ho) (fun c fz e => by subst e; cases ho)⟩

def accU (n : Nat) (pre : List U64) : List UInt8 := Var.put n ++ puts (pre.map (·.1))
theorem accU_snoc (n : Nat) (pre : List U64) (x : U64) : accU n (pre ++ [x]) = accU n pre ++ Var.put x.1 := by
  unfold accU
  rw [List.map_append, List.map_singleton, puts_snoc, List.append_assoc]
theorem accU_len (n : Nat) (pre : List U64) : (accU n pre).length ≤ 10 * (pre.length + 1) := by
  have h1 := put_len n
  have h2 := puts_len (pre.map (·.1))
  rw [List.length_map] at h2
  unfold accU
  rw [List.length_append]
  omega
set_option maxHeartbeats 4000000 in
theorem put57_rise (A : Option Addr) (n c : Nat) (l : List Nat) (w : World) (hr : RowU w A n l) (hn : n ≤ 4096) (hR : Rise l) :
    Calls Try.prog 42 #[.slice A n c] w fun e w' => e = .returned (.tuple #[.string ⟨(enc l).toArray⟩, .int .i64 0]) ∧ Below w.heap.size w w' := by
  have M1 := Lib.hid (rises_any A n c l true (by simp [hR]) hn w hr)
  have h6 := hr.2.2
  have HR := Lib.hid hr
  have M2 := Lib.hid (fun w => Var.put_any n w (by omega))
  have M4 := Lib.hid (fun w => steps_in Fence.wide 2 trivial rfl A n c w)
  have hpl := put_len n
  have hn2 : (n : Int) ≤ 4096 := by omega
  have hsz : ([] : List Value).length + (⟨(Var.put n).toArray⟩ : ByteArray).size ≤ 140737488355328 := by
    show 0 + (Var.put n).toArray.size ≤ _
    rw [List.size_toArray]; omega
  have hcv : IntKind.u64.wrap (n : Int) = (n : Int) := by rw [u64_wrap]; omega
  refine (callsIn_wide (n := 3)).1 ?_
  refine callsIn_of_wp_marks Try.func42 rfl trivial ?_ rfl
  simp only [Try.ntmps42, List.size_toArray, List.length_cons, List.length_nil, Nat.reduceAdd, Nat.reduceSub, Array.replicate_succ, Array.replicate_zero, List.push_toArray, List.append_toArray, List.nil_append, List.cons_append]
  gi_wp2_with (first
    | (refine ⟨trivial, ?_⟩; gi_at_call 43; (with_reducible refine (callsIn_wide.2 M1.out).mono ?_); rintro e W0 ⟨rfl, b0⟩; have hF0 := Lib.IsBuilderF.of (Lib.fresh_isBuilder 93 5 W0); have hz0 := b0.size)
    | (refine ⟨trivial, ?_⟩; gi_at_call 23; (with_reducible refine (callsIn_wide.2 (M2.out _)).mono ?_); rintro e W1 ⟨rfl, b1⟩; have hF1 := buildF_on hF0 b1; have hz1 := b1.size; rw [World.size_alloc] at hz1)
    | (refine ⟨trivial, ?_⟩; gi_at_call 53; (with_reducible refine (callsIn_wide.2 (Sh.Builder_WriteString_k W0.heap.size W0.heap.size [] ⟨(Var.put n).toArray⟩ W1 hF1 hsz (by omega))).mono ?_); rintro e W2 ⟨rfl, hF2, b2, _⟩; have hz2 := b2.size)
    | (refine ⟨trivial, ?_⟩; gi_at_call 54; (with_reducible refine (M4.out W2).mono ?_); rintro e W3 ⟨rfl, rfl⟩))
  obtain ⟨W3, hW3⟩ : ∃ W3, W3 = W2.alloc (.cells #[.slice A n c] 41) := ⟨_, rfl⟩
  rw [← hW3]
  have hz3 : W3.heap.size = W2.heap.size + 1 := by rw [hW3, World.size_alloc]
  have hBk3 : Blk W3 W2.heap.size 41 #[.slice A n c] := by rw [hW3]; exact Blk.new W2 41 _
  have hF3 : Lib.IsBuilderF 93 5 W0.heap.size W0.heap.size (Lib.byteCells (Var.put n)) W3 := by
    rw [hW3]
    refine buildF_on (.inr ?_) ((Below.refl _ _).alloc (Nat.le_refl _) _)
    have e : Lib.byteCells (Var.put n) = [] ++ Lib.strCells ⟨(Var.put n).toArray⟩ := by rw [Lib.strCells_eq]; rfl
    rw [e]; exact hF2
  have hb3 : Below W0.heap.size W0 W3 := by
    rw [hW3]
    exact ((((Below.refl _ W0).alloc (Nat.le_refl _) _).trans (b1.mono (by simp))).trans b2).alloc (by omega) _
  obtain ⟨g, hg⟩ : ∃ g, g = W0.heap.size := ⟨_, rfl⟩
  obtain ⟨Bs, hBs⟩ : ∃ Bs, Bs = W2.heap.size := ⟨_, rfl⟩
  have hgBs : g < Bs := by omega
  have hgw : w.heap.size ≤ g := by omega
  have hg0 : g ≤ W0.heap.size := by omega
  rw [← hBs] at hBk3 hz3 ⊢
  rw [← hg] at hF3 hb3 ⊢
  have hl := hr.1
  have hrow : ∀ j, j < n → ∃ ad : Addr, A = some ad ∧ ad.block < g ∧ W3.cell? (ad.add j) = some (.int .u64 ((l.getD j 0 : Nat) : Int)) := by
    intro j hj
    obtain ⟨ad, ha, hab, hcc⟩ := hr.cell hj
    exact ⟨ad, ha, by omega, ((b0.trans (hb3.mono hgw)).cell (p := ad.add j) (by rw [block_of_add]; omega)).trans hcc⟩
  clear hF0 hF1 hF2 b1 b2 hW3 hg hBs hz0 hz1 hz2 M1 HR
  refine wpIn_rangeFunc_ownF rfl (by omega) (gf := 58) (lb := #[.pointer (some ⟨Bs, 0, none⟩)]) rfl trivial (enters_of Try.func58 (by kernel_rfl) rfl)
    (steps_stops Fence.wide _ trivial rfl (by omega) Bs g n c A l h6 hn W3 (by omega) hBk3 hrow) KpD_t (KpD_b (by omega) (by omega)) (Below.refl _ _) (fun _ => rfl)
    (fun pre W => (Lib.IsBuilderF 93 5 g g (Lib.byteCells (accU n pre)) W ∧ Blk W Bs 41 #[.slice A n c]) ∧ Below g W0 W)
    (fun _ _ _ => False)
    (OwnFrom.and (Own.from (fun s X Y row hs hg hr => ⟨builderF_own 93 5 g g (fun (pre : List U64) => Lib.byteCells (accU n pre)) s X Y row hs.1 hg hr, blk_own (β := List U64) Bs 41 _ s X Y row hs.2 hg hr⟩) _) (ownFrom_below hg0 (by omega)))
    (fun _ _ _ _ _ hs _ _ => hs)
    ⟨⟨by simpa [accU, puts] using hF3, hBk3⟩, hb3⟩
    (fun x => { tmps := #[.slice A n c, undef, .string ⟨#[]⟩, .int .i64 0, .pointer (some ⟨g, 0, none⟩), .int .u64 (x.1 : Int), .bool (decide ((4096 : Int) < (n : Int))), .slice A n c, .int .i64 n, .bool (decide ((4096 : Int) < (n : Int))), .bool false, .slice A n c, .bool true, .bool false, .slice A n c, .int .i64 n, .int .u64 n, .string ⟨(Var.put n).toArray⟩, .tuple #[.int .i64 ((Var.put n).length : Int), .nilIface], .slice A n c, .func (.func 58) #[] #[.pointer (some ⟨Bs, 0, none⟩)], .int .u64 (x.1 : Int), undef, undef, undef, undef], defers := [] }) ?assign ?body ?done ?stop
  case assign =>
    intro y x W K hK
    gi_wp2
    exact hK
  case body =>
    rintro y pre x W ⟨⟨hI, hBk⟩, hB⟩ hlt
    have hgW : g ≤ W.heap.size := by have := hB.size; omega
    have hpx := put_len x.1
    have hps := accU_len n pre
    have MP := Lib.hid (Var.put_any x.1 W x.2)
    have HNEW := Lib.hid (accU_snoc n pre x)
    generalize accU n pre = acc at hI hps HNEW
    have hlen : (Lib.byteCells acc).length + (⟨(Var.put x.1).toArray⟩ : ByteArray).size ≤ 140737488355328 := by
      rw [Lib.byteCells_length]
      show _ + (Var.put x.1).toArray.size ≤ _
      rw [List.size_toArray]; omega
    gi_wp2_with (first
      | (refine ⟨trivial, ?_⟩; gi_at_call 23; refine (CallsIn.inRound y (callsIn_wide.2 MP.out)).mono ?_; rintro e W1 ⟨rfl, b1⟩; have hI1 := buildF_on hI b1; have hz1 := b1.size)
      | (refine ⟨trivial, ?_⟩; gi_at_call 53; refine (CallsIn.inRound y (callsIn_wide.2 (Sh.Builder_WriteString_k g g _ ⟨(Var.put x.1).toArray⟩ W1 hI1 hlen (by omega)))).mono ?_; rintro e W2 ⟨rfl, hF2, b2, k2⟩))
    obtain ⟨cs, hcs⟩ := buildF_blk hI1
    have hk1 : KeepsOthers W W2 := (keeps_of_below b1).trans (keeps_of_others k2 b2.size hcs)
    have hkd : KpD g Bs W W2 := by
      refine ⟨(b1.mono hgW).trans b2, fun o ho => ?_⟩
      have h1 := (b1.block Bs hBk.lt).trans ho
      refine k2 Bs o h1 (fun e => by injection e with e; omega) (fun c' fz e => ?_)
      subst e
      rw [show W.heap[Bs]? = _ from hBk] at ho
      cases ho
    refine ⟨hk1, hkd, ⟨?_, hkd.blk hBk⟩, hB.trans hkd.1⟩
    rw [HNEW.out]
    refine .inr ?_
    have e : Lib.byteCells (acc ++ Var.put x.1) = Lib.byteCells acc ++ Lib.strCells ⟨(Var.put x.1).toArray⟩ := by rw [Lib.strCells_eq, Lib.byteCells_append]
    rw [e]; exact hF2
  case done =>
    rintro D ys W hD rfl ⟨⟨hI, hBk⟩, hB⟩ hK
    have he : accU n (stU l h6 n) = enc l := by
      unfold accU enc
      rw [stU_vals, ← hl]
      rfl
    rw [he] at hI
    have hgW : g ≤ W.heap.size := by have := hB.size; omega
    have MS := Lib.hid (Sh.Builder_String_any_k g g (enc l) W hI hgW)
    obtain ⟨cs, hcs⟩ := buildF_blk hI
    have hgD : g ≠ D := by omega
    gi_wp2_with (refine ⟨trivial, ?_⟩; gi_at_call 55; (with_reducible refine (callsIn_wide.2 MS.out).mono ?_); rintro e W2 ⟨rfl, hI2, b2, k2⟩)
    have hK2 := k2 D _ hK (fun e => by injection e with e; omega) (fun c' fz e => by cases e)
    refine ⟨by simp, .inl ⟨_, _, rfl, run_takeDeferred hK2, ?_⟩⟩
    have hend := b0.trans ((hB.trans (b2.trans (belowK_b (w := W3) (by omega) W2 D _ (.deferred none) (by omega) hK2 rfl rfl))).mono hgw)
    exact ⟨_, results_tmp2 rfl _ _ _, rfl, hend⟩
  case stop =>
    rintro D c pre W _ _ h _
    exact h.elim

set_option maxHeartbeats 2000000 in
theorem put57_bad (A : Option Addr) (n c : Nat) (l : List Nat) (w : World) (hr : RowU w A n l) (hn : n ≤ 4096) (hR : ¬ Rise l) :
    Calls Try.prog 42 #[.slice A n c] w fun e w' => e = .returned (.tuple #[.string ⟨#[]⟩, .int .i64 5]) ∧ Below w.heap.size w w' := by
  have M1 := Lib.hid (rises_any A n c l false (by simp [hR]) hn w hr)
  have hn2 : (n : Int) ≤ 4096 := by omega
  clear hr hR hn
  refine (callsIn_wide (n := 3)).1 ?_
  refine callsIn_of_wp_marks Try.func42 rfl trivial ?_ rfl
  simp only [Try.ntmps42, List.size_toArray, List.length_cons, List.length_nil, Nat.reduceAdd, Nat.reduceSub, Array.replicate_succ, Array.replicate_zero, List.push_toArray, List.append_toArray, List.nil_append, List.cons_append]
  gi_wp2_with (refine ⟨trivial, ?_⟩; gi_at_call 43; (with_reducible refine (callsIn_wide.2 M1.out).mono ?_); rintro e W0 ⟨rfl, b0⟩)
  exact ⟨_, results_tmp2 rfl _ _ _, rfl, b0⟩
end Go.Proofs.Ytfghllgkbdfedaa.Dl
