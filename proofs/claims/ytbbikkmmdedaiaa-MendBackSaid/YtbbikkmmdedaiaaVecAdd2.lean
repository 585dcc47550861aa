/- What vector.Add and the reference's MulAdd compute. -/
import Derived.Test.YtbbikkmmdedaiaaVecAdd
import Derived.Deep.Onto
set_option maxRecDepth 100000
namespace Go.Proofs.Ytbbikkmmdedaiaa.Vec
open Go.RowKit Go.Proofs.Ytbbikkmmdedaiaa.Gf

theorem scale_one (m : List Nat) (hm : Bytes m) : scale 1 m = m := by
  apply ext_getD (scale_len 1 m)
  intro i hi
  rw [scale_len] at hi
  rw [scale_getD 1 m i hi, Gf.mul_comm 1 _ (by omega) (hm.at_ i), mul_one _ (hm.at_ i)]
theorem below_chain2 {w w1 w2 : World} (h : Below w.heap.size w w1) (k : Below w1.heap.size w1 w2) : Below w.heap.size w w2 := below_chain h k

theorem add_ok (A : Option Addr) (c B : Nat) (A2 : Option Addr) (c2 B2 : Nat) (l m : List Nat) (w : World) (hr : Reads w B 1 A l.length (U8s l)) (hr2 : Reads w B2 1 A2 m.length (U8s m)) (hl : Bytes l) (hm : Bytes m)
    (hn : l.length ≤ 1000000) (hlm : l.length = m.length) (hB : B ≤ w.heap.size) (hB2 : B2 ≤ w.heap.size) :
    Calls Try.prog 19 #[.slice A l.length c, .slice A2 m.length c2] w fun e w' => e = .returned (.tuple #[.slice (some ⟨w.heap.size, 0, none⟩) l.length l.length, .int .i64 0]) ∧ VB w' w.heap.size (add l m) ∧ Below w.heap.size w w' := by
  have M1 := muladd_any A c B 1 A2 c2 B2 l m w (by omega) hr hr2 hl hm hn hlm hB hB2
  rw [scale_one m hm] at M1
  have M2 := Lib.hid (show Calls Try.prog 21 #[.slice A l.length c, .int .u8 1, .slice A2 m.length c2] w fun e w' => e = .returned (.tuple #[.slice (some ⟨w.heap.size, 0, none⟩) l.length l.length, .int .i64 0]) ∧ VB w' w.heap.size (add l m) ∧ Below w.heap.size w w' from M1)
  clear M1 hr hr2 hl hm hn hlm hB hB2
  go_enter Try.func19, Try.ntmps19
  go_wp2_with (go_at_call 21; refine (M2.out).mono ?_; rintro e W ⟨rfl, hv, hb⟩)
  go_ret2
  exact ⟨rfl, hv, hb⟩
theorem add_bad (A : Option Addr) (n c : Nat) (A2 : Option Addr) (n2 c2 : Nat) (w : World) (h : n ≠ n2) :
    Calls Try.prog 19 #[.slice A n c, .slice A2 n2 c2] w fun e w' => e = .returned (.tuple #[.slice none 0 0, .int .i64 16]) ∧ w = w' := by
  have M2 := Lib.hid (show Calls Try.prog 21 #[.slice A n c, .int .u8 1, .slice A2 n2 c2] w fun e w' => e = .returned (.tuple #[.slice none 0 0, .int .i64 16]) ∧ w = w' from muladd_bad A n c 1 A2 n2 c2 w h)
  clear h
  go_enter Try.func19, Try.ntmps19
  go_wp2_with (go_at_call 21; refine (M2.out).mono ?_; rintro e W ⟨rfl, rfl⟩)
  go_ret2
  exact ⟨rfl, rfl⟩

theorem ref_muladd_any (A : Option Addr) (c B : Nat) (k : Nat) (A2 : Option Addr) (c2 B2 : Nat) (l m : List Nat) (w : World) (hk : k < 256) (hr : Reads w B 1 A l.length (U8s l)) (hr2 : Reads w B2 1 A2 m.length (U8s m)) (hl : Bytes l) (hm : Bytes m)
    (hn : l.length ≤ 1000000) (hlm : l.length = m.length) (hB : B ≤ w.heap.size) (hB2 : B2 ≤ w.heap.size) :
    Calls Try.prog 22 #[.slice A l.length c, .int .u8 k, .slice A2 m.length c2] w fun e w' => (∃ A' c', e = .returned (.tuple #[.slice A' l.length c', .int .i64 0]) ∧ Own w' w.heap.size 5 (.slice A' l.length c') (U8s (add l (scale k m)))) ∧ Below w.heap.size w w' := by
  have M1 := Lib.hid (ref_scale_any k A2 c2 B2 m w hk hr2 hm (by omega) hB2)
  have e0 : l.length = (scale k m).length := by rw [scale_len]; exact hlm
  have HR := Lib.hid hr
  have HL := Lib.hid hl
  have HE := Lib.hid e0
  have HN := Lib.hid hn
  have HSB := Lib.hid (scale_bytes k m hk)
  have HBB := Lib.hid hB
  clear hr hr2 hl hm hn hlm hB hB2 e0
  go_enter Try.func22, Try.ntmps22
  go_wp2_with (go_at_call 27; refine (M1.out).mono ?_; rintro e W ⟨⟨A3, c3, rfl, ho⟩, hb⟩)
  have hsz := hb.size
  have hrl : Reads W B 1 A l.length (U8s l) := HR.out.below (hb.mono HBB.out)
  have hrs : Reads W W.heap.size 1 A3 (scale k m).length (U8s (scale k m)) := by
    have := ho.reads
    rw [U8s_len] at this
    exact this
  have M2 := Lib.hid (ref_add_any A c W.heap.size l A3 c3 (scale k m) W (hrl.more (by have := HBB.out; omega)) hrs HL.out HSB.out HN.out (Nat.le_refl _) HE.out)
  clear ho hrl hrs
  go_wp2_with (go_at_call 20; refine (M2.out).mono ?_; rintro e W2 ⟨⟨A4, c4, rfl, ho2⟩, hb2⟩)
  go_ret2
  exact ⟨⟨A4, c4, rfl, World.ownsRow.mono ho2 hsz⟩, below_chain hb hb2⟩

theorem ref_muladd_bad (A : Option Addr) (n c : Nat) (k : Nat) (A2 : Option Addr) (c2 B2 : Nat) (m : List Nat) (w : World) (hk : k < 256) (hr2 : Reads w B2 1 A2 m.length (U8s m)) (hm : Bytes m)
    (hn : m.length ≤ 1000000) (hlm : n ≠ m.length) (hB2 : B2 ≤ w.heap.size) :
    Calls Try.prog 22 #[.slice A n c, .int .u8 k, .slice A2 m.length c2] w fun e w' => e = .returned (.tuple #[.slice none 0 0, .int .i64 16]) ∧ Below w.heap.size w w' := by
  have M1 := Lib.hid (ref_scale_any k A2 c2 B2 m w hk hr2 hm hn hB2)
  have HE := Lib.hid (show n ≠ (scale k m).length by rw [scale_len]; exact hlm)
  clear hr2 hm hn hlm hB2
  go_enter Try.func22, Try.ntmps22
  go_wp2_with (go_at_call 27; refine (M1.out).mono ?_; rintro e W ⟨⟨A3, c3, rfl, ho⟩, hb⟩)
  have M2 := Lib.hid (ref_add_bad A n c A3 (scale k m).length c3 W HE.out)
  clear ho
  go_wp2_with (go_at_call 20; refine (M2.out).mono ?_; rintro e W2 ⟨rfl, rfl⟩)
  go_ret2
  exact ⟨rfl, hb⟩
end Go.Proofs.Ytbbikkmmdedaiaa.Vec
