/- Contracts of the calls of law 40 in one shape: what comes back, and that all memory that was is as it was; rows of given bytes; no condition. -/
import Derived.Test.YtbbikkmmdedaiaaPolyDiv2
set_option maxRecDepth 100000
namespace Go.Proofs.Ytbbikkmmdedaiaa.Pr
open Go.RowKit Go.Proofs.Ytbbikkmmdedaiaa.Gf Go.Proofs.Ytbbikkmmdedaiaa.Vec

/-- given bytes as a list of the field -/
def lf (l : List Nat) : List F := l.map fun n => ⟨n % 256, Nat.mod_lt _ (by omega)⟩
theorem lit_step (W : World) (l : List F) (cs : Array Value) (h : (U8s (vals l)).toArray = cs) (n : Nat) (hn : l.length = n) :
    RowAt (W.alloc (.cells cs 5)) (some ⟨W.heap.size, 0, none⟩) n n l ∧ Below W.heap.size W (W.alloc (.cells cs 5)) ∧ (W.alloc (.cells cs 5)).heap.size = W.heap.size + 1 := by
  subst h hn
  exact ⟨VBF.row (show VBF _ _ l from Blk.new _ _ _), (Below.refl _ _).alloc (Nat.le_refl _) _, by simp⟩
theorem row_of {w : World} {a : Option Addr} {len cap : Nat} {zs : List Int} (h : IsRow .u8 w a len cap zs) : ∃ l : List F, RowAt w a len cap l := by
  obtain ⟨m, h1, h2, h3⟩ := row_bytes h
  obtain ⟨l, rfl⟩ := of_bytes m h3
  exact ⟨l, by rw [← vals_len, h1], h.reads.2.1, h2⟩
instance (l : List F) : Decidable (Trd l) := by unfold Trd; infer_instance
theorem qr_of {a b q r : List F} (h1 : Trd q) (h2 : Trd r) (h3 : pa (pm q b) r = tr a) (h4 : r.length < (tr b).length) : Qr a b q r :=
  ⟨h1, h2, by rw [← co_tr a, ← h3, co_pa, co_pm], h4⟩
theorem qr_len_r {a b q r : List F} (h : Qr a b q r) : r.length ≤ b.length := by
  have h1 := h.2.2.2
  have h2 := tr_len b
  omega
theorem qr_len_q {a b q r : List F} (h : Qr a b q r) : q.length ≤ a.length + 1 := by
  rcases h.1.or with e | ⟨n, hn, ht⟩
  · rw [e]; simp
  · rcases (tr_trd b).or with e | ⟨k, hk, hb⟩
    · have := h.2.2.2
      rw [e] at this
      simp at this
    · rw [co_tr] at hb
      have h4 : Top (n + k) (ad (cv (co q) (co b)) (co r)) := (ht.cv hb).ad ((co_lo r).mono (by have := h.2.2.2; omega))
      rw [← h.2.2.1] at h4
      have := h4.le (co_lo a)
      omega

section
variable {w : World} {A A2 : Option Addr} {n n2 c c2 : Nat} {l m : List F}
theorem trim_b (h : RowAt w A n c l) (hn : n ≤ 100000) : Calls Try.prog 43 #[.slice A n c] w (Gv (tr l) w) :=
  (trim_row h (by omega)).mono fun _ _ ⟨⟨A', n', c', h1, h2⟩, h3⟩ => by subst h3; exact ⟨A', n', c', h1, h2, Below.refl _ _⟩
theorem ref_trim_b (h : RowAt w A n c l) (hn : n ≤ 100000) : Calls Try.prog 44 #[.slice A n c] w (Gv (tr l) w) :=
  (ref_trim_row h (by omega)).mono fun _ _ ⟨⟨A', n', c', h1, h2⟩, h3⟩ => by subst h3; exact ⟨A', n', c', h1, h2, Below.refl _ _⟩
theorem eval_b (h : RowAt w A n c l) (x : F) (x0 v : Nat) (hx : x0 = x.1) (hv : v = (pe l x).1) (hn : n ≤ 100000) :
    Calls Try.prog 49 #[.slice A n c, .int .u8 x0] w fun e w' => e = .returned (.int .u8 v) ∧ Below w.heap.size w w' := by
  subst hx hv
  exact (eval_row A n c l x w h hn).mono fun _ _ ⟨h1, k, h2⟩ => ⟨h1, by rw [h2]; exact below_drewN (Below.refl _ _) k⟩
theorem eval_lit (h : RowAt w A n c l) (x0 v : Nat) (hn : n ≤ 100000) (hv : ∃ x : F, x0 = x.1 ∧ v = (pe l x).1) :
    Calls Try.prog 49 #[.slice A n c, .int .u8 x0] w fun e w' => e = .returned (.int .u8 v) ∧ Below w.heap.size w w' := by
  obtain ⟨x, h1, h2⟩ := hv
  exact eval_b h x x0 v h1 h2 hn
theorem ref_eval_b (h : RowAt w A n c l) (x : F) (x0 v : Nat) (hx : x0 = x.1) (hv : v = (pe l x).1) (hn : n ≤ 100000) :
    Calls Try.prog 50 #[.slice A n c, .int .u8 x0] w fun e w' => e = .returned (.int .u8 v) ∧ Below w.heap.size w w' := by
  subst hx hv
  exact (ref_eval_row A n c l x w h hn).mono fun _ _ ⟨h1, h2⟩ => ⟨h1, by subst h2; exact Below.refl _ _⟩
theorem same_b (h : RowAt w A n c l) (h2 : RowAt w A2 n2 c2 m) (e : l = m) (hn : l.length ≤ 100000) :
    Calls Try.prog 25 #[.slice A n c, .slice A2 n2 c2] w fun e w' => e = .returned (.bool true) ∧ Below w.heap.size w w' := by
  subst e
  obtain ⟨h1, _, h3⟩ := h
  obtain ⟨h4, _, h5⟩ := h2
  subst h1
  obtain rfl := h4
  have hv := vals_len l
  rw [← hv] at h3 h5 hn ⊢
  exact (same_any A c _ A2 c2 _ (vals l) w h3 h5 (by omega)).mono fun _ _ ⟨h1, k, h2⟩ => ⟨h1, by rw [h2]; exact below_drewN (Below.refl _ _) k⟩
end
end Go.Proofs.Ytbbikkmmdedaiaa.Pr
