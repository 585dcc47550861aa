/- The plain law of reading by trying each choice of places: what is near is found, and nothing else; no condition. -/
import Derived.Test.YtbbikkmmdedaiaaMendPlain2
import Derived.Test.YtbbikkmmdedaiaaMendNext
namespace Go.Proofs.Ytbbikkmmdedaiaa.Pr
open Go.Proofs.Ytbbikkmmdedaiaa.Gf

/-- the points of a choice -/
def cx (l : List Nat) : List F := l.map pw
def cy (wo : List F) (l : List Nat) : List F := l.map (co wo)
theorem cx_len (l : List Nat) : (cx l).length = l.length := by simp [cx]
theorem cy_len (wo : List F) (l : List Nat) : (cy wo l).length = l.length := by simp [cy]
theorem co_map (g : Nat → F) (l : List Nat) (i : Nat) (h : i < l.length) : co (l.map g) i = g (l.getD i 0) := by
  rw [co_in _ _ (by simpa using h)]
  simp [List.getD, List.getElem?_eq_getElem h]
theorem getD_mem {l : List Nat} {i : Nat} (h : i < l.length) : l.getD i 0 ∈ l := by
  simp [List.getD, List.getElem?_eq_getElem h]
theorem nodup_map : ∀ {l : List Nat}, l.Nodup → (∀ x ∈ l, ∀ y ∈ l, pw x = pw y → x = y) → (l.map pw).Nodup
  | [], _, _ => List.nodup_nil
  | a :: l, h, hi => by
    have hn := List.nodup_cons.1 h
    rw [List.map_cons, List.nodup_cons]
    refine ⟨fun hm => ?_, nodup_map hn.2 fun x hx y hy e => hi x (by simp [hx]) y (by simp [hy]) e⟩
    obtain ⟨b, hb, e⟩ := List.mem_map.1 hm
    have := hi b (by simp [hb]) a (by simp) e
    exact hn.1 (this ▸ hb)
theorem cx_nodup {l : List Nat} (h : l.Nodup) (hb : ∀ x ∈ l, x < 255) : (cx l).Nodup := by
  exact nodup_map h fun x hx y hy e => pw_inj (hb x hx) (hb y hy) e
/-- the data of a choice -/
def DataOf (wo : List F) (k : Nat) (l : List Nat) (d : List F) : Prop := ∃ p, Thr (cx l) (cy wo l) p ∧ d = pad k p
theorem data_len {wo : List F} {k : Nat} {l : List Nat} {d : List F} (h : DataOf wo k l d) : d.length = k := by
  obtain ⟨p, _, rfl⟩ := h
  exact pad_len _ _
theorem data_near {wo f d : List F} {k : Nat} {s : List Nat} (hf : f.length = k) (hs : s.length = k) (hnd : s.Nodup) (hn : wo.length ≤ 255) (ha : ∀ i ∈ s, co (wd f wo.length) i = co wo i ∧ i < wo.length) (h : DataOf wo k s d) : d = f := by
  obtain ⟨p, hp, rfl⟩ := h
  have hx : (cx s).Nodup := cx_nodup hnd fun x hx => by have := (ha x hx).2; omega
  have hT : Thr (cx s) (cy wo s) (tr f) := by
    refine ⟨tr_trd f, by rw [cx_len, hs, ← hf]; exact tr_len f, fun i hi => ?_⟩
    rw [cx_len] at hi
    have hm := ha _ (getD_mem hi)
    rw [pe_tr, cx, co_map pw s i hi, cy, co_map (co wo) s i hi, ← hm.1, wd_at _ _ _ hm.2]
  rw [hp.uniq hx hT, ← hf]
  exact pad_tr
theorem cnt_ap (p q : Po) (n : Nat) : Nx.cnt (fun i => decide (p i = q i)) n + ap p q n = n := by
  induction n with
  | zero => rfl
  | succ n ih =>
    unfold Nx.cnt ap
    by_cases e : p n = q n
    · rw [if_pos (by simp [e]), if_pos e]; omega
    · rw [if_neg (by simp [e]), if_neg e]; omega
theorem agree {wo f : List F} {k : Nat} (hkn : k ≤ wo.length) (h : Near wo k f) : ∃ s ∈ Nx.subs k wo.length, ∀ i ∈ s, co (wd f wo.length) i = co wo i ∧ i < wo.length := by
  have h1 := cnt_ap (co (wd f wo.length)) (co wo) wo.length
  have h2 : ap (co (wd f wo.length)) (co wo) wo.length ≤ (wo.length - k) / 2 := h.2
  obtain ⟨s, hs, hp⟩ := Nx.choose (fun i => decide (co (wd f wo.length) i = co wo i)) wo.length k (by omega)
  exact ⟨s, hs, fun i hi => ⟨by simpa using (hp i hi).1, (hp i hi).2⟩⟩
/-- a choice that does not read -/
def Fails (wo : List F) (k : Nat) (l : List Nat) : Prop := ∃ d, DataOf wo k l d ∧ (wo.length - k) / 2 < off d wo
theorem none_near {wo : List F} {k : Nat} (hn : wo.length ≤ 8) (hk : 1 ≤ k) (hkn : k ≤ wo.length) (h : ∀ (t : Nat) l, (Nx.full wo.length k)[t]? = some l → Fails wo k l) : GuessNo wo k := by
  intro f hf
  obtain ⟨s, hs, ha⟩ := agree hkn hf
  obtain ⟨t, ht⟩ := Nx.all_subs hn hk hkn hs
  obtain ⟨d, hd, ho⟩ := h t s ht
  have hc := Nx.Ch.of hn hk hkn ht
  have e := data_near hf.1 hc.len (Nx.rises_nodup hc.rise) (by omega) ha hd
  rw [e] at ho
  have := hf.2
  omega
theorem data_yes {wo d : List F} {k : Nat} {l : List Nat} (h : DataOf wo k l d) (ho : off d wo ≤ (wo.length - k) / 2) : Near wo k d := ⟨data_len h, ho⟩
end Go.Proofs.Ytbbikkmmdedaiaa.Pr
