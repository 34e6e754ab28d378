/- Plain laws of the values that valueOf makes: they are formed, they fit, their encoding is short; two of them are encoded alike just if they are the same. · Plain laws of decoding: what is decoded fits; encoding, fitting and form do not hang on the depth allowed; what Read makes of an encoding, of its beginnings, and of one with something behind it. -/
import Derived.Test.YteojmmjanjilaaaPart13
import Derived.Test.YteojmmjanjilaaaPart24
set_option linter.unusedVariables false
namespace Go.Val
def nodes : Nat → V → Nat
  | 0, _ => 0
  | d + 1, .mk _ _ _ a => 1 + (a.map (nodes d)).sum
def Good : Nat → V → Prop
  | 0, _ => False
  | d + 1, .mk k n t a => headOk k n t a.length = true ∧ t.size ≤ 21 ∧ ∀ x ∈ a, Good d x

theorem Good.form : ∀ (d : Nat) (v : V), Good d v → formF d v = true
  | 0, _, h => h.elim
  | d + 1, .mk k n t a, h => by
    simp only [formF, Bool.and_eq_true, List.all_eq_true]
    exact ⟨h.1, fun x hx => Good.form d x (h.2.2 x hx)⟩
theorem fitsL_all {f : V → Int → Bool × Int} {g : V → Nat} : ∀ (a : List V) (l : Int), (∀ x ∈ a, ∀ l, (g x : Int) ≤ l → f x l = (true, l - g x)) → ((a.map g).sum : Int) ≤ l → fitsL f a l = (true, l - ((a.map g).sum : Nat))
  | [], l, _, _ => by simp [fitsL]
  | x :: r, l, h, hl => by
    simp only [List.map_cons, List.sum_cons] at hl ⊢
    have h1 := h x (by simp) l (by omega)
    have h2 := fitsL_all r (l - g x) (fun y hy => h y (by simp [hy])) (by omega)
    rw [fitsL, h1]
    simp only [if_true]
    rw [h2]
    congr 1
    omega
theorem Good.fits : ∀ (d : Nat) (v : V) (l dep : Int), Good d v → (nodes d v : Int) ≤ l → dep + d ≤ 41 → fitsF d v l dep = (true, l - nodes d v)
  | 0, _, _, _, h, _, _ => h.elim
  | d + 1, .mk k n t a, l, dep, h, hl, hd => by
    have h1 := fitsL_all (f := fun x l => fitsF d x l (dep + 1)) (g := nodes d) a (l - 1) (fun x hx l hl => Good.fits d x l (dep + 1) (h.2.2 x hx) hl (by omega)) (by simp only [nodes] at hl; omega)
    have h2 := h.2.1
    simp only [nodes] at hl ⊢
    rw [fitsF, if_neg (by omega), h1]
    congr 1
    omega
theorem sum_le {α : Type} (f g : α → Nat) : ∀ (l : List α), (∀ x ∈ l, f x ≤ g x) → (l.map f).sum ≤ (l.map g).sum
  | [], _ => Nat.le_refl _
  | x :: r, h => by
    have h1 := h x (by simp)
    have h2 := sum_le f g r fun y hy => h y (by simp [hy])
    simp only [List.map_cons, List.sum_cons]
    omega
theorem flat_len {α : Type} (f : α → List UInt8) : ∀ (l : List α), (l.flatMap f).length = (l.map fun x => (f x).length).sum
  | [] => rfl
  | x :: r => by simp [flat_len f r]
theorem Good.enc : ∀ (d : Nat) (v : V), Good d v → (encV d v).length ≤ 60 * nodes d v
  | 0, _, h => h.elim
  | d + 1, .mk k n t a, h => by
    have h1 := sum_le (fun x => (encV d x).length) (fun x => 60 * nodes d x) a fun x hx => Good.enc d x (h.2.2 x hx)
    have h2 : (a.map fun x => 60 * nodes d x).sum = 60 * (a.map (nodes d)).sum := by
      clear h1 h
      induction a with
      | nil => rfl
      | cons x r ih => simp only [List.map_cons, List.sum_cons, ih]; omega
    have h3 := natE_len (zz n)
    have h4 := natE_len t.size
    have h5 := natE_len a.length
    have h6 := h.2.1
    have h7 : t.data.toList.length = t.size := by rw [Array.length_toList]; rfl
    simp only [encV, intE, textE, listE, List.length_cons, List.length_append, flat_len, nodes]
    omega

theorem headOk_head (r : Raw) (m : Nat) (hm : m = (headF (1 + restN r.kind 8) r).2.2) : headOk (1 + restN r.kind 8) (headF (1 + restN r.kind 8) r).1 (headF (1 + restN r.kind 8) r).2.1 m = true ∧ (headF (1 + restN r.kind 8) r).2.1.size ≤ 21 ∧ m ≤ 3 := by
  subst hm
  have hb : ∀ n m : Int, 0 < m → 0 ≤ restN n m ∧ restN n m < m := fun n m h => by
    unfold restN
    split
    · exact ⟨Int.emod_nonneg _ (by omega), Int.emod_lt_of_pos _ h⟩
    · exact ⟨Int.emod_nonneg _ (by omega), Int.emod_lt_of_pos _ h⟩
  have hk := hb r.kind 8 (by omega)
  have h2 := hb r.a 2 (by omega)
  have h4 := hb r.a 4 (by omega)
  have h3 := hb r.b 3 (by omega)
  have hc : (cutText r.text).size ≤ 20 := by unfold cutText; simp; omega
  have he : (⟨#[]⟩ : ByteArray).toList.isEmpty = true := by rw [ByteArray.toList_eq]; rfl
  have hM : ((⟨#[77]⟩ : ByteArray) ++ cutText r.text).toList.isEmpty = false := by
    rw [ByteArray.toList_eq]
    simp [ByteArray.data_append]
  have hMs : ((⟨#[77]⟩ : ByteArray) ++ cutText r.text).size ≤ 21 := by
    rw [ByteArray.size_append]
    have : (⟨#[77]⟩ : ByteArray).size = 1 := rfl
    omega
  have hs0 : (⟨#[]⟩ : ByteArray).size = 0 := rfl
  generalize restN r.kind 8 = q at hk ⊢
  obtain rfl | rfl | rfl | rfl | rfl | rfl | rfl | rfl : q = 0 ∨ q = 1 ∨ q = 2 ∨ q = 3 ∨ q = 4 ∨ q = 5 ∨ q = 6 ∨ q = 7 := by omega
  · simp [headF, headOk, hs0]
  · simp [headF, headOk, hs0]
  · simp [headF, headOk, hs0]; omega
  · simp [headF, headOk]; omega
  · refine ⟨?_, ?_, ?_⟩
    · simp [headF, headOk, hM]
    · have e5 : (headF (1 + 4) r).2.1 = ⟨#[77]⟩ ++ cutText r.text := by simp [headF]
      rw [e5]
      exact hMs
    · simp [headF]; omega
  · simp [headF, headOk, hs0]
  · simp [headF, headOk]; omega
  · simp [headF, headOk, hs0]; omega

theorem manyF_good {f : Nat → V × Nat} {P : V → Prop} (hf : ∀ a, P (f a).1) : ∀ (n at_ : Nat), ∀ x ∈ (manyF f n at_).1, P x
  | 0, at_, x, hx => by simp [manyF] at hx
  | n + 1, at_, x, hx => by
    simp only [manyF, List.mem_append, List.mem_singleton] at hx
    rcases hx with hx | rfl
    · exact manyF_good hf n at_ x hx
    · exact hf _
theorem nextF_good (l : List Raw) : ∀ (d at_ : Nat), Good (d + 1) (nextF l d at_).1
  | 0, at_ => by
    refine ⟨?_, by decide, fun x hx => by simp at hx⟩
    simp [headOk, ByteArray.toList_eq]
  | d + 1, at_ => by
    unfold nextF
    split
    · refine ⟨?_, by decide, fun x hx => by simp at hx⟩
      simp [headOk, ByteArray.toList_eq]
    · rename_i r hr
      have h := headOk_head r _ rfl
      refine ⟨by rw [manyF_len]; exact h.1, h.2.1, ?_⟩
      exact manyF_good (P := Good (d + 1)) (fun a => nextF_good l d a) _ _
theorem manyF_nodes {f : Nat → V × Nat} {g : V → Nat} (hf : ∀ a, a ≤ (f a).2 ∧ g (f a).1 ≤ 1 + 3 * ((f a).2 - a)) : ∀ (n at_ : Nat), at_ ≤ (manyF f n at_).2 ∧ ((manyF f n at_).1.map g).sum ≤ n + 3 * ((manyF f n at_).2 - at_)
  | 0, at_ => ⟨Nat.le_refl _, by simp [manyF]⟩
  | n + 1, at_ => by
    have h1 := manyF_nodes hf n at_
    have h2 := hf (manyF f n at_).2
    simp only [manyF, List.map_append, List.map_cons, List.map_nil, List.sum_append, List.sum_cons, List.sum_nil]
    omega
theorem nextF_nodes (l : List Raw) : ∀ (d at_ : Nat), at_ ≤ (nextF l d at_).2 ∧ nodes (d + 1) (nextF l d at_).1 ≤ 1 + 3 * ((nextF l d at_).2 - at_)
  | 0, at_ => ⟨Nat.le_refl _, by simp [nextF, unitV, nodes]⟩
  | d + 1, at_ => by
    unfold nextF
    split
    · exact ⟨Nat.le_refl _, by simp [unitV, nodes]⟩
    · rename_i r hr
      have h := headOk_head r _ rfl
      have h1 := manyF_nodes (g := nodes (d + 1)) (fun a => nextF_nodes l d a) (headF (1 + restN r.kind 8) r).2.2 (at_ + 1)
      rw [nodes]
      simp only
      omega
/-- what holds of the value of raw ones -/
theorem valF_good (l : List Raw) : Good 21 (valF l) := nextF_good l 20 0
theorem valF_nodes (l : List Raw) : nodes 21 (valF l) ≤ 181 := by
  have h1 := (nextF_nodes l 20 0).2
  have h2 := nextF_le l 20 0 (by omega)
  have h3 : nodes 21 (valF l) ≤ 1 + 3 * ((nextF l 20 0).2 - 0) := h1
  omega
theorem valF_len (l : List Raw) : (encV 21 (valF l)).length ≤ 10860 := by
  have h1 := Good.enc 21 _ (valF_good l)
  have h2 := valF_nodes l
  omega
/-- two values are encoded alike just if they are the same -/
theorem enc_inj (d : Nat) (a b : V) (ha : okV d a) (hb : okV d b) : encV d a = encV d b ↔ a = b := by
  refine ⟨fun h => ?_, fun h => by rw [h]⟩
  have h1 := decV_back d a [] ha
  have h2 := decV_back d b [] hb
  rw [h] at h1
  rw [h1] at h2
  simpa using h2
end Go.Val
set_option linter.unusedVariables false
namespace Go.Val
theorem okV_up : ∀ (d : Nat) (v : V), okV d v → okV (d + 1) v
  | 0, _, h => h.elim
  | d + 1, .mk k n t a, h => ⟨h.1, h.2.1, h.2.2.1, h.2.2.2.1, fun x hx => okV_up d x (h.2.2.2.2 x hx)⟩
theorem flatMap_same {α : Type} {f g : α → List UInt8} : ∀ (l : List α), (∀ x ∈ l, f x = g x) → l.flatMap f = l.flatMap g
  | [], _ => rfl
  | x :: r, h => by
    rw [List.flatMap_cons, List.flatMap_cons, h x (by simp), flatMap_same r fun y hy => h y (by simp [hy])]
theorem enc_up : ∀ (d : Nat) (v : V), okV d v → encV (d + 1) v = encV d v
  | 0, _, h => h.elim
  | d + 1, .mk k n t a, h => by
    have e := flatMap_same (f := encV (d + 1)) (g := encV d) a fun x hx => enc_up d x (h.2.2.2.2 x hx)
    rw [encV, encV]
    unfold listE
    rw [e]
theorem fitsL_same {f g : V → Int → Bool × Int} : ∀ (a : List V) (l : Int), (∀ x ∈ a, ∀ l, f x l = g x l) → fitsL f a l = fitsL g a l
  | [], _, _ => rfl
  | x :: r, l, h => by
    rw [fitsL, fitsL, h x (by simp), fitsL_same r _ fun y hy => h y (by simp [hy])]
theorem fits_up : ∀ (d : Nat) (v : V) (l dep : Int), okV d v → fitsF (d + 1) v l dep = fitsF d v l dep
  | 0, _, _, _, h => h.elim
  | d + 1, .mk k n t a, l, dep, h => by
    have e := fitsL_same (f := fun x l => fitsF (d + 1) x l (dep + 1)) (g := fun x l => fitsF d x l (dep + 1)) a (l - 1) fun x hx l => fits_up d x l (dep + 1) (h.2.2.2.2 x hx)
    rw [fitsF, fitsF, e]
theorem all_same {α : Type} {f g : α → Bool} : ∀ (l : List α), (∀ x ∈ l, f x = g x) → l.all f = l.all g
  | [], _ => rfl
  | x :: r, h => by
    rw [List.all_cons, List.all_cons, h x (by simp), all_same r fun y hy => h y (by simp [hy])]
theorem form_up : ∀ (d : Nat) (v : V), okV d v → formF (d + 1) v = formF d v
  | 0, _, h => h.elim
  | d + 1, .mk k n t a, h => by
    have e := all_same (f := formF (d + 1)) (g := formF d) a fun x hx => form_up d x (h.2.2.2.2 x hx)
    rw [formF, formF, e]
theorem le_up {d e : Nat} (h : d ≤ e) (v : V) (hv : okV d v) : okV e v ∧ encV e v = encV d v ∧ (∀ l dep, fitsF e v l dep = fitsF d v l dep) ∧ formF e v = formF d v := by
  induction h with
  | refl => exact ⟨hv, rfl, fun _ _ => rfl, rfl⟩
  | step _ ih => exact ⟨okV_up _ _ ih.1, (enc_up _ _ ih.1).trans ih.2.1, fun l dep => (fits_up _ _ l dep ih.1).trans (ih.2.2.1 l dep), (form_up _ _ ih.1).trans ih.2.2.2⟩
theorem manyD_all {α : Type} {dec : List UInt8 → Option (α × List UInt8)} {P : α → Prop} (hd : ∀ bs x r, dec bs = some (x, r) → P x) : ∀ (n : Nat) (bs : List UInt8) (l : List α) (r : List UInt8), manyD dec n bs = some (l, r) → ∀ x ∈ l, P x
  | 0, bs, l, r, h => by
    simp only [manyD, Option.some.injEq, Prod.mk.injEq] at h
    obtain ⟨rfl, rfl⟩ := h
    intro x hx
    simp at hx
  | n + 1, bs, l, r, h => by
    unfold manyD at h
    split at h
    · cases h
    · rename_i x r1 h1
      split at h
      · cases h
      · rename_i l' r2 h2
        simp only [Option.some.injEq, Prod.mk.injEq] at h
        obtain ⟨rfl, rfl⟩ := h
        intro y hy
        simp only [List.mem_cons] at hy
        rcases hy with rfl | hy
        · exact hd _ _ _ h1
        · exact manyD_all hd n r1 l' r2 h2 y hy
theorem decV_ok : ∀ (d : Nat) (bs : List UInt8) (v : V) (r : List UInt8), decV d bs = some (v, r) → okV d v
  | 0, bs, v, r, h => by simp [decV] at h
  | d + 1, [], v, r, h => by simp [decV] at h
  | d + 1, k :: bs, v, r, h => by
    have hk := UInt8.toNat_lt k
    unfold decV at h
    split at h
    · cases h
    · rename_i n r1 h1
      split at h
      · cases h
      · rename_i t r2 h2
        split at h
        · cases h
        · rename_i a r3 h3
          simp only [Option.some.injEq, Prod.mk.injEq] at h
          obtain ⟨rfl, rfl⟩ := h
          obtain ⟨_, hn⟩ := intD_forth h1
          obtain ⟨_, ht⟩ := textD_forth h2
          obtain ⟨_, hl⟩ := listD_forth (enc := encV d) (decV_forth d) h3
          refine ⟨⟨by omega, by omega⟩, hn, ht, hl, ?_⟩
          unfold listD at h3
          split at h3
          · cases h3
          · exact manyD_all (P := okV d) (fun bs x r h => decV_ok d bs x r h) _ _ _ _ h3
end Go.Val
namespace Go.Proofs.Yteojmmjanjilaaa
open Go.RowKit Go.Mem Go.Val
theorem checkF_up {d e : Nat} (h : d ≤ e) (v : V) (hv : okV d v) : checkF e v = checkF d v := by
  obtain ⟨_, _, h1, h2⟩ := le_up h v hv
  unfold checkF
  rw [h1, h2]
/-- the encoding of a value that is right is read -/
theorem readF_enc {d : Nat} (hd : d ≤ 40) (v : V) (hv : okV d v) (hc : checkF d v = 0) : readF (encV d v) = some v := by
  obtain ⟨h1, h2, _⟩ := le_up hd v hv
  have e := decV_back 40 v [] h1
  rw [List.append_nil, h2] at e
  unfold readF
  rw [e]
  simp only
  rw [if_pos ((checkF_up (by omega) v hv).trans hc)]
/-- with something behind it it is not -/
theorem readF_more {d : Nat} (hd : d ≤ 40) (v : V) (hv : okV d v) (c : UInt8) (r : List UInt8) : readF (encV d v ++ c :: r) = none := by
  obtain ⟨h1, h2, _⟩ := le_up hd v hv
  have e := decV_back 40 v (c :: r) h1
  rw [h2] at e
  unfold readF
  rw [e]
/-- nor is a beginning of it -/
theorem readF_less {d : Nat} (hd : d ≤ 40) (v : V) (hv : okV d v) (k : Nat) (hk : k < (encV d v).length) : readF ((encV d v).take k) = none := by
  obtain ⟨h1, h2, _⟩ := le_up hd v hv
  have e := decV_back 40 v [] h1
  rw [List.append_nil, h2] at e
  unfold readF
  split
  · rename_i x hx
    exfalso
    have ok := decV_ok _ _ _ _ hx
    have f := decV_forth _ _ _ _ hx
    have b := decV_back 40 x ((encV d v).drop k) ok
    rw [List.append_nil] at f
    rw [← f, List.take_append_drop, e] at b
    simp only [Option.some.injEq, Prod.mk.injEq] at b
    have := congrArg List.length b.2
    simp at this
    omega
  · rfl
/-- what is read is right, and its encoding is what was read -/
theorem readF_some {bs : List UInt8} {x : V} (h : readF bs = some x) : okV 40 x ∧ checkF 41 x = 0 ∧ encV 41 x = bs := by
  unfold readF at h
  split at h
  · rename_i y hy
    split at h
    · rename_i hc
      injection h with h
      subst h
      have ok := decV_ok _ _ _ _ hy
      have f := decV_forth _ _ _ _ hy
      refine ⟨ok, hc, ?_⟩
      rw [enc_up 40 y ok, f, List.append_nil]
    · cases h
  · cases h
end Go.Proofs.Yteojmmjanjilaaa
