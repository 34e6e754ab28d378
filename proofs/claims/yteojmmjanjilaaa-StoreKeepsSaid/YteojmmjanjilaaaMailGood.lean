/- Plain laws of the letters and parcels that letterOf and parcelOf make: they are right, their encoding is short and is read back. -/
import Derived.Test.YteojmmjanjilaaaMailPo
import Derived.Test.YteojmmjanjilaaaPart24
import Derived.Test.YteojmmjanjilaaaPart25
set_option linter.unusedVariables false
namespace Go.Proofs.Yteojmmjanjilaaa
open Go.RowKit Go.Mem Go.Val

theorem ok_good : ∀ (d e : Nat) (v : V), Val.Good d v → okV e v → okV d v
  | 0, _, _, h, _ => h.elim
  | _ + 1, 0, _, _, h => h.elim
  | d + 1, e + 1, .mk k n t a, h, h' => ⟨h'.1, h'.2.1, h'.2.2.1, h'.2.2.2.1, fun x hx => ok_good d e x (h.2.2 x hx) (h'.2.2.2.2 x hx)⟩
def NiceV (v : V) : Prop := okV 41 v ∧ okV 40 v ∧ encV 41 v = encV 40 v ∧ checkF 41 v = 0 ∧ (encV 41 v).length ≤ 10860
theorem valF_nice (l : List Raw) (h : okV 41 (valF l)) : NiceV (valF l) := by
  have h21 := ok_good 21 41 _ (valF_good l) h
  have h1 := Good.fits 21 (valF l) 400 1 (valF_good l) (by have := valF_nodes l; omega) (by omega)
  have h2 := Good.form 21 (valF l) (valF_good l)
  have hc : checkF 21 (valF l) = 0 := by
    unfold checkF
    rw [h1, h2]
    rfl
  have u1 := le_up (show 21 ≤ 41 by omega) _ h21
  have u2 := le_up (show 21 ≤ 40 by omega) _ h21
  exact ⟨h, u2.1, by rw [u1.2.1, u2.2.1], by rw [checkF_up (by omega) _ h21]; exact hc, by rw [u1.2.1]; exact valF_len l⟩
theorem restN_bd (n many : Int) (h : 0 < many) : 0 ≤ restN n many ∧ restN n many < many := by
  unfold restN
  split
  · exact ⟨Int.emod_nonneg _ (by omega), Int.emod_lt_of_pos _ h⟩
  · exact ⟨Int.emod_nonneg _ (by omega), Int.emod_lt_of_pos _ h⟩
theorem natI_len (n : Int) : (natI n).length ≤ 10 := natE_len _
theorem textE_len (s : ByteArray) (n : Nat) (h : s.size ≤ n) : (textE s).length ≤ 10 + n := by
  have h1 := natE_len s.size
  have h2 : s.data.toList.length = s.size := rfl
  unfold textE
  rw [List.length_append, h2]
  omega
def NiceL (x : L) : Prop := GoodL 41 x ∧ okL 41 x ∧ okL 40 x ∧ encL 41 x = encL 40 x ∧ (encL 41 x).length ≤ 12000
theorem encL_len (d : Nat) (x : L) (n m : Nat) (ht : x.text.size ≤ n) (hv : x.kind = 1 → (encV d x.val).length ≤ m) : (encL d x).length ≤ 41 + n + m := by
  have h1 := natI_len x.from_
  have h2 := natI_len x.to_
  have h3 := natI_len x.num
  have h4 := textE_len x.text n ht
  unfold encL byteE
  simp only [List.length_append, List.length_cons, List.length_nil]
  split
  · have := hv ‹_›
    omega
  · simp
    omega
theorem letH_nice (r : Raw) (q : Int) (hq : 0 ≤ q ∧ q < 5) (v : V) (h1 : 1 + q = 1 → NiceV v) (h0 : 1 + q ≠ 1 → v = zeroV) : NiceL (letH r (1 + q) v) := by
  have ra := restN_bd r.a 3000 (by omega)
  have rb := restN_bd r.b 3000 (by omega)
  have r3 := restN_bd r.a 3 (by omega)
  have hn : 0 ≤ (letH r (1 + q) v).num ∧ (letH r (1 + q) v).num ≤ 2 := by
    unfold letH
    simp only
    split <;> omega
  have ht : (letH r (1 + q) v).text.size ≤ 20 := by
    unfold letH
    simp only
    split
    · exact cutText_size _
    · exact Nat.zero_le _
  have hk : (letH r (1 + q) v).kind = 1 + q := rfl
  have hv : (letH r (1 + q) v).val = v := rfl
  have hf : (letH r (1 + q) v).from_ = restN r.a 3000 := rfl
  have hto : (letH r (1 + q) v).to_ = restN r.b 3000 := rfl
  refine ⟨⟨by omega, by omega, by omega, ⟨by omega, by omega⟩, ?_, ?_, hn, ?_, ?_⟩, ?_, ?_, ?_, ?_⟩
  · unfold letH
    simp only
    by_cases h2 : 1 + q = 2
    · exact .inl h2
    · by_cases h5 : 1 + q = 5
      · exact .inr (.inl h5)
      · rw [if_neg (by omega)]
        exact .inr (.inr rfl)
  · unfold letH
    simp only
    by_cases h2 : 1 + q = 2
    · exact .inl h2
    · rw [if_neg h2]
      exact .inr rfl
  · rw [hk, hv]
    exact fun h => (h1 h).2.2.2.1
  · rw [hk, hv]
    exact h0
  · exact ⟨by omega, ⟨by omega, by omega⟩, ⟨by omega, by omega⟩, ⟨by omega, by omega⟩, by omega, by rw [hk, hv]; exact fun h => (h1 h).1, by rw [hk, hv]; exact h0⟩
  · exact ⟨by omega, ⟨by omega, by omega⟩, ⟨by omega, by omega⟩, ⟨by omega, by omega⟩, by omega, by rw [hk, hv]; exact fun h => (h1 h).2.1, by rw [hk, hv]; exact h0⟩
  · unfold encL
    rw [hk, hv]
    split
    · rw [(h1 ‹_›).2.2.1]
    · rfl
  · have := encL_len 41 (letH r (1 + q) v) 20 10860 ht (by rw [hk, hv]; exact fun h => (h1 h).2.2.2.2)
    omega
theorem letF_nice (l : List Raw) (h : okV 41 (letF l).val) : NiceL (letF l) := by
  cases l with
  | nil =>
    refine ⟨⟨by decide, by decide, by decide, by decide, .inr (.inr rfl), .inr rfl, by decide, fun h => absurd h (by decide), fun _ => rfl⟩, ⟨by decide, ⟨by decide, by decide⟩, ⟨by decide, by decide⟩, ⟨by decide, by decide⟩, by decide, fun h => absurd h (by decide), fun _ => rfl⟩, ⟨by decide, ⟨by decide, by decide⟩, ⟨by decide, by decide⟩, ⟨by decide, by decide⟩, by decide, fun h => absurd h (by decide), fun _ => rfl⟩, rfl, ?_⟩
    have := encL_len 41 (letF []) 0 0 (by decide) (fun h => absurd h (by decide))
    omega
  | cons r t =>
    have hq := restN_bd r.kind 5 (by omega)
    rw [letF_cons r t rfl] at h ⊢
    generalize restN r.kind 5 = q at hq h ⊢
    refine letH_nice r q hq _ (fun h1 => ?_) (fun h0 => if_neg h0)
    rw [if_pos h1]
    have hv : (letH r (1 + q) (if 1 + q = 1 then valF t else zeroV)).val = valF t := if_pos h1
    rw [hv] at h
    exact valF_nice t h
def NiceI (x : In) : Prop := GoodI 41 x ∧ okIn 41 x ∧ okIn 40 x ∧ encI 41 x = encI 40 x ∧ (encI 41 x).length ≤ 12000
theorem in2_nice (v : V) (h : NiceV v) : NiceI ⟨2, v⟩ := by
  obtain ⟨h1, h2, h3, h4, h5⟩ := h
  have n3 : ¬ ((2 : Int) = 3) := by omega
  have b2 : (0 : Int) ≤ 2 ∧ (2 : Int) ≤ 255 := by omega
  have b3 : (1 : Int) ≤ 2 ∧ (2 : Int) ≤ 3 := by omega
  refine ⟨⟨b3, fun _ => h4, fun h => absurd h n3⟩, ⟨b2, fun _ => h1, fun h => absurd h n3⟩, ⟨b2, fun _ => h2, fun h => absurd h n3⟩, ?_, ?_⟩
  · unfold encI
    rw [if_neg n3, if_neg n3, h3]
  · unfold encI byteE
    rw [if_neg n3]
    simp only [List.length_append, List.length_cons, List.length_nil]
    omega
theorem in3_nice : NiceI ⟨3, zeroV⟩ :=
  ⟨⟨by decide, fun h => absurd rfl h, fun _ => rfl⟩, ⟨by decide, fun h => absurd rfl h, fun _ => rfl⟩, ⟨by decide, fun h => absurd rfl h, fun _ => rfl⟩, rfl, by simp [encI, byteE]⟩
theorem flatMap_len {α : Type} (enc : α → List UInt8) (B : Nat) : ∀ (l : List α), (∀ x ∈ l, (enc x).length ≤ B) → (l.flatMap enc).length ≤ l.length * B
  | [], _ => by simp
  | x :: r, h => by
    have h1 := h x (by simp)
    have h2 := flatMap_len enc B r fun y hy => h y (by simp [hy])
    simp only [List.flatMap_cons, List.length_append, List.length_cons, Nat.add_mul]
    omega
theorem listE_len {α : Type} (enc : α → List UInt8) (B n : Nat) (l : List α) (hn : l.length ≤ n) (h : ∀ x ∈ l, (enc x).length ≤ B) : (listE enc l).length ≤ 10 + n * B := by
  have h1 := natE_len l.length
  have h2 := flatMap_len enc B l h
  have h3 := Nat.mul_le_mul_right B hn
  unfold listE
  rw [List.length_append]
  omega
theorem listE_same {α : Type} {f g : α → List UInt8} (l : List α) (h : ∀ x ∈ l, f x = g x) : listE f l = listE g l := by
  unfold listE
  rw [flatMap_same l h]
/-- what a parcel of parcelOf is made of -/
def MadeP (p : Pc) (k : Nat) : Prop :=
  (∀ v ∈ p.saved.state, ∃ l, v = valF l) ∧ (∀ i ∈ p.saved.inputs, i = ⟨3, zeroV⟩ ∨ ∃ l, i = ⟨2, valF l⟩) ∧ (∀ x ∈ p.box, ∃ l, x = letF l) ∧ (-1 ≤ p.ticks ∧ p.ticks < 100) ∧ (∀ n ∈ p.watches, 1 ≤ n ∧ n ≤ 5000) ∧ (∀ n ∈ p.links, 1 ≤ n ∧ n ≤ 5000) ∧ p.saved.state.length ≤ 6
theorem snoc_all {α : Type} {P : α → Prop} {l k : List α} (h : ∀ x ∈ l, P x) (h' : ∀ x ∈ k, P x) : ∀ x ∈ l ++ k, P x := fun x hx => (List.mem_append.1 hx).elim (h x) (h' x)
theorem parU_made (l : List Raw) (n : Int) : ∀ k, MadeP (parU l n k) k
  | 0 => ⟨by simp [parU], by simp [parU], by simp [parU], by simp [parU], by simp [parU], by simp [parU], by simp [parU]⟩
  | k + 1 => by
    obtain ⟨h1, h2, h3, h4, h5, h6, h7⟩ := parU_made l n k
    have r5 := fun r : Raw => restN_bd r.a 5000 (by omega)
    have r1 := fun r : Raw => restN_bd r.a 100 (by omega)
    unfold parU parStep
    generalize parU l n k = p at h1 h2 h3 h4 h5 h6 h7
    split
    · exact ⟨h1, h2, h3, h4, h5, h6, h7⟩
    · rename_i r _
      have r5 := r5 r
      have r1 := r1 r
      split
      · split
        · exact ⟨snoc_all h1 (by intro x hx; exact ⟨_, List.mem_singleton.1 hx⟩), h2, h3, h4, h5, h6, by simp; omega⟩
        · exact ⟨h1, h2, h3, h4, h5, h6, h7⟩
      · split
        · exact ⟨h1, snoc_all h2 (by intro x hx; simp only [List.mem_cons, List.not_mem_nil, or_false] at hx; rcases hx with rfl | rfl; (· exact .inr ⟨_, rfl⟩); (· exact .inl rfl)), h3, h4, h5, h6, h7⟩
        · split
          · exact ⟨h1, h2, snoc_all h3 (by intro x hx; exact ⟨_, List.mem_singleton.1 hx⟩), h4, h5, h6, h7⟩
          · split
            · exact ⟨h1, h2, h3, ⟨by simp only; omega, by simp only; omega⟩, h5, h6, h7⟩
            · split
              · exact ⟨h1, h2, h3, h4, snoc_all h5 (by simp; omega), h6, h7⟩
              · exact ⟨h1, h2, h3, h4, h5, snoc_all h6 (by simp; omega), h7⟩
def NiceP (x : Pc) : Prop := (GoodP 41 x ∧ okP 41 x ∧ okP 40 x ∧ encP 41 x = encP 40 x ∧ (encP 41 x).length ≤ 1000000) ∧ GoodS 41 x.saved ∧ okSv 41 x.saved ∧ okSv 40 x.saved ∧ encS 41 x.saved = encS 40 x.saved ∧ (encS 41 x.saved).length ≤ 1000000
theorem All2.right {α β : Type} {R : α → β → Prop} {xs : List α} {ys : List β} (h : All2 R xs ys) : ∀ y ∈ ys, ∃ x, R x y := by
  intro y hy
  obtain ⟨i, hi, rfl⟩ := List.mem_iff_getElem.1 hy
  obtain ⟨x, _, h2⟩ := h.at_ hi
  exact ⟨x, h2⟩
theorem PcCells.oks {d : Nat} {w : World} {D : Nat → Prop} {cs : List Value} {p : Pc} (h : PcCells d w D cs p) : (∀ v ∈ p.saved.state, okV d v) ∧ (∀ i ∈ p.saved.inputs, okV d i.val) ∧ ∀ x ∈ p.box, okV d x.val := by
  obtain ⟨sv, A3, c3, vs3, A4, c4, A5, c5, _, _, _, ⟨A1, c1, vs1, A2, c2, vs2, _, _, _, _, _, a1, _, a2⟩, _, _, _, _, a3, _⟩ := h
  refine ⟨fun v hv => ?_, fun v hv => ?_, fun v hv => ?_⟩
  · obtain ⟨_, h⟩ := All2.right a1 v hv
    exact h.ok
  · obtain ⟨_, _, _, _, h⟩ := All2.right a2 v hv
    exact h.ok
  · obtain ⟨_, _, _, _, h⟩ := All2.right a3 v hv
    exact h.ok
theorem parF_nice (l : List Raw) (n : Int) (hn : 1 ≤ n ∧ n ≤ 9223372036854775807) (h : (∀ v ∈ (parF l n).saved.state, okV 41 v) ∧ (∀ i ∈ (parF l n).saved.inputs, okV 41 i.val) ∧ ∀ x ∈ (parF l n).box, okV 41 x.val) : NiceP (parF l n) := by
  unfold parF at h ⊢
  have hk : min 8 l.length ≤ 8 := Nat.min_le_left _ _
  generalize min 8 l.length = k at h hk ⊢
  obtain ⟨⟨l1, l2, l3, l4, l5, l6, l7⟩, l8⟩ := parU_len l n k
  obtain ⟨m1, m2, m3, m4, m5, m6, m7⟩ := parU_made l n k
  generalize parU l n k = p at h l1 l2 l3 l4 l5 l6 l7 l8 m1 m2 m3 m4 m5 m6 m7 ⊢
  obtain ⟨o1, o2, o3⟩ := h
  have n1 : ∀ v ∈ p.saved.state, NiceV v := by
    intro v hv
    obtain ⟨l, rfl⟩ := m1 v hv
    exact valF_nice l (o1 _ hv)
  have n2 : ∀ v ∈ p.saved.inputs, NiceI v := by
    intro v hv
    rcases m2 v hv with rfl | ⟨l, rfl⟩
    · exact in3_nice
    · exact in2_nice _ (valF_nice l (o2 _ hv))
  have n3 : ∀ v ∈ p.box, NiceL v := by
    intro v hv
    obtain ⟨l, rfl⟩ := m3 v hv
    exact letF_nice l (o3 _ hv)
  have ha : p.saved.actor.size = 1 := by rw [l7]; decide
  have gs : GoodS 41 p.saved := ⟨⟨by omega, by omega⟩, m7, by omega, fun v hv => (n1 v hv).2.2.2.1, fun v hv => (n2 v hv).1⟩
  have s1 : okSv 41 p.saved := ⟨by omega, ⟨by omega, fun v hv => (n1 v hv).1⟩, by omega, fun v hv => (n2 v hv).2.1⟩
  have s0 : okSv 40 p.saved := ⟨by omega, ⟨by omega, fun v hv => (n1 v hv).2.1⟩, by omega, fun v hv => (n2 v hv).2.2.1⟩
  have es : encS 41 p.saved = encS 40 p.saved := by
    unfold encS
    rw [listE_same p.saved.state fun v hv => (n1 v hv).2.2.1, listE_same p.saved.inputs fun v hv => (n2 v hv).2.2.2.1]
  have w1 : ∀ n ∈ p.watches, okN n := fun n hn => by have := m5 n hn; exact ⟨by omega, by omega⟩
  have w2 : ∀ n ∈ p.links, okN n := fun n hn => by have := m6 n hn; exact ⟨by omega, by omega⟩
  have es2 : (encS 41 p.saved).length ≤ 400000 := by
    have h1 := textE_len p.saved.actor 1 (by omega)
    have h2 := listE_len (encV 41) 10860 16 p.saved.state (by omega) fun v hv => (n1 v hv).2.2.2.2
    have h3 := listE_len (encI 41) 12000 16 p.saved.inputs (by omega) fun v hv => (n2 v hv).2.2.2.2
    unfold encS
    simp only [List.length_append]
    omega
  refine ⟨⟨⟨by omega, by omega, by omega, by omega, by omega, gs, fun v hv => (n3 v hv).1, fun n hn => (m5 n hn).1, fun n hn => (m6 n hn).1⟩, ⟨⟨by omega, by omega⟩, s1, ⟨by omega, fun v hv => (n3 v hv).2.1⟩, ⟨by omega, by omega⟩, ⟨by omega, w1⟩, by omega, w2⟩, ⟨⟨by omega, by omega⟩, s0, ⟨by omega, fun v hv => (n3 v hv).2.2.1⟩, ⟨by omega, by omega⟩, ⟨by omega, w1⟩, by omega, w2⟩, ?_, ?_⟩, gs, s1, s0, es, by omega⟩
  · unfold encP
    rw [es, listE_same p.box fun v hv => (n3 v hv).2.2.2.1]
  · have h1 := natI_len p.ref
    have h2 := listE_len (encL 41) 12000 16 p.box (by omega) fun v hv => (n3 v hv).2.2.2.2
    have h3 : (intE p.ticks).length ≤ 10 := natE_len _
    have h4 := listE_len natI 10 16 p.watches (by omega) fun v hv => natI_len v
    have h5 := listE_len natI 10 16 p.links (by omega) fun v hv => natI_len v
    unfold encP
    simp only [List.length_append]
    omega
/-- what was written is read -/
theorem dec_nice {x : L} (h : NiceL x) : decL 40 (encL 41 x) = some (x, []) := by
  have := decL_back 40 x [] h.2.2.1
  rwa [List.append_nil, ← h.2.2.2.1] at this
theorem decP_nice {x : Pc} (h : NiceP x) : decP 40 (encP 41 x) = some (x, []) := by
  have := decP_back 40 x [] h.1.2.2.1
  rwa [List.append_nil, ← h.1.2.2.2.1] at this
theorem decS_nice {x : Pc} (h : NiceP x) : decS 40 (encS 41 x.saved) = some (x.saved, []) := by
  have := decS_back 40 x.saved [] h.2.2.2.1
  rwa [List.append_nil, ← h.2.2.2.2.1] at this
end Go.Proofs.Yteojmmjanjilaaa
