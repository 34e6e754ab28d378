/- Plain laws of the number of different pieces: what cutting makes, byte by byte; a weight of byte strings that bounds the pieces outside a list. No condition. · Plain laws: the weight of encoded numbers, texts and values of raw ones. -/
import Derived.Test.YteojmmjanjilaaaPart3
set_option linter.unusedVariables false
namespace Go.Chunk
/-- the pieces that bytes end, where others stand in front; and what is left open -/
def scan : List UInt8 → List UInt8 → List (List UInt8) × List UInt8
  | cur, [] => ([], cur)
  | cur, x :: r => if x = 10 ∨ cur.length = 31 then ((cur ++ [x]) :: (scan [] r).1, (scan [] r).2) else scan (cur ++ [x]) r
theorem scan_append : ∀ (a cur b : List UInt8), scan cur (a ++ b) = ((scan cur a).1 ++ (scan (scan cur a).2 b).1, (scan (scan cur a).2 b).2)
  | [], cur, b => by simp [scan]
  | x :: r, cur, b => by
    rw [List.cons_append, scan, scan]
    split
    · rw [scan_append r [] b]
      simp
    · exact scan_append r (cur ++ [x]) b
theorem scan_low : ∀ (b cur : List UInt8), cur.length ≤ 31 → (scan cur b).2.length ≤ 31
  | [], cur, h => h
  | x :: r, cur, h => by
    rw [scan]
    split
    · exact scan_low r [] (by simp)
    · rename_i hx
      have : cur.length ≠ 31 := fun e => hx (.inr e)
      exact scan_low r (cur ++ [x]) (by simp; omega)
theorem scan_len : ∀ (b cur : List UInt8), (scan cur b).2.length ≤ cur.length + b.length
  | [], cur => by simp [scan]
  | x :: r, cur => by
    rw [scan]
    split
    · have := scan_len r []
      simp at this ⊢
      omega
    · have := scan_len r (cur ++ [x])
      simp at this ⊢
      omega
theorem scan_many : ∀ (b cur : List UInt8), (scan cur b).1.length ≤ b.length
  | [], cur => by simp [scan]
  | x :: r, cur => by
    rw [scan]
    split
    · have := scan_many r []
      simp
      omega
    · have := scan_many r (cur ++ [x])
      simp
      omega
theorem scan_first : ∀ (bs cur : List UInt8), cur.length ≤ 31 →
    scan cur bs = ((cur ++ bs.take (cutN (32 - cur.length) bs)) :: (scan [] (bs.drop (cutN (32 - cur.length) bs))).1, (scan [] (bs.drop (cutN (32 - cur.length) bs))).2) ∨ (scan cur bs = ([], cur ++ bs) ∧ bs.length ≤ cutN (32 - cur.length) bs)
  | [], cur, h => .inr ⟨by simp [scan], by simp⟩
  | x :: r, cur, h => by
    obtain ⟨k, hk⟩ : ∃ k, 32 - cur.length = k + 1 := ⟨31 - cur.length, by omega⟩
    rw [hk, cutN, scan]
    by_cases hx : x = 10
    · rw [if_pos hx, if_pos (.inl hx)]
      exact .inl (by simp)
    · rw [if_neg hx]
      by_cases h31 : cur.length = 31
      · obtain rfl : k = 0 := by omega
        rw [if_pos (.inr h31)]
        exact .inl (by simp [cutN])
      · rw [if_neg (by rintro (e | e); exact hx e; exact h31 e)]
        have hk' : 32 - (cur ++ [x]).length = k := by simp; omega
        have := scan_first r (cur ++ [x]) (by simp; omega)
        rw [hk'] at this
        have e1 : ∀ m, (x :: r).take (1 + m) = x :: r.take m := fun m => by rw [Nat.add_comm]; rfl
        have e2 : ∀ m, (x :: r).drop (1 + m) = r.drop m := fun m => by rw [Nat.add_comm]; rfl
        rw [e1, e2]
        rcases this with e | ⟨e, hl⟩
        · refine .inl ?_
          rw [e]
          simp
        · refine .inr ⟨?_, ?_⟩
          · rw [e]
            simp
          · simp
            omega
/-- cutting is scanning -/
theorem cut_scan : ∀ (f : Nat) (bs : List UInt8), bs.length ≤ f → cutF f bs = (scan [] bs).1 ++ (if (scan [] bs).2 = [] then [] else [(scan [] bs).2])
  | 0, bs, h => by
    have : bs = [] := List.eq_nil_of_length_eq_zero (by omega)
    subst this
    rfl
  | f + 1, bs, h => by
    by_cases hb : bs = []
    · subst hb; rfl
    · have h1 : 1 ≤ cutN 32 bs := cutN_pos 31 bs hb
      have h2 := cutN_le 32 bs
      have ih := cut_scan f (bs.drop (cutN 32 bs)) (by rw [List.length_drop]; omega)
      rw [cutF_step f bs hb]
      have := scan_first bs [] (by simp)
      simp only [List.length_nil, Nat.sub_zero, List.nil_append] at this
      rcases this with e | ⟨e, hl⟩
      · rw [ih, e]
        simp
      · rw [e, List.take_of_length_le hl, List.drop_of_length_le hl, cutF_nil]
        simp [hb]

/-- bytes of at most a weight: whatever stands in front, 32 times the pieces outside D and what is left open weigh no more -/
def Wt (D : List (List UInt8)) (b : List UInt8) (k : Nat) : Prop :=
  b.length ≤ k ∧ ∀ cur : List UInt8, cur.length ≤ 31 → 32 * (scan cur b).1.countP (fun p => !D.contains p) + (scan cur b).2.length ≤ cur.length + k
theorem Wt.nil (D : List (List UInt8)) : Wt D [] 0 := ⟨by simp, fun cur _ => by simp [scan]⟩
theorem Wt.mono {D : List (List UInt8)} {b : List UInt8} {k j : Nat} (h : Wt D b k) (hj : k ≤ j) : Wt D b j := ⟨Nat.le_trans h.1 hj, fun cur hc => by have := h.2 cur hc; omega⟩
theorem Wt.append {D : List (List UInt8)} {a b : List UInt8} {j k : Nat} (ha : Wt D a j) (hb : Wt D b k) : Wt D (a ++ b) (j + k) := by
  refine ⟨by have := ha.1; have := hb.1; simp; omega, fun cur hc => ?_⟩
  have h1 := ha.2 cur hc
  have h2 := hb.2 (scan cur a).2 (scan_low a cur hc)
  rw [scan_append, List.countP_append]
  simp only
  omega
theorem Wt.low (D : List (List UInt8)) (x : UInt8) (h : x ≠ 10) : Wt D [x] 1 := by
  refine ⟨by simp, fun cur hc => ?_⟩
  rw [scan]
  split
  · rename_i hx
    have h31 : cur.length = 31 := by rcases hx with e | e; exact absurd e h; exact e
    have : ([cur ++ [x]] : List (List UInt8)).countP (fun p => !D.contains p) ≤ 1 := List.countP_le_length
    simp only [scan, List.length_nil]
    omega
  · simp [scan]
theorem Wt.one (D : List (List UInt8)) (x : UInt8) : Wt D [x] 32 := by
  refine ⟨by simp, fun cur hc => ?_⟩
  rw [scan]
  split
  · have : ([cur ++ [x]] : List (List UInt8)).countP (fun p => !D.contains p) ≤ 1 := List.countP_le_length
    simp only [scan, List.length_nil]
    omega
  · simp [scan]
theorem Wt.cons {D : List (List UInt8)} {x : UInt8} {b : List UInt8} {k : Nat} (h : Wt D b k) : Wt D (x :: b) (32 + k) := (Wt.one D x).append h
theorem Wt.consLow {D : List (List UInt8)} {x : UInt8} {b : List UInt8} {k : Nat} (hx : x ≠ 10) (h : Wt D b k) : Wt D (x :: b) (1 + k) := (Wt.low D x hx).append h
theorem Wt.any (D : List (List UInt8)) : ∀ b : List UInt8, Wt D b (32 * b.length)
  | [] => Wt.nil D
  | x :: r => ((Wt.any D r).cons (x := x)).mono (by simp; omega)
theorem Wt.flat {α : Type} {D : List (List UInt8)} {f : α → List UInt8} {g : α → Nat} : ∀ l : List α, (∀ x ∈ l, Wt D (f x) (g x)) → Wt D (l.flatMap f) (l.map g).sum
  | [], _ => Wt.nil D
  | x :: r, h => by
    rw [List.flatMap_cons, List.map_cons, List.sum_cons]
    exact (h x (by simp)).append (Wt.flat r fun y hy => h y (by simp [hy]))
/-- the pieces within a text: those behind its first line feed -/
def inner : List UInt8 → List (List UInt8)
  | [] => []
  | x :: r => if x = 10 then (scan [] r).1 else inner r
theorem inner_len : ∀ t : List UInt8, (inner t).length ≤ t.length
  | [] => by simp [inner]
  | x :: r => by
    have h1 := inner_len r
    have h2 := scan_many r []
    rw [inner]
    split <;> simp <;> omega
theorem Wt.text {D : List (List UInt8)} : ∀ t : List UInt8, (∀ p ∈ inner t, p ∈ D) → Wt D t (t.length + 32)
  | [], _ => (Wt.nil D).mono (by simp)
  | x :: r, h => by
    by_cases hx : x = 10
    · subst hx
      refine ⟨by simp, fun cur hc => ?_⟩
      rw [inner, if_pos rfl] at h
      have h0 : (scan [] r).1.countP (fun p => !D.contains p) = 0 := by
        rw [List.countP_eq_zero]
        intro p hp
        simpa using h p hp
      have hl := scan_len r []
      rw [scan, if_pos (.inl rfl), List.countP_cons, h0]
      simp only [List.length_nil, List.length_cons] at hl ⊢
      split <;> omega
    · rw [inner, if_neg hx] at h
      exact ((Wt.text r h).consLow hx).mono (by simp; omega)
/-- so many different pieces at most -/
theorem nodup_sub : ∀ (a b : List (List UInt8)), a.Nodup → (∀ x ∈ a, x ∈ b) → a.length ≤ b.length
  | [], b, _, _ => Nat.zero_le _
  | x :: r, b, hn, h => by
    rw [List.nodup_cons] at hn
    have hx : x ∈ b := h x (by simp)
    have h2 := nodup_sub r (b.erase x) hn.2 fun y hy => by
      have : y ≠ x := fun e => hn.1 (e ▸ hy)
      exact (List.mem_erase_of_ne this).2 (h y (by simp [hy]))
    rw [List.length_erase_of_mem hx] at h2
    have : 0 < b.length := List.length_pos_of_mem hx
    simp
    omega
theorem nodup_count (D P Q : List (List UInt8)) (hn : Q.Nodup) (hs : ∀ x ∈ Q, x ∈ P) : Q.length ≤ D.length + P.countP fun p => !D.contains p := by
  have h1 := nodup_sub (Q.filter fun p => D.contains p) D (List.Nodup.sublist List.filter_sublist hn) fun x hx => by
    have := (List.mem_filter.1 hx).2
    simpa using this
  have h2 := nodup_sub (Q.filter fun p => !D.contains p) (P.filter fun p => !D.contains p) (List.Nodup.sublist List.filter_sublist hn) fun x hx => by
    have := List.mem_filter.1 hx
    exact List.mem_filter.2 ⟨hs x this.1, this.2⟩
  have h3 : Q.length = (Q.filter fun p => D.contains p).length + (Q.filter fun p => !D.contains p).length := by
    have := List.length_eq_countP_add_countP (l := Q) (fun p => D.contains p)
    rw [List.countP_eq_length_filter, List.countP_eq_length_filter] at this
    rw [this]
    congr 2
    apply List.filter_congr
    intro x _
    simp
  rw [List.countP_eq_length_filter]
  omega
/-- the pieces of weighed bytes outside D -/
theorem Wt.cut {D : List (List UInt8)} {b : List UInt8} {k f : Nat} (h : Wt D b k) (hf : b.length ≤ f) : 32 * (cutF f b).countP (fun p => !D.contains p) ≤ k + 32 := by
  have h1 := h.2 [] (by simp)
  rw [cut_scan f b hf, List.countP_append]
  have h2 : (if (scan [] b).2 = [] then [] else [(scan [] b).2] : List (List UInt8)).countP (fun p => !D.contains p) ≤ 1 := by
    refine Nat.le_trans List.countP_le_length ?_
    split <;> simp
  simp only [List.length_nil] at h1
  omega
end Go.Chunk
set_option linter.unusedVariables false
namespace Go.Val
open Go.RowKit Go.Mem Go.Chunk
theorem restN_bd (n many : Int) (h : 0 < many) : 0 ≤ restN n many ∧ restN n many < many := by
  unfold restN
  split
  · exact ⟨Int.emod_nonneg _ (by omega), Int.emod_lt_of_pos _ h⟩
  · exact ⟨Int.emod_nonneg _ (by omega), Int.emod_lt_of_pos _ h⟩
theorem byte_ne {n : Nat} (h : n < 256) (h2 : n ≠ 10) : UInt8.ofNat n ≠ 10 := by
  intro e
  have := congrArg UInt8.toNat e
  rw [ofNat_toNat h] at this
  exact h2 this
theorem wt_natG (D : List (List UInt8)) : ∀ f n, Wt D (natG f n) (31 + f)
  | 0, n => (Wt.nil D).mono (by omega)
  | f + 1, n => by
    unfold natG
    split
    · exact (Wt.one D _).mono (by omega)
    · exact ((wt_natG D f (n / 128)).consLow (byte_ne (by omega) (by omega))).mono (by omega)
theorem wt_nat (D : List (List UInt8)) (n : Nat) : Wt D (natE n) 41 := wt_natG D 10 n
theorem wt_natS (D : List (List UInt8)) (n : Nat) (h : n < 128) : Wt D (natE n) 32 := by
  unfold natE natG
  rw [if_pos h]
  exact Wt.one D _
theorem wt_natL (D : List (List UInt8)) (n : Nat) (h : n < 10) : Wt D (natE n) 1 := by
  unfold natE natG
  rw [if_pos (by omega)]
  exact Wt.low D _ (byte_ne (by omega) (by omega))
theorem wt_int (D : List (List UInt8)) (n : Int) : Wt D (intE n) 41 := wt_nat D _
theorem wt_listE {α : Type} {D : List (List UInt8)} {enc : α → List UInt8} {l : List α} {k : Nat} (hl : l.length < 10) (h : Wt D (l.flatMap enc) k) : Wt D (listE enc l) (1 + k) := (wt_natL D _ hl).append h
theorem wt_listA {α : Type} {D : List (List UInt8)} {enc : α → List UInt8} {l : List α} {k : Nat} (h : Wt D (l.flatMap enc) k) : Wt D (listE enc l) (41 + k) := (wt_nat D _).append h
theorem wt_none (D : List (List UInt8)) : Wt D (textE ⟨#[]⟩) 1 := (wt_natL D 0 (by omega)).append (Wt.nil D)
theorem wt_text {D : List (List UInt8)} {t : ByteArray} (h : ∀ p ∈ inner t.data.toList, p ∈ D) (hs : t.size < 128) : Wt D (textE t) (64 + t.size) := by
  have hl : t.data.toList.length = t.size := by rw [Array.length_toList]; rfl
  have := (wt_natS D t.size hs).append (Wt.text t.data.toList h)
  exact this.mono (by omega)
theorem cut_size (t : ByteArray) : (cutText t).size ≤ 20 := by unfold cutText; simp; omega
/-- the texts of raw ones have their inner pieces in D -/
def TextsIn (D : List (List UInt8)) (l : List Raw) : Prop := ∀ r ∈ l, ∀ p ∈ inner (cutText r.text).data.toList, p ∈ D
theorem TextsIn.sub {D : List (List UInt8)} {l m : List Raw} (h : TextsIn D l) (hm : ∀ r ∈ m, r ∈ l) : TextsIn D m := fun r hr => h r (hm r hr)
theorem wt_head {D : List (List UInt8)} {l : List Raw} (h : TextsIn D l) {r : Raw} (hr : r ∈ l) (k : Int) : Wt D (textE (headF k r).2.1) 85 ∧ (headF k r).2.2 ≤ 3 := by
  have h1 := cut_size r.text
  have n3 : ∀ m : Int, 0 < m → m ≤ 4 → ∀ a, (restN a m).toNat ≤ 3 := fun m h0 h4 a => by have := restN_bd a m h0; omega
  have hc : Wt D (textE (cutText r.text)) 85 := (wt_text (h r hr) (by omega)).mono (by omega)
  have hm : Wt D (textE (⟨#[77]⟩ ++ cutText r.text)) 85 := by
    have hd : (⟨#[77]⟩ ++ cutText r.text : ByteArray).data.toList = 77 :: (cutText r.text).data.toList := by simp [ByteArray.data_append]
    have hz : (⟨#[77]⟩ ++ cutText r.text : ByteArray).size = 1 + (cutText r.text).size := by
      rw [ByteArray.size_append]
      rfl
    refine (wt_text ?_ (by omega)).mono (by omega)
    intro p hp
    rw [hd, inner, if_neg (by decide)] at hp
    exact h r hr p hp
  have h0 : Wt D (textE ⟨#[]⟩) 85 := (wt_none D).mono (by omega)
  unfold headF
  split
  · exact ⟨h0, Nat.zero_le _⟩
  split
  · exact ⟨h0, Nat.zero_le _⟩
  split
  · exact ⟨hc, Nat.zero_le _⟩
  split
  · exact ⟨hm, n3 4 (by omega) (by omega) _⟩
  split
  · exact ⟨hc, n3 3 (by omega) (by omega) _⟩
  split
  · exact ⟨h0, n3 2 (by omega) (by omega) _⟩
  · exact ⟨h0, Nat.zero_le _⟩
theorem wt_node {D : List (List UInt8)} {k n : Int} {t : ByteArray} {a : List V} {d wi wt wa : Nat} (hk : 0 ≤ k ∧ k < 10) (hi : Wt D (intE n) wi) (ht : Wt D (textE t) wt) (hl : a.length < 10) (ha : Wt D (a.flatMap (encV d)) wa) :
    Wt D (encV (d + 1) (.mk k n t a)) (1 + (wi + (wt + (1 + wa)))) :=
  (hi.append (ht.append (wt_listE hl ha))).consLow (byte_ne (by omega) (by omega))
theorem wt_unit (D : List (List UInt8)) (d : Nat) : Wt D (encV d unitV) 4 := by
  cases d with
  | zero => exact (Wt.nil D).mono (by omega)
  | succ d =>
    have hn : Wt D (([] : List V).flatMap (encV d)) 0 := Wt.nil D
    show Wt D (encV (d + 1) (.mk 1 0 ⟨#[]⟩ [])) 4
    exact (wt_node (k := 1) (n := 0) (t := ⟨#[]⟩) (a := []) (by omega) (show Wt D (intE 0) 1 from wt_natL D (zz 0) (by decide)) (wt_none D) (by simp) hn).mono (by omega)
theorem wt_many {D : List (List UInt8)} {d B : Nat} {f : Nat → V × Nat} (hf : ∀ a, a ≤ B → a ≤ (f a).2 ∧ (f a).2 ≤ B ∧ Wt D (encV d (f a).1) (4 + 140 * ((f a).2 - a))) (at_ : Nat) (h : at_ ≤ B) :
    ∀ n, at_ ≤ (manyF f n at_).2 ∧ (manyF f n at_).2 ≤ B ∧ Wt D ((manyF f n at_).1.flatMap (encV d)) (4 * n + 140 * ((manyF f n at_).2 - at_))
  | 0 => ⟨Nat.le_refl _, h, (Wt.nil D).mono (by omega)⟩
  | n + 1 => by
    obtain ⟨h1, h2, h3⟩ := wt_many hf at_ h n
    obtain ⟨k1, k2, k3⟩ := hf _ h2
    refine ⟨?_, k2, ?_⟩
    · show at_ ≤ (f (manyF f n at_).2).2
      omega
    · show Wt D (((manyF f n at_).1 ++ [(f (manyF f n at_).2).1]).flatMap (encV d)) (4 * (n + 1) + 140 * ((f (manyF f n at_).2).2 - at_))
      rw [List.flatMap_append, List.flatMap_cons, List.flatMap_nil, List.append_nil]
      exact (h3.append k3).mono (by omega)
theorem wt_next {D : List (List UInt8)} {l : List Raw} (h : TextsIn D l) : ∀ (d k at_ : Nat), at_ ≤ l.length → at_ ≤ (nextF l d at_).2 ∧ (nextF l d at_).2 ≤ l.length ∧ Wt D (encV k (nextF l d at_).1) (4 + 140 * ((nextF l d at_).2 - at_))
  | 0, k, at_, ha => ⟨Nat.le_refl _, ha, (wt_unit D k).mono (by omega)⟩
  | d + 1, k, at_, ha => by
    unfold nextF
    split
    · exact ⟨Nat.le_refl _, ha, (wt_unit D k).mono (by omega)⟩
    · rename_i r hr
      obtain ⟨hi, he⟩ := List.getElem?_eq_some_iff.1 hr
      have hlt : at_ < l.length := by simp at hi; omega
      have hm : r ∈ l := by rw [← he]; exact List.mem_of_mem_take (List.getElem_mem hi)
      obtain ⟨ht, h3⟩ := wt_head h hm (1 + restN r.kind 8)
      have hq := restN_bd r.kind 8 (by omega)
      generalize headF (1 + restN r.kind 8) r = q at ht h3 ⊢
      cases k with
      | zero =>
        obtain ⟨m1, m2, _⟩ := wt_many (fun a ha => wt_next h d 0 a ha) (at_ + 1) (by omega) q.2.2
        exact ⟨by simp only; omega, m2, (Wt.nil D).mono (by omega)⟩
      | succ k =>
        obtain ⟨m1, m2, m3⟩ := wt_many (fun a ha => wt_next h d k a ha) (at_ + 1) (by omega) q.2.2
        have hl := manyF_len (nextF l d) q.2.2 (at_ + 1)
        refine ⟨by simp only; omega, m2, ?_⟩
        simp only
        exact (wt_node (by omega) (wt_int D _) ht (by omega) m3).mono (by omega)
theorem wt_val {D : List (List UInt8)} {l : List Raw} (h : TextsIn D l) (k : Nat) : Wt D (encV k (valF l)) (4 + 140 * l.length) := by
  obtain ⟨_, h2, h3⟩ := wt_next h 20 k 0 (Nat.zero_le _)
  exact h3.mono (by omega)
end Go.Val
