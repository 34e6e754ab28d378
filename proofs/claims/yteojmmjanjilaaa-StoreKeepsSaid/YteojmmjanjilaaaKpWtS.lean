/- Plain laws: the weight of encoded letters, parcels and snapshots of raw ones; so two snapshots have less than 500 different pieces. -/
import Derived.Test.YteojmmjanjilaaaPart4
import Derived.Test.YteojmmjanjilaaaStoreSnap
set_option linter.unusedVariables false
namespace Go.Val
open Go.RowKit Go.Mem Go.Chunk
theorem wt_let {D : List (List UInt8)} {l : List Raw} (h : TextsIn D l) (d : Nat) : Wt D (encL d (letF l)) (140 * l.length + 28) := by
  cases l with
  | nil =>
    have e : encL d (letF []) = byteE 3 ++ (natI 0 ++ (natI 0 ++ (natI 0 ++ (textE ⟨#[]⟩ ++ [])))) := rfl
    rw [e]
    have h0 : Wt D (natI 0) 1 := wt_natL D 0 (by omega)
    exact ((Wt.low D _ (by decide)).append (h0.append (h0.append (h0.append ((wt_none D).append (Wt.nil D)))))).mono (by simp)
  | cons r t =>
    have hq : 0 ≤ 1 + restN r.kind 5 ∧ 1 + restN r.kind 5 < 6 := by have := restN_bd r.kind 5 (by omega); omega
    have hn := restN_bd r.a 3 (by omega)
    have hs := cut_size r.text
    show Wt D (encL d (letH r (1 + restN r.kind 5) (if 1 + restN r.kind 5 = 1 then valF t else zeroV))) _
    generalize 1 + restN r.kind 5 = q at hq ⊢
    have hb : Wt D (byteE q) 1 := Wt.low D _ (byte_ne (by omega) (by omega))
    have hnum : Wt D (natI (letH r q (if q = 1 then valF t else zeroV)).num) 1 := by
      show Wt D (natI (if q = 2 then restN r.a 3 else 0)) 1
      exact wt_natL D _ (by split <;> omega)
    have hf : Wt D (natI (restN r.a 3000)) 41 := wt_nat D _
    have hto : Wt D (natI (restN r.b 3000)) 41 := wt_nat D _
    have hv := wt_val (h.sub fun x hx => List.mem_cons_of_mem r hx) d (l := t)
    by_cases h1 : q = 1
    · subst h1
      have ht : Wt D (textE (letH r 1 (valF t)).text) 1 := wt_none D
      exact (hb.append (hf.append (hto.append (hnum.append (ht.append hv))))).mono (by simp; omega)
    · have ht : Wt D (textE (letH r q zeroV).text) 84 := by
        show Wt D (textE (if q = 2 ∨ q = 5 then cutText r.text else ⟨#[]⟩)) 84
        split
        · exact (wt_text (h r (by simp)) (by omega)).mono (by omega)
        · exact (wt_none D).mono (by omega)
      have e : encL d (letH r q (if q = 1 then valF t else zeroV)) = byteE q ++ (natI (restN r.a 3000) ++ (natI (restN r.b 3000) ++ (natI (letH r q (if q = 1 then valF t else zeroV)).num ++ (textE (letH r q zeroV).text ++ [])))) := by
        unfold encL
        rw [if_neg (show ¬ (letH r q (if q = 1 then valF t else zeroV)).kind = 1 from h1)]
        rfl
      rw [e]
      exact (hb.append (hf.append (hto.append (hnum.append (ht.append (Wt.nil D)))))).mono (by simp; omega)
/-- the weights of a parcel's lists -/
structure PW (D : List (List UInt8)) (d : Nat) (p : Pc) (k : Nat) : Prop where
  sum : ∃ a b c e f, a + b + c + e + f ≤ k ∧ Wt D (p.saved.state.flatMap (encV d)) a ∧ Wt D (p.saved.inputs.flatMap (encI d)) b ∧ Wt D (p.box.flatMap (encL d)) c ∧ Wt D (p.watches.flatMap natI) e ∧ Wt D (p.links.flatMap natI) f
  actor : p.saved.actor = ⟨#[65]⟩
theorem PW.wt {D : List (List UInt8)} {d : Nat} {p : Pc} {k : Nat} (h : PW D d p k) : Wt D (encP d p) (289 + k) := by
  obtain ⟨⟨a, b, c, e, f, hs, h1, h2, h3, h4, h5⟩, ha⟩ := h
  have ht : Wt D (textE p.saved.actor) 2 := by
    rw [ha]
    have e : textE ⟨#[65]⟩ = natE 1 ++ [65] := rfl
    rw [e]
    exact (wt_natL D 1 (by omega)).append (Wt.low D 65 (by decide))
  have hS : Wt D (encS d p.saved) (2 + ((41 + a) + (41 + b))) := ht.append ((wt_listA h1).append (wt_listA h2))
  have hr : Wt D (natI p.ref) 41 := wt_nat D _
  exact (hr.append (hS.append ((wt_listA h3).append ((wt_int D p.ticks).append ((wt_listA h4).append (wt_listA h5)))))).mono (by omega)
theorem flat_snoc {α : Type} {D : List (List UInt8)} {f : α → List UInt8} {l : List α} {x : α} {j k : Nat} (h : Wt D (l.flatMap f) j) (hx : Wt D (f x) k) : Wt D ((l ++ [x]).flatMap f) (j + k) := by
  rw [List.flatMap_append, List.flatMap_cons, List.flatMap_nil, List.append_nil]
  exact h.append hx
def partW (r : Nat) : Nat → Nat
  | 0 => 0
  | k + 1 => partW r k + (140 * (r - k) + 28)
theorem wt_parU {D : List (List UInt8)} {l : List Raw} (h : TextsIn D l) (d : Nat) (n : Int) : ∀ k, PW D d (parU l n k) (partW l.length k)
  | 0 => ⟨⟨0, 0, 0, 0, 0, Nat.le_refl _, Wt.nil D, Wt.nil D, Wt.nil D, Wt.nil D, Wt.nil D⟩, rfl⟩
  | k + 1 => by
    obtain ⟨⟨a, b, c, e, f, hs, h1, h2, h3, h4, h5⟩, ha⟩ := wt_parU h d n k
    show PW D d (parStep l k (parU l n k)) (partW l.length k + (140 * (l.length - k) + 28))
    generalize parU l n k = p at h1 h2 h3 h4 h5 ha ⊢
    unfold parStep
    split
    · exact ⟨⟨a, b, c, e, f, by omega, h1, h2, h3, h4, h5⟩, ha⟩
    · rename_i r hr
      have hk : k < l.length := (List.getElem?_eq_some_iff.1 hr).1
      have hsub : TextsIn D ((l.drop k).take 6) := h.sub fun x hx => List.mem_of_mem_drop (List.mem_of_mem_take hx)
      have hlen : ((l.drop k).take 6).length ≤ l.length - k := by simp; omega
      have hv := wt_val hsub d
      have hl := wt_let hsub d
      split
      · split
        · exact ⟨⟨a + _, b, c, e, f, by omega, flat_snoc h1 hv, h2, h3, h4, h5⟩, ha⟩
        · exact ⟨⟨a, b, c, e, f, by omega, h1, h2, h3, h4, h5⟩, ha⟩
      · split
        · have hi : Wt D (encI d ⟨2, valF ((l.drop k).take 6)⟩) (1 + (4 + 140 * ((l.drop k).take 6).length)) := (Wt.low D _ (byte_ne (n := 2) (by omega) (by omega))).append hv
          have hz : Wt D (encI d ⟨3, zeroV⟩) (1 + 0) := (Wt.low D _ (byte_ne (n := 3) (by omega) (by omega))).append (Wt.nil D)
          have h2' := flat_snoc (flat_snoc h2 hi) hz
          rw [List.append_assoc] at h2'
          exact ⟨⟨a, _, c, e, f, by omega, h1, h2', h3, h4, h5⟩, ha⟩
        · split
          · exact ⟨⟨a, b, _, e, f, by omega, h1, h2, flat_snoc h3 hl, h4, h5⟩, ha⟩
          · split
            · exact ⟨⟨a, b, c, e, f, by omega, h1, h2, h3, h4, h5⟩, ha⟩
            · split
              · exact ⟨⟨a, b, c, _, f, by omega, h1, h2, h3, flat_snoc h4 (wt_nat D _), h5⟩, ha⟩
              · exact ⟨⟨a, b, c, e, _, by omega, h1, h2, h3, h4, flat_snoc h5 (wt_nat D _)⟩, ha⟩
theorem wt_par {D : List (List UInt8)} {l : List Raw} (h : TextsIn D l) (d : Nat) (n : Int) : Wt D (encP d (parF l n)) (289 + partW l.length (min 8 l.length)) := (wt_parU h d n _).wt
theorem wt_part {D : List (List UInt8)} {b : List UInt8} {k : Nat} (h : Wt D b k) : Wt D (partE b) (128 + k) := ((Wt.any D (numE b.length 4)).mono (by rw [numE_len]; omega)).append h
theorem packF_flat : ∀ l : List (List UInt8), packF l = l.flatMap fun b => hi8 b.length :: lo8 b.length :: b
  | [] => rfl
  | b :: r => by
    rw [packF, packF_flat r, List.flatMap_cons]
    simp
def sumN (g : Nat → Nat) : Nat → Nat
  | 0 => 0
  | k + 1 => sumN g k + g k
theorem wt_range {D : List (List UInt8)} {F : Nat → List UInt8} {g : Nat → Nat} : ∀ k, (∀ i, i < k → Wt D (F i) (g i)) → Wt D ((List.range k).flatMap F) (sumN g k)
  | 0, _ => Wt.nil D
  | k + 1, h => by
    rw [List.range_succ]
    exact flat_snoc (wt_range k fun i hi => h i (by omega)) (h k (by omega))
def wayW (r : Nat) : Nat := 64 + sumN (fun i => 64 + (140 * (r - i) + 28)) (min r 3)
def snapW (r k j : Nat) : Nat := 320 + (sumN (fun i => 128 + (289 + partW (r - i) (min 8 (r - i)))) k + sumN (fun _ => 128 + wayW r) j)
theorem wt_way {D : List (List UInt8)} {l : List Raw} (h : TextsIn D l) (d : Nat) (a b : Int) : Wt D (wayE d ⟨a, b, snLs l (min l.length 3)⟩) (wayW l.length) := by
  have h1 : Wt D (packF ((snLs l (min l.length 3)).map (encL d))) (sumN (fun i => 64 + (140 * (l.length - i) + 28)) (min l.length 3)) := by
    rw [packF_flat, snLs, List.map_map, List.flatMap_map]
    refine wt_range _ fun i hi => ?_
    have hsub : TextsIn D ((l.drop i).take 5) := h.sub fun x hx => List.mem_of_mem_drop (List.mem_of_mem_take hx)
    have hlen : ((l.drop i).take 5).length ≤ l.length - i := by simp; omega
    exact (((wt_let hsub d).cons (x := lo8 _)).cons (x := hi8 _)).mono (by omega)
  exact ((h1.cons (x := UInt8.ofNat b.toNat)).cons (x := UInt8.ofNat a.toNat)).mono (by unfold wayW; omega)
theorem wt_snap {D : List (List UInt8)} {l : List Raw} (h : TextsIn D l) (d : Nat) (n : Int) : Wt D (snapE d (snF l n)) (snapW l.length (1 + (restN n 3).toNat) (restN (n.tdiv 7) 3).toNat) := by
  have h1 : Wt D (((snF l n).parcels.map (encP d)).flatMap partE) (sumN (fun i => 128 + (289 + partW (l.length - i) (min 8 (l.length - i)))) (1 + (restN n 3).toNat)) := by
    show Wt D (((snPs l (1 + (restN n 3).toNat)).map (encP d)).flatMap partE) _
    rw [snPs, List.map_map, List.flatMap_map]
    refine wt_range _ fun i hi => ?_
    have hp := wt_par (h.sub fun x hx => List.mem_of_mem_drop hx) d (1001 + (i : Int)) (l := l.drop i)
    rw [List.length_drop] at hp
    exact wt_part hp
  have h2 : Wt D (((snF l n).ways.map (wayE d)).flatMap partE) (sumN (fun _ => 128 + wayW l.length) (restN (n.tdiv 7) 3).toNat) := by
    show Wt D (((snWs l (restN (n.tdiv 7) 3).toNat).map (wayE d)).flatMap partE) _
    rw [snWs, List.map_map, List.flatMap_map]
    exact wt_range _ fun i hi => wt_part (wt_way h d _ _)
  have h3 : Wt D (numE (snF l n).time.toNat 8) 256 := (Wt.any D _).mono (by rw [numE_len]; omega)
  unfold snapE partsE
  rw [List.flatMap_append]
  exact (h3.append (((h1.append h2).cons (x := UInt8.ofNat (snF l n).ways.length)).cons (x := UInt8.ofNat (snF l n).parcels.length))).mono (by unfold snapW; omega)
theorem snapW_le : ∀ r, r < 5 → ∀ k, k < 4 → ∀ j, j < 3 → snapW r k j ≤ if r < 3 then 4000 else 8000 := by decide +kernel
theorem wt_snap4 {D : List (List UInt8)} {l : List Raw} (h : TextsIn D l) (d : Nat) (n : Int) (hl : l.length ≤ 4) : Wt D (snapE d (snF l n)) 8000 := by
  have e2 := restN_bd n 3 (by omega)
  have e3 := restN_bd (n.tdiv 7) 3 (by omega)
  refine (wt_snap h d n).mono (Nat.le_trans (snapW_le _ (by omega) _ (by omega) _ (by omega)) ?_)
  split <;> omega
theorem wt_snap2 {D : List (List UInt8)} {l : List Raw} (h : TextsIn D l) (d : Nat) (n : Int) (hl : l.length ≤ 2) : Wt D (snapE d (snF l n)) 4000 := by
  have e2 := restN_bd n 3 (by omega)
  have e3 := restN_bd (n.tdiv 7) 3 (by omega)
  refine (wt_snap h d n).mono (Nat.le_trans (snapW_le _ (by omega) _ (by omega) _ (by omega)) ?_)
  rw [if_pos (by omega)]
  omega
/-- the inner pieces of the texts -/
def innersOf (l : List Raw) : List (List UInt8) := l.flatMap fun r => inner (cutText r.text).data.toList
theorem inners_in (l : List Raw) : TextsIn (innersOf l) l := fun r hr p hp => List.mem_flatMap.2 ⟨r, hr, hp⟩
theorem inners_len : ∀ l : List Raw, (innersOf l).length ≤ 20 * l.length
  | [] => by simp [innersOf]
  | r :: t => by
    have h1 := inners_len t
    have h2 := inner_len (cutText r.text).data.toList
    have h3 : (cutText r.text).data.toList.length = (cutText r.text).size := by rw [Array.length_toList]; rfl
    have h4 := cut_size r.text
    unfold innersOf at h1 ⊢
    rw [List.flatMap_cons, List.length_append, List.length_cons]
    omega
/-- two snapshots have less than 500 different pieces -/
theorem few (l m : List Raw) (hl : l.length ≤ 4) (hm : m.length ≤ 2) (hs : ∀ r ∈ m, r ∈ l) (d : Nat) (n k : Int) (Q : List (List UInt8)) (hn : Q.Nodup)
    (hQ : ∀ x ∈ Q, x ∈ Chunk.cutF (snapE d (snF l n)).length (snapE d (snF l n)) ++ Chunk.cutF (snapE d (snF m k)).length (snapE d (snF m k))) : Q.length < 500 := by
  have h1 := (wt_snap4 (inners_in l) d n hl).cut (Nat.le_refl _)
  have h2 := (wt_snap2 ((inners_in l).sub hs) d k hm).cut (Nat.le_refl _)
  have h3 := nodup_count (innersOf l) _ Q hn hQ
  have h4 := inners_len l
  rw [List.countP_append] at h3
  omega
theorem snap_short (l : List Raw) (hl : l.length ≤ 4) (d : Nat) (n : Int) : (snapE d (snF l n)).length ≤ 8000 := (wt_snap4 (inners_in l) d n hl).1
end Go.Val
