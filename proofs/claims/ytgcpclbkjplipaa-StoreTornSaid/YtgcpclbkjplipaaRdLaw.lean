/- Plain laws of decoding: what is decoded fits; encoding, fitting and form do not hang on the depth allowed; what Read makes of an encoding, of its beginnings, and of one with something behind it. -/
import Derived.Test.YtgcpclbkjplipaaRdRead
import Derived.Test.YtgcpclbkjplipaaValGood
set_option linter.unusedVariables false
namespace Go.Val
theorem okV_up : ∀ (d : Nat) (v : V), okV d v → okV (d + 1) v
  | 0, _, h => h.elim
  | d + 1, .mk k n t a, h => ⟨h.1, h.2.1, h.2.2.1, h.2.2.2.1, fun x hx => okV_up d x (h.2.2.2.2 x hx)⟩
theorem flatMap_same {α : Type} {f g : α → List UInt8} : ∀ (l : List α), (∀ x ∈ l, f x = g x) → l.flatMap f = l.flatMap g
  | [], _ => rfl
  | x :: r, h => by
    rw [List.flatMap_cons, List.flatMap_cons, h x (by simp), flatMap_same r fun y hy => h y (by simp [hy])]
theorem enc_up : ∀ (d : Nat) (v : V), okV d v → encV (d + 1) v = encV d v
  | 0, _, h => h.elim
  | d + 1, .mk k n t a, h => by
    have e := flatMap_same (f := encV (d + 1)) (g := encV d) a fun x hx => enc_up d x (h.2.2.2.2 x hx)
    rw [encV, encV]
    unfold listE
    rw [e]
theorem fitsL_same {f g : V → Int → Bool × Int} : ∀ (a : List V) (l : Int), (∀ x ∈ a, ∀ l, f x l = g x l) → fitsL f a l = fitsL g a l
  | [], _, _ => rfl
  | x :: r, l, h => by
    rw [fitsL, fitsL, h x (by simp), fitsL_same r _ fun y hy => h y (by simp [hy])]
theorem fits_up : ∀ (d : Nat) (v : V) (l dep : Int), okV d v → fitsF (d + 1) v l dep = fitsF d v l dep
  | 0, _, _, _, h => h.elim
  | d + 1, .mk k n t a, l, dep, h => by
    have e := fitsL_same (f := fun x l => fitsF (d + 1) x l (dep + 1)) (g := fun x l => fitsF d x l (dep + 1)) a (l - 1) fun x hx l => fits_up d x l (dep + 1) (h.2.2.2.2 x hx)
    rw [fitsF, fitsF, e]
theorem all_same {α : Type} {f g : α → Bool} : ∀ (l : List α), (∀ x ∈ l, f x = g x) → l.all f = l.all g
  | [], _ => rfl
  | x :: r, h => by
    rw [List.all_cons, List.all_cons, h x (by simp), all_same r fun y hy => h y (by simp [hy])]
theorem form_up : ∀ (d : Nat) (v : V), okV d v → formF (d + 1) v = formF d v
  | 0, _, h => h.elim
  | d + 1, .mk k n t a, h => by
    have e := all_same (f := formF (d + 1)) (g := formF d) a fun x hx => form_up d x (h.2.2.2.2 x hx)
    rw [formF, formF, e]
theorem le_up {d e : Nat} (h : d ≤ e) (v : V) (hv : okV d v) : okV e v ∧ encV e v = encV d v ∧ (∀ l dep, fitsF e v l dep = fitsF d v l dep) ∧ formF e v = formF d v := by
  induction h with
  | refl => exact ⟨hv, rfl, fun _ _ => rfl, rfl⟩
  | step _ ih => exact ⟨okV_up _ _ ih.1, (enc_up _ _ ih.1).trans ih.2.1, fun l dep => (fits_up _ _ l dep ih.1).trans (ih.2.2.1 l dep), (form_up _ _ ih.1).trans ih.2.2.2⟩
theorem manyD_all {α : Type} {dec : List UInt8 → Option (α × List UInt8)} {P : α → Prop} (hd : ∀ bs x r, dec bs = some (x, r) → P x) : ∀ (n : Nat) (bs : List UInt8) (l : List α) (r : List UInt8), manyD dec n bs = some (l, r) → ∀ x ∈ l, P x
  | 0, bs, l, r, h => by
    simp only [manyD, Option.some.injEq, Prod.mk.injEq] at h
    obtain ⟨rfl, rfl⟩ := h
    intro x hx
    simp at hx
  | n + 1, bs, l, r, h => by
    unfold manyD at h
    split at h
    · cases h
    · rename_i x r1 h1
      split at h
      · cases h
      · rename_i l' r2 h2
        simp only [Option.some.injEq, Prod.mk.injEq] at h
        obtain ⟨rfl, rfl⟩ := h
        intro y hy
        simp only [List.mem_cons] at hy
        rcases hy with rfl | hy
        · exact hd _ _ _ h1
        · exact manyD_all hd n r1 l' r2 h2 y hy
theorem decV_ok : ∀ (d : Nat) (bs : List UInt8) (v : V) (r : List UInt8), decV d bs = some (v, r) → okV d v
  | 0, bs, v, r, h => by simp [decV] at h
  | d + 1, [], v, r, h => by simp [decV] at h
  | d + 1, k :: bs, v, r, h => by
    have hk := UInt8.toNat_lt k
    unfold decV at h
    split at h
    · cases h
    · rename_i n r1 h1
      split at h
      · cases h
      · rename_i t r2 h2
        split at h
        · cases h
        · rename_i a r3 h3
          simp only [Option.some.injEq, Prod.mk.injEq] at h
          obtain ⟨rfl, rfl⟩ := h
          obtain ⟨_, hn⟩ := intD_forth h1
          obtain ⟨_, ht⟩ := textD_forth h2
          obtain ⟨_, hl⟩ := listD_forth (enc := encV d) (decV_forth d) h3
          refine ⟨⟨by omega, by omega⟩, hn, ht, hl, ?_⟩
          unfold listD at h3
          split at h3
          · cases h3
          · exact manyD_all (P := okV d) (fun bs x r h => decV_ok d bs x r h) _ _ _ _ h3
end Go.Val
namespace Go.Proofs.Ytgcpclbkjplipaa
open Go.RowKit Go.Mem Go.Val
theorem checkF_up {d e : Nat} (h : d ≤ e) (v : V) (hv : okV d v) : checkF e v = checkF d v := by
  obtain ⟨_, _, h1, h2⟩ := le_up h v hv
  unfold checkF
  rw [h1, h2]
/-- the encoding of a value that is right is read -/
theorem readF_enc {d : Nat} (hd : d ≤ 40) (v : V) (hv : okV d v) (hc : checkF d v = 0) : readF (encV d v) = some v := by
  obtain ⟨h1, h2, _⟩ := le_up hd v hv
  have e := decV_back 40 v [] h1
  rw [List.append_nil, h2] at e
  unfold readF
  rw [e]
  simp only
  rw [if_pos ((checkF_up (by omega) v hv).trans hc)]
/-- with something behind it it is not -/
theorem readF_more {d : Nat} (hd : d ≤ 40) (v : V) (hv : okV d v) (c : UInt8) (r : List UInt8) : readF (encV d v ++ c :: r) = none := by
  obtain ⟨h1, h2, _⟩ := le_up hd v hv
  have e := decV_back 40 v (c :: r) h1
  rw [h2] at e
  unfold readF
  rw [e]
/-- nor is a beginning of it -/
theorem readF_less {d : Nat} (hd : d ≤ 40) (v : V) (hv : okV d v) (k : Nat) (hk : k < (encV d v).length) : readF ((encV d v).take k) = none := by
  obtain ⟨h1, h2, _⟩ := le_up hd v hv
  have e := decV_back 40 v [] h1
  rw [List.append_nil, h2] at e
  unfold readF
  split
  · rename_i x hx
    exfalso
    have ok := decV_ok _ _ _ _ hx
    have f := decV_forth _ _ _ _ hx
    have b := decV_back 40 x ((encV d v).drop k) ok
    rw [List.append_nil] at f
    rw [← f, List.take_append_drop, e] at b
    simp only [Option.some.injEq, Prod.mk.injEq] at b
    have := congrArg List.length b.2
    simp at this
    omega
  · rfl
/-- what is read is right, and its encoding is what was read -/
theorem readF_some {bs : List UInt8} {x : V} (h : readF bs = some x) : okV 40 x ∧ checkF 41 x = 0 ∧ encV 41 x = bs := by
  unfold readF at h
  split at h
  · rename_i y hy
    split at h
    · rename_i hc
      injection h with h
      subst h
      have ok := decV_ok _ _ _ _ hy
      have f := decV_forth _ _ _ _ hy
      refine ⟨ok, hc, ?_⟩
      rw [enc_up 40 y ok, f, List.append_nil]
    · cases h
  · cases h
/-- Read: bytes that are not too many -/
theorem Read_any (A : Option Addr) (n c : Nat) (bs : List UInt8) (w : World) (hn : n = bs.length) (hnc : n ≤ c) (hcm : c ≤ maxLen) (hr : Reads w Any 1 A n (u8s bs)) (hlen : bs.length ≤ 2097152) :
    Calls Try.prog 29 #[.slice A n c] w (ReadPost w bs) := by
  have hlen' : ¬ ((2097152 : Int) < (n : Int)) := by omega
  obtain ⟨W, hW⟩ : ∃ W, W = w.alloc (.cells #[.int .i64 0, .int .i64 0, .string ⟨#[]⟩, .slice none 0 0] 35) := ⟨_, rfl⟩
  have hz : Blk W w.heap.size 35 [.int .i64 0, .int .i64 0, .string ⟨#[]⟩, .slice none 0 0] := by rw [hW]; exact Blk.new w _ _
  have hb : Below w.heap.size w W := by rw [hW]; exact (Below.refl _ _).alloc (Nat.le_refl _) _
  have hs : W.heap.size = w.heap.size + 1 := by rw [hW]; simp
  have HW := Lib.hid hW
  have Hn := Lib.hid hn
  clear hW hn
  go_enter Try.func29, Try.ntmps29
  go_wp2_with (fail)
  rw [← HW.out]
  refine (read_any A n c bs W Hn.out hnc hcm (hr.keep (Same.any hb)) (by omega)).mono ?_
  clear HW Hn hr
  rintro e w1 (⟨x, A1, c1, hx, rfl, hv, hb1⟩ | ⟨hx, rfl, hb1⟩)
  · obtain ⟨vk, vn, vt, va⟩ := x
    simp only [vagg, vcells, V.kind, V.num, V.text, V.args] at hv ⊢
    have z1 := hz.below hb1 hz.lt
    have hw1 : Below w.heap.size w w1 := hb.trans (hb1.mono hb.size)
    have p0 := z1.cell 0
    have p1 := z1.cell 1
    have p2 := z1.cell 2
    have p3 := z1.cell 3
    have u0 := z1.frozen 0
    have u1 := z1.frozen 1
    have u2 := z1.frozen 2
    have u3 := z1.frozen 3
    simp only [List.getElem?_cons_succ, List.getElem?_cons_zero] at p0 p1 p2 p3
    have lz := z1.lt
    have Hq := Lib.hid (Blk.set4 z1 (.int .i64 vk) (.int .i64 vn) (.string vt) (.slice A1 va.length c1))
    have Hbq := Lib.hid (below_set4 hw1 (Nat.le_refl w.heap.size) (.int .i64 vk) (.int .i64 vn) (.string vt) (.slice A1 va.length c1))
    have Hvq := Lib.hid ((hv.keep (same_set4 w1 w.heap.size (.int .i64 vk) (.int .i64 vn) (.string vt) (.slice A1 va.length c1) (by omega))).imp (D' := fun b => w.heap.size ≤ b) fun b hb _ => by omega)
    have Hs := Lib.hid hx
    clear z1 hw1 hv hx hz hb hb1 hs
    go_wp2_with (fail)
    refine ret_blk_tmp rfl rfl Hq.out Try.underlying35 (by kernel_rfl) rfl ?_
    exact .inl ⟨V.mk vk vn vt va, A1, c1, Hs.out, rfl, Hvq.out, Hbq.out⟩
  · have z1 := hz.below hb1 hz.lt
    have hw1 : Below w.heap.size w w1 := hb.trans (hb1.mono hb.size)
    have p0 := z1.cell 0
    have p1 := z1.cell 1
    have p2 := z1.cell 2
    have p3 := z1.cell 3
    have u0 := z1.frozen 0
    have u1 := z1.frozen 1
    have u2 := z1.frozen 2
    have u3 := z1.frozen 3
    simp only [List.getElem?_cons_succ, List.getElem?_cons_zero] at p0 p1 p2 p3
    have lz := z1.lt
    have Hq := Lib.hid (Blk.set4 z1 (.int .i64 0) (.int .i64 0) (.string ⟨#[]⟩) (.slice none 0 0))
    have Hbq := Lib.hid (below_set4 hw1 (Nat.le_refl w.heap.size) (.int .i64 0) (.int .i64 0) (.string ⟨#[]⟩) (.slice none 0 0))
    have Hs := Lib.hid hx
    clear z1 hw1 hx hz hb hb1 hs
    go_wp2_with (fail)
    refine ret_blk_tmp rfl rfl Hq.out Try.underlying35 (by kernel_rfl) rfl ?_
    exact .inr ⟨Hs.out, rfl, Hbq.out⟩
end Go.Proofs.Ytgcpclbkjplipaa
