/- Contracts of slices.EqualFunc at types and values, and of slices.IndexFunc at makes. · Contracts of the closures of fits, if fits does what it should to a depth. · Contract of shape.fits, and of shape.Fits. -/
import Derived.Test.YtoddjdajjmcliaaShScope
set_option linter.unusedVariables false
namespace Go.Sh
open Go.RowKit Go.Mem Go.Val
/-- the four cells of a value -/
abbrev vl (v : V) (A : Option Addr) (c : Nat) : List Value := [.int .i64 v.kind, .int .i64 v.num, .string v.text, .slice A v.args.length c]
/-- a slice of values -/
def VsAt (d : Nat) (w : World) (D : Nat → Prop) (A : Option Addr) (n c : Nat) (l : List V) : Prop := ∃ vss, n = l.length ∧ n ≤ 4194304 ∧ n ≤ c ∧ c ≤ maxLen ∧ Reads w D 4 A n vss.flatten ∧ All2 (VCells d w D) vss l
section
variable {d : Nat} {w w' : World} {D D' : Nat → Prop} {A : Option Addr} {n c : Nat} {l : List V}
theorem VsAt.keep (h : VsAt d w D A n c l) (hk : Same D w w') : VsAt d w' D A n c l := by
  obtain ⟨vss, h1, h2, h3, h4, hr, ha⟩ := h
  exact ⟨vss, h1, h2, h3, h4, hr.keep hk, ha.imp fun x y hxy => hxy.keep hk⟩
theorem VsAt.imp (h : VsAt d w D A n c l) (hk : ∀ b, D b → b < w.heap.size → D' b) : VsAt d w D' A n c l := by
  obtain ⟨vss, h1, h2, h3, h4, hr, ha⟩ := h
  exact ⟨vss, h1, h2, h3, h4, hr.imp (by omega) hk, ha.imp fun x y hxy => hxy.imp hk⟩
theorem VsAt.nil : VsAt d w D none 0 0 [] := ⟨[], rfl, by omega, Nat.le_refl _, Nat.zero_le _, Reads.empty, All2.nil⟩
theorem vargs {v : V} (h : VCells (d + 1) w D (vl v A c) v) : VsAt d w D A v.args.length c v.args := by
  obtain ⟨k, n, t, a⟩ := v
  obtain ⟨A2, c2, vss, e, h1, h2, h3, h4, h5, h6, hr, ha⟩ := h
  simp only [vl, V.kind, V.num, V.text, V.args, List.cons.injEq, Value.slice.injEq, and_true, true_and] at e
  obtain ⟨rfl, rfl⟩ := e
  exact ⟨vss, rfl, h4, h5, h6, hr, ha⟩
theorem vcells_of {k n : Int} {t : ByteArray} {l : List V} {m : Nat} (h : VsAt d w D A m c l) (hk : 0 ≤ k ∧ k ≤ 255) (hn : Fits64 n) (ht : t.size ≤ 4611686018427387904) : VCells (d + 1) w D [.int .i64 k, .int .i64 n, .string t, .slice A m c] (.mk k n t l) := by
  obtain ⟨vss, rfl, h2, h3, h4, hr, ha⟩ := h
  exact ⟨A, c, vss, rfl, hk, hn, ht, h2, h3, h4, hr, ha⟩
theorem vform {v : V} {cs : List Value} (h : VCells d w D cs v) : ∃ A c, cs = vl v A c := h.form
theorem VsAt.cells (h : VsAt d w D A n c l) {j : Nat} (hj : j < n) (hl : j < l.length) :
    ∃ b off B e, A = some ⟨b, off, none⟩ ∧ D b ∧ w.cell? ⟨b, off + j * 4, none⟩ = some (.int .i64 l[j].kind) ∧ w.cell? ⟨b, off + j * 4 + 1, none⟩ = some (.int .i64 l[j].num) ∧ w.cell? ⟨b, off + j * 4 + 2, none⟩ = some (.string l[j].text) ∧ w.cell? ⟨b, off + j * 4 + 3, none⟩ = some (.slice B l[j].args.length e) ∧ VCells d w D (vl l[j] B e) l[j] := by
  obtain ⟨vss, h1, h2, h3, h4, hr, ha⟩ := h
  obtain ⟨b, off, cs, e, hD, hT, hc⟩ := hr.elem (VCells.stable d) ha h1 hl
  obtain ⟨B, c2, rfl⟩ := vform hT
  exact ⟨b, off, B, c2, e, hD, hc 0 _ rfl, by have := hc 1 _ rfl; rwa [← Nat.add_assoc] at this, by have := hc 2 _ rfl; rwa [← Nat.add_assoc] at this, by have := hc 3 _ rfl; rwa [← Nat.add_assoc] at this, hT⟩
end
theorem allV_drop {f : Ty → V → Option Bool} {ts : List Ty} {vs : List V} {j : Nat} {R : Bool} (ha : j < ts.length) (hb : j < vs.length) (h : allV f (ts.drop j) (vs.drop j) = some R) : ∃ q, f ts[j] vs[j] = some q ∧ ((q = false ∧ R = false) ∨ (q = true ∧ allV f (ts.drop (j + 1)) (vs.drop (j + 1)) = some R)) := by
  rw [List.drop_eq_getElem_cons ha, List.drop_eq_getElem_cons hb] at h
  unfold allV at h
  cases hf : f ts[j] vs[j] with
  | none => rw [hf] at h; cases h
  | some q =>
    rw [hf] at h
    cases q with
    | false => exact ⟨false, rfl, .inl ⟨rfl, by injection h with h; exact h.symm⟩⟩
    | true => exact ⟨true, rfl, .inr ⟨rfl, h⟩⟩
theorem allV_end {f : Ty → V → Option Bool} {ts : List Ty} {vs : List V} {j : Nat} {R : Bool} (ha : ts.length ≤ j) (h : allV f (ts.drop j) (vs.drop j) = some R) : R = true := by
  rw [List.drop_eq_nil_of_le ha] at h
  unfold allV at h
  injection h with h
  exact h.symm
/-- where a make is -/
def MkAt (l : List Mk) (p : Mk → Bool) (i : Int) : Prop := (i = -1 ∧ l.find? p = none) ∨ ∃ j, ∃ h : j < l.length, i = (j : Nat) ∧ l.find? p = some l[j]
end Go.Sh
namespace Go.Proofs.Ytoddjdajjmcliaa
open Go.RowKit Go.Mem Go.Sh Go.Maps Go.Val
-- BEGIN
set_option maxRecDepth 100000 in
set_option maxHeartbeats 1000000 in
theorem equalV_any (d dv : Nat) (w : World) (A : Option Addr) (n c : Nat) (ts : List Ty) (B : Option Addr) (m e : Nat) (us : List V) (f : Ty → V → Option Bool) (g : Nat) (cb : Array Value) (r : Bool)
    (hA : TsAt d w Any A n c ts) (hB : VsAt dv w Any B m e us) (hf : eqV f ts us = some r) (eg : ∀ args w, (callFunc g args).run Try.prog w = .ok (.enter g args) w)
    (hcb : ∀ t u q W A1 m1 c1 A2 c2, Below w.heap.size w W → TyAt d W Any t.kind t.name A1 m1 c1 t → VCells dv W Any (vl u A2 c2) u → f t u = some q → Calls Try.prog g (#[.agg #[.int .i64 (t.kind : Nat), str t.name, .slice A1 m1 c1], .agg #[.int .i64 u.kind, .int .i64 u.num, .string u.text, .slice A2 u.args.length c2]] ++ cb) W fun e w' => e = .returned (.bool q) ∧ Below W.heap.size W w') :
    Calls Try.prog 49 #[.slice A n c, .slice B m e, .func (.func g) #[] cb] w fun e w' => e = .returned (.bool r) ∧ Below w.heap.size w w' := by
  have HN := Lib.hid (show (n = ts.length ∧ n ≤ 1000) ∧ (m = us.length ∧ m ≤ 4194304) by obtain ⟨_, h1, h2, _⟩ := hA; obtain ⟨_, h3, h4, _⟩ := hB; exact ⟨⟨h1, h2⟩, h3, h4⟩)
  have n1 := HN.out.1.2
  have n2 := HN.out.2.2
  have HAB := Lib.hid (And.intro hA hB)
  have HC := Lib.hid hcb
  unfold eqV at hf
  by_cases hmn : m = n
  · subst hmn
    rw [if_pos (by have := HN.out; omega)] at hf
    have HF := Lib.hid hf
    clear hA hB hcb hf
    go_enter Try.func49, Try.ntmps49
    go_wp2_with (fail)
    go_loopw [7, 8, 9, 17] (fun _ _ _ v wr => ∃ j : Nat, j ≤ m ∧ v = .int .i64 j ∧ Hid (allV f (ts.drop j) (us.drop j) = some r ∧ Below w.heap.size w wr)) (fun _ _ _ v _ => m - (intOf v).toNat)
    case atStart => exact ⟨0, Nat.zero_le _, rfl, HF.out, Below.refl _ _⟩
    case round =>
      obtain ⟨j, hj, rfl, HI⟩ := hrel
      by_cases hlt : j < m
      · have hjt : j < ts.length := by have := HN.out; omega
        have hju : j < us.length := by have := HN.out; omega
        obtain ⟨b1, o1, B1, m1, e1, rfl, _, p0, p1, p2, t1⟩ := (HAB.out.1.keep (Same.any HI.out.2)).cells hlt hjt
        obtain ⟨b2, o2, B2, e2, rfl, _, q0, q1, q2, q3, t2⟩ := (HAB.out.2.keep (Same.any HI.out.2)).cells hlt hju
        obtain ⟨q, hq, hrest⟩ := allV_drop hjt hju HI.out.1
        have hs1 := (HI.out.2.alloc HI.out.2.size (.cells #[.int .i64 (ts[j].kind : Nat), str ts[j].name, .slice B1 m1 e1] 34)).alloc (by simp; have := HI.out.2.size; omega) (.cells #[.int .i64 us[j].kind, .int .i64 us[j].num, .string us[j].text, .slice B2 us[j].args.length e2] 47)
        have CB := Lib.hid (HC.out _ _ q _ _ _ _ _ _ hs1 (t1.keep same_two) (t2.keep same_two) hq)
        have HR := Lib.hid hrest
        have HS := Lib.hid hs1
        have lb1 := lt_of_cell p0
        have lb2 := lt_of_cell q0
        clear hs1 t1 t2 hq hrest
        generalize ts[j].kind = k1 at p0 CB HS
        generalize ts[j].name = x1 at p1 CB HS
        generalize us[j].kind = k2 at q0 CB HS
        generalize us[j].num = x2 at q1 CB HS
        generalize us[j].text = x3 at q2 CB HS
        generalize us[j].args.length = x4 at q3 CB HS
        cases q
        · go_wp2_with (fail)
          refine CB.out.mono ?_
          rintro e w2 ⟨rfl, hs2⟩
          have HS2 := Lib.hid (HS.out.trans (hs2.mono HS.out.size))
          go_wp2_with (fail)
          go_ret
          rcases HR.out with ⟨_, h2⟩ | ⟨h1, _⟩
          · subst h2
            exact ⟨rfl, HS2.out⟩
          · cases h1
        · go_wp2_with (fail)
          refine CB.out.mono ?_
          rintro e w2 ⟨rfl, hs2⟩
          have HS2 := Lib.hid (HS.out.trans (hs2.mono HS.out.size))
          go_wp2_with (fail)
          rcases HR.out with ⟨h1, _⟩ | ⟨_, h2⟩
          · cases h1
          · exact ⟨⟨j + 1, by omega, by go_num, h2, HS2.out⟩, by simp [intOf]; omega⟩
      · have hend := allV_end (by have := HN.out; omega) HI.out.1
        have HE := Lib.hid hend
        clear hend
        go_wp2_with (fail)
        go_ret
        have h2 := HE.out
        subst h2
        exact ⟨rfl, HI.out.2⟩
  · rw [if_neg (by have := HN.out; omega)] at hf
    have hne : ((n : Int) == (m : Int)) = false := by simp; omega
    have hne2 : (n == m) = false := by simp; omega
    injection hf with hf
    subst hf
    clear hA hB hcb hmn
    go_enter Try.func49, Try.ntmps49
    go_wp2_with (fail)
    go_ret
    exact ⟨rfl, Below.refl _ _⟩
set_option maxRecDepth 100000 in
set_option maxHeartbeats 1000000 in
theorem indexMk_any (d : Nat) (A : Option Addr) (n c : Nat) (l : List Mk) (p : Mk → Bool) (g : Nat) (cb : Array Value) (w : World) (hA : MksAt d w Any A n c l)
    (eg : ∀ args w, (callFunc g args).run Try.prog w = .ok (.enter g args) w)
    (hp : ∀ m A1 m1 c1 W, Below w.heap.size w W → Calls Try.prog g (#[.agg #[str m.name, .slice A1 m1 c1]] ++ cb) W fun e w' => e = .returned (.bool (p m)) ∧ Below W.heap.size W w') :
    Calls Try.prog 53 #[.slice A n c, .func (.func g) #[] cb] w fun e w' => ∃ i : Int, e = .returned (.int .i64 i) ∧ MkAt l p i ∧ Below w.heap.size w w' := by
  have Hn := Lib.hid (show n = l.length ∧ n ≤ 1000 by obtain ⟨_, h1, h2, _⟩ := hA; exact ⟨h1, h2⟩)
  have n1 := Hn.out.2
  have H := Lib.hid hp
  have HA := Lib.hid hA
  clear hA hp
  go_enter Try.func53, Try.ntmps53
  go_wp2_with (fail)
  go_loopw [8] (fun v wr => ∃ j : Nat, j ≤ n ∧ v = .int .i64 j ∧ Hid (l.find? p = (l.drop j).find? p ∧ Below w.heap.size w wr)) (fun v _ => n - (intOf v).toNat)
  case atStart => exact ⟨0, Nat.zero_le _, rfl, rfl, Below.refl _ _⟩
  case round =>
    obtain ⟨j, hj, rfl, HI⟩ := hrel
    by_cases hlt : j < n
    · have hl : j < l.length := by have := Hn.out; omega
      obtain ⟨b1, o1, B1, m1, e1, rfl, _, p0, p1, _, _⟩ := (HA.out.keep (Same.any HI.out.2)).cells hlt hl
      have hf := HI.out.1
      rw [List.drop_eq_getElem_cons hl, List.find?_cons] at hf
      have R1 := Lib.hid (H.out l[j] B1 m1 e1 wr HI.out.2)
      have HJ := Lib.hid (show ∀ x, l[j] = x → l.find? p = some x → MkAt l p (j : Nat) from fun x e h => .inr ⟨j, hl, rfl, by rw [h, e]⟩)
      generalize l[j] = y at p0 R1 hf HJ
      obtain ⟨yn, ya⟩ := y
      simp only at p0 R1
      generalize p ⟨yn, ya⟩ = q at R1 hf
      have HF := Lib.hid hf
      clear hf
      cases q
      · go_wp2_with (fail)
        refine R1.out.mono ?_
        rintro e w2 ⟨rfl, hb2⟩
        have HB2 := Lib.hid (HI.out.2.trans (hb2.mono HI.out.2.size))
        go_wp2_with (fail)
        exact ⟨⟨j + 1, by omega, by go_num, HF.out, HB2.out⟩, by simp [intOf]; omega⟩
      · go_wp2_with (fail)
        refine R1.out.mono ?_
        rintro e w2 ⟨rfl, hb2⟩
        have HB2 := Lib.hid (HI.out.2.trans (hb2.mono HI.out.2.size))
        go_wp2_with (fail)
        go_ret
        exact ⟨j, rfl, HJ.out _ rfl HF.out, HB2.out⟩
    · have hall := HI.out.1
      rw [List.drop_eq_nil_of_le (by have := Hn.out; omega)] at hall
      have Ht := Lib.hid hall
      clear hall
      go_wp2_with (fail)
      go_ret
      exact ⟨-1, rfl, .inl ⟨rfl, Ht.out⟩, HI.out.2⟩
set_option maxRecDepth 100000 in
theorem containsMk_any (d : Nat) (A : Option Addr) (n c : Nat) (l : List Mk) (p : Mk → Bool) (g : Nat) (cb : Array Value) (w : World) (hA : MksAt d w Any A n c l)
    (eg : ∀ args w, (callFunc g args).run Try.prog w = .ok (.enter g args) w)
    (hp : ∀ m A1 m1 c1 W, Below w.heap.size w W → Calls Try.prog g (#[.agg #[str m.name, .slice A1 m1 c1]] ++ cb) W fun e w' => e = .returned (.bool (p m)) ∧ Below W.heap.size W w') :
    Calls Try.prog 56 #[.slice A n c, .func (.func g) #[] cb] w fun e w' => e = .returned (.bool (l.any p)) ∧ Below w.heap.size w w' := by
  have ix := indexMk_any d A n c l p g cb w hA eg hp
  have IX := Lib.hid ix
  clear hA hp eg ix
  go_enter Try.func56, Try.ntmps56
  go_wp2_with (fail)
  refine IX.out.mono ?_
  rintro e w' ⟨i, rfl, hi, hb⟩
  have Hi := Lib.hid (show decide (0 ≤ i) = l.any p by
    rcases hi with ⟨rfl, h⟩ | ⟨j, hj, rfl, h⟩
    · rw [List.find?_eq_none] at h
      symm
      rw [show l.any p = false by rw [List.any_eq_false]; exact h]
      rfl
    · rw [show l.any p = true by rw [List.any_eq_true]; exact ⟨_, List.mem_of_find?_eq_some h, List.find?_some h⟩]
      simp)
  clear hi
  go_wp2_with (fail)
  go_ret
  exact ⟨by rw [← Hi.out]; rfl, hb⟩
end Go.Proofs.Ytoddjdajjmcliaa
set_option linter.unusedVariables false
namespace Go.Proofs.Ytoddjdajjmcliaa
open Go.RowKit Go.Mem Go.Sh Go.Maps Go.Val
/-- what fits does to values of at most a depth -/
def FitsTo (dv : Nat) : Prop := ∀ (d : Nat) (w : World) (p : Pg) (P : List Dt) (t : Ty) (A : Option Addr) (m c : Nat) (s : Sc) (sv : Option Addr) (v : V) (A3 : Option Addr) (c3 : Nat) (r : Bool),
  DtsAt d w Any p.A p.n p.c P → TyAt d w Any t.kind t.name A m c t → ScAt d w sv s → VCells dv w Any (vl v A3 c3) v → fitsF P dv s t v = some r →
  Calls Try.prog 30 #[.agg p.cells.toArray, .agg #[.int .i64 (t.kind : Nat), str t.name, .slice A m c], .pointer sv, .agg #[.int .i64 v.kind, .int .i64 v.num, .string v.text, .slice A3 v.args.length c3]] w fun e w' => e = .returned (.bool r) ∧ Below w.heap.size w w'
theorem txt_eq (n : Nm) (t : ByteArray) : (n == t.data.toList) = decide (txt n = t) := by
  unfold txt
  rw [Bool.eq_iff_iff, beq_iff_eq, decide_eq_true_eq]
  constructor
  · rintro rfl
    rfl
  · rintro rfl
    rfl
-- BEGIN
set_option maxRecDepth 100000 in
theorem fits2_any (n : Nm) (A : Option Addr) (m c : Nat) (bv : Nat) (t : ByteArray) (w : World) (h : w.cell? ⟨bv, 2, none⟩ = some (.string t)) :
    Calls Try.prog 54 #[.agg #[str n, .slice A m c], .pointer (some ⟨bv, 0, none⟩)] w fun e w' => e = .returned (.bool (decide (txt n = t))) ∧ Below w.heap.size w w' := by
  have lb := lt_of_cell h
  go_enter Try.func54, Try.ntmps54
  go_wp2_with (fail)
  go_ret
  refine ⟨?_, (Below.refl _ _).alloc (Nat.le_refl _) _⟩
  rw [← txt_eq, ← ByteArray.toList_eq]
  rfl
set_option maxRecDepth 100000 in
theorem fits11_any (dv : Nat) (IH : FitsTo dv) (d : Nat) (w : World) (p : Pg) (P : List Dt) (bp bs : Nat) (t : Ty) (A : Option Addr) (m c : Nat) (s : Sc) (sv : Option Addr) (v : V) (A3 : Option Addr) (c3 : Nat) (r : Bool)
    (kp : Blk w bp 29 p.cells) (ks : w.cell? ⟨bs, 0, none⟩ = some (.pointer sv)) (hp : DtsAt d w Any p.A p.n p.c P) (ht : TyAt d w Any t.kind t.name A m c t) (hs : ScAt d w sv s) (hv : VCells dv w Any (vl v A3 c3) v) (hf : fitsF P dv s t v = some r) :
    Calls Try.prog 50 #[.agg #[.int .i64 (t.kind : Nat), str t.name, .slice A m c], .agg #[.int .i64 v.kind, .int .i64 v.num, .string v.text, .slice A3 v.args.length c3], .pointer (some ⟨bp, 0, none⟩), .pointer (some ⟨bs, 0, none⟩)] w fun e w' => e = .returned (.bool r) ∧ Below w.heap.size w w' := by
  have hs1 := ((Below.refl w.heap.size w).alloc (Nat.le_refl _) (.cells #[.int .i64 (t.kind : Nat), str t.name, .slice A m c] 34)).alloc (by simp) (.cells #[.int .i64 v.kind, .int .i64 v.num, .string v.text, .slice A3 v.args.length c3] 47)
  have R := Lib.hid (IH d _ p P t A m c s sv v A3 c3 r (hp.keep (Same.any hs1)) (ht.keep (Same.any hs1)) (hs.keep (Same.any hs1)) (hv.keep (Same.any hs1)) hf)
  have HS := Lib.hid hs1
  have a0 := kp.cell 0
  have a1 := kp.cell 1
  have a2 := kp.cell 2
  have a3 := kp.cell 3
  have a4 := kp.cell 4
  have a5 := kp.cell 5
  have a6 := kp.cell 6
  have a7 := kp.cell 7
  have lp := kp.lt
  have ls := lt_of_cell ks
  simp only [Pg.cells, pvs, List.getElem?_cons_zero, List.getElem?_cons_succ] at a0 a1 a2 a3 a4 a5 a6 a7
  simp only [Pg.cells, pvs] at R
  clear hs1 kp hp ht hs hv hf
  generalize t.kind = k1 at R HS ⊢
  generalize t.name = x1 at R HS ⊢
  generalize v.kind = k2 at R HS ⊢
  generalize v.num = x2 at R HS ⊢
  generalize v.text = x3 at R HS ⊢
  generalize v.args.length = x4 at R HS ⊢
  go_enter Try.func50, Try.ntmps50
  go_wp2_with (fail)
  refine R.out.mono ?_
  rintro e w2 ⟨rfl, hb⟩
  have HB := Lib.hid (HS.out.trans (hb.mono HS.out.size))
  go_wp2_with (fail)
  go_ret
  exact ⟨rfl, HB.out⟩
set_option maxRecDepth 100000 in
theorem fits1_any (dv : Nat) (IH : FitsTo dv) (d : Nat) (w : World) (p : Pg) (P : List Dt) (bp bv : Nat) (ts : List Ty) (A : Option Addr) (n c : Nat) (s : Sc) (sv : Option Addr) (v : V) (A3 : Option Addr) (c3 : Nat) (r : Bool)
    (kp : Blk w bp 29 p.cells) (kv : Blk w bv 47 (vl v A3 c3)) (hp : DtsAt d w Any p.A p.n p.c P) (ht : TsAt d w Any A n c ts) (hs : ScAt d w sv s) (hv : VsAt dv w Any A3 v.args.length c3 v.args) (hf : eqV (fitsF P dv s) ts v.args = some r) :
    Calls Try.prog 48 #[.slice A n c, .pointer sv, .pointer (some ⟨bv, 0, none⟩), .pointer (some ⟨bp, 0, none⟩)] w fun e w' => e = .returned (.bool r) ∧ Below w.heap.size w w' := by
  have hs1 := (Below.refl w.heap.size w).alloc (Nat.le_refl _) (.cells #[.pointer sv] 122)
  have kb := (Blk.new w 122 [.pointer sv])
  have kb0 := kb.cell 0
  simp only [List.getElem?_cons_zero] at kb0
  have lb := lt_of_cell kb0
  have R := Lib.hid (equalV_any d dv (w.alloc (.cells #[.pointer sv] 122)) A n c ts A3 v.args.length c3 v.args (fitsF P dv s) 50 #[.pointer (some ⟨bp, 0, none⟩), .pointer (some ⟨w.heap.size, 0, none⟩)] r (ht.keep (Same.any hs1)) (hv.keep (Same.any hs1)) hf (enters_of Try.func50 (by kernel_rfl) rfl)
    (fun t u q W A1 m1 c1 A2 c2 hW h1 h2 h3 => fits11_any dv IH d W p P bp w.heap.size t A1 m1 c1 s sv u A2 c2 q ((kp.alloc _).same (Same.any hW : Same Any _ _) trivial) ((hW.cell lb).trans kb0) ((hp.keep (Same.any hs1)).keep (Same.any hW)) h1 ((hs.keep (Same.any hs1)).keep (Same.any hW)) h2 h3))
  have HS := Lib.hid hs1
  have v3 := kv.cell 3
  have lv := kv.lt
  simp only [vl, List.getElem?_cons_zero, List.getElem?_cons_succ] at v3
  clear hs1 kp kv hp ht hs hv hf kb kb0 lb
  generalize v.args.length = x4 at R HS v3
  go_enter Try.func48, Try.ntmps48
  go_wp2_with (fail)
  refine R.out.mono ?_
  rintro e w2 ⟨rfl, hb⟩
  have HB := Lib.hid (HS.out.trans (hb.mono HS.out.size))
  go_wp2_with (fail)
  go_ret
  exact ⟨rfl, HB.out⟩
end Go.Proofs.Ytoddjdajjmcliaa
set_option linter.unusedVariables false
namespace Go.Proofs.Ytoddjdajjmcliaa
open Go.RowKit Go.Mem Go.Sh Go.Maps Go.Val
theorem fitsF_of {P : List Dt} {d : Nat} {s : Sc} {t : Ty} {v : V} {k : Nat} {n : Nm} {l : List Ty} {s2 : Sc} (h : resolveF s t = (.mk k n l, s2)) : fitsF P (d + 1) s t v =
    if 1 ≤ k ∧ k ≤ 4 then some (decide (v.kind = (basicF k : Nat) ∧ v.args.length = 0))
    else if k = 8 then some (decide (v.kind = 6 ∧ v.args.length = 0))
    else if k = 9 then (if v.kind = 8 then eqV (fitsF P d s2) l v.args else some false)
    else if k = 6 then match dataOf P n with
      | none => none
      | some D => if D.params.length = l.length then
          (if v.kind = 5 then match D.makes.find? (fun m => decide (txt m.name = v.text)) with
            | none => some false
            | some m => eqV (fitsF P d (.mk D.params l s2)) m.args v.args
          else some false) else none
    else some false := by
  conv => lhs; unfold fitsF
  rw [h]
  rfl
/-- where fits stands behind resolve -/
structure FitAt (d dv : Nat) (w W : World) (p : Pg) (P : List Dt) (FA FB FC : Nat) (t : Ty) (A : Option Addr) (m c : Nat) (s : Sc) (sv : Option Addr) (v : V) (A3 : Option Addr) (c3 : Nat) : Prop where
  be : Below w.heap.size w W
  ba : Blk W FA 29 p.cells
  bb : Blk W FB 34 [.int .i64 (t.kind : Nat), str t.name, .slice A m c]
  bc : Blk W FC 47 (vl v A3 c3)
  hp : DtsAt d W Any p.A p.n p.c P
  ht : TyAt d W Any t.kind t.name A m c t
  hs : ScAt d W sv s
  hv : VCells dv W Any (vl v A3 c3) v
theorem FitAt.below {d dv : Nat} {w W W' : World} {p : Pg} {P : List Dt} {FA FB FC : Nat} {t : Ty} {A : Option Addr} {m c : Nat} {s : Sc} {sv : Option Addr} {v : V} {A3 : Option Addr} {c3 : Nat} (h : FitAt d dv w W p P FA FB FC t A m c s sv v A3 c3) (hb : Below W.heap.size W W') : FitAt d dv w W' p P FA FB FC t A m c s sv v A3 c3 :=
  have k : Same Any W W' := Same.any hb
  ⟨h.be.trans (hb.mono h.be.size), h.ba.same k trivial, h.bb.same k trivial, h.bc.same k trivial, h.hp.keep k, h.ht.keep k, h.hs.keep k, h.hv.keep k⟩
-- BEGIN
set_option maxRecDepth 100000 in
set_option maxHeartbeats 8000000 in
theorem fits_succ (dv : Nat) (IH : FitsTo dv) : FitsTo (dv + 1) := by
  intro d w p P t A m c s sv v A3 c3 r hp ht hs hv hf
  have HT := Lib.hid (And.intro hp (And.intro ht (And.intro hs hv)))
  have R0 := fun W3 hb => resolve_any d w W3 t A m c s sv hb ht hs
  have hk9 := resolve_le s t ht hs
  obtain ⟨rt, hrt⟩ : ∃ rt, resolveF s t = rt := ⟨_, rfl⟩
  obtain ⟨⟨k2, n2, l2⟩, s2⟩ := rt
  rw [fitsF_of hrt] at hf
  rw [hrt] at R0 hk9
  simp only [Ty.kind] at hk9
  have HF := Lib.hid hf
  have HR0 := Lib.hid R0
  have HK9 := Lib.hid hk9
  generalize t.kind = kt at HR0 ⊢
  generalize t.name = nt at HR0 ⊢
  generalize hvk : v.kind = vk at hf ⊢
  generalize hvn : v.num = vn at ⊢
  generalize hvt : v.text = vt at hf ⊢
  generalize hva : v.args.length = va at hf ⊢
  have HV := Lib.hid (And.intro hvk (And.intro hvn (And.intro hvt hva)))
  clear hp ht hs hv hf R0 hk9 hvk hvn hvt hva hrt
  obtain ⟨FA, hFA⟩ : ∃ FA, FA = w.heap.size := ⟨_, rfl⟩
  obtain ⟨FB, hFB⟩ : ∃ FB, FB = w.heap.size + 1 := ⟨_, rfl⟩
  obtain ⟨FC, hFC⟩ : ∃ FC, FC = w.heap.size + 1 + 1 := ⟨_, rfl⟩
  have HFs := Lib.hid (show FA = w.heap.size ∧ FB = w.heap.size + 1 ∧ FC = w.heap.size + 1 + 1 from ⟨hFA, hFB, hFC⟩)
  clear hFA hFB hFC
  unfold Pg.cells pvs
  go_enter Try.func30, Try.ntmps30
  go_upto_region 1 with (fail)
  obtain ⟨W3, hW3⟩ : ∃ W3, W3 = ((w.alloc (.cells #[str [109], .int .i64 1, .slice none 0 0, .slice p.A p.n p.c, .slice none 0 0, .slice none 0 0, .slice none 0 0, .slice p.B p.m p.e] 29)).alloc (.cells #[.int .i64 (kt : Nat), str nt, .slice A m c] 34)).alloc (.cells #[.int .i64 vk, .int .i64 vn, .string vt, .slice A3 va c3] 47) := ⟨_, rfl⟩
  have hb := blks3 w 29 34 47 p.cells [.int .i64 (kt : Nat), str nt, .slice A m c] [.int .i64 vk, .int .i64 vn, .string vt, .slice A3 va c3] W3 hW3
  rw [← hW3]
  clear hW3
  rw [← HFs.out.2.2, ← HFs.out.2.1, ← HFs.out.1] at hb
  rw [← HFs.out.2.2, ← HFs.out.2.1, ← HFs.out.1]
  have HB := Lib.hid hb
  have b0 := hb.2.1.cell 0
  have b1 := hb.2.1.cell 1
  have b2 := hb.2.1.cell 2
  have lB := hb.2.1.lt
  simp only [List.getElem?_cons_zero, List.getElem?_cons_succ] at b0 b1 b2
  have R := Lib.hid (HR0.out W3 (by have h := hb.2.2.2.1; rw [HFs.out.1] at h; exact h))
  clear hb HR0
  go_upto_region 2 with (go_at_call 47; refine R.out.mono ?_; unfold ResPost; rintro e w4 ⟨hb4, A2, m2, c2, sv2, he, ht2, hs2⟩; simp only [Ty.kind, Ty.name] at he ht2; subst he; have HK := Lib.hid (And.intro hb4 (And.intro ht2 hs2)); have gB := HB.out.2.1.below hb4 HB.out.2.1.lt; have y0 := gB.cell 0; have y1 := gB.cell 1; have y2 := gB.cell 2; have z0 := gB.frozen 0; have z1 := gB.frozen 1; have z2 := gB.frozen 2; have lY := gB.lt; simp only [List.getElem?_cons_zero, List.getElem?_cons_succ] at y0 y1 y2; clear b0 b1 b2 lB hb4 ht2 hs2 gB)
  clear y0 y1 y2 z0 z1 z2 lY R
  obtain ⟨W5, hW5⟩ : ∃ W5, W5 = ((w4.setCell ⟨FB, 0, none⟩ (.int .i64 (k2 : Nat))).setCell ⟨FB, 1, none⟩ (str n2)).setCell ⟨FB, 2, none⟩ (.slice A2 m2 c2) := ⟨_, rfl⟩
  have hat : FitAt d (dv + 1) w W5 p P FA FB FC (.mk k2 n2 l2) A2 m2 c2 s2 sv2 v A3 c3 := by
    obtain ⟨g1, g2, g3, g4, g5⟩ := HB.out
    obtain ⟨hb4, ht2, hs2⟩ := HK.out
    obtain ⟨f1, f2, f3⟩ := HFs.out
    have hlt : w.heap.size ≤ FB := by omega
    have hb0 : Below w.heap.size w w4 := by rw [f1] at g4; exact g4.trans (hb4.mono (by omega))
    have hbe : Below w.heap.size w W5 := by rw [hW5]; exact ((hb0.setCell (p := ⟨FB, 0, none⟩) hlt _).setCell (p := ⟨FB, 1, none⟩) hlt _).setCell (p := ⟨FB, 2, none⟩) hlt _
    have k : Same Any w W5 := Same.any hbe
    obtain ⟨hp, _, hs, hv⟩ := HT.out
    have ev : vl v A3 c3 = [.int .i64 vk, .int .i64 vn, .string vt, .slice A3 va c3] := by
      obtain ⟨e1, e2, e3, e4⟩ := HV.out
      rw [← e1, ← e2, ← e3, ← e4]
    refine ⟨hbe, ?_, ?_, ?_, hp.keep k, ht2.keep k, hs2.keep k, hv.keep k⟩
    · rw [hW5]
      exact (((g1.below hb4 g1.lt).far (p := ⟨FB, 0, none⟩) (by show FA ≠ FB; omega) _).far (p := ⟨FB, 1, none⟩) (by show FA ≠ FB; omega) _).far (p := ⟨FB, 2, none⟩) (by show FA ≠ FB; omega) _
    · rw [hW5]
      exact (((g2.below hb4 g2.lt).put 0 _).put 1 _).put 2 _
    · rw [hW5, ev]
      exact (((g3.below hb4 g3.lt).far (p := ⟨FB, 0, none⟩) (by show FC ≠ FB; omega) _).far (p := ⟨FB, 1, none⟩) (by show FC ≠ FB; omega) _).far (p := ⟨FB, 2, none⟩) (by show FC ≠ FB; omega) _
  rw [← hW5]
  have HA := Lib.hid hat
  have c0 := hat.bc.cell 0
  have c1 := hat.bc.cell 1
  have c2' := hat.bc.cell 2
  have c3' := hat.bc.cell 3
  have b0 := hat.bb.cell 0
  have b1 := hat.bb.cell 1
  have b2 := hat.bb.cell 2
  have lA := hat.ba.lt
  have lB := hat.bb.lt
  have lC := hat.bc.lt
  simp only [vl, HV.out.1, HV.out.2.1, HV.out.2.2.1, HV.out.2.2.2, Ty.kind, Ty.name, List.getElem?_cons_zero, List.getElem?_cons_succ] at c0 c1 c2' c3' b0 b1 b2
  clear hW5 hat HK HB
  have hk2 := HK9.out
  go_upto_region 4 with (fail)
  by_cases hsm : 1 ≤ k2 ∧ k2 ≤ 4
  · have hr : decide (vk = ((basicF k2 : Nat) : Int) ∧ va = 0) = r := by
      have h := HF.out
      rw [if_pos hsm, HV.out.1, HV.out.2.2.2] at h
      exact Option.some.inj h
    have HR := Lib.hid hr
    have KB := Lib.hid (fun W => basic_any k2 W hk2)
    have fin := Lib.hid (fun nq => below_drewN HA.out.be nq)
    clear hr hk2 HF
    have h4 : k2 = 1 ∨ k2 = 2 ∨ k2 = 3 ∨ k2 = 4 := by omega
    clear hsm
    rcases h4 with rfl | rfl | rfl | rfl
    · have KB : ∀ W, Calls Try.prog 51 #[.int .i64 ((1 : Nat) : Int)] W fun e w' => e = .returned (.int .i64 2) ∧ W = w' := KB.out
      have KB := Lib.hid KB
      by_cases hq : vk = 2
      · subst hq
        by_cases hz : va = 0
        · subst hz
          go_wp2_with (fail)
          go_quiet (first | (go_at_call 51; exact Calls.quiet_of_same ((KB.out _).mono fun e w2 h => ⟨h.1, h.2.symm⟩)))
          go_wp2_with (fail)
          go_ret
          exact ⟨by rw [← HR.out]; rfl, fin.out _⟩
        · have hz1 : ((va : Int) == 0) = false := by simp; omega
          have HR2 := Lib.hid (show false = r by rw [← HR.out]; simp [hz])
          clear hz
          go_wp2_with (fail)
          go_quiet (first | (go_at_call 51; exact Calls.quiet_of_same ((KB.out _).mono fun e w2 h => ⟨h.1, h.2.symm⟩)))
          go_wp2_with (fail)
          go_ret
          exact ⟨by rw [← HR2.out]; rfl, fin.out _⟩
      · have hq1 : (vk == 2) = false := by simpa using hq
        have hq2 : decide (vk = 2) = false := by simpa using hq
        have HR2 := Lib.hid (show false = r by rw [← HR.out]; exact (decide_eq_false (fun h => hq (h.1.trans rfl))).symm)
        clear hq
        go_wp2_with (fail)
        go_quiet (first | (go_at_call 51; exact Calls.quiet_of_same ((KB.out _).mono fun e w2 h => ⟨h.1, h.2.symm⟩)))
        go_wp2_with (fail)
        go_ret
        exact ⟨by rw [← HR2.out]; rfl, fin.out _⟩
    · have KB : ∀ W, Calls Try.prog 51 #[.int .i64 ((2 : Nat) : Int)] W fun e w' => e = .returned (.int .i64 3) ∧ W = w' := KB.out
      have KB := Lib.hid KB
      by_cases hq : vk = 3
      · subst hq
        by_cases hz : va = 0
        · subst hz
          go_wp2_with (fail)
          go_quiet (first | (go_at_call 51; exact Calls.quiet_of_same ((KB.out _).mono fun e w2 h => ⟨h.1, h.2.symm⟩)))
          go_wp2_with (fail)
          go_ret
          exact ⟨by rw [← HR.out]; rfl, fin.out _⟩
        · have hz1 : ((va : Int) == 0) = false := by simp; omega
          have HR2 := Lib.hid (show false = r by rw [← HR.out]; simp [hz])
          clear hz
          go_wp2_with (fail)
          go_quiet (first | (go_at_call 51; exact Calls.quiet_of_same ((KB.out _).mono fun e w2 h => ⟨h.1, h.2.symm⟩)))
          go_wp2_with (fail)
          go_ret
          exact ⟨by rw [← HR2.out]; rfl, fin.out _⟩
      · have hq1 : (vk == 3) = false := by simpa using hq
        have hq2 : decide (vk = 3) = false := by simpa using hq
        have HR2 := Lib.hid (show false = r by rw [← HR.out]; exact (decide_eq_false (fun h => hq (h.1.trans rfl))).symm)
        clear hq
        go_wp2_with (fail)
        go_quiet (first | (go_at_call 51; exact Calls.quiet_of_same ((KB.out _).mono fun e w2 h => ⟨h.1, h.2.symm⟩)))
        go_wp2_with (fail)
        go_ret
        exact ⟨by rw [← HR2.out]; rfl, fin.out _⟩
    · have KB : ∀ W, Calls Try.prog 51 #[.int .i64 ((3 : Nat) : Int)] W fun e w' => e = .returned (.int .i64 4) ∧ W = w' := KB.out
      have KB := Lib.hid KB
      by_cases hq : vk = 4
      · subst hq
        by_cases hz : va = 0
        · subst hz
          go_wp2_with (fail)
          go_quiet (first | (go_at_call 51; exact Calls.quiet_of_same ((KB.out _).mono fun e w2 h => ⟨h.1, h.2.symm⟩)))
          go_wp2_with (fail)
          go_ret
          exact ⟨by rw [← HR.out]; rfl, fin.out _⟩
        · have hz1 : ((va : Int) == 0) = false := by simp; omega
          have HR2 := Lib.hid (show false = r by rw [← HR.out]; simp [hz])
          clear hz
          go_wp2_with (fail)
          go_quiet (first | (go_at_call 51; exact Calls.quiet_of_same ((KB.out _).mono fun e w2 h => ⟨h.1, h.2.symm⟩)))
          go_wp2_with (fail)
          go_ret
          exact ⟨by rw [← HR2.out]; rfl, fin.out _⟩
      · have hq1 : (vk == 4) = false := by simpa using hq
        have hq2 : decide (vk = 4) = false := by simpa using hq
        have HR2 := Lib.hid (show false = r by rw [← HR.out]; exact (decide_eq_false (fun h => hq (h.1.trans rfl))).symm)
        clear hq
        go_wp2_with (fail)
        go_quiet (first | (go_at_call 51; exact Calls.quiet_of_same ((KB.out _).mono fun e w2 h => ⟨h.1, h.2.symm⟩)))
        go_wp2_with (fail)
        go_ret
        exact ⟨by rw [← HR2.out]; rfl, fin.out _⟩
    · have KB : ∀ W, Calls Try.prog 51 #[.int .i64 ((4 : Nat) : Int)] W fun e w' => e = .returned (.int .i64 1) ∧ W = w' := KB.out
      have KB := Lib.hid KB
      by_cases hq : vk = 1
      · subst hq
        by_cases hz : va = 0
        · subst hz
          go_wp2_with (fail)
          go_quiet (first | (go_at_call 51; exact Calls.quiet_of_same ((KB.out _).mono fun e w2 h => ⟨h.1, h.2.symm⟩)))
          go_wp2_with (fail)
          go_ret
          exact ⟨by rw [← HR.out]; rfl, fin.out _⟩
        · have hz1 : ((va : Int) == 0) = false := by simp; omega
          have HR2 := Lib.hid (show false = r by rw [← HR.out]; simp [hz])
          clear hz
          go_wp2_with (fail)
          go_quiet (first | (go_at_call 51; exact Calls.quiet_of_same ((KB.out _).mono fun e w2 h => ⟨h.1, h.2.symm⟩)))
          go_wp2_with (fail)
          go_ret
          exact ⟨by rw [← HR2.out]; rfl, fin.out _⟩
      · have hq1 : (vk == 1) = false := by simpa using hq
        have hq2 : decide (vk = 1) = false := by simpa using hq
        have HR2 := Lib.hid (show false = r by rw [← HR.out]; exact (decide_eq_false (fun h => hq (h.1.trans rfl))).symm)
        clear hq
        go_wp2_with (fail)
        go_quiet (first | (go_at_call 51; exact Calls.quiet_of_same ((KB.out _).mono fun e w2 h => ⟨h.1, h.2.symm⟩)))
        go_wp2_with (fail)
        go_ret
        exact ⟨by rw [← HR2.out]; rfl, fin.out _⟩
  · by_cases h8 : k2 = 8
    · subst h8
      have hr : decide (vk = 6 ∧ va = 0) = r := by
        have h := HF.out
        rw [if_neg (by omega), if_pos rfl, HV.out.1, HV.out.2.2.2] at h
        exact Option.some.inj h
      have HR := Lib.hid hr
      clear hr HF hsm
      by_cases hq : vk = 6
      · subst hq
        by_cases hz : va = 0
        · subst hz
          go_wp2_with (fail)
          go_ret
          exact ⟨by rw [← HR.out]; rfl, HA.out.be⟩
        · have hz1 : ((va : Int) == 0) = false := by simp; omega
          have HR2 := Lib.hid (show false = r by rw [← HR.out]; simp [hz])
          clear hz
          go_wp2_with (fail)
          go_ret
          exact ⟨by rw [← HR2.out]; rfl, HA.out.be⟩
      · have hq1 : (vk == 6) = false := by simpa using hq
        have hq2 : decide (vk = 6) = false := by simpa using hq
        have HR2 := Lib.hid (show false = r by rw [← HR.out]; exact (decide_eq_false (fun h => hq h.1)).symm)
        clear hq
        go_wp2_with (fail)
        go_ret
        exact ⟨by rw [← HR2.out]; rfl, HA.out.be⟩
    · by_cases h9 : k2 = 9
      · subst h9
        have hr : (if vk = 8 then eqV (fitsF P dv s2) l2 v.args else some false) = some r := by
          have h := HF.out
          rw [if_neg (by omega), if_neg (by omega), if_pos rfl, HV.out.1] at h
          exact h
        by_cases hq : vk = 8
        · subst hq
          rw [if_pos rfl] at hr
          have C1 := Lib.hid (fits1_any dv IH d W5 p P FA FC l2 A2 m2 c2 s2 sv2 v A3 c3 r HA.out.ba HA.out.bc HA.out.hp HA.out.ht.args HA.out.hs (vargs HA.out.hv) hr)
          clear hr HF hsm h8
          go_wp2_with (fail)
          refine C1.out.mono ?_
          rintro e w6 ⟨rfl, hb6⟩
          have HE := Lib.hid (HA.out.be.trans (hb6.mono HA.out.be.size))
          go_wp2_with (fail)
          go_ret
          exact ⟨rfl, HE.out⟩
        · rw [if_neg hq] at hr
          have HR := Lib.hid (Option.some.inj hr)
          have hq1 : (vk == 8) = false := by simpa using hq
          have hq2 : decide (vk = 8) = false := by simpa using hq
          clear hr hq HF hsm h8
          go_wp2_with (fail)
          go_ret
          exact ⟨by rw [← HR.out]; rfl, HA.out.be⟩
      · by_cases h6 : k2 = 6
        · subst h6
          have hf := HF.out
          rw [if_neg (by omega), if_neg (by omega), if_neg (by omega), if_pos rfl, HV.out.1, HV.out.2.2.1] at hf
          cases hR : dataOf P n2 with
          | none => rw [hR] at hf; cases hf
          | some R =>
            rw [hR] at hf
            simp only at hf
            by_cases hl : R.params.length = l2.length
            · rw [if_pos hl] at hf
              have UN := Lib.hid (under_any d W5 p P (.mk 6 n2 l2) R A2 m2 c2 s2 sv2 HA.out.hp HA.out.ht HA.out.hs hR hl)
              have HF2 := Lib.hid hf
              have a0 := HA.out.ba.cell 0
              have a1 := HA.out.ba.cell 1
              have a2 := HA.out.ba.cell 2
              have a3 := HA.out.ba.cell 3
              have a4 := HA.out.ba.cell 4
              have a5 := HA.out.ba.cell 5
              have a6 := HA.out.ba.cell 6
              have a7 := HA.out.ba.cell 7
              simp only [Pg.cells, pvs, List.getElem?_cons_zero, List.getElem?_cons_succ] at a0 a1 a2 a3 a4 a5 a6 a7
              simp only [Pg.cells, pvs, Ty.kind, Ty.name] at UN
              clear hf hR hl hsm h8 h9 HF
              go_upto_region 15 with (go_at_call 52; refine UN.out.mono ?_; unfold UnderPost; rintro e w6 ⟨hb6, X, cx, A6, n6, c6, sv6, rfl, hm6, hs6⟩; have HU := Lib.hid (And.intro hb6 (And.intro hm6 hs6)); clear a0 a1 a2 a3 a4 a5 a6 a7 b0 b1 b2 c0 c1 c2' c3' lA lB lC hb6 hm6 hs6)
              obtain ⟨w7, hw7⟩ : ∃ w7, w7 = w6.alloc (.cells #[str R.name, .slice X R.params.length cx, .slice A6 n6 c6] 83) := ⟨_, rfl⟩
              have hd : Blk w7 w6.heap.size 83 [str R.name, .slice X R.params.length cx, .slice A6 n6 c6] := by rw [hw7]; exact Blk.new _ _ _
              have h67 : Below w6.heap.size w6 w7 := by rw [hw7]; exact (Below.refl _ _).alloc (Nat.le_refl _) _
              rw [← hw7]
              obtain ⟨BD, hBD⟩ : ∃ BD, BD = w6.heap.size := ⟨_, rfl⟩
              rw [← hBD] at hd ⊢
              have HA7 := Lib.hid ((HA.out.below HU.out.1).below h67)
              have HU7 := Lib.hid (And.intro (HU.out.2.1.keep (Same.any h67)) (And.intro (HU.out.2.2.keep (Same.any h67)) hd))
              clear hd h67 hw7 hBD
              have d0 := HU7.out.2.2.cell 0
              have d1 := HU7.out.2.2.cell 1
              have d2 := HU7.out.2.2.cell 2
              have lD := HU7.out.2.2.lt
              simp only [List.getElem?_cons_zero, List.getElem?_cons_succ] at d0 d1 d2
              have v2 : w7.cell? ⟨FC, 2, none⟩ = some (.string vt) := by
                have h := HA7.out.bc.cell 2
                simp only [vl, HV.out.2.2.1, List.getElem?_cons_zero, List.getElem?_cons_succ] at h
                exact h
              have lC7 := HA7.out.bc.lt
              have IX := Lib.hid (indexMk_any d A6 n6 c6 R.makes (fun m => decide (txt m.name = vt)) 54 #[.pointer (some ⟨FC, 0, none⟩)] w7 HU7.out.1 (enters_of Try.func54 (by kernel_rfl) rfl)
                (fun m A1 m1 c1 W hW => fits2_any m.name A1 m1 c1 FC vt W ((hW.cell (p := ⟨FC, 2, none⟩) lC7).trans v2)))
              clear v2 lC7
              go_upto_region 16 with (go_at_call 53; refine IX.out.mono ?_; rintro e w8 ⟨i, rfl, hi, hb8⟩; have HI := Lib.hid (And.intro hi hb8); clear d0 d1 d2 lD hi hb8)
              clear IX UN
              have HA8 := Lib.hid (HA7.out.below HI.out.2)
              have HU8 := Lib.hid (And.intro (HU7.out.1.keep (Same.any HI.out.2)) (And.intro (HU7.out.2.1.keep (Same.any HI.out.2)) (HU7.out.2.2.same (Same.any HI.out.2 : Same Any _ _) trivial)))
              have HE8 := Lib.hid HA8.out.be
              have d2 := HU8.out.2.2.cell 2
              have lD := HU8.out.2.2.lt
              have k0 := HA8.out.bc.cell 0
              have lC := HA8.out.bc.lt
              simp only [vl, HV.out.1, List.getElem?_cons_zero, List.getElem?_cons_succ] at d2 k0
              have HM := Lib.hid HI.out.1
              by_cases hq : vk = 5
              · subst hq
                rw [if_pos rfl] at HF2
                rcases HM.out with ⟨hi, hn⟩ | ⟨j, hj, hi, hs⟩
                · subst hi
                  have HR := Lib.hid (show false = r by have h := HF2.out; rw [hn] at h; exact Option.some.inj h)
                  clear hn HF2
                  go_wp2_with (fail)
                  go_ret
                  exact ⟨by rw [← HR.out]; rfl, HE8.out⟩
                · subst hi
                  have hr : eqV (fitsF P dv (.mk R.params l2 s2)) R.makes[j].args v.args = some r := by have h := HF2.out; rw [hs] at h; exact h
                  have hjn : j < n6 := by have h := HU8.out.1; obtain ⟨_, q, _⟩ := h; omega
                  obtain ⟨bm, om, B, mm, em, rfl, _, p0, p1, _, ha⟩ := HU8.out.1.cells hjn hj
                  have lm := lt_of_cell p0
                  have C1 := Lib.hid (fits1_any dv IH d w8 p P FA FC R.makes[j].args B mm em (.mk R.params l2 s2) sv6 v A3 c3 r HA8.out.ba HA8.out.bc HA8.out.hp ha HU8.out.2.1 (vargs HA8.out.hv) hr)
                  have hj0 : (0 : Int) ≤ (j : Int) := Int.natCast_nonneg j
                  clear hs hr ha HF2
                  go_wp2_with (fail)
                  refine C1.out.mono ?_
                  rintro e w9 ⟨rfl, hb9⟩
                  have HE := Lib.hid (HE8.out.trans (hb9.mono HE8.out.size))
                  go_wp2_with (fail)
                  go_ret
                  exact ⟨rfl, HE.out⟩
              · have HR := Lib.hid (show false = r by have h := HF2.out; rw [if_neg hq] at h; exact Option.some.inj h)
                have hq1 : (vk == 5) = false := by simpa using hq
                have hq2 : decide (vk = 5) = false := by simpa using hq
                clear hq HF2
                go_wp2_with (fail)
                go_ret
                exact ⟨by rw [← HR.out]; rfl, HE8.out⟩
            · rw [if_neg hl] at hf
              cases hf
        · have hr : false = r := by
            have h := HF.out
            rw [if_neg hsm, if_neg h8, if_neg h9, if_neg h6] at h
            exact Option.some.inj h
          have HR := Lib.hid hr
          have e1 : ((k2 : Int) == 1) = false := by simp; omega
          have e2 : ((k2 : Int) == 2) = false := by simp; omega
          have e3 : ((k2 : Int) == 3) = false := by simp; omega
          have e4 : ((k2 : Int) == 4) = false := by simp; omega
          have e8 : ((k2 : Int) == 8) = false := by simp; omega
          have e9 : ((k2 : Int) == 9) = false := by simp; omega
          have e6 : ((k2 : Int) == 6) = false := by simp; omega
          clear hr HF hsm h8 h9 h6
          go_wp2_with (fail)
          go_ret
          exact ⟨by rw [← HR.out]; rfl, HA.out.be⟩
theorem fits_all : ∀ dv, FitsTo dv
  | 0 => fun _ _ _ _ _ _ _ _ _ _ _ _ _ _ _ _ _ hv _ => hv.elim
  | dv + 1 => fits_succ dv (fits_all dv)
set_option maxRecDepth 100000 in
set_option maxHeartbeats 1000000 in
/-- whether a value is one of a type -/
theorem Fits_any (dv d : Nat) (w : World) (p : Pg) (P : List Dt) (t : Ty) (A : Option Addr) (m c : Nat) (v : V) (A3 : Option Addr) (c3 : Nat) (r : Bool)
    (hp : DtsAt d w Any p.A p.n p.c P) (ht : TyAt d w Any t.kind t.name A m c t) (hv : VCells dv w Any (vl v A3 c3) v) (hf : fitsF P dv .nil t v = some r) :
    Calls Try.prog 15 #[.agg p.cells.toArray, .agg #[.int .i64 (t.kind : Nat), str t.name, .slice A m c], .agg #[.int .i64 v.kind, .int .i64 v.num, .string v.text, .slice A3 v.args.length c3]] w fun e w' => e = .returned (.bool r) ∧ Below w.heap.size w w' := by
  have hb := (((Below.refl w.heap.size w).alloc (Nat.le_refl _) (.cells p.cells.toArray 29)).alloc (by simp) (.cells #[.int .i64 (t.kind : Nat), str t.name, .slice A m c] 34)).alloc (by simp; omega) (.cells #[.int .i64 v.kind, .int .i64 v.num, .string v.text, .slice A3 v.args.length c3] 47)
  have R := Lib.hid (fits_all dv d _ p P t A m c .nil none v A3 c3 r (hp.keep (Same.any hb)) (ht.keep (Same.any hb)) rfl (hv.keep (Same.any hb)) hf)
  have HB := Lib.hid hb
  clear hp ht hv hf hb
  simp only [Pg.cells, pvs] at R HB ⊢
  generalize t.kind = k1 at R HB ⊢
  generalize t.name = x1 at R HB ⊢
  generalize v.kind = k2 at R HB ⊢
  generalize v.num = x2 at R HB ⊢
  generalize v.text = x3 at R HB ⊢
  generalize v.args.length = x4 at R HB ⊢
  go_enter Try.func15, Try.ntmps15
  go_wp2_with (fail)
  refine R.out.mono ?_
  rintro e w2 ⟨rfl, hb2⟩
  have HE := Lib.hid (HB.out.trans (hb2.mono HB.out.size))
  go_wp2_with (fail)
  go_ret
  exact ⟨rfl, HE.out⟩
end Go.Proofs.Ytoddjdajjmcliaa
