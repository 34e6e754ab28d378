/- Contracts of slices.EqualFunc at types and values, and of slices.IndexFunc at makes. -/
import Derived.Test.YtoddjdajjmcliaaShScope
set_option linter.unusedVariables false
namespace Go.Sh
open Go.RowKit Go.Mem Go.Val
/-- the four cells of a value -/
abbrev vl (v : V) (A : Option Addr) (c : Nat) : List Value := [.int .i64 v.kind, .int .i64 v.num, .string v.text, .slice A v.args.length c]
/-- a slice of values -/
def VsAt (d : Nat) (w : World) (D : Nat → Prop) (A : Option Addr) (n c : Nat) (l : List V) : Prop := ∃ vss, n = l.length ∧ n ≤ 4194304 ∧ n ≤ c ∧ c ≤ maxLen ∧ Reads w D 4 A n vss.flatten ∧ All2 (VCells d w D) vss l
section
variable {d : Nat} {w w' : World} {D D' : Nat → Prop} {A : Option Addr} {n c : Nat} {l : List V}
theorem VsAt.keep (h : VsAt d w D A n c l) (hk : Same D w w') : VsAt d w' D A n c l := by
  obtain ⟨vss, h1, h2, h3, h4, hr, ha⟩ := h
  exact ⟨vss, h1, h2, h3, h4, hr.keep hk, ha.imp fun x y hxy => hxy.keep hk⟩
theorem VsAt.imp (h : VsAt d w D A n c l) (hk : ∀ b, D b → b < w.heap.size → D' b) : VsAt d w D' A n c l := by
  obtain ⟨vss, h1, h2, h3, h4, hr, ha⟩ := h
  exact ⟨vss, h1, h2, h3, h4, hr.imp (by omega) hk, ha.imp fun x y hxy => hxy.imp hk⟩
theorem VsAt.nil : VsAt d w D none 0 0 [] := ⟨[], rfl, by omega, Nat.le_refl _, Nat.zero_le _, Reads.empty, All2.nil⟩
theorem vargs {v : V} (h : VCells (d + 1) w D (vl v A c) v) : VsAt d w D A v.args.length c v.args := by
  obtain ⟨k, n, t, a⟩ := v
  obtain ⟨A2, c2, vss, e, h1, h2, h3, h4, h5, h6, hr, ha⟩ := h
  simp only [vl, V.kind, V.num, V.text, V.args, List.cons.injEq, Value.slice.injEq, and_true, true_and] at e
  obtain ⟨rfl, rfl⟩ := e
  exact ⟨vss, rfl, h4, h5, h6, hr, ha⟩
theorem vcells_of {k n : Int} {t : ByteArray} {l : List V} {m : Nat} (h : VsAt d w D A m c l) (hk : 0 ≤ k ∧ k ≤ 255) (hn : Fits64 n) (ht : t.size ≤ 4611686018427387904) : VCells (d + 1) w D [.int .i64 k, .int .i64 n, .string t, .slice A m c] (.mk k n t l) := by
  obtain ⟨vss, rfl, h2, h3, h4, hr, ha⟩ := h
  exact ⟨A, c, vss, rfl, hk, hn, ht, h2, h3, h4, hr, ha⟩
theorem vform {v : V} {cs : List Value} (h : VCells d w D cs v) : ∃ A c, cs = vl v A c := h.form
theorem VsAt.cells (h : VsAt d w D A n c l) {j : Nat} (hj : j < n) (hl : j < l.length) :
    ∃ b off B e, A = some ⟨b, off, none⟩ ∧ D b ∧ w.cell? ⟨b, off + j * 4, none⟩ = some (.int .i64 l[j].kind) ∧ w.cell? ⟨b, off + j * 4 + 1, none⟩ = some (.int .i64 l[j].num) ∧ w.cell? ⟨b, off + j * 4 + 2, none⟩ = some (.string l[j].text) ∧ w.cell? ⟨b, off + j * 4 + 3, none⟩ = some (.slice B l[j].args.length e) ∧ VCells d w D (vl l[j] B e) l[j] := by
  obtain ⟨vss, h1, h2, h3, h4, hr, ha⟩ := h
  obtain ⟨b, off, cs, e, hD, hT, hc⟩ := hr.elem (VCells.stable d) ha h1 hl
  obtain ⟨B, c2, rfl⟩ := vform hT
  exact ⟨b, off, B, c2, e, hD, hc 0 _ rfl, by have := hc 1 _ rfl; rwa [← Nat.add_assoc] at this, by have := hc 2 _ rfl; rwa [← Nat.add_assoc] at this, by have := hc 3 _ rfl; rwa [← Nat.add_assoc] at this, hT⟩
end
theorem allV_drop {f : Ty → V → Option Bool} {ts : List Ty} {vs : List V} {j : Nat} {R : Bool} (ha : j < ts.length) (hb : j < vs.length) (h : allV f (ts.drop j) (vs.drop j) = some R) : ∃ q, f ts[j] vs[j] = some q ∧ ((q = false ∧ R = false) ∨ (q = true ∧ allV f (ts.drop (j + 1)) (vs.drop (j + 1)) = some R)) := by
  rw [List.drop_eq_getElem_cons ha, List.drop_eq_getElem_cons hb] at h
  unfold allV at h
  cases hf : f ts[j] vs[j] with
  | none => rw [hf] at h; cases h
  | some q =>
    rw [hf] at h
    cases q with
    | false => exact ⟨false, rfl, .inl ⟨rfl, by injection h with h; exact h.symm⟩⟩
    | true => exact ⟨true, rfl, .inr ⟨rfl, h⟩⟩
theorem allV_end {f : Ty → V → Option Bool} {ts : List Ty} {vs : List V} {j : Nat} {R : Bool} (ha : ts.length ≤ j) (h : allV f (ts.drop j) (vs.drop j) = some R) : R = true := by
  rw [List.drop_eq_nil_of_le ha] at h
  unfold allV at h
  injection h with h
  exact h.symm
/-- where a make is -/
def MkAt (l : List Mk) (p : Mk → Bool) (i : Int) : Prop := (i = -1 ∧ l.find? p = none) ∨ ∃ j, ∃ h : j < l.length, i = (j : Nat) ∧ l.find? p = some l[j]
end Go.Sh
namespace Go.Proofs.Ytoddjdajjmcliaa
open Go.RowKit Go.Mem Go.Sh Go.Maps Go.Val
-- BEGIN
set_option maxRecDepth 100000 in
set_option maxHeartbeats 1000000 in
theorem equalV_any (d dv : Nat) (w : World) (A : Option Addr) (n c : Nat) (ts : List Ty) (B : Option Addr) (m e : Nat) (us : List V) (f : Ty → V → Option Bool) (g : Nat) (cb : Array Value) (r : Bool)
    (hA : TsAt d w Any A n c ts) (hB : VsAt dv w Any B m e us) (hf : eqV f ts us = some r) (eg : ∀ args w, (callFunc g args).run Try.prog w = .ok (.enter g args) w)
    (hcb : ∀ t u q W A1 m1 c1 A2 c2, Below w.heap.size w W → TyAt d W Any t.kind t.name A1 m1 c1 t → VCells dv W Any (vl u A2 c2) u → f t u = some q → Calls Try.prog g (#[.agg #[.int .i64 (t.kind : Nat), str t.name, .slice A1 m1 c1], .agg #[.int .i64 u.kind, .int .i64 u.num, .string u.text, .slice A2 u.args.length c2]] ++ cb) W fun e w' => e = .returned (.bool q) ∧ Below W.heap.size W w') :
    Calls Try.prog 49 #[.slice A n c, .slice B m e, .func (.func g) #[] cb] w fun e w' => e = .returned (.bool r) ∧ Below w.heap.size w w' := by
  have HN := Lib.hid (show (n = ts.length ∧ n ≤ 1000) ∧ (m = us.length ∧ m ≤ 4194304) by obtain ⟨_, h1, h2, _⟩ := hA; obtain ⟨_, h3, h4, _⟩ := hB; exact ⟨⟨h1, h2⟩, h3, h4⟩)
  have n1 := HN.out.1.2
  have n2 := HN.out.2.2
  have HAB := Lib.hid (And.intro hA hB)
  have HC := Lib.hid hcb
  unfold eqV at hf
  by_cases hmn : m = n
  · subst hmn
    rw [if_pos (by have := HN.out; omega)] at hf
    have HF := Lib.hid hf
    clear hA hB hcb hf
    go_enter Try.func49, Try.ntmps49
    go_wp2_with (fail)
    go_loopw [7, 8, 9, 17] (fun _ _ _ v wr => ∃ j : Nat, j ≤ m ∧ v = .int .i64 j ∧ Hid (allV f (ts.drop j) (us.drop j) = some r ∧ Below w.heap.size w wr)) (fun _ _ _ v _ => m - (intOf v).toNat)
    case atStart => exact ⟨0, Nat.zero_le _, rfl, HF.out, Below.refl _ _⟩
    case round =>
      obtain ⟨j, hj, rfl, HI⟩ := hrel
      by_cases hlt : j < m
      · have hjt : j < ts.length := by have := HN.out; omega
        have hju : j < us.length := by have := HN.out; omega
        obtain ⟨b1, o1, B1, m1, e1, rfl, _, p0, p1, p2, t1⟩ := (HAB.out.1.keep (Same.any HI.out.2)).cells hlt hjt
        obtain ⟨b2, o2, B2, e2, rfl, _, q0, q1, q2, q3, t2⟩ := (HAB.out.2.keep (Same.any HI.out.2)).cells hlt hju
        obtain ⟨q, hq, hrest⟩ := allV_drop hjt hju HI.out.1
        have hs1 := (HI.out.2.alloc HI.out.2.size (.cells #[.int .i64 (ts[j].kind : Nat), str ts[j].name, .slice B1 m1 e1] 34)).alloc (by simp; have := HI.out.2.size; omega) (.cells #[.int .i64 us[j].kind, .int .i64 us[j].num, .string us[j].text, .slice B2 us[j].args.length e2] 47)
        have CB := Lib.hid (HC.out _ _ q _ _ _ _ _ _ hs1 (t1.keep same_two) (t2.keep same_two) hq)
        have HR := Lib.hid hrest
        have HS := Lib.hid hs1
        have lb1 := lt_of_cell p0
        have lb2 := lt_of_cell q0
        clear hs1 t1 t2 hq hrest
        generalize ts[j].kind = k1 at p0 CB HS
        generalize ts[j].name = x1 at p1 CB HS
        generalize us[j].kind = k2 at q0 CB HS
        generalize us[j].num = x2 at q1 CB HS
        generalize us[j].text = x3 at q2 CB HS
        generalize us[j].args.length = x4 at q3 CB HS
        cases q
        · go_wp2_with (fail)
          refine CB.out.mono ?_
          rintro e w2 ⟨rfl, hs2⟩
          have HS2 := Lib.hid (HS.out.trans (hs2.mono HS.out.size))
          go_wp2_with (fail)
          go_ret
          rcases HR.out with ⟨_, h2⟩ | ⟨h1, _⟩
          · subst h2
            exact ⟨rfl, HS2.out⟩
          · cases h1
        · go_wp2_with (fail)
          refine CB.out.mono ?_
          rintro e w2 ⟨rfl, hs2⟩
          have HS2 := Lib.hid (HS.out.trans (hs2.mono HS.out.size))
          go_wp2_with (fail)
          rcases HR.out with ⟨h1, _⟩ | ⟨_, h2⟩
          · cases h1
          · exact ⟨⟨j + 1, by omega, by go_num, h2, HS2.out⟩, by simp [intOf]; omega⟩
      · have hend := allV_end (by have := HN.out; omega) HI.out.1
        have HE := Lib.hid hend
        clear hend
        go_wp2_with (fail)
        go_ret
        have h2 := HE.out
        subst h2
        exact ⟨rfl, HI.out.2⟩
  · rw [if_neg (by have := HN.out; omega)] at hf
    have hne : ((n : Int) == (m : Int)) = false := by simp; omega
    have hne2 : (n == m) = false := by simp; omega
    injection hf with hf
    subst hf
    clear hA hB hcb hmn
    go_enter Try.func49, Try.ntmps49
    go_wp2_with (fail)
    go_ret
    exact ⟨rfl, Below.refl _ _⟩
set_option maxRecDepth 100000 in
set_option maxHeartbeats 1000000 in
theorem indexMk_any (d : Nat) (A : Option Addr) (n c : Nat) (l : List Mk) (p : Mk → Bool) (g : Nat) (cb : Array Value) (w : World) (hA : MksAt d w Any A n c l)
    (eg : ∀ args w, (callFunc g args).run Try.prog w = .ok (.enter g args) w)
    (hp : ∀ m A1 m1 c1 W, Below w.heap.size w W → Calls Try.prog g (#[.agg #[str m.name, .slice A1 m1 c1]] ++ cb) W fun e w' => e = .returned (.bool (p m)) ∧ Below W.heap.size W w') :
    Calls Try.prog 53 #[.slice A n c, .func (.func g) #[] cb] w fun e w' => ∃ i : Int, e = .returned (.int .i64 i) ∧ MkAt l p i ∧ Below w.heap.size w w' := by
  have Hn := Lib.hid (show n = l.length ∧ n ≤ 1000 by obtain ⟨_, h1, h2, _⟩ := hA; exact ⟨h1, h2⟩)
  have n1 := Hn.out.2
  have H := Lib.hid hp
  have HA := Lib.hid hA
  clear hA hp
  go_enter Try.func53, Try.ntmps53
  go_wp2_with (fail)
  go_loopw [8] (fun v wr => ∃ j : Nat, j ≤ n ∧ v = .int .i64 j ∧ Hid (l.find? p = (l.drop j).find? p ∧ Below w.heap.size w wr)) (fun v _ => n - (intOf v).toNat)
  case atStart => exact ⟨0, Nat.zero_le _, rfl, rfl, Below.refl _ _⟩
  case round =>
    obtain ⟨j, hj, rfl, HI⟩ := hrel
    by_cases hlt : j < n
    · have hl : j < l.length := by have := Hn.out; omega
      obtain ⟨b1, o1, B1, m1, e1, rfl, _, p0, p1, _, _⟩ := (HA.out.keep (Same.any HI.out.2)).cells hlt hl
      have hf := HI.out.1
      rw [List.drop_eq_getElem_cons hl, List.find?_cons] at hf
      have R1 := Lib.hid (H.out l[j] B1 m1 e1 wr HI.out.2)
      have HJ := Lib.hid (show ∀ x, l[j] = x → l.find? p = some x → MkAt l p (j : Nat) from fun x e h => .inr ⟨j, hl, rfl, by rw [h, e]⟩)
      generalize l[j] = y at p0 R1 hf HJ
      obtain ⟨yn, ya⟩ := y
      simp only at p0 R1
      generalize p ⟨yn, ya⟩ = q at R1 hf
      have HF := Lib.hid hf
      clear hf
      cases q
      · go_wp2_with (fail)
        refine R1.out.mono ?_
        rintro e w2 ⟨rfl, hb2⟩
        have HB2 := Lib.hid (HI.out.2.trans (hb2.mono HI.out.2.size))
        go_wp2_with (fail)
        exact ⟨⟨j + 1, by omega, by go_num, HF.out, HB2.out⟩, by simp [intOf]; omega⟩
      · go_wp2_with (fail)
        refine R1.out.mono ?_
        rintro e w2 ⟨rfl, hb2⟩
        have HB2 := Lib.hid (HI.out.2.trans (hb2.mono HI.out.2.size))
        go_wp2_with (fail)
        go_ret
        exact ⟨j, rfl, HJ.out _ rfl HF.out, HB2.out⟩
    · have hall := HI.out.1
      rw [List.drop_eq_nil_of_le (by have := Hn.out; omega)] at hall
      have Ht := Lib.hid hall
      clear hall
      go_wp2_with (fail)
      go_ret
      exact ⟨-1, rfl, .inl ⟨rfl, Ht.out⟩, HI.out.2⟩
set_option maxRecDepth 100000 in
theorem containsMk_any (d : Nat) (A : Option Addr) (n c : Nat) (l : List Mk) (p : Mk → Bool) (g : Nat) (cb : Array Value) (w : World) (hA : MksAt d w Any A n c l)
    (eg : ∀ args w, (callFunc g args).run Try.prog w = .ok (.enter g args) w)
    (hp : ∀ m A1 m1 c1 W, Below w.heap.size w W → Calls Try.prog g (#[.agg #[str m.name, .slice A1 m1 c1]] ++ cb) W fun e w' => e = .returned (.bool (p m)) ∧ Below W.heap.size W w') :
    Calls Try.prog 56 #[.slice A n c, .func (.func g) #[] cb] w fun e w' => e = .returned (.bool (l.any p)) ∧ Below w.heap.size w w' := by
  have ix := indexMk_any d A n c l p g cb w hA eg hp
  have IX := Lib.hid ix
  clear hA hp eg ix
  go_enter Try.func56, Try.ntmps56
  go_wp2_with (fail)
  refine IX.out.mono ?_
  rintro e w' ⟨i, rfl, hi, hb⟩
  have Hi := Lib.hid (show decide (0 ≤ i) = l.any p by
    rcases hi with ⟨rfl, h⟩ | ⟨j, hj, rfl, h⟩
    · rw [List.find?_eq_none] at h
      symm
      rw [show l.any p = false by rw [List.any_eq_false]; exact h]
      rfl
    · rw [show l.any p = true by rw [List.any_eq_true]; exact ⟨_, List.mem_of_find?_eq_some h, List.find?_some h⟩]
      simp)
  clear hi
  go_wp2_with (fail)
  go_ret
  exact ⟨by rw [← Hi.out]; rfl, hb⟩
end Go.Proofs.Ytoddjdajjmcliaa
