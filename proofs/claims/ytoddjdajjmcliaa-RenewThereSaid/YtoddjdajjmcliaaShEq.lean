/- Contracts of slices.EqualFunc at types and at makes, whatever is called; what is called may write one map. -/
import Derived.Test.YtoddjdajjmcliaaShKind
import Derived.Test.YtoddjdajjmcliaaSeg
import Derived.Shelf.Abstract
set_option linter.unusedVariables false
namespace Go.Proofs.Ytoddjdajjmcliaa
open Go.RowKit Go.Mem Go.Sh Go.Maps
/-- the map of names seen, in a world that has changed in that map alone -/
def SeenAt (w W : World) (M : Nat) (s : List Nm) : Prop := w.grownBy W (some M) ∧ MapOf str okS W M (s.map fun n => (n, .bool true))
theorem SeenAt.same {w W : World} {M : Nat} {s : List Nm} (h : SeenAt w W M s) : Same (fun b => b ≠ M) w W := fun b hb hl => h.1.block b hl (fun e => hb (by injection e))
theorem SeenAt.alloc {w W : World} {M : Nat} {s : List Nm} (h : SeenAt w W M s) (o : Obj) : SeenAt w (W.alloc o) M s := ⟨grownBy_trans h.1 (World.grownBy_alloc W o _), h.2.alloc o⟩
theorem SeenAt.trans {w W w' : World} {M : Nat} {s t : List Nm} (h : SeenAt w W M s) (k : SeenAt W w' M t) : SeenAt w w' M t := ⟨grownBy_trans h.1 k.1, k.2⟩
theorem SeenAt.start {w W : World} {M : Nat} {s : List Nm} (h : SeenAt w W M s) : SeenAt W W M s := ⟨World.grownBy.refl W _, h.2⟩
theorem SeenAt.below {w W w' : World} {M : Nat} {s : List Nm} (h : SeenAt w W M s) (hb : Below W.heap.size W w') : SeenAt w w' M s := ⟨grownBy_trans h.1 ⟨hb.os, hb.tape, hb.output, hb.size, fun k hk _ => hb.block k hk⟩, h.2.below hb⟩
abbrev Off (M : Nat) : Nat → Prop := fun b => b ≠ M
theorem same_two {w : World} {o o' : Obj} {D : Nat → Prop} : Same D w ((w.alloc o).alloc o') := fun b _ hl => (Below.heap_alloc _ _ b (by simp; omega)).trans (Below.heap_alloc _ _ b hl)
-- BEGIN
set_option maxRecDepth 100000 in
set_option maxHeartbeats 1000000 in
theorem equalT_any (d : Nat) (w : World) (M : Nat) (A : Option Addr) (n c : Nat) (ts : List Ty) (B : Option Addr) (m e : Nat) (us : List Ty) (f : List Nm → Ty → Ty → Ans) (g : Nat) (cb : Array Value) (s s' : List Nm) (r : Bool)
    (hA : TsAt d w (Off M) A n c ts) (hB : TsAt d w (Off M) B m e us) (hs : SeenAt w w M s) (hf : eqF f s ts us = some (r, s')) (eg : ∀ args w, (callFunc g args).run Try.prog w = .ok (.enter g args) w)
    (hcb : ∀ t u s1 s2 q W A1 m1 c1 A2 m2 c2, SeenAt w W M s1 → TyAt d W (Off M) t.kind t.name A1 m1 c1 t → TyAt d W (Off M) u.kind u.name A2 m2 c2 u → f s1 t u = some (q, s2) → Calls Try.prog g (#[.agg #[.int .i64 (t.kind : Nat), str t.name, .slice A1 m1 c1], .agg #[.int .i64 (u.kind : Nat), str u.name, .slice A2 m2 c2]] ++ cb) W fun e w' => e = .returned (.bool q) ∧ SeenAt w w' M s2) :
    Calls Try.prog 70 #[.slice A n c, .slice B m e, .func (.func g) #[] cb] w fun e w' => e = .returned (.bool r) ∧ SeenAt w w' M s' := by
  have HN := Lib.hid (show (n = ts.length ∧ n ≤ 1000) ∧ (m = us.length ∧ m ≤ 1000) by obtain ⟨_, h1, h2, _⟩ := hA; obtain ⟨_, h3, h4, _⟩ := hB; exact ⟨⟨h1, h2⟩, h3, h4⟩)
  have n1 := HN.out.1.2
  have n2 := HN.out.2.2
  have HAB := Lib.hid (And.intro hA hB)
  have HC := Lib.hid hcb
  have HS := Lib.hid hs
  unfold eqF at hf
  by_cases hmn : m = n
  · subst hmn
    rw [if_pos (by have := HN.out; omega)] at hf
    have HF := Lib.hid hf
    clear hA hB hcb hs hf
    go_enter Try.func70, Try.ntmps70
    go_wp2_with (fail)
    go_loopw [7, 8, 9, 17] (fun _ _ _ v wr => ∃ j : Nat, ∃ sj, j ≤ m ∧ v = .int .i64 j ∧ Hid (allF f sj (ts.drop j) (us.drop j) = some (r, s') ∧ SeenAt w wr M sj)) (fun _ _ _ v _ => m - (intOf v).toNat)
    case atStart => exact ⟨0, s, Nat.zero_le _, rfl, HF.out, HS.out⟩
    case round =>
      obtain ⟨j, sj, hj, rfl, HI⟩ := hrel
      by_cases hlt : j < m
      · have hjt : j < ts.length := by have := HN.out; omega
        have hju : j < us.length := by have := HN.out; omega
        obtain ⟨b1, o1, B1, m1, e1, rfl, _, p0, p1, p2, t1⟩ := (HAB.out.1.keep HI.out.2.same).cells hlt hjt
        obtain ⟨b2, o2, B2, m2, e2, rfl, _, q0, q1, q2, t2⟩ := (HAB.out.2.keep HI.out.2.same).cells hlt hju
        obtain ⟨q, s2, hq, hrest⟩ := allF_drop hjt hju HI.out.1
        have hs1 := (HI.out.2.alloc (.cells #[.int .i64 (ts[j].kind : Nat), str ts[j].name, .slice B1 m1 e1] 34)).alloc (.cells #[.int .i64 (us[j].kind : Nat), str us[j].name, .slice B2 m2 e2] 34)
        have CB := Lib.hid (HC.out _ _ sj s2 q _ _ _ _ _ _ _ hs1 (t1.keep same_two) (t2.keep same_two) hq)
        have HR := Lib.hid hrest
        have lb1 := lt_of_cell p0
        have lb2 := lt_of_cell q0
        clear hs1 t1 t2 hq hrest
        generalize ts[j].kind = k1 at p0 CB
        generalize ts[j].name = x1 at p1 CB
        generalize us[j].kind = k2 at q0 CB
        generalize us[j].name = x2 at q1 CB
        cases q
        · go_wp2_with (fail)
          refine CB.out.mono ?_
          rintro e w2 ⟨rfl, hs2⟩
          go_wp2_with (fail)
          go_ret
          rcases HR.out with ⟨_, h2⟩ | ⟨h1, _⟩
          · injection h2 with h2 h3
            subst h2 h3
            exact ⟨rfl, hs2⟩
          · cases h1
        · go_wp2_with (fail)
          refine CB.out.mono ?_
          rintro e w2 ⟨rfl, hs2⟩
          go_wp2_with (fail)
          rcases HR.out with ⟨h1, _⟩ | ⟨_, h2⟩
          · cases h1
          · exact ⟨⟨j + 1, s2, by omega, by go_num, h2, hs2⟩, by simp [intOf]; omega⟩
      · have hend := allF_end (by have := HN.out; omega) HI.out.1
        have HE := Lib.hid hend
        clear hend
        go_wp2_with (fail)
        go_ret
        have h2 := HE.out
        injection h2 with h2 h3
        subst h2 h3
        exact ⟨rfl, HI.out.2⟩
  · rw [if_neg (by have := HN.out; omega)] at hf
    have hne : ((n : Int) == (m : Int)) = false := by simp; omega
    have hne2 : (n == m) = false := by simp; omega
    injection hf with hf
    injection hf with h2 h3
    subst h2 h3
    clear hA hB hcb hs hmn
    go_enter Try.func70, Try.ntmps70
    go_wp2_with (fail)
    go_ret
    exact ⟨rfl, HS.out⟩
set_option maxRecDepth 100000 in
set_option maxHeartbeats 1000000 in
theorem equalM_any (d : Nat) (w : World) (M : Nat) (A : Option Addr) (n c : Nat) (ts : List Mk) (B : Option Addr) (m e : Nat) (us : List Mk) (f : List Nm → Mk → Mk → Ans) (g : Nat) (cb : Array Value) (s s' : List Nm) (r : Bool)
    (hA : MksAt d w (Off M) A n c ts) (hB : MksAt d w (Off M) B m e us) (hs : SeenAt w w M s) (hf : eqF f s ts us = some (r, s')) (eg : ∀ args w, (callFunc g args).run Try.prog w = .ok (.enter g args) w)
    (hcb : ∀ t u s1 s2 q W A1 m1 c1 A2 m2 c2, SeenAt w W M s1 → t.name.length ≤ 1000 → u.name.length ≤ 1000 → TsAt d W (Off M) A1 m1 c1 t.args → TsAt d W (Off M) A2 m2 c2 u.args → f s1 t u = some (q, s2) → Calls Try.prog g (#[.agg #[str t.name, .slice A1 m1 c1], .agg #[str u.name, .slice A2 m2 c2]] ++ cb) W fun e w' => e = .returned (.bool q) ∧ SeenAt w w' M s2) :
    Calls Try.prog 68 #[.slice A n c, .slice B m e, .func (.func g) #[] cb] w fun e w' => e = .returned (.bool r) ∧ SeenAt w w' M s' := by
  have HN := Lib.hid (show (n = ts.length ∧ n ≤ 1000) ∧ (m = us.length ∧ m ≤ 1000) by obtain ⟨_, h1, h2, _⟩ := hA; obtain ⟨_, h3, h4, _⟩ := hB; exact ⟨⟨h1, h2⟩, h3, h4⟩)
  have n1 := HN.out.1.2
  have n2 := HN.out.2.2
  have HAB := Lib.hid (And.intro hA hB)
  have HC := Lib.hid hcb
  have HS := Lib.hid hs
  unfold eqF at hf
  by_cases hmn : m = n
  · subst hmn
    rw [if_pos (by have := HN.out; omega)] at hf
    have HF := Lib.hid hf
    clear hA hB hcb hs hf
    go_enter Try.func68, Try.ntmps68
    go_wp2_with (fail)
    go_loopw [7, 8, 9, 17] (fun _ _ _ v wr => ∃ j : Nat, ∃ sj, j ≤ m ∧ v = .int .i64 j ∧ Hid (allF f sj (ts.drop j) (us.drop j) = some (r, s') ∧ SeenAt w wr M sj)) (fun _ _ _ v _ => m - (intOf v).toNat)
    case atStart => exact ⟨0, s, Nat.zero_le _, rfl, HF.out, HS.out⟩
    case round =>
      obtain ⟨j, sj, hj, rfl, HI⟩ := hrel
      by_cases hlt : j < m
      · have hjt : j < ts.length := by have := HN.out; omega
        have hju : j < us.length := by have := HN.out; omega
        obtain ⟨b1, o1, B1, m1, e1, rfl, _, p0, p1, t0, t1⟩ := (HAB.out.1.keep HI.out.2.same).cells hlt hjt
        obtain ⟨b2, o2, B2, m2, e2, rfl, _, q0, q1, t3, t2⟩ := (HAB.out.2.keep HI.out.2.same).cells hlt hju
        obtain ⟨q, s2, hq, hrest⟩ := allF_drop hjt hju HI.out.1
        have hs1 := (HI.out.2.alloc (.cells #[str ts[j].name, .slice B1 m1 e1] 80)).alloc (.cells #[str us[j].name, .slice B2 m2 e2] 80)
        have CB := Lib.hid (HC.out _ _ sj s2 q _ _ _ _ _ _ _ hs1 t0 t3 (t1.keep same_two) (t2.keep same_two) hq)
        have HR := Lib.hid hrest
        have lb1 := lt_of_cell p0
        have lb2 := lt_of_cell q0
        clear hs1 t0 t3 t1 t2 hq hrest
        generalize ts[j].name = x1 at p0 CB
        generalize us[j].name = x2 at q0 CB
        cases q
        · go_wp2_with (fail)
          refine CB.out.mono ?_
          rintro e w2 ⟨rfl, hs2⟩
          go_wp2_with (fail)
          go_ret
          rcases HR.out with ⟨_, h2⟩ | ⟨h1, _⟩
          · injection h2 with h2 h3
            subst h2 h3
            exact ⟨rfl, hs2⟩
          · cases h1
        · go_wp2_with (fail)
          refine CB.out.mono ?_
          rintro e w2 ⟨rfl, hs2⟩
          go_wp2_with (fail)
          rcases HR.out with ⟨h1, _⟩ | ⟨_, h2⟩
          · cases h1
          · exact ⟨⟨j + 1, s2, by omega, by go_num, h2, hs2⟩, by simp [intOf]; omega⟩
      · have hend := allF_end (by have := HN.out; omega) HI.out.1
        have HE := Lib.hid hend
        clear hend
        go_wp2_with (fail)
        go_ret
        have h2 := HE.out
        injection h2 with h2 h3
        subst h2 h3
        exact ⟨rfl, HI.out.2⟩
  · rw [if_neg (by have := HN.out; omega)] at hf
    have hne : ((n : Int) == (m : Int)) = false := by simp; omega
    have hne2 : (n == m) = false := by simp; omega
    injection hf with hf
    injection hf with h2 h3
    subst h2 h3
    clear hA hB hcb hs hmn
    go_enter Try.func68, Try.ntmps68
    go_wp2_with (fail)
    go_ret
    exact ⟨rfl, HS.out⟩
-- END
end Go.Proofs.Ytoddjdajjmcliaa
