/- Plain model of package replay with the laws' toys (roadref5), and its laws: what was played can be taken again; what was said stays said. -/
import Derived.Test.YtlpkgheggbcidaaDoorMap
set_option linter.unusedVariables false
namespace Go.Rp
open Go.Mem Go.RowKit
abbrev Bs := List UInt8
/-- a value of the laws: kind and number -/
structure Vl where
  kd : Int
  nm : Int
deriving DecidableEq
structure Ot where
  kd : Int
  nm : Int
  tx : Bs
  vl : Vl
  ar : List Vl
deriving DecidableEq
def otOf (k : Int) : Ot := ⟨k, 0, [], ⟨0, 0⟩, []⟩
/-- an actor by a script -/
structure Ty where
  sc : List Int
  i : Nat
  sum : Int
  self : Int
  waits : Bool
  asks : Bool
  last : Ot
structure Ac where
  ty : Ty
  box : List Vl
  waiting : Bool
  ticks : Int
  off : Nat
  ended : Bool
  how : Bs
structure Wd where
  tv : List (List Int)
  acs : List Ac
  ways : List ((Nat × Nat) × List Vl)
  said : List (Int × Int)
abbrev wr (x : Int) : Int := wrap64 x
def uns (x : Int) : Int := x % 18446744073709551616
/-- toy.Run behind its first asks -/
def goT (t : Ty) (n : Int) : Ty × Ot :=
  if n % 8 = 0 ∨ n % 8 = 1 then
    let o : Ot := { otOf 2 with nm := wr (t.sum + n) }
    ({ t with last := o }, o)
  else if n % 8 = 2 ∨ n % 8 = 3 then
    let o : Ot := { otOf 3 with nm := n / 8 % 5, vl := ⟨2, wr (n + t.sum)⟩ }
    ({ t with last := o }, o)
  else if n % 8 = 4 then
    let o : Ot := { otOf 4 with tx := [UInt8.ofNat (97 + (n / 8 % 5).toNat)], ar := [⟨2, n⟩] }
    ({ t with last := o, asks := true }, o)
  else if n % 8 = 5 ∨ n % 8 = 6 then
    let o : Ot := { otOf 7 with nm := n / 8 % 3 - 1 }
    ({ t with last := o, waits := true }, o)
  else if 900 < n then
    let o : Ot := { otOf 9 with tx := [116, 111, 121] }
    ({ t with last := o }, o)
  else ({ t with last := otOf 1 }, otOf 1)
def runT (t : Ty) : Ty × Ot :=
  if t.asks then (t, otOf 1)
  else if t.waits ∨ t.last.kd = 8 ∨ t.last.kd = 9 then (t, t.last)
  else match t.sc[t.i]? with
    | none => ({ t with last := otOf 8 }, otOf 8)
    | some x => goT { t with i := t.i + 1 } (uns x % 1000)
def giveT (t : Ty) (v : Vl) : Ty := if t.asks then { t with asks := false, sum := wr (t.sum + v.nm) } else t
def offerT (t : Ty) (v : Vl) : Option Ty := if t.waits = false ∨ v.kd ≠ 2 ∨ v.nm.tmod 3 = 0 then none else some { t with waits := false, sum := wr (t.sum + v.nm.tmod 1000) }
def lateT (t : Ty) : Ty := if t.waits ∧ 0 ≤ t.last.nm then { t with waits := false, sum := wr (t.sum + 7) } else t
/-- Toy.Make -/
def makeT (tv : List (List Int)) (name : Bs) (state : List Vl) (self : Int) : Option Ty :=
  match name with
  | [c] => if c < 97 ∨ 1 < state.length then none else (tv[(c - 97).toNat]?).map fun s => ⟨s, 0, ((state[0]?).map (·.nm)).getD 0, self, false, false, ⟨0, 0, [], ⟨0, 0⟩, []⟩⟩
  | _ => none
def newA (t : Ty) : Ac := ⟨t, [], false, 0, 0, false, []⟩
def spawnF (w : Wd) (name : Bs) (state : List Vl) : Wd × Int :=
  if w.acs.length = 30 then (w, 0)
  else match makeT w.tv name state (w.acs.length + 1) with
    | none => (w, 0)
    | some t => ({ w with acs := w.acs ++ [newA t] }, w.acs.length + 1)
def wayF (w : Wd) (k : Nat × Nat) : List Vl := (mget w.ways k).getD []
def putF (w : Wd) (f t : Int) (v : Vl) : Wd := if 1 ≤ t ∧ t ≤ w.acs.length then { w with ways := mput w.ways (f.toNat, t.toNat) (wayF w (f.toNat, t.toNat) ++ [v]) } else w
structure Ch where
  k : Int
  a : Int
  b : Int
deriving DecidableEq
def goes (a : Ac) : Bool := !a.ended && (!a.waiting || decide (a.off < a.box.length))
def late (a : Ac) : Bool := !a.ended && a.waiting && decide (0 ≤ a.ticks)
def goesF (acs : List Ac) (k : Nat) : List Ch := (List.range k).filterMap fun (i : Nat) => (acs[i]?).bind fun a => if goes a then some ⟨1, (i : Int) + 1, 0⟩ else none
def lateF (acs : List Ac) (k : Nat) : List Ch := (List.range k).filterMap fun (i : Nat) => (acs[i]?).bind fun a => if late a then some ⟨3, (i : Int) + 1, 0⟩ else none
def rowF (w : Wd) (a k : Nat) : List Ch := (List.range k).filterMap fun (b : Nat) => if 0 < (wayF w (a, b + 1)).length then some ⟨2, (a : Int), (b : Int) + 1⟩ else none
def comesF (w : Wd) (k : Nat) : List Ch := (List.range k).flatMap fun (a : Nat) => rowF w a w.acs.length
def choicesF (w : Wd) : List Ch := goesF w.acs w.acs.length ++ comesF w (w.acs.length + 1) ++ lateF w.acs w.acs.length
theorem goes_succ {acs : List Ac} {k : Nat} {a : Ac} (h : acs[k]? = some a) : goesF acs (k + 1) = goesF acs k ++ (if goes a then [⟨1, (k : Int) + 1, 0⟩] else []) := by
  unfold goesF
  rw [List.range_succ, List.filterMap_append]
  congr 1
  by_cases hg : goes a <;> simp [h, hg]
theorem late_succ {acs : List Ac} {k : Nat} {a : Ac} (h : acs[k]? = some a) : lateF acs (k + 1) = lateF acs k ++ (if late a then [⟨3, (k : Int) + 1, 0⟩] else []) := by
  unfold lateF
  rw [List.range_succ, List.filterMap_append]
  congr 1
  by_cases hg : late a <;> simp [h, hg]
theorem row_succ (w : Wd) (a k : Nat) : rowF w a (k + 1) = rowF w a k ++ (if 0 < (wayF w (a, k + 1)).length then [⟨2, (a : Int), (k : Int) + 1⟩] else []) := by
  unfold rowF
  rw [List.range_succ, List.filterMap_append]
  congr 1
  by_cases hg : 0 < (wayF w (a, k + 1)).length <;> simp [hg]
theorem comes_succ (w : Wd) (k : Nat) : comesF w (k + 1) = comesF w k ++ rowF w k w.acs.length := by
  unfold comesF
  rw [List.range_succ, List.flatMap_append]
  simp
theorem mem_choices {w : Wd} {c : Ch} (h : c ∈ choicesF w) : (∃ (i : Nat) (a : Ac), w.acs[i]? = some a ∧ goes a = true ∧ c = ⟨1, (i : Int) + 1, 0⟩) ∨ (∃ a b : Nat, a ≤ w.acs.length ∧ b < w.acs.length ∧ 0 < (wayF w (a, b + 1)).length ∧ c = ⟨2, (a : Int), (b : Int) + 1⟩) ∨ (∃ (i : Nat) (a : Ac), w.acs[i]? = some a ∧ late a = true ∧ c = ⟨3, (i : Int) + 1, 0⟩) := by
  unfold choicesF at h
  rcases List.mem_append.1 h with h | h
  · rcases List.mem_append.1 h with h | h
    · unfold goesF at h
      obtain ⟨i, hi, h⟩ := List.mem_filterMap.1 h
      obtain ⟨a, ha, h⟩ := Option.bind_eq_some_iff.1 h
      by_cases hg : goes a
      · rw [if_pos hg] at h
        injection h with h
        exact .inl ⟨i, a, ha, hg, h.symm⟩
      · rw [if_neg hg] at h
        cases h
    · unfold comesF at h
      obtain ⟨a, ha, h⟩ := List.mem_flatMap.1 h
      unfold rowF at h
      obtain ⟨b, hb, h⟩ := List.mem_filterMap.1 h
      rw [List.mem_range] at ha hb
      by_cases hg : 0 < (wayF w (a, b + 1)).length
      · rw [if_pos hg] at h
        injection h with h
        exact .inr (.inl ⟨a, b, by omega, hb, hg, h.symm⟩)
      · rw [if_neg hg] at h
        cases h
  · unfold lateF at h
    obtain ⟨i, hi, h⟩ := List.mem_filterMap.1 h
    obtain ⟨a, ha, h⟩ := Option.bind_eq_some_iff.1 h
    by_cases hg : late a
    · rw [if_pos hg] at h
      injection h with h
      exact .inr (.inr ⟨i, a, ha, hg, h.symm⟩)
    · rw [if_neg hg] at h
      cases h
def setA (w : Wd) (i : Nat) (a : Ac) : Wd := { w with acs := w.acs.set i a }
def offerF (a : Ac) : Ac :=
  match a.box[a.off]? with
  | none => a
  | some v => match offerT a.ty v with
    | none => { a with off := a.off + 1 }
    | some t => { a with ty := t, box := a.box.eraseIdx a.off, waiting := false }
/-- World.run -/
def runF (w : Wd) (i : Nat) (a : Ac) : Wd :=
  let (t, o) := runT a.ty
  let w1 := setA w i { a with ty := t }
  if o.kd = 2 then { w1 with said := w1.said ++ [((i : Int) + 1, o.nm)] }
  else if o.kd = 3 then putF w1 (i + 1) o.nm o.vl
  else if o.kd = 4 then
    let (w2, n) := spawnF w1 o.tx o.ar
    setA w2 i { a with ty := giveT t ⟨6, n⟩ }
  else if o.kd = 7 then setA w i { a with ty := t, waiting := true, ticks := o.nm, off := 0 }
  else if o.kd = 8 then setA w i { a with ty := t, ended := true, how := [101, 110, 100, 101, 100] }
  else if o.kd = 9 then setA w i { a with ty := t, ended := true, how := [102, 97, 105, 108, 101, 100, 32] ++ o.tx }
  else w1
/-- what a choice does -/
def stepF (w : Wd) (c : Ch) : Wd :=
  if c.k = 1 then match w.acs[(c.a - 1).toNat]? with
    | none => w
    | some a => if a.waiting then setA w (c.a - 1).toNat (offerF a) else runF w (c.a - 1).toNat a
  else if c.k = 2 then match wayF w (c.a.toNat, c.b.toNat), w.acs[(c.b - 1).toNat]? with
    | v :: r, some a =>
      let w1 := { w with ways := mput w.ways (c.a.toNat, c.b.toNat) r }
      if a.ended then w1 else setA w1 (c.b - 1).toNat { a with box := a.box ++ [v] }
    | _, _ => w
  else if c.k = 3 then match w.acs[(c.a - 1).toNat]? with
    | none => w
    | some a => setA w (c.a - 1).toNat { a with ty := lateT a.ty, waiting := false }
  else w
def playF : Wd → List Int → Wd × List Ch
  | w, [] => (w, [])
  | w, n :: r => match (choicesF w)[(uns n % (choicesF w).length).toNat]? with
    | none => (w, [])
    | some c => let q := playF (stepF w c) r; (q.1, c :: q.2)
def againF : Wd → List Ch → Wd × Nat × Bool
  | w, [] => (w, 0, true)
  | w, c :: r => if c ∈ choicesF w then let q := againF (stepF w c) r; (q.1, q.2.1 + 1, q.2.2) else (w, 0, false)
/-- what was played can be taken again -/
theorem play_again : ∀ (ps : List Int) (w : Wd), againF w (playF w ps).2 = ((playF w ps).1, (playF w ps).2.length, true)
  | [], w => rfl
  | n :: r, w => by
    unfold playF
    rcases h : (choicesF w)[(uns n % (choicesF w).length).toNat]? with _ | c
    · rfl
    · have hm : c ∈ choicesF w := List.mem_of_getElem? h
      have ih := play_again r (stepF w c)
      simp only [againF, if_pos hm, ih, List.length_cons]
/-- .. also in part -/
theorem play_front : ∀ (ps : List Int) (w : Wd) (n : Nat), n ≤ (playF w ps).2.length → (againF w ((playF w ps).2.take n)).2 = (n, true)
  | [], w, n, h => by
    simp [playF] at h
    subst h
    rfl
  | p :: r, w, n, h => by
    unfold playF at h ⊢
    rcases hc : (choicesF w)[(uns p % (choicesF w).length).toNat]? with _ | c
    · rw [hc] at h
      simp at h
      subst h
      rfl
    · rw [hc] at h
      rcases n with _ | n
      · rfl
      · have hm : c ∈ choicesF w := List.mem_of_getElem? hc
        have ih := play_front r (stepF w c) n (by simpa using h)
        simp only [List.take_succ_cons, againF, if_pos hm, ih]
theorem said_setA (w : Wd) (i : Nat) (a : Ac) : (setA w i a).said = w.said := rfl
theorem said_put (w : Wd) (f t : Int) (v : Vl) : (putF w f t v).said = w.said := by
  unfold putF
  split <;> rfl
theorem said_spawn (w : Wd) (n : Bs) (s : List Vl) : (spawnF w n s).1.said = w.said := by
  unfold spawnF
  split
  · rfl
  · split <;> rfl
theorem said_run (w : Wd) (i : Nat) (a : Ac) : w.said <+: (runF w i a).said := by
  unfold runF
  simp only
  split
  · exact ⟨_, rfl⟩
  · split
    · rw [said_put, said_setA]
      exact List.prefix_refl _
    · split
      · rw [said_setA, said_spawn, said_setA]
        exact List.prefix_refl _
      · split
        · exact List.prefix_refl _
        · split
          · exact List.prefix_refl _
          · split <;> exact List.prefix_refl _
theorem said_step (w : Wd) (c : Ch) : w.said <+: (stepF w c).said := by
  unfold stepF
  split
  · split
    · exact List.prefix_refl _
    · split
      · exact List.prefix_refl _
      · exact said_run _ _ _
  · split
    · split
      · simp only
        split <;> exact List.prefix_refl _
      · exact List.prefix_refl _
    · split
      · split <;> exact List.prefix_refl _
      · exact List.prefix_refl _
theorem said_play : ∀ (ps : List Int) (w : Wd), w.said <+: (playF w ps).1.said
  | [], w => List.prefix_refl _
  | n :: r, w => by
    unfold playF
    rcases h : (choicesF w)[(uns n % (choicesF w).length).toNat]? with _ | c
    · exact List.prefix_refl _
    · exact (said_step w c).trans (said_play r (stepF w c))
/-- what a part of a run has said is a beginning of what the run says -/
theorem said_front : ∀ (ps : List Int) (w : Wd) (n : Nat), (againF w ((playF w ps).2.take n)).1.said <+: (playF w ps).1.said
  | [], w, n => by simp [playF, againF]
  | p :: r, w, n => by
    unfold playF
    rcases hc : (choicesF w)[(uns p % (choicesF w).length).toNat]? with _ | c
    · simp [againF]
    · have hm : c ∈ choicesF w := List.mem_of_getElem? hc
      rcases n with _ | n
      · exact (said_step w c).trans (said_play r (stepF w c))
      · have ih := said_front r (stepF w c) n
        simp only [List.take_succ_cons, againF, if_pos hm]
        exact ih
end Go.Rp
