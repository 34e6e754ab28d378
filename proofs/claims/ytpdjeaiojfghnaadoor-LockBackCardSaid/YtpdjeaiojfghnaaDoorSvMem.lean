/- Modules, wants and picks in memory; contracts of solve.Name, Wants, cmp.Compare, cmp.Or. -/
import Derived.Test.YtpdjeaiojfghnaaDoorProg
import Derived.Test.YtpdjeaiojfghnaaDoorMem
import Derived.Test.YtpdjeaiojfghnaaDoorSolveLaw
import Derived.Test.YtpdjeaiojfghnaaDoorMap
import Derived.Test.YtpdjeaiojfghnaaDoorRest
import Derived.KernelRfl
import Derived.WalkSpells
import Derived.Deep.QuietTactic
import Derived.BigQuiet
import Derived.StringKeys
import Derived.Laws.Cover1
import Derived.Deep.CutBlock
import Derived.Sort.Walk0
set_option linter.unusedVariables false
namespace Go.Sv
open Go.RowKit Go.Mem
abbrev str (n : Nm) : Value := .string ⟨n.toArray⟩
def usc (u : Us) : List Value := [str u.name, .int .i64 (u.low : Nat), .int .i64 (u.high : Nat)]
def uss (l : List Us) : List Value := (l.map usc).flatten
theorem uss_at (l : List Us) (k j : Nat) (hk : k < l.length) (hj : j < 3) : (uss l)[k * 3 + j]? = (usc l[k])[j]? :=
  flatten_at (size := 3) (vss := l.map usc) (fun c hc => by obtain ⟨d, _, rfl⟩ := List.mem_map.1 hc; rfl) (k := k) (c := usc l[k]) (by rw [List.getElem?_map, List.getElem?_eq_getElem hk]; rfl) j hj
theorem uss_append (a b : List Us) : uss (a ++ b) = uss a ++ uss b := by simp [uss]
theorem uss_len (l : List Us) : (uss l).length = l.length * 3 := by
  induction l with
  | nil => rfl
  | cons d r ih =>
    simp only [uss, List.map_cons, List.flatten_cons, List.length_append] at ih ⊢
    rw [ih]
    simp [usc]
    omega
theorem uss_ones (l : List Us) : ∀ u ∈ uss l, u.oneCell' = true := by
  intro u hu
  obtain ⟨c, hc, hu⟩ := List.mem_flatten.1 hu
  obtain ⟨r, _, rfl⟩ := List.mem_map.1 hc
  simp [usc] at hu
  rcases hu with rfl | rfl | rfl <;> rfl
theorem uss_cells {w : World} {D : Nat → Prop} {A : Option Addr} {n : Nat} {l : List Us} (h : Reads w D 3 A n (uss l)) {k : Nat} (hk : k < n) (hn : n = l.length) :
    ∃ b off, A = some ⟨b, off, none⟩ ∧ D b ∧ w.cell? ⟨b, off + k * 3, none⟩ = some (str (l[k]'(by omega)).name) ∧ w.cell? ⟨b, off + k * 3 + 1, none⟩ = some (.int .i64 ((l[k]'(by omega)).low : Nat)) ∧ w.cell? ⟨b, off + k * 3 + 2, none⟩ = some (.int .i64 ((l[k]'(by omega)).high : Nat)) := by
  obtain ⟨b, off, e, hD, hc⟩ := h.2 (by omega)
  have hl : k < l.length := by omega
  have h0 := hc (k * 3 + 0) _ (uss_at l k 0 hl (by omega))
  have h1 := hc (k * 3 + 1) _ (uss_at l k 1 hl (by omega))
  have h2 := hc (k * 3 + 2) _ (uss_at l k 2 hl (by omega))
  exact ⟨b, off, e, hD, h0, by rw [Nat.add_assoc]; exact h1, by rw [Nat.add_assoc]; exact h2⟩
/-- a name of one small letter -/
def Letter (n : Nm) : Prop := ∃ c : UInt8, n = [c] ∧ 97 ≤ c.toNat ∧ c.toNat ≤ 122
/-- a want that may be -/
def UsOk (u : Us) : Prop := Letter u.name ∧ 1 ≤ u.low ∧ u.high ≤ 9999 ∧ u.low ≤ u.high
/-- the cells of a module -/
def MdCells (w : World) (D : Nat → Prop) (cs : List Value) (m : Md) : Prop :=
  ∃ A n c, cs = [str m.name, .int .i64 (m.ver : Nat), .slice A n c] ∧ n = m.uses.length ∧ n ≤ c ∧ c ≤ maxLen ∧ Reads w D 3 A n (uss m.uses)
theorem MdCells.stable : Stable 3 MdCells where
  keep := fun ⟨A, n, c, e, h1, h2, h3, h4⟩ hk => ⟨A, n, c, e, h1, h2, h3, h4.keep hk⟩
  imp := fun ⟨A, n, c, e, h1, h2, h3, h4⟩ hk => ⟨A, n, c, e, h1, h2, h3, h4.imp (by omega) hk⟩
  len := fun ⟨A, n, c, e, _⟩ => by rw [e]; rfl
  one := fun ⟨A, n, c, e, _⟩ u hu => by rw [e] at hu; simp at hu; rcases hu with rfl | rfl | rfl <;> rfl
/-- a slice of modules -/
def MdsAt (w : World) (D : Nat → Prop) (A : Option Addr) (n c : Nat) (ms : List Md) : Prop :=
  ∃ vss, n = ms.length ∧ n ≤ c ∧ c ≤ maxLen ∧ Reads w D 3 A n vss.flatten ∧ All2 (MdCells w D) vss ms
theorem MdsAt.keep {w w' : World} {D : Nat → Prop} {A : Option Addr} {n c : Nat} {ms : List Md} (h : MdsAt w D A n c ms) (hk : Same D w w') : MdsAt w' D A n c ms := by
  obtain ⟨vss, h1, h2, h3, h4, h5⟩ := h
  exact ⟨vss, h1, h2, h3, h4.keep hk, h5.imp fun x y hxy => MdCells.stable.keep hxy hk⟩
theorem MdsAt.imp {w : World} {D D' : Nat → Prop} {A : Option Addr} {n c : Nat} {ms : List Md} (h : MdsAt w D A n c ms) (hk : ∀ b, D b → b < w.heap.size → D' b) : MdsAt w D' A n c ms := by
  obtain ⟨vss, h1, h2, h3, h4, h5⟩ := h
  exact ⟨vss, h1, h2, h3, h4.imp (by omega) hk, h5.imp fun x y hxy => MdCells.stable.imp hxy hk⟩
theorem MdsAt.cells {w : World} {D : Nat → Prop} {A : Option Addr} {n c : Nat} {ms : List Md} (h : MdsAt w D A n c ms) {k : Nat} (hk : k < n) (hl : k < ms.length) :
    ∃ b off Au nu cu, A = some ⟨b, off, none⟩ ∧ D b ∧ w.cell? ⟨b, off + k * 3, none⟩ = some (str ms[k].name) ∧ w.cell? ⟨b, off + k * 3 + 1, none⟩ = some (.int .i64 (ms[k].ver : Nat)) ∧ w.cell? ⟨b, off + k * 3 + 2, none⟩ = some (.slice Au nu cu) ∧ nu = ms[k].uses.length ∧ nu ≤ cu ∧ cu ≤ maxLen ∧ Reads w D 3 Au nu (uss ms[k].uses) := by
  obtain ⟨vss, h1, h2, h3, h4, h5⟩ := h
  obtain ⟨b, off, cs, e, hD, ⟨Au, nu, cu, rfl, q1, q2, q3, q4⟩, hc⟩ := h4.elem MdCells.stable h5 h1 hl
  exact ⟨b, off, Au, nu, cu, e, hD, hc 0 _ rfl, by have := hc 1 _ rfl; rwa [← Nat.add_assoc] at this, by have := hc 2 _ rfl; rwa [← Nat.add_assoc] at this, q1, q2, q3, q4⟩
def MdLt (a b : Md) : Prop := a.name < b.name ∨ (a.name = b.name ∧ a.ver < b.ver)
/-- a register that may be -/
structure MsOk (ms : List Md) : Prop where
  nm : ∀ m ∈ ms, Letter m.name
  vr : ∀ m ∈ ms, 1 ≤ m.ver ∧ m.ver ≤ 9999
  us : ∀ m ∈ ms, m.uses.length ≤ 5 ∧ ∀ u ∈ m.uses, UsOk u
  od : ms.Pairwise MdLt
  ln : ms.length ≤ 30
theorem lt_one (a b : UInt8) : ([a] : List UInt8) < [b] ↔ a < b := by
  rw [List.cons_lt_cons_iff]
  simp
end Go.Sv
namespace Go.Proofs.YtpdjeaiojfghnaaDoor
open Go.RowKit Go.Mem Go.Sv Go.Maps
def okS (n : Nm) : Prop := n.length ≤ 65536
theorem enc_S : Enc Tryd.prog 9 str okS where
  keyed := string_keyed Tryd.underlying9
  inj := fun a b h => by
    injection h with h
    injection h with h
    have := congrArg Array.toList h
    simpa using this
  key := fun a h => ⟨_, Go.WideMaps.keyOf_string_mk Tryd.underlying9 (by
    unfold okS at h
    have : (ByteArray.mk a.toArray).size = a.length := by simp [ByteArray.size]
    rw [this]
    unfold maxLen
    omega)⟩
set_option maxRecDepth 100000 in
theorem name_any (n : Nm) (w : World) (h : Letter n) : Calls Tryd.prog 26 #[str n] w fun e w' => e = .returned (.bool true) ∧ w = w' := by
  obtain ⟨c, rfl, h1, h2⟩ := h
  go_enter Tryd.func26, Tryd.ntmps26
  go_wp2_with (fail)
  have g1 : decide ((c.toNat : Int) ≥ 97) = true := decide_eq_true (by omega)
  have g2 : decide ((c.toNat : Int) ≤ 122) = true := decide_eq_true (by omega)
  have hb : (({ data := #[c] } : ByteArray)[0]'(by simp [ByteArray.size])).toNat = c.toNat := rfl
  refine wp_loop_rounds 2 ?_
  rw [rounds_succ]
  go_wp2_with (fail)
  rw [rounds_succ]
  go_wp2_with (fail)
  go_ret
  exact ⟨rfl, rfl⟩
theorem nan_any (s : ByteArray) (w : World) : Calls Tryd.prog 44 #[.string s] w fun e w' => e = .returned (.bool false) ∧ w = w' := by
  go_enter Tryd.func44, Tryd.ntmps44
  go_wp2_with (fail)
  go_ret
  exact ⟨rfl, rfl⟩
theorem bytes_one (a b : UInt8) : Op.bytesLess [a] [b] = decide (a < b) := by
  rw [bytesLess_eq]
  exact decide_eq_decide.2 (lt_one a b)
theorem compare_any (a b : UInt8) (r : Int) (w : World) (hr : r = if a < b then -1 else if b < a then 1 else 0) : Calls Tryd.prog 28 #[str [a], str [b]] w fun e w' => e = .returned (.int .i64 r) ∧ w = w' := by
  have n1 := nan_any ⟨[a].toArray⟩ w
  have n2 := nan_any ⟨[b].toArray⟩ w
  have e1 : decide (a < b) = true ∨ decide (a < b) = false := by cases decide (a < b) <;> simp
  rcases e1 with e1 | e1
  · have hr2 : r = -1 := by rw [hr, if_pos (by simpa using e1)]
    have b1 := bytes_one a b
    rw [e1] at b1
    subst hr2
    clear hr e1
    go_enter Tryd.func28, Tryd.ntmps28
    go_wp2_with (fail)
    refine n1.mono ?_
    rintro e w' ⟨rfl, rfl⟩
    go_wp2_with (fail)
    refine n2.mono ?_
    rintro e w' ⟨rfl, rfl⟩
    go_wp2_with (fail)
    go_ret
    exact ⟨rfl, rfl⟩
  · have b1 := bytes_one a b
    rw [e1] at b1
    have hab : ¬ a < b := by simpa using e1
    by_cases hba : b < a
    · have hr2 : r = 1 := by rw [hr, if_neg hab, if_pos hba]
      have hne : ([a] == [b]) = false := by simp; rintro rfl; exact hab hba
      subst hr2
      clear hr e1 hab hba
      go_enter Tryd.func28, Tryd.ntmps28
      go_wp2_with (fail)
      refine n1.mono ?_
      rintro e w' ⟨rfl, rfl⟩
      go_wp2_with (fail)
      refine n2.mono ?_
      rintro e w' ⟨rfl, rfl⟩
      go_wp2_with (fail)
      go_ret
      exact ⟨rfl, rfl⟩
    · have hr2 : r = 0 := by rw [hr, if_neg hab, if_neg hba]
      have hne : a = b := by
        have h1 : ¬ a.toNat < b.toNat := hab
        have h2 : ¬ b.toNat < a.toNat := hba
        exact UInt8.toNat_inj.1 (by omega)
      subst hr2 hne
      clear hr e1 hab hba
      go_enter Tryd.func28, Tryd.ntmps28
      go_wp2_with (fail)
      refine n1.mono ?_
      rintro e w' ⟨rfl, rfl⟩
      go_wp2_with (fail)
      refine n2.mono ?_
      rintro e w' ⟨rfl, rfl⟩
      go_wp2_with (fail)
      go_ret
      exact ⟨rfl, rfl⟩

set_option maxRecDepth 100000 in
set_option maxHeartbeats 1000000 in
theorem wants_any (A : Option Addr) (n c : Nat) (l : List Us) (w : World) (hr : Reads w Any 3 A n (uss l)) (hn : n = l.length) (h5 : n ≤ 5) (h : ∀ u ∈ l, UsOk u) :
    Calls Tryd.prog 12 #[.slice A n c] w fun e w' => e = .returned (.int .i64 0) ∧ Below w.heap.size w w' := by
  have Hn := Lib.hid hn
  have H := Lib.hid h
  clear hn h
  go_enter Tryd.func12, Tryd.ntmps12
  go_wp2_with (fail)
  go_loopw [10] (fun v wr => ∃ j : Nat, j ≤ n ∧ v = .int .i64 j ∧ Below w.heap.size w wr) (fun v _ => n - (intOf v).toNat)
  case atStart => exact ⟨0, Nat.zero_le _, rfl, Below.refl _ _⟩
  case round =>
    obtain ⟨j, hj, rfl, hb⟩ := hrel
    by_cases hlt : j < n
    · obtain ⟨b1, o1, rfl, _, r0, r1, r2⟩ := uss_cells hr hlt Hn.out
      have p0 := (Same.any (D := Any) hb).cell trivial r0
      have p1 := (Same.any (D := Any) hb).cell trivial r1
      have p2 := (Same.any (D := Any) hb).cell trivial r2
      have hl : j < l.length := by have := Hn.out; omega
      have hy := H.out _ (List.getElem_mem hl)
      generalize l[j] = y at p0 p1 p2 hy
      obtain ⟨yn, yl, yh⟩ := y
      obtain ⟨y1, y2, y3, y4⟩ := hy
      simp only at p0 p1 p2 y1 y2 y3 y4
      have NM := fun W => Lib.hid (name_any yn W y1)
      obtain ⟨W, hW⟩ : ∃ W, W = wr.alloc (.cells #[str yn, .int .i64 (yl : Nat), .int .i64 (yh : Nat)] 56) := ⟨_, rfl⟩
      have hbk : Blk W wr.heap.size 56 [str yn, .int .i64 (yl : Nat), .int .i64 (yh : Nat)] := by rw [hW]; exact Blk.new wr _ _
      have hbW : Below w.heap.size w W := by rw [hW]; exact hb.alloc hb.size _
      have HB := Lib.hid (And.intro hbk hbW)
      clear r0 r1 r2 hr hbk hbW y1
      go_upto_region 6 with (fail)
      rw [← hW]
      have e0 := HB.out.1.cell 0
      have e1 := HB.out.1.cell 1
      have e2 := HB.out.1.cell 2
      simp only [List.getElem?_cons_zero, List.getElem?_cons_succ] at e0 e1 e2
      have lD := HB.out.1.lt
      generalize wr.heap.size = D at e0 e1 e2 lD HB ⊢
      clear hW p0 p1 p2
      go_wp2_with (fail)
      refine (NM _).out.mono ?_
      rintro e w' ⟨rfl, rfl⟩
      have g1 : decide ((yl : Int) < 1) = false := decide_eq_false (by omega)
      have g2 : decide ((yh : Int) > 9999) = false := decide_eq_false (by omega)
      have g3 : decide ((yl : Int) > (yh : Int)) = false := decide_eq_false (by omega)
      go_wp2_with (fail)
      exact ⟨⟨j + 1, by omega, by go_num, ⟨HB.out.2.os, HB.out.2.tape, HB.out.2.output, HB.out.2.size, HB.out.2.block⟩⟩, by simp [intOf]; omega⟩
    · clear hr
      go_wp2_with (fail)
      go_ret
      exact ⟨rfl, hb⟩
set_option maxRecDepth 100000 in
theorem or_any (g : Nat) (x y z : Int) (w : World) (h0 : w.cell? ⟨g, 0, none⟩ = some (.int .i64 x)) (h1 : w.cell? ⟨g, 1, none⟩ = some (.int .i64 y)) (lg : g < w.heap.size) (hz : z = if x = 0 then y else x) :
    Calls Tryd.prog 27 #[.slice (some ⟨g, 0, none⟩) 2 2] w fun e w' => e = .returned (.int .i64 z) ∧ w = w' := by
  by_cases hx : x = 0
  · subst hx
    rw [if_pos rfl] at hz
    subst hz
    by_cases hy : z = 0
    · subst hy
      go_enter Tryd.func27, Tryd.ntmps27
      go_wp2_with (fail)
      refine wp_loop_rounds 3 ?_
      rw [rounds_succ]
      go_wp2_with (fail)
      rw [rounds_succ]
      go_wp2_with (fail)
      rw [rounds_succ]
      go_wp2_with (fail)
      go_ret
      exact ⟨rfl, rfl⟩
    · have g2 : (z != 0) = true := by simpa using hy
      clear hy
      go_enter Tryd.func27, Tryd.ntmps27
      go_wp2_with (fail)
      refine wp_loop_rounds 3 ?_
      rw [rounds_succ]
      go_wp2_with (fail)
      rw [rounds_succ]
      go_wp2_with (fail)
      go_ret
      exact ⟨rfl, rfl⟩
  · rw [if_neg hx] at hz
    subst hz
    have g2 : (z != 0) = true := by simpa using hx
    clear hx
    go_enter Tryd.func27, Tryd.ntmps27
    go_wp2_with (fail)
    refine wp_loop_rounds 3 ?_
    rw [rounds_succ]
    go_wp2_with (fail)
    go_ret
    exact ⟨rfl, rfl⟩
end Go.Proofs.YtpdjeaiojfghnaaDoor
