/- Ranges of versions in memory; append, slices.Clone, slices.Equal (of the same), right, limited. -/
import Derived.Test.YtcmohbeibnfpaaaDoorProg
import Derived.Test.YtcmohbeibnfpaaaDoorMem
import Derived.Test.YtcmohbeibnfpaaaDoorVerLaw
import Derived.KernelRfl
import Derived.WalkSpells
import Derived.Deep.QuietTactic
import Derived.BigQuiet
import Derived.Laws.StructEq
set_option linter.unusedVariables false
namespace Go.Ver
open Go.RowKit Go.Mem
def rgc (r : Rg) : List Value := [.int .i64 (r.1 : Nat), .int .i64 (r.2 : Nat)]
def rgs (l : List Rg) : List Value := (l.map rgc).flatten
theorem rgs_at (l : List Rg) (k j : Nat) (hk : k < l.length) (hj : j < 2) : (rgs l)[k * 2 + j]? = (rgc l[k])[j]? :=
  flatten_at (size := 2) (vss := l.map rgc) (fun c hc => by obtain ⟨d, _, rfl⟩ := List.mem_map.1 hc; rfl) (k := k) (c := rgc l[k]) (by rw [List.getElem?_map, List.getElem?_eq_getElem hk]; rfl) j hj
theorem rgs_append (a b : List Rg) : rgs (a ++ b) = rgs a ++ rgs b := by simp [rgs]
theorem rgs_one (r : Rg) : rgs [r] = rgc r := by simp [rgs]
theorem rgs_len (l : List Rg) : (rgs l).length = l.length * 2 := by
  induction l with
  | nil => rfl
  | cons d r ih =>
    simp only [rgs, List.map_cons, List.flatten_cons, List.length_append] at ih ⊢
    rw [ih]
    simp [rgc]
    omega
theorem rgs_ones (l : List Rg) : ∀ u ∈ rgs l, u.oneCell' = true := by
  intro u hu
  obtain ⟨c, hc, hu⟩ := List.mem_flatten.1 hu
  obtain ⟨r, _, rfl⟩ := List.mem_map.1 hc
  simp [rgc] at hu
  rcases hu with rfl | rfl <;> rfl
/-- the two cells of an element -/
theorem rgs_cells {w : World} {D : Nat → Prop} {A : Option Addr} {n : Nat} {l : List Rg} (h : Reads w D 2 A n (rgs l)) {k : Nat} (hk : k < n) (hn : n = l.length) :
    ∃ b off, A = some ⟨b, off, none⟩ ∧ D b ∧ w.cell? ⟨b, off + k * 2, none⟩ = some (.int .i64 ((l[k]'(by omega)).1 : Nat)) ∧ w.cell? ⟨b, off + k * 2 + 1, none⟩ = some (.int .i64 ((l[k]'(by omega)).2 : Nat)) := by
  obtain ⟨b, off, e, hD, hc⟩ := h.2 (by omega)
  have hl : k < l.length := by omega
  have h0 := hc (k * 2 + 0) _ (rgs_at l k 0 hl (by omega))
  have h1 := hc (k * 2 + 1) _ (rgs_at l k 1 hl (by omega))
  exact ⟨b, off, e, hD, h0, by rw [Nat.add_assoc]; exact h1⟩
def Le (l : List Rg) : Prop := ∀ r ∈ l, r.1 ≤ 10000 ∧ r.2 ≤ 10000
theorem Ok.le {l : List Rg} (h : Ok l) : Le l := fun r hr => by
  obtain ⟨h1, h2, h3⟩ := h.1 r hr
  omega
/-- a slice of ranges, and what stood below is as it was -/
def Holds (w : World) (l : List Rg) (A : Option Addr) (c : Nat) : Prop := l.length ≤ c ∧ c ≤ maxLen ∧ Reads w Any 2 A l.length (rgs l)
theorem Holds.later {w w' : World} {B : Nat} {l : List Rg} {A : Option Addr} {c : Nat} (h : Holds w l A c) (hb : Below B w w') (hB : w.heap.size ≤ B) : Holds w' l A c := ⟨h.1, h.2.1, h.2.2.keep fun b _ hl => hb.block b (by omega)⟩
end Go.Ver
namespace Go.Proofs.YtcmohbeibnfpaaaDoor
open Go.RowKit Go.Mem Go.Ver
/-- a set, or an error code -/
def RgPost (w : World) (l : List Rg) : Ending → World → Prop := fun e w' => ∃ A c, e = .returned (.tuple #[.slice A l.length c, .int .i64 0]) ∧ Ver.Holds w' l A c ∧ Below w.heap.size w w'
theorem info_rg : (Tryd.prog.info? 34).map (fun i => (i.zero, i.size, i.bytes)) = some (some (.agg #[.int .i64 0, .int .i64 0]), 2, 16) := by kernel_rfl
/-- append of ranges onto a row of the call's own -/
theorem app_rg (w : World) {ops : Array Oper} {rest : List Oper} {o : Oper} {a : Act} {Q : Exit → Act → World → Prop} (hgd : o.guard = none) (s x : Operand)
    (ho : o.op = .call { callee := .builtin .append, args := #[s, x], argTypes := #[22, 22] })
    {base : Nat} {v : Value} {n : Nat} {xs : List Value} (hown : w.ownsRow base 34 2 v n xs) (hs : a.eval s = v)
    {D : Nat → Prop} {A : Option Addr} {m : Nat} {news : List Value} (hr : Reads w D 2 A m news) {c : Nat} (hx : a.eval x = .slice A m c) (h1 : ∀ u ∈ news, u.oneCell' = true)
    (h63 : n + m ≤ 1099511627776) (hbase : base ≤ w.heap.size)
    (h : ∀ v' w', w'.ownsRow base 34 2 v' (n + m) (xs ++ news) → w.grownBy w' v.ownBlock → (v'.ownBlock = v.ownBlock ∨ v'.ownBlock = some w.heap.size) → wpList Tryd.prog ops Q rest (a.put o.dst v') w') : wpList Tryd.prog ops Q (o :: rest) a w := by
  obtain ⟨i0, hi0, hz0, hz1, hz2⟩ := info_parts info_rg
  exact wpList_append_any w hgd s x _ ho base _ i0 _ 2 16 Tryd.underlying22 hi0 hz0 hz1 hz2 rfl (by omega) v n xs hs hown D A m c news hx hr h1 (by simp only [maxLen]; omega) (by omega) hbase h

set_option maxRecDepth 100000 in
/-- slices.Clone: nil for nil, else a row of the call's own -/
theorem clone_rgs (A : Option Addr) (n c : Nat) (l : List Rg) (D : Nat → Prop) (w : World) (hr : Reads w D 2 A n (rgs l)) (hn : n ≤ 1099511627776) :
    Calls Tryd.prog 22 #[.slice A n c] w fun e w' => ∃ A c, e = .returned (.slice A n c) ∧ w'.ownsRow w.heap.size 34 2 (.slice A n c) n (rgs l) ∧ Below w.heap.size w w' := by
  have Hn := Lib.hid hn
  clear hn
  have q : ∀ (w : World) (a : Option Addr) (n c : Nat), (binOp .eql 22 (.slice a n c) (.slice none 0 0)).run Tryd.prog w = .ok (.bool a.isNone) w := fun w a n c => Lib.run_eql_slice_nil w _ _ a n c 0 0 Tryd.underlying22
  rcases A with _ | ad
  · obtain rfl := hr.nil_len
    go_enter Tryd.func22, Tryd.ntmps22
    go_wp2
    go_ret
    have hx : rgs l = [] := List.eq_nil_of_length_eq_zero (by simpa using hr.1)
    rw [hx]
    exact ⟨none, 0, rfl, World.ownsRow_nil _ _ _ _, Below.refl _ _⟩
  · go_enter Tryd.func22, Tryd.ntmps22
    go_wp2_with (at_builtin; refine app_rg _ rfl (.tmp 5) (.tmp 6) rfl (World.ownsRow_made w #[] 0 (Nat.le_refl _) (Nat.zero_le _) rfl) rfl (hr.keep (Same.alloc _ _ _)) rfl (rgs_ones l) (by have := Hn.out; omega) (by simp) ?_; intro v1 w1 hown1 hg1 hat1)
    go_ret
    simp only [Nat.zero_add, List.nil_append] at hown1
    obtain ⟨A1, c1, rfl, _⟩ := own_form hown1
    refine ⟨A1, c1, rfl, hown1, ((Below.refl _ _).alloc (Nat.le_refl _) _).grown hg1 (by simp) (by simp [Value.ownBlock])⟩

theorem neq_rg (a b : Int) (W : World) : (binOp .neq 34 (.agg #[.int .i64 a, .int .i64 b]) (.agg #[.int .i64 a, .int .i64 b])).run Tryd.prog W = .ok (.bool false) W := by
  have hu : Tryd.prog.underlying 34 = some (.struct (Tryd.prog.fieldsOf 34)) := by kernel_rfl
  have hp : Tryd.prog.stoodInHeld 34 = false := by kernel_rfl
  have e1 := run_neq_struct (P := Tryd.prog) W 34 #[.int .i64 a, .int .i64 b] #[.int .i64 a, .int .i64 b]
  have e2 := run_equalIn_agg (P := Tryd.prog) W 9999 34 #[.int .i64 a, .int .i64 b] #[.int .i64 a, .int .i64 b] hu hp
  have hf : (Tryd.prog.fieldsOf 34).toList = [⟨"Low", 3, 0, false, "", "", 0⟩, ⟨"High", 3, 1, false, "", "", 8⟩] := by kernel_rfl
  rw [hf] at e2
  have e3 : (Op.equalIn 10000 34 (.agg #[.int .i64 a, .int .i64 b]) (.agg #[.int .i64 a, .int .i64 b])).run Tryd.prog W = .ok true W := by
    refine e2.trans ?_
    have hi := Tryd.underlying3
    have p0 : ∀ x y : Int, (part 3 #[.int .i64 x, .int .i64 y] 0).run Tryd.prog W = .ok (.int .i64 x) W := fun x y => by
      unfold part
      simp [isAgg, run_underlying hi]
    have p1 : ∀ x y : Int, (part 3 #[.int .i64 x, .int .i64 y] 1).run Tryd.prog W = .ok (.int .i64 y) W := fun x y => by
      unfold part
      simp [isAgg, run_underlying hi]
    have q : ∀ x : Int, (Op.equalIn 9999 3 (.int .i64 x) (.int .i64 x)).run Tryd.prog W = .ok true W := fun x => by
      have := run_equalIn_int (P := Tryd.prog) W 9998 3 .i64 .i64 x x hi
      simpa using this
    simp only [Op.eqFields]
    simp [p0, p1, q, Result.andThen]
  rw [e1, e3]
  rfl
set_option maxRecDepth 100000 in
set_option maxHeartbeats 1000000 in
theorem equal_rgs (A B : Option Addr) (n c d : Nat) (l : List Rg) (w : World) (hr : Reads w Any 2 A n (rgs l)) (hs : Reads w Any 2 B n (rgs l)) (hn : n ≤ 1099511627776) (hnl : n = l.length) :
    Calls Tryd.prog 8 #[.slice A n c, .slice B n d] w fun e w' => e = .returned (.bool true) ∧ Below w.heap.size w w' := by
  have Hnl := Lib.hid hnl
  clear hnl
  have ng := neq_rg
  go_enter Tryd.func8, Tryd.ntmps8
  go_wp2_with (fail)
  go_loopw [13] (fun v wr => ∃ j : Nat, j ≤ n ∧ v = .int .i64 j ∧ Below w.heap.size w wr) (fun v _ => n - (intOf v).toNat)
  case atStart => exact ⟨0, Nat.zero_le _, rfl, Below.refl _ _⟩
  case round =>
    obtain ⟨j, hj, rfl, hb⟩ := hrel
    by_cases hlt : j < n
    · obtain ⟨b1, o1, rfl, _, r0, r1⟩ := rgs_cells hr hlt Hnl.out
      obtain ⟨b2, o2, rfl, _, s0, s1⟩ := rgs_cells hs hlt Hnl.out
      have p0 := (Same.any (D := Any) hb).cell trivial r0
      have p1 := (Same.any (D := Any) hb).cell trivial r1
      have q0 := (Same.any (D := Any) hb).cell trivial s0
      have q1 := (Same.any (D := Any) hb).cell trivial s1
      generalize l[j]'(by have := Hnl.out; omega) = y at p0 p1 q0 q1
      obtain ⟨y0, y1⟩ := y
      simp only at p0 p1 q0 q1
      clear hr hs r0 r1 s0 s1
      go_wp2_with (fail)
      go_quiet (fail)
      go_wp2_with (fail)
      exact ⟨⟨j + 1, by omega, by go_num, ⟨hb.os, hb.tape, hb.output, hb.size, hb.block⟩⟩, by simp [intOf]; omega⟩
    · clear hr hs
      go_wp2_with (fail)
      go_ret
      exact ⟨rfl, hb⟩

set_option maxRecDepth 100000 in
theorem right_any (r : Rg) (w : World) (hr : right r) : Calls Tryd.prog 21 #[.agg #[.int .i64 (r.1 : Nat), .int .i64 (r.2 : Nat)]] w fun e w' => e = .returned (.bool true) ∧ Below w.heap.size w w' := by
  obtain ⟨h1, h2, h3⟩ := hr
  obtain ⟨a, b⟩ := r
  simp only at h1 h2 h3 ⊢
  have g1 : decide ((a : Int) ≥ 1) = true := by simp; omega
  have g2 : decide ((b : Int) ≤ 9999) = true := by simp; omega
  have g3 : decide ((a : Int) ≤ b) = true := by simp; omega
  go_enter Tryd.func21, Tryd.ntmps21
  go_wp2_with (fail)
  go_ret
  exact ⟨rfl, (Below.refl _ _).alloc (Nat.le_refl _) _⟩
theorem limited_any (A : Option Addr) (n c : Nat) (w : World) (hn : n ≤ 50) : Calls Tryd.prog 25 #[.slice A n c] w fun e w' => e = .returned (.tuple #[.slice A n c, .int .i64 0]) ∧ w = w' := by
  go_enter Tryd.func25, Tryd.ntmps25
  go_wp2_with (fail)
  go_ret2
  exact ⟨rfl, rfl⟩
end Go.Proofs.YtcmohbeibnfpaaaDoor
