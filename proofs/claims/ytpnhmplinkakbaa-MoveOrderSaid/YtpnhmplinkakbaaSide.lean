/- A side of a snapshot in memory; contracts of its methods. -/
import Derived.Test.YtpnhmplinkakbaaNum
import Derived.Deep.RegionHeld3
import Derived.Deep.RegionLaw
import Derived.Deep.DeepCutAuto
set_option linter.unusedVariables false
namespace Go.Mem
open Go.RowKit
/-- w has grown to w', and of what it had only blocks of own have changed -/
structure GrownIn (own : Nat → Prop) (w w' : World) : Prop where
  os : w'.os = w.os
  tape : w'.tape = w.tape
  output : w'.output = w.output
  size : w.heap.size ≤ w'.heap.size
  block : ∀ k, k < w.heap.size → ¬ own k → w'.heap[k]? = w.heap[k]?
theorem GrownIn.refl (own : Nat → Prop) (w : World) : GrownIn own w w := ⟨rfl, rfl, rfl, Nat.le_refl _, fun _ _ _ => rfl⟩
theorem GrownIn.of_grown {own : Nat → Prop} {w w' : World} {row : Option Nat} (h : w.grownBy w' row) (hr : ∀ k, row = some k → own k) : GrownIn own w w' :=
  ⟨h.os, h.tape, h.output, h.size, fun k hk hn => h.block k hk (fun e => hn (hr k e.symm))⟩
theorem GrownIn.of_below {own : Nat → Prop} {w w' : World} (h : Below w.heap.size w w') : GrownIn own w w' := ⟨h.os, h.tape, h.output, h.size, fun k hk _ => h.block k hk⟩
theorem GrownIn.drew {own : Nat → Prop} {w w' : World} (h : GrownIn own w w') : GrownIn own w w'.drew := ⟨h.os, h.tape, h.output, h.size, h.block⟩
theorem GrownIn.alloc {own : Nat → Prop} {w w' : World} (h : GrownIn own w w') (o : Obj) : GrownIn own w (w'.alloc o) :=
  ⟨h.os, h.tape, h.output, Nat.le_trans h.size (by simp), fun k hk hn => (Below.heap_alloc w' o k (Nat.lt_of_lt_of_le hk h.size)).trans (h.block k hk hn)⟩
theorem GrownIn.set {own : Nat → Prop} {w w' : World} (h : GrownIn own w w') {p : Addr} (hp : own p.block) (u : Value) : GrownIn own w (w'.setCell p u) :=
  ⟨h.os, h.tape, h.output, by simpa [World.setCell] using h.size, fun k hk hn => (Below.heap_setCell w' p u k (fun e => hn (e ▸ hp))).trans (h.block k hk hn)⟩
theorem GrownIn.trans {own own' : Nat → Prop} {w w' w'' : World} (h : GrownIn own w w') (k : GrownIn own' w' w'') (ho : ∀ b, own' b → own b ∨ w.heap.size ≤ b) : GrownIn own w w'' :=
  ⟨k.os.trans h.os, k.tape.trans h.tape, k.output.trans h.output, Nat.le_trans h.size k.size, fun i hi hn => (k.block i (Nat.lt_of_lt_of_le hi h.size) (fun e => (ho i e).elim hn (fun e => by omega))).trans (h.block i hi hn)⟩
theorem Below.of_in {own : Nat → Prop} {a w w' : World} {B : Nat} (h : Below B a w) (k : GrownIn own w w') (ho : ∀ b, own b → B ≤ b) (hB : B ≤ w.heap.size) : Below B a w' :=
  h.trans ⟨k.os, k.tape, k.output, k.size, fun i hi => k.block i (by omega) (fun e => by have := ho i e; omega)⟩
theorem Same.of_in {own D : Nat → Prop} {w w' : World} (k : GrownIn own w w') (hD : ∀ b, D b → b < w.heap.size → ¬ own b) : Same D w w' := fun b hb hl => k.block b hl (hD b hb hl)

structure Sd where
  peers : List Int
  started : Bool
  state : Int
  marked : List Bool
  ways : List (List Int)
end Go.Mem
namespace Go.Proofs.Ytpnhmplinkakbaa
open Go.RowKit Go.Mem

/-- rows of ints of one's own, apart from each other -/
def WaysAt (w : World) (own : Nat → Prop) (vs : List Value) (ls : List (List Int)) : Prop :=
  vs.length = ls.length ∧ (∀ (i : Nat) v l, vs[i]? = some v → ls[i]? = some l → w.ownsRow 0 3 1 v l.length (nums l) ∧ ∀ b, v.ownBlock = some b → own b) ∧
    ∀ (i j : Nat) v v', i ≠ j → vs[i]? = some v → vs[j]? = some v' → v.ownBlock = none ∨ v.ownBlock ≠ v'.ownBlock
def Side (w : World) (S : Nat) (own : Nat → Prop) (x : Sd) : Prop :=
  ∃ (P : Option Addr) (cp M Y : Nat) (vs : List Value), Blk w S 73 [.slice P x.peers.length cp, .bool x.started, .int .i64 x.state, .slice (some ⟨M, 0, none⟩) x.peers.length x.peers.length, .slice (some ⟨Y, 0, none⟩) x.peers.length x.peers.length] ∧
    Reads w (fun b => own b ∧ b ≠ S ∧ b ≠ M ∧ b ≠ Y ∧ ∀ (i : Nat) v, vs[i]? = some v → v.ownBlock ≠ some b) 1 P x.peers.length (nums x.peers) ∧ x.peers.length ≤ 8 ∧
    Blk w M 4 (flags x.marked) ∧ Blk w Y 22 vs ∧ x.marked.length = x.peers.length ∧ x.ways.length = x.peers.length ∧ own S ∧ own M ∧ own Y ∧ WaysAt w own vs x.ways ∧ (∀ l ∈ x.ways, l.length ≤ 200)

theorem ways_ne {w : World} {own : Nat → Prop} {vs : List Value} {ls : List (List Int)} (h : WaysAt w own vs ls) {g : Nat} {t : TypeId} {cs : List Value} (hb : Blk w g t cs) (ht : t ≠ 3) (i : Nat) (v : Value) (hv : vs[i]? = some v) : v.ownBlock ≠ some g := by
  intro e
  have hi : i < ls.length := by rw [← h.1]; exact (List.getElem?_eq_some_iff.1 hv).1
  have ho := (h.2.1 i v ls[i] hv (List.getElem?_eq_getElem hi)).1
  rcases ho.2 with ⟨rfl, _⟩ | ⟨g', cap, cur, rfl, _, hg, _⟩
  · simp [Value.ownBlock] at e
  · simp [Value.ownBlock] at e
    subst e
    unfold Blk at hb
    rw [hg] at hb
    injection hb with hb
    injection hb with _ hb
    exact ht hb.symm

/-- what Message does -/
def msgF (x : Sd) (i : Nat) (n : Int) : Sd × Int :=
  if x.started = false ∨ x.marked[i]? = some true then (x, 0)
  else if (x.ways[i]?).map (·.length) = some 200 then (x, 6)
  else ({ x with ways := x.ways.set i ((x.ways[i]?).getD [] ++ [n]) }, 0)
def MsgPost (w : World) (S : Nat) (own : Nat → Prop) (x' : Sd) (r : Int) (e : Ending) (w' : World) : Prop :=
  ∃ own', e = .returned (.int .i64 r) ∧ Side w' S own' x' ∧ GrownIn own w w' ∧ (∀ b, own' b → own b ∨ w.heap.size ≤ b)
theorem MsgPost.same {w : World} {S : Nat} {own : Nat → Prop} {x : Sd} (r : Int) (h : Side w S own x) : MsgPost w S own x r (.returned (.int .i64 r)) w := ⟨own, rfl, h, GrownIn.refl _ _, fun _ hb => .inl hb⟩

theorem own_ne {w : World} {base : Nat} {e : TypeId} {size n : Nat} {v : Value} {xs : List Value} (ho : w.ownsRow base e size v n xs) {g : Nat} {t : TypeId} {cs : List Value} (hb : Blk w g t cs) (ht : t ≠ e) : v.ownBlock ≠ some g := by
  intro h
  rcases ho.2 with ⟨rfl, _⟩ | ⟨g', cap, cur, rfl, _, hg, _⟩
  · simp [Value.ownBlock] at h
  · simp [Value.ownBlock] at h
    subst h
    unfold Blk at hb
    rw [hg] at hb
    injection hb with hb
    injection hb with _ hb
    exact ht hb.symm
theorem grown_of_alloc {w w2 : World} {o : Obj} {row : Option Nat} (h : (w.alloc o).grownBy w2 row) : w.grownBy w2 row :=
  ⟨h.os, h.tape, h.output, Nat.le_trans (by simp) h.size, fun k hk hne => (h.block k (by simp; omega) hne).trans (Below.heap_alloc w o k hk)⟩
theorem grown_of_allocd {w w2 : World} {o : Obj} {row : Option Nat} (h : ((w.alloc o).drew).grownBy w2 row) : w.grownBy w2 row :=
  ⟨h.os, h.tape, h.output, Nat.le_trans (by simp) h.size, fun k hk hne => (h.block k (by simp; omega) hne).trans (Below.heap_alloc w o k hk)⟩
theorem grown_set (w : World) (g i : Nat) (u : Value) : w.grownBy (w.setCell ⟨g, i, none⟩ u) (some g) := grownBy_setCell (World.grownBy.refl w _) (.inl rfl) u
/-- one row of the rows has grown, and is stored in its place -/
theorem ways_grow {w w2 : World} {own : Nat → Prop} {vs : List Value} {ls : List (List Int)} (h : WaysAt w own vs ls) {i Y : Nat} (hi : i < ls.length) (hiv : i < vs.length) {v' : Value} {n : Int} (hgw : w.grownBy w2 vs[i].ownBlock) (hown2 : w2.ownsRow 0 3 1 v' (ls[i].length + 1) (nums ls[i] ++ [.int .i64 n]))
    (hat : v'.ownBlock = vs[i].ownBlock ∨ ∃ g, v'.ownBlock = some g ∧ w.heap.size ≤ g) (hY2 : Blk w2 Y 22 vs) (hYw : Blk w Y 22 vs) :
    WaysAt (w2.setCell ⟨Y, i, none⟩ v') (fun b => own b ∨ w.heap.size ≤ b) (vs.set i v') (ls.set i (ls[i] ++ [n])) := by
  obtain ⟨hl, hr, ha⟩ := h
  have hgi := List.getElem?_eq_getElem hiv
  have hli := List.getElem?_eq_getElem hi
  have hlt : ∀ (j : Nat) v b, vs[j]? = some v → v.ownBlock = some b → b < w.heap.size := fun j v b hv hb => by
    have hj : j < ls.length := by rw [← hl]; exact (List.getElem?_eq_some_iff.1 hv).1
    exact ((hr j v ls[j] hv (List.getElem?_eq_getElem hj)).1.lt b hb).2
  have hap : ∀ (j : Nat) v, j ≠ i → vs[j]? = some v → v'.ownBlock = none ∨ v'.ownBlock ≠ v.ownBlock := fun j v hj hv => by
    rcases hat with e | ⟨g, e, hg⟩
    · rw [e]; exact ha i j _ v (fun e => hj e.symm) hgi hv
    · right
      rw [e]
      intro e2
      have := hlt j v g hv e2.symm
      omega
  refine ⟨by simp [hl], fun j v l hv hlj => ?_, fun j k v v2 hjk hv hv2 => ?_⟩
  · by_cases hj : j = i
    · subst hj
      rw [List.getElem?_set_self hiv] at hv
      rw [List.getElem?_set_self hi] at hlj
      injection hv with hv
      injection hlj with hlj
      subst hv hlj
      have hne := own_ne hown2 hY2 (by decide)
      refine ⟨?_, fun b hb => ?_⟩
      · have := hown2.kept (grown_set w2 Y j v') (.inr hne)
        rw [nums_append, List.length_append]
        exact this
      · rcases hat with e | ⟨g, e, hg⟩
        · exact .inl ((hr j _ _ hgi hli).2 b (by rw [← e]; exact hb))
        · rw [e] at hb
          injection hb with hb
          subst hb
          exact .inr hg
    · rw [List.getElem?_set_ne (fun e => hj e.symm)] at hv hlj
      obtain ⟨h1, h2⟩ := hr j v l hv hlj
      have h3 := h1.kept hgw (ha j i v _ hj hv hgi)
      exact ⟨h3.kept (grown_set w2 Y i v') (.inr (own_ne h3 hY2 (by decide))), fun b hb => .inl (h2 b hb)⟩
  · by_cases hj : j = i
    · subst hj
      rw [List.getElem?_set_self hiv] at hv
      rw [List.getElem?_set_ne hjk] at hv2
      injection hv with hv
      subst hv
      exact hap k v2 (fun e => hjk e.symm) hv2
    · rw [List.getElem?_set_ne (fun e => hj e.symm)] at hv
      by_cases hk : k = i
      · subst hk
        rw [List.getElem?_set_self hiv] at hv2
        injection hv2 with hv2
        subst hv2
        rcases hap j v hj hv with e | e
        · cases hb : v.ownBlock with
          | none => exact .inl rfl
          | some b => right; rw [e]; simp
        · exact .inr fun h => e h.symm
      · rw [List.getElem?_set_ne (fun e => hk e.symm)] at hv2
        exact ha j k v v2 hjk hv hv2
theorem msg_end {w w2 : World} {S : Nat} {own : Nat → Prop} {peers : List Int} {state : Int} {marked : List Bool} {ways : List (List Int)} {P : Option Addr} {cp M Y : Nat} {vs : List Value} {i : Nat} {n : Int} {v' : Value}
    (hS : Blk w S 73 [.slice P peers.length cp, .bool true, .int .i64 state, .slice (some ⟨M, 0, none⟩) peers.length peers.length, .slice (some ⟨Y, 0, none⟩) peers.length peers.length])
    (hP : Reads w (fun b => own b ∧ b ≠ S ∧ b ≠ M ∧ b ≠ Y ∧ ∀ (i : Nat) v, vs[i]? = some v → v.ownBlock ≠ some b) 1 P peers.length (nums peers)) (h8 : peers.length ≤ 8) (hM : Blk w M 4 (flags marked)) (hY : Blk w Y 22 vs) (hml : marked.length = peers.length) (hwl : ways.length = peers.length)
    (oS : own S) (oM : own M) (oY : own Y) (hW : WaysAt w own vs ways) (h200 : ∀ l ∈ ways, l.length ≤ 200) (hi : i < ways.length) (hiv : i < vs.length) (hL : ways[i].length ≠ 200) (hgw : w.grownBy w2 vs[i].ownBlock)
    (hown2 : w2.ownsRow 0 3 1 v' (ways[i].length + 1) (nums ways[i] ++ [.int .i64 n])) (hat : v'.ownBlock = vs[i].ownBlock ∨ ∃ g, v'.ownBlock = some g ∧ w.heap.size ≤ g) :
    MsgPost w S own ⟨peers, true, state, marked, ways.set i (ways[i] ++ [n])⟩ 0 (.returned (.int .i64 0)) (w2.setCell ⟨Y, i, none⟩ v') := by
  have hgi := List.getElem?_eq_getElem hiv
  have hnS := ways_ne hW hS (by decide) i _ hgi
  have hnM := ways_ne hW hM (by decide) i _ hgi
  have hnY := ways_ne hW hY (by decide) i _ hgi
  have hS2 := hS.grown hgw (fun e => hnS e.symm)
  have hM2 := hM.grown hgw (fun e => hnM e.symm)
  have hY2 := hY.grown hgw (fun e => hnY e.symm)
  have hSY : S ≠ Y := hS.ne_ hY (by decide)
  have hMY : M ≠ Y := hM.ne_ hY (by decide)
  have hWn := ways_grow hW hi hiv hgw hown2 hat hY2 hY
  have hrowown : ∀ b, vs[i].ownBlock = some b → own b := (hW.2.1 i _ _ hgi (List.getElem?_eq_getElem hi)).2
  refine ⟨fun b => own b ∨ w.heap.size ≤ b, rfl, ⟨P, cp, M, Y, vs.set i v', hS2.far hSY _, ?_, h8, hM2.far hMY _, hY2.put i v', hml, by simpa using hwl, .inl oS, .inl oM, .inl oY, hWn, ?_⟩, (GrownIn.of_grown hgw hrowown).set oY _, fun b hb => hb⟩
  · have h1 := (hP.imp (D' := fun b => (own b ∧ b ≠ S ∧ b ≠ M ∧ b ≠ Y ∧ ∀ (i : Nat) v, vs[i]? = some v → v.ownBlock ≠ some b) ∧ b < w.heap.size) (by omega) fun b hb hl => ⟨hb, hl⟩).keep (w' := w2.setCell ⟨Y, i, none⟩ v') (fun b hb hl => (Below.heap_setCell w2 ⟨Y, i, none⟩ v' b hb.1.2.2.2.1).trans (hgw.block b hl (fun e => hb.1.2.2.2.2 i _ hgi e.symm)))
    refine h1.imp (by omega) fun b hb _ => ⟨.inl hb.1.1, hb.1.2.1, hb.1.2.2.1, hb.1.2.2.2.1, fun j v hv e => ?_⟩
    by_cases hj : j = i
    · subst hj
      rw [List.getElem?_set_self hiv] at hv
      injection hv with hv
      subst hv
      rcases hat with e2 | ⟨g, e2, hg⟩
      · exact hb.1.2.2.2.2 j _ hgi (e2.symm.trans e)
      · rw [e2] at e
        injection e with e
        omega
    · rw [List.getElem?_set_ne (fun e => hj e.symm)] at hv
      exact hb.1.2.2.2.2 j v hv e
  · intro l hl
    rcases List.mem_or_eq_of_mem_set hl with h | rfl
    · exact h200 l h
    · have := h200 _ (List.getElem_mem hi)
      simp
      omega

/-- append of ints in a region that draws its order -/
theorem step_app_int (w : World) {ops : Array Oper} {o : Oper} {a : Act} {K : Act → World → Prop} {Q : Exit → Act → World → Prop} {E : Prop} (hgd : o.guard = none) (s x : Operand)
    (ho : o.op = .call { callee := .builtin .append, args := #[s, x], argTypes := #[22, 22] })
    {base : Nat} {v : Value} {n : Nat} {xs : List Value} (hown : w.ownsRow base 3 1 v n xs) (hs : a.eval s = v)
    {D : Nat → Prop} {A : Option Addr} {m : Nat} {news : List Value} (hr : Reads w D 1 A m news) {c : Nat} (hx : a.eval x = .slice A m c) (h1 : ∀ u ∈ news, u.oneCell' = true)
    (h63 : n + m ≤ 8796093022208) (hbase : base ≤ w.heap.size)
    (h : ∀ v' w', w'.ownsRow base 3 1 v' (n + m) (xs ++ news) → w.grownBy w' v.ownBlock → (v'.ownBlock = v.ownBlock ∨ v'.ownBlock = some w.heap.size) → K (a.put o.dst v') w') :
    if Region.wanted o (yielded ops a.tmps) = true then Oper.wp Try.prog o a w K Q else E := by
  obtain ⟨i0, hi0, hz0, hz1, hz2⟩ := info_parts info_int
  exact step_append_any w hgd s x _ ho base _ i0 _ 1 8 Try.underlying22 hi0 hz0 hz1 hz2 rfl (by omega) v n xs hs hown D A m c news hx hr h1 (by simp only [maxLen]; omega) (by omega) hbase h

set_option maxRecDepth 100000 in
set_option maxHeartbeats 1000000 in
theorem message_any (w : World) (S : Nat) (own : Nat → Prop) (x : Sd) (from_ n : Int) (i : Nat) (h : Side w S own x) (hi : x.peers[i]? = some from_) (hf : ∀ j : Nat, j < i → x.peers[j]? ≠ some from_) :
    Calls Try.prog 11 #[.pointer (some ⟨S, 0, none⟩), .int .i64 from_, .int .i64 n] w (MsgPost w S own (msgF x i n).1 (msgF x i n).2) := by
  have Hside := Lib.hid h
  obtain ⟨P, cp, M, Y, vs, hS, hP, h8, hM, hY, hml, hwl, oS, oM, oY, hW, h200⟩ := h
  obtain ⟨peers, st, state, marked, ways⟩ := x
  simp only at hS hP h8 hM hY hml hwl hW hi hf h200 ⊢
  have hin : i < peers.length := (List.getElem?_eq_some_iff.1 hi).1
  have s0 := hS.cell 0
  have s1 := hS.cell 1
  have s3 := hS.cell 3
  have s4 := hS.cell 4
  simp only [List.getElem?_cons_succ, List.getElem?_cons_zero] at s0 s1 s3 s4
  have lS := hS.lt
  have him : i < marked.length := by omega
  have hiw : i < ways.length := by omega
  have hiv : i < vs.length := by rw [hW.1]; exact hiw
  have cM : w.cell? ⟨M, i, none⟩ = some (.bool marked[i]) := by rw [hM.cell, flags_at marked i him]
  have cY : w.cell? ⟨Y, i, none⟩ = some vs[i] := by rw [hY.cell]; exact List.getElem?_eq_getElem hiv
  have fY := hY.frozen i
  have lM := hM.lt
  have lY := hY.lt
  obtain ⟨hrow, hrown⟩ := hW.2.1 i vs[i] ways[i] (List.getElem?_eq_getElem hiv) (List.getElem?_eq_getElem hiw)
  have h200i : ways[i].length ≤ 200 := h200 _ (List.getElem_mem hiw)
  have IX := Lib.hid (index_ints P peers.length cp peers from_ _ w hP (by omega))
  have Hf := Lib.hid hf
  have Hi := Lib.hid hi
  have Hmi := Lib.hid (List.getElem?_eq_getElem him)
  have Hwi := Lib.hid (List.getElem?_eq_getElem hiw)
  generalize hmk : marked[i] = mk at cM Hmi
  obtain ⟨Ai, ci, hvi, hci⟩ := own_form hrow
  clear hmk hf hi
  go_enter Try.func11, Try.ntmps11
  go_wp2_with (fail)
  refine IX.out.mono ?_
  rintro e w' ⟨r, rfl, hix, rfl⟩
  obtain rfl := hix.at_ Hi.out Hf.out
  clear hix IX Hf Hi
  rw [hvi] at cY hrow hrown
  generalize hL : ways[i].length = L at cY hrow h200i hci
  have HL := Lib.hid hL
  clear hL
  have Hvi := Lib.hid hvi
  clear hvi
  cases st with
  | false =>
    have e : msgF ⟨peers, false, state, marked, ways⟩ i n = (⟨peers, false, state, marked, ways⟩, 0) := by simp [msgF]
    have He := Lib.hid e
    clear e
    go_wp2_with (fail)
    go_ret
    rw [He.out]
    exact MsgPost.same 0 Hside.out
  | true =>
    cases mk with
    | true =>
      have e : msgF ⟨peers, true, state, marked, ways⟩ i n = (⟨peers, true, state, marked, ways⟩, 0) := by simp [msgF, Hmi.out]
      have He := Lib.hid e
      clear e
      go_wp2_with (fail)
      go_ret
      rw [He.out]
      exact MsgPost.same 0 Hside.out
    | false =>
      by_cases hL2 : L = 200
      · have e : msgF ⟨peers, true, state, marked, ways⟩ i n = (⟨peers, true, state, marked, ways⟩, 6) := by simp [msgF, Hmi.out, Hwi.out, HL.out, hL2]
        have He := Lib.hid e
        clear e
        have hd : ((L : Int) == 200) = true := by simp; omega
        go_wp2_with (fail)
        go_ret
        rw [He.out]
        exact MsgPost.same 6 Hside.out
      · have e : msgF ⟨peers, true, state, marked, ways⟩ i n = (⟨peers, true, state, marked, ways.set i (ways[i] ++ [n])⟩, 0) := by simp [msgF, Hmi.out, Hwi.out, HL.out, hL2]
        have He := Lib.hid e
        clear e
        have hd : ((L : Int) == 200) = false := by simp; omega
        go_wp2_with (fail)
        have sa : (w.alloc (.cells #[.int .i64 n] 3)).cell? ⟨S, 4, none⟩ = some (.slice (some ⟨Y, 0, none⟩) peers.length peers.length) := (hS.alloc _).cell 4
        have ya : (w.alloc (.cells #[.int .i64 n] 3)).cell? ⟨Y, i, none⟩ = some (.slice Ai L ci) := by rw [(hY.alloc _).cell, ← hY.cell]; exact cY
        have hneY : (Value.slice Ai L ci).ownBlock ≠ some Y := by rw [← HL.out, ← Hvi.out]; exact ways_ne hW hY (by decide) i _ (List.getElem?_eq_getElem hiv)
        have hneS : (Value.slice Ai L ci).ownBlock ≠ some S := by rw [← HL.out, ← Hvi.out]; exact ways_ne hW hS (by decide) i _ (List.getElem?_eq_getElem hiv)
        have HneY := Lib.hid hneY
        have HneS := Lib.hid hneS
        have HY := Lib.hid hY
        have HS := Lib.hid hS
        have Hrow := Lib.hid hrow
        clear hneY hneS hY hS hrow
        go_region_law (first
          | (refine step_app_int _ rfl (.tmp 53) (.tmp 55) (by rfl) (by exact Hrow.out.alloc (.cells #[.int .i64 n] 3)) rfl (by exact Reads.new (D := Any) w [.int .i64 n] 1 1 3 trivial rfl) rfl (by simp [Value.oneCell']) (by omega) (by simp) ?_; intro v2 w2 hown2 hg2 hat2; obtain ⟨A2, c2, rfl, _⟩ := own_form hown2; have hY2 : Blk w2 Y 22 vs := Blk.grown (by exact HY.out.alloc (.cells #[.int .i64 n] 3)) hg2 (fun e => HneY.out e.symm); have hS2 : Blk w2 S 73 [.slice P peers.length cp, .bool true, .int .i64 state, .slice (some ⟨M, 0, none⟩) peers.length peers.length, .slice (some ⟨Y, 0, none⟩) peers.length peers.length] := Blk.grown (by exact HS.out.alloc (.cells #[.int .i64 n] 3)) hg2 (fun e => HneS.out e.symm); have s42 := hS2.cell 4; have fY2 := hY2.frozen i; have lY2 := hY2.lt; have yz2 : w2.cell? ⟨Y, i, none⟩ = some (.slice Ai L ci) := by (rw [hY2.cell, ← HY.out.cell]; exact cY)))
        all_goals go_wp2_with (fail)
        all_goals go_ret
        all_goals rw [He.out]
        all_goals exact msg_end HS.out hP h8 hM HY.out hml hwl oS oM oY hW h200 hiw hiv (by rw [HL.out]; exact hL2) (by rw [Hvi.out, HL.out]; exact grown_of_allocd hg2) (by rw [HL.out]; exact hown2) (by rw [Hvi.out, HL.out]; exact hat2.elim Or.inl fun e => Or.inr ⟨_, e, by simp⟩)
end Go.Proofs.Ytpnhmplinkakbaa
