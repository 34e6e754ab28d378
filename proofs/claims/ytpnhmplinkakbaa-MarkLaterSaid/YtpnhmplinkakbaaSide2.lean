/- Contracts of a side's methods Begin, Marker, Tell. -/
import Derived.Test.YtpnhmplinkakbaaSide
set_option linter.unusedVariables false
namespace Go.Mem
open Go.RowKit
/-- One cell that holds a slice of ints. -/
def NumsV (w : World) (D : Nat → Prop) (v : Value) (l : List Int) : Prop := ∃ A n c, v = .slice A n c ∧ n ≤ c ∧ c ≤ maxLen ∧ Reads w D 1 A n (nums l)
theorem NumsV.keep {w w' : World} {D : Nat → Prop} {v : Value} {l : List Int} (h : NumsV w D v l) (hk : Same D w w') : NumsV w' D v l := by
  obtain ⟨A, n, c, e, h1, h2, hr⟩ := h
  exact ⟨A, n, c, e, h1, h2, hr.keep hk⟩
theorem NumsV.imp {w : World} {D D' : Nat → Prop} {v : Value} {l : List Int} (h : NumsV w D v l) (hk : ∀ b, D b → b < w.heap.size → D' b) : NumsV w D' v l := by
  obtain ⟨A, n, c, e, h1, h2, hr⟩ := h
  exact ⟨A, n, c, e, h1, h2, hr.imp (by omega) hk⟩
def NumsCell (w : World) (D : Nat → Prop) (cs : List Value) (l : List Int) : Prop := ∃ v, cs = [v] ∧ NumsV w D v l
theorem NumsCell.stable : Stable 1 NumsCell where
  keep := fun ⟨v, e, h⟩ hk => ⟨v, e, h.keep hk⟩
  imp := fun ⟨v, e, h⟩ hk => ⟨v, e, h.imp hk⟩
  len := fun ⟨v, e, _⟩ => by simp [e]
  one := fun ⟨v, e, _, _, _, h, _⟩ u hu => by subst e; simp at hu; subst hu h; rfl
end Go.Mem
namespace Go.Proofs.Ytpnhmplinkakbaa
open Go.RowKit Go.Mem
theorem own_keep {w w' : World} {base : Nat} {e : TypeId} {size n : Nat} {v : Value} {xs : List Value} (h : w.ownsRow base e size v n xs) (hk : ∀ b, v.ownBlock = some b → w'.heap[b]? = w.heap[b]?) : w'.ownsRow base e size v n xs := by
  refine ⟨h.1, ?_⟩
  rcases h.2 with hn | ⟨g, cap, cur, rfl, hb, hg, rest⟩
  · exact .inl hn
  · exact .inr ⟨g, cap, cur, rfl, hb, (hk g rfl).trans hg, rest⟩
theorem WaysAt.keep {w w' : World} {own : Nat → Prop} {vs : List Value} {ls : List (List Int)} (h : WaysAt w own vs ls) (hk : ∀ (i : Nat) v b, vs[i]? = some v → v.ownBlock = some b → w'.heap[b]? = w.heap[b]?) : WaysAt w' own vs ls :=
  ⟨h.1, fun i v l hv hl => ⟨own_keep (h.2.1 i v l hv hl).1 fun b hb => hk i v b hv hb, (h.2.1 i v l hv hl).2⟩, h.2.2⟩
/-- a side's own cells have changed -/
theorem Side.turn {w : World} {S : Nat} {own : Nat → Prop} {peers : List Int} {st : Bool} {state : Int} {marked : List Bool} {ways : List (List Int)} (h : Side w S own ⟨peers, st, state, marked, ways⟩) (st' : Bool) (state' : Int) :
    Side ((w.setCell ⟨S, 1, none⟩ (.bool st')).setCell ⟨S, 2, none⟩ (.int .i64 state')) S own ⟨peers, st', state', marked, ways⟩ := by
  obtain ⟨P, cp, M, Y, vs, hS, hP, h8, hM, hY, hml, hwl, oS, oM, oY, hW, h200⟩ := h
  have hk : ∀ b, b ≠ S → ((w.setCell ⟨S, 1, none⟩ (.bool st')).setCell ⟨S, 2, none⟩ (.int .i64 state')).heap[b]? = w.heap[b]? := fun b hb => (Below.heap_setCell _ ⟨S, 2, none⟩ _ b hb).trans (Below.heap_setCell w ⟨S, 1, none⟩ _ b hb)
  exact ⟨P, cp, M, Y, vs, (hS.put 1 _).put 2 _, hP.keep fun b hb _ => hk b hb.2.1, h8, (hk M (hM.ne_ hS (by decide))).trans hM, (hk Y (hY.ne_ hS (by decide))).trans hY, hml, hwl, oS, oM, oY, hW.keep fun i v b hv hb => hk b (fun e => ways_ne hW hS (by decide) i v hv (e ▸ hb)), h200⟩
/-- a mark is set -/
theorem Side.mark {w : World} {S : Nat} {own : Nat → Prop} {peers : List Int} {st : Bool} {state : Int} {marked : List Bool} {ways : List (List Int)} {P : Option Addr} {cp M Y : Nat} (i : Nat)
    (h : Side w S own ⟨peers, st, state, marked, ways⟩) (hS' : Blk w S 73 [.slice P peers.length cp, .bool st, .int .i64 state, .slice (some ⟨M, 0, none⟩) peers.length peers.length, .slice (some ⟨Y, 0, none⟩) peers.length peers.length]) :
    Side (w.setCell ⟨M, i, none⟩ (.bool true)) S own ⟨peers, st, state, marked.set i true, ways⟩ := by
  obtain ⟨P', cp', M', Y', vs, hS, hP, h8, hM, hY, hml, hwl, oS, oM, oY, hW, h200⟩ := h
  unfold Blk at hS hS'
  rw [hS] at hS'
  simp at hS'
  obtain ⟨⟨rfl, rfl⟩, rfl, rfl⟩ := hS'
  have hk : ∀ b, b ≠ M' → (w.setCell ⟨M', i, none⟩ (.bool true)).heap[b]? = w.heap[b]? := fun b hb => Below.heap_setCell w ⟨M', i, none⟩ _ b hb
  have hfl : (flags marked).set i (.bool true) = flags (marked.set i true) := by simp [flags, List.map_set]
  exact ⟨P', cp', M', Y', vs, (hk S (Blk.ne_ hS hM (by decide))).trans hS, hP.keep fun b hb _ => hk b hb.2.2.1, h8, by rw [← hfl]; exact hM.put i _, (hk Y' (hY.ne_ hM (by decide))).trans hY, by simpa using hml, hwl, oS, oM, oY, hW.keep fun j v b hv hb => hk b (fun e => ways_ne hW hM (by decide) j v hv (e ▸ hb)), h200⟩

def beginF (x : Sd) (st : Int) : Sd × Int := if x.started then (x, 8) else ({ x with started := true, state := st }, 0)
set_option maxRecDepth 100000 in
theorem begin_any (w : World) (S : Nat) (own : Nat → Prop) (x : Sd) (st : Int) (h : Side w S own x) :
    Calls Try.prog 30 #[.pointer (some ⟨S, 0, none⟩), .int .i64 st] w (MsgPost w S own (beginF x st).1 (beginF x st).2) := by
  obtain ⟨peers, stt, state, marked, ways⟩ := x
  have Hside := Lib.hid h
  obtain ⟨P, cp, M, Y, vs, hS, hP, h8, hM, hY, hml, hwl, oS, oM, oY, hW, h200⟩ := h
  have s1 := hS.cell 1
  have s2 := hS.cell 2
  simp only [List.getElem?_cons_succ, List.getElem?_cons_zero] at s1 s2
  have f1 := hS.frozen 1
  have f2 := hS.frozen 2
  have lS := hS.lt
  clear hS hP hM hY hW h200
  cases stt with
  | true =>
    go_enter Try.func30, Try.ntmps30
    go_wp2_with (fail)
    go_ret
    exact MsgPost.same 8 Hside.out
  | false =>
    have hfin : MsgPost w S own (beginF ⟨peers, false, state, marked, ways⟩ st).1 (beginF ⟨peers, false, state, marked, ways⟩ st).2 (.returned (.int .i64 0)) ((w.setCell ⟨S, 1, none⟩ (.bool true)).setCell ⟨S, 2, none⟩ (.int .i64 st)) :=
      ⟨own, rfl, Hside.out.turn true st, ((GrownIn.refl own w).set oS _).set oS _, fun _ hb => .inl hb⟩
    have Hfin := Lib.hid hfin
    clear hfin
    go_enter Try.func30, Try.ntmps30
    go_wp2_with (fail)
    go_ret
    exact Hfin.out

/-- what Marker does: the side, does it start, the error -/
def markF (x : Sd) (i : Nat) (st : Int) : Sd × Bool × Int :=
  if x.marked[i]? = some true then (x, false, 5) else ((beginF { x with marked := x.marked.set i true } st).1, !x.started, 0)
def MarkPost (w : World) (S : Nat) (own : Nat → Prop) (x' : Sd) (b : Bool) (r : Int) (e : Ending) (w' : World) : Prop :=
  ∃ own', e = .returned (.tuple #[.bool b, .int .i64 r]) ∧ Side w' S own' x' ∧ GrownIn own w w' ∧ (∀ b, own' b → own b ∨ w.heap.size ≤ b)
set_option maxRecDepth 100000 in
set_option maxHeartbeats 400000 in
theorem marker_any (w : World) (S : Nat) (own : Nat → Prop) (x : Sd) (from_ st : Int) (i : Nat) (h : Side w S own x) (hi : x.peers[i]? = some from_) (hf : ∀ j : Nat, j < i → x.peers[j]? ≠ some from_) :
    Calls Try.prog 12 #[.pointer (some ⟨S, 0, none⟩), .int .i64 from_, .int .i64 st] w (MarkPost w S own (markF x i st).1 (markF x i st).2.1 (markF x i st).2.2) := by
  have Hside := Lib.hid h
  obtain ⟨P, cp, M, Y, vs, hS, hP, h8, hM, hY, hml, hwl, oS, oM, oY, hW, h200⟩ := h
  obtain ⟨peers, stt, state, marked, ways⟩ := x
  simp only at hS hP h8 hM hY hml hwl hW hi hf h200 Hside ⊢
  have hin : i < peers.length := (List.getElem?_eq_some_iff.1 hi).1
  have s0 := hS.cell 0
  have s3 := hS.cell 3
  simp only [List.getElem?_cons_succ, List.getElem?_cons_zero] at s0 s3
  have lS := hS.lt
  have him : i < marked.length := by omega
  have cM : w.cell? ⟨M, i, none⟩ = some (.bool marked[i]) := by rw [hM.cell, flags_at marked i him]
  have fM := hM.frozen i
  have lM := hM.lt
  have IX := Lib.hid (index_ints P peers.length cp peers from_ _ w hP (by omega))
  have Hf := Lib.hid hf
  have Hi := Lib.hid hi
  have Hmi := Lib.hid (List.getElem?_eq_getElem him)
  generalize marked[i] = mk at cM Hmi
  have HSb := Lib.hid hS
  clear hf hi hS hP hM hY hW h200
  go_enter Try.func12, Try.ntmps12
  go_wp2_with (fail)
  refine IX.out.mono ?_
  rintro e w' ⟨r, rfl, hix, rfl⟩
  obtain rfl := hix.at_ Hi.out Hf.out
  clear hix IX Hf Hi
  cases mk with
  | true =>
    have e : markF ⟨peers, stt, state, marked, ways⟩ i st = (⟨peers, stt, state, marked, ways⟩, false, 5) := by simp [markF, Hmi.out]
    have He := Lib.hid e
    clear e
    go_wp2_with (fail)
    go_ret2
    rw [He.out]
    exact ⟨own, rfl, Hside.out, GrownIn.refl _ _, fun _ hb => .inl hb⟩
  | false =>
    have e : markF ⟨peers, stt, state, marked, ways⟩ i st = ((beginF ⟨peers, stt, state, marked.set i true, ways⟩ st).1, !stt, 0) := by simp [markF, Hmi.out]
    have He := Lib.hid e
    have BG := Lib.hid (begin_any (w.setCell ⟨M, i, none⟩ (.bool true)) S own ⟨peers, stt, state, marked.set i true, ways⟩ st (Hside.out.mark i HSb.out))
    have hGm := (GrownIn.refl own w).set (p := ⟨M, i, none⟩) oM (.bool true)
    have hb2 : (beginF ⟨peers, stt, state, marked.set i true, ways⟩ st).2 = if stt then 8 else 0 := by cases stt <;> rfl
    generalize hx' : beginF ⟨peers, stt, state, marked.set i true, ways⟩ st = X at BG hb2 He
    have Hb2 := Lib.hid hb2
    clear e hb2 hx'
    go_wp2_with (fail)
    refine BG.out.mono ?_
    rintro e w2 ⟨own', rfl, hs2, hg2, ho2⟩
    rw [Hb2.out]
    cases stt with
    | true =>
      go_wp2_with (fail)
      go_ret2
      rw [He.out]
      exact ⟨own', rfl, hs2, hGm.trans hg2 (fun b hb => .inl hb), fun b hb => by have := ho2 b hb; simpa [World.setCell] using this⟩
    | false =>
      go_wp2_with (fail)
      go_ret2
      rw [He.out]
      exact ⟨own', rfl, hs2, hGm.trans hg2 (fun b hb => .inl hb), fun b hb => by have := ho2 b hb; simpa [World.setCell] using this⟩
end Go.Proofs.Ytpnhmplinkakbaa
