/- What LockTurned builds and keeps: two selections, a map of versions; slices.Equal at turns. -/
import Derived.Test.YtijniccmgjokoaaLkTurn
set_option linter.unusedVariables false
namespace Go.Sv
open Go.Mem Go.RowKit
/-- a map of versions -/
def OutAt (L : List (Nm × Value)) (f : Nm → Nat) : Prop := ∀ n, (mget L n).getD (.int .i64 0) = .int .i64 (f n : Nat)
theorem OutAt.nil : OutAt [] (fun _ => 0) := fun n => rfl
theorem OutAt.put {L : List (Nm × Value)} {f : Nm → Nat} (h : OutAt L f) (k : Nm) (v : Nat) : OutAt (mput L k (.int .i64 (v : Nat))) (fun n => if n = k then v else f n) := by
  intro n
  rw [mget_put]
  simp only
  split
  · rfl
  · exact h n
theorem OutAt.del {L : List (Nm × Value)} {f : Nm → Nat} (h : OutAt L f) (k : Nm) : OutAt (mdel L k) (fun n => if n = k then 0 else f n) := by
  intro n
  rw [mget_del]
  simp only
  split
  · rfl
  · exact h n
theorem OutAt.congr {L : List (Nm × Value)} {f g : Nm → Nat} (h : OutAt L f) (e : ∀ n, f n = g n) : OutAt L g := fun n => by rw [h n, e n]
theorem OutAt.zero {L : List (Nm × Value)} {f : Nm → Nat} (h : OutAt L f) (hf : ∀ n, f n = 0) (hn : (L.map (·.1)).Nodup) {n : Nm} {v : Value} (hm : (n, v) ∈ L) : v = .int .i64 0 := by
  have h1 := h n
  rw [mget_at hn hm, hf n] at h1
  exact h1
/-- with some turns done -/
def turnF (a b : List Pk) (ts : List Tr) (n : Nm) : Nat := if n ∈ ts.map (·.1) then vOf b n else vOf a n
theorem turnF_snoc {a b : List Pk} {ts : List Tr} {t : Tr} (ht : t.2.2 = vOf b t.1) (n : Nm) : (if n = t.1 then t.2.2 else turnF a b ts n) = turnF a b (ts ++ [t]) n := by
  unfold turnF
  rw [List.map_append, List.map_singleton]
  by_cases e : n = t.1
  · rw [if_pos e, if_pos (by simp [e]), ht, e]
  · rw [if_neg e]
    by_cases h : n ∈ ts.map (·.1)
    · rw [if_pos h, if_pos (List.mem_append_left _ h)]
    · rw [if_neg h, if_neg (by rw [List.mem_append, List.mem_singleton]; exact fun h9 => h9.elim h e)]
theorem turnF_old {a b : List Pk} {ts : List Tr} {n : Nm} (h : n ∉ ts.map (·.1)) : turnF a b ts n = vOf a n := if_neg h
theorem turnF_all {a b : List Pk} {ts : List Tr} (h : TurnsOk a b ts) (n : Nm) : turnF a b ts n = vOf b n := by
  unfold turnF
  split
  · rfl
  · rename_i hn
    exact h.rest hn
/-- with some names taken out -/
def goneF (b : List Pk) (k : List Pk) (n : Nm) : Nat := if n ∈ k.map (·.1) then 0 else vOf b n
theorem goneF_snoc {b k : List Pk} {p : Pk} (n : Nm) : (if n = p.1 then 0 else goneF b k n) = goneF b (k ++ [p]) n := by
  unfold goneF
  rw [List.map_append, List.map_singleton]
  by_cases e : n = p.1
  · rw [if_pos e, if_pos (by simp [e])]
  · rw [if_neg e]
    by_cases h : n ∈ k.map (·.1)
    · rw [if_pos h, if_pos (List.mem_append_left _ h)]
    · rw [if_neg h, if_neg (by rw [List.mem_append, List.mem_singleton]; exact fun h9 => h9.elim h e)]
theorem goneF_all (b : List Pk) (n : Nm) : goneF b b n = 0 := by
  unfold goneF
  split
  · rfl
  · rename_i h
    exact vOf_none fun q hq e => h (List.mem_map.2 ⟨q, hq, e⟩)
theorem not_mem_take {α : Type} {l : List α} {f : α → Nm} (hn : (l.map f).Nodup) {j : Nat} (hj : j < l.length) : f l[j] ∉ (l.take j).map f := by
  intro h
  obtain ⟨q, hq, e⟩ := List.mem_map.1 h
  obtain ⟨i, hi, rfl⟩ := List.mem_iff_getElem.1 hq
  rw [List.getElem_take] at e
  have hij : i < j := by have := hi; simp at this; omega
  have h2 := List.pairwise_iff_getElem.1 hn i j (by simp; omega) (by simp; omega) hij
  simp only [List.getElem_map] at h2
  exact h2 e
/-- a selection of the first letters -/
structure Sel (i : Nat) (a : List Pk) : Prop where
  ln : a.length ≤ i
  nm : ∀ p ∈ a, ∃ k, k < i ∧ p.1 = [Go.Proofs.Ytijniccmgjokoaa.chr k]
  vr : ∀ p ∈ a, 1 ≤ p.2 ∧ p.2 ≤ 4
  asc : Asc a
theorem Sel.nil : Sel 0 [] := ⟨by simp, by simp, by simp, fun i h => absurd h (by simp)⟩
theorem Sel.wide {i : Nat} {a : List Pk} (h : Sel i a) : Sel (i + 1) a := ⟨by have := h.ln; omega, fun p hp => by obtain ⟨k, h1, h2⟩ := h.nm p hp; exact ⟨k, by omega, h2⟩, h.vr, h.asc⟩
theorem chr_lt {i j : Nat} (h : i < j) (hj : j < 100) : ([Go.Proofs.Ytijniccmgjokoaa.chr i] : Nm) < [Go.Proofs.Ytijniccmgjokoaa.chr j] := by
  rw [lt_one]
  show (Go.Proofs.Ytijniccmgjokoaa.chr i).toNat < (Go.Proofs.Ytijniccmgjokoaa.chr j).toNat
  have h1 := Go.Proofs.Ytijniccmgjokoaa.chr_val i (by omega)
  have h2 := Go.Proofs.Ytijniccmgjokoaa.chr_val j (by omega)
  omega
theorem Sel.snoc {i : Nat} {a : List Pk} (h : Sel i a) (hi : i < 8) {v : Nat} (hv : 1 ≤ v ∧ v ≤ 4) : Sel (i + 1) (a ++ [([Go.Proofs.Ytijniccmgjokoaa.chr i], v)]) := by
  refine ⟨by rw [List.length_append, List.length_singleton]; have := h.ln; omega, fun p hp => ?_, fun p hp => ?_, fun k hk => ?_⟩
  · rcases List.mem_append.1 hp with hp | hp
    · obtain ⟨k, h1, h2⟩ := h.nm p hp
      exact ⟨k, by omega, h2⟩
    · rw [List.mem_singleton] at hp
      subst hp
      exact ⟨i, by omega, rfl⟩
  · rcases List.mem_append.1 hp with hp | hp
    · exact h.vr p hp
    · rw [List.mem_singleton] at hp
      subst hp
      exact hv
  · rw [List.length_append, List.length_singleton] at hk
    by_cases e : k + 1 < a.length
    · rw [List.getElem_append_left (by omega), List.getElem_append_left e]
      exact h.asc k e
    · have ek : k + 1 = a.length := by omega
      rw [List.getElem_append_left (by omega), List.getElem_append_right (by omega)]
      simp only [ek, Nat.sub_self, List.getElem_singleton]
      obtain ⟨q, h1, h2⟩ := h.nm a[k] (List.getElem_mem (by omega))
      rw [h2]
      exact chr_lt h1 (by omega)
theorem Sel.ok {a : List Pk} (h : Sel 8 a) : PkOk a := by
  refine ⟨by have := h.ln; omega, fun p hp => ?_, fun p hp => by have := h.vr p hp; omega, h.asc⟩
  obtain ⟨k, h1, h2⟩ := h.nm p hp
  have h3 := Go.Proofs.Ytijniccmgjokoaa.chr_val k (by omega)
  exact ⟨_, h2, by omega, by omega⟩
theorem Asc.nd {a : List Pk} (h : Asc a) : (a.map (·.1)).Nodup := by
  rw [List.nodup_iff_pairwise_ne, List.pairwise_iff_getElem]
  intro i j hi hj hij e
  simp only [List.getElem_map] at e
  have := Go.Proofs.Ytijniccmgjokoaa.asc_apart h i j (by simpa using hi) (by simpa using hj) hij
  rw [e] at this
  exact List.lt_irrefl _ this
theorem vOf_mem {b : List Pk} (h : Asc b) {p : Pk} (hp : p ∈ b) : vOf b p.1 = p.2 := by
  unfold vOf
  rw [Go.Proofs.Ytijniccmgjokoaa.pk_find h.nd hp]
  rfl
end Go.Sv
namespace Go.Proofs.Ytijniccmgjokoaa
open Go.RowKit Go.Mem Go.Sv Go.Maps
/-- two selections in two rows of the call's own -/
structure TwoAt (w wr : World) (A : Option Addr) (c : Nat) (a : List Pk) (B : Option Addr) (d : Nat) (b : List Pk) (i j : Nat) : Prop where
  oa : wr.ownsRow w.heap.size 27 2 (.slice A a.length c) a.length (pks a)
  ob : wr.ownsRow w.heap.size 27 2 (.slice B b.length d) b.length (pks b)
  ap : ∀ k, (Value.slice A a.length c).ownBlock = some k → (Value.slice B b.length d).ownBlock ≠ some k
  be : Below w.heap.size w wr
  sa : Sel i a
  sb : Sel j b
section
variable {w wr W w5 : World} {A B : Option Addr} {c d i j : Nat} {a b : List Pk}
theorem TwoAt.nil : TwoAt w w none 0 [] none 0 [] 0 0 := ⟨World.ownsRow_nil _ _ _ _, World.ownsRow_nil _ _ _ _, fun k hk => (by simp [Value.ownBlock] at hk), Below.refl _ _, Sel.nil, Sel.nil⟩
theorem TwoAt.alloc (h : TwoAt w wr A c a B d b i j) (o : Obj) : TwoAt w (wr.alloc o) A c a B d b i j := ⟨h.oa.alloc o, h.ob.alloc o, h.ap, h.be.alloc h.be.size o, h.sa, h.sb⟩
theorem ownBlock_slice (A : Option Addr) (n m c d : Nat) : (Value.slice A n c).ownBlock = (Value.slice A m d).ownBlock := by cases A <;> rfl
theorem TwoAt.appA (h : TwoAt w W A c a B d b i j) (hi : i < 8) {v : Nat} (hv : 1 ≤ v ∧ v ≤ 4) {A' : Option Addr} {c' : Nat} (hown : w5.ownsRow w.heap.size 27 2 (.slice A' (a.length + 1) c') (a.length + 1) (pks a ++ pkc ([chr i], v))) (hg : W.grownBy w5 (Value.slice A a.length c).ownBlock) (hat : (Value.slice A' (a.length + 1) c').ownBlock = (Value.slice A a.length c).ownBlock ∨ (Value.slice A' (a.length + 1) c').ownBlock = some W.heap.size) :
    TwoAt w w5 A' c' (a ++ [([chr i], v)]) B d b (i + 1) j := by
  refine ⟨?_, h.ob.kept hg ?_, ?_, h.be.grown hg h.be.size (fun k hk => (h.oa.lt k hk).1), h.sa.snoc hi hv, h.sb⟩
  · rw [List.length_append, List.length_singleton, pks_append, pks_one]
    exact hown
  · rcases hB : (Value.slice B b.length d).ownBlock with _ | k
    · exact .inl rfl
    · refine .inr fun e => h.ap k e.symm hB
  · intro k hk hk2
    rw [ownBlock_slice A' _ (a.length + 1) c' c'] at hk
    rcases hat with e | e
    · rw [e] at hk
      exact h.ap k hk hk2
    · rw [e] at hk
      injection hk with hk
      have := (h.ob.lt k hk2).2
      omega
theorem TwoAt.swap (h : TwoAt w wr A c a B d b i j) : TwoAt w wr B d b A c a j i := ⟨h.ob, h.oa, fun k h1 h2 => h.ap k h2 h1, h.be, h.sb, h.sa⟩
theorem TwoAt.wideA (h : TwoAt w wr A c a B d b i j) : TwoAt w wr A c a B d b (i + 1) j := ⟨h.oa, h.ob, h.ap, h.be, h.sa.wide, h.sb⟩
end
theorem equalIn_turn (x : Nm) (o v : Nat) (W : World) : (Op.equalIn 10000 34 (.agg #[str x, .int .i64 (o : Nat), .int .i64 (v : Nat)]) (.agg #[str x, .int .i64 (o : Nat), .int .i64 (v : Nat)])).run Try.prog W = .ok true W := by
  have hu : Try.prog.underlying 34 = some (.struct (Try.prog.fieldsOf 34)) := by kernel_rfl
  have hp : Try.prog.stoodInHeld 34 = false := by kernel_rfl
  have e2 := run_equalIn_agg (P := Try.prog) W 9999 34 #[str x, .int .i64 (o : Nat), .int .i64 (v : Nat)] #[str x, .int .i64 (o : Nat), .int .i64 (v : Nat)] hu hp
  have hf : (Try.prog.fieldsOf 34).toList = [⟨"Name", 9, 0, false, "", "", 0⟩, ⟨"Old", 3, 1, false, "", "", 16⟩, ⟨"New", 3, 2, false, "", "", 24⟩] := by kernel_rfl
  rw [hf] at e2
  refine e2.trans ?_
  have hi := Try.underlying3
  have hs := Try.underlying9
  have p0 : (part 9 #[str x, .int .i64 (o : Nat), .int .i64 (v : Nat)] 0).run Try.prog W = .ok (str x) W := by
    unfold part
    simp [isAgg, run_underlying hs]
  have p1 : (part 3 #[str x, .int .i64 (o : Nat), .int .i64 (v : Nat)] 1).run Try.prog W = .ok (.int .i64 (o : Nat)) W := by
    unfold part
    simp [isAgg, run_underlying hi]
  have p2 : (part 3 #[str x, .int .i64 (o : Nat), .int .i64 (v : Nat)] 2).run Try.prog W = .ok (.int .i64 (v : Nat)) W := by
    unfold part
    simp [isAgg, run_underlying hi]
  have q0 : (Op.equalIn 9999 9 (str x) (str x)).run Try.prog W = .ok true W := by
    have := run_equalIn_string (P := Try.prog) W 9998 9 ⟨x.toArray⟩ ⟨x.toArray⟩ hs
    simpa using this
  have q1 : ∀ x : Int, (Op.equalIn 9999 3 (.int .i64 x) (.int .i64 x)).run Try.prog W = .ok true W := fun x => by
    have := run_equalIn_int (P := Try.prog) W 9998 3 .i64 .i64 x x hi
    simpa using this
  simp [Op.eqFields, p0, p1, p2, q0, q1, Result.andThen]
theorem neq_turn (x : Nm) (o v : Nat) (W : World) : (binOp .neq 34 (.agg #[str x, .int .i64 (o : Nat), .int .i64 (v : Nat)]) (.agg #[str x, .int .i64 (o : Nat), .int .i64 (v : Nat)])).run Try.prog W = .ok (.bool false) W := by
  rw [run_neq_struct, equalIn_turn]
  rfl
set_option maxRecDepth 100000 in
set_option maxHeartbeats 1000000 in
theorem equal_trs (A B : Option Addr) (n c d : Nat) (l : List Tr) (w : World) (hr : Reads w Any 3 A n (trs l)) (hs : Reads w Any 3 B n (trs l)) (hn : n ≤ 1099511627776) (hnl : n = l.length) :
    Calls Try.prog 11 #[.slice A n c, .slice B n d] w fun e w' => e = .returned (.bool true) ∧ Below w.heap.size w w' := by
  have Hnl := Lib.hid hnl
  clear hnl
  have ng := neq_turn
  go_enter Try.func11, Try.ntmps11
  go_wp2_with (fail)
  go_loopw [13] (fun v wr => ∃ j : Nat, j ≤ n ∧ v = .int .i64 j ∧ Below w.heap.size w wr) (fun v _ => n - (intOf v).toNat)
  case atStart => exact ⟨0, Nat.zero_le _, rfl, Below.refl _ _⟩
  case round =>
    obtain ⟨j, hj, rfl, hb⟩ := hrel
    by_cases hlt : j < n
    · obtain ⟨b1, o1, rfl, _, r0, r1, r2⟩ := trs_cells hr hlt Hnl.out
      obtain ⟨b2, o2, rfl, _, s0, s1, s2⟩ := trs_cells hs hlt Hnl.out
      have p0 := (Same.any (D := Any) hb).cell trivial r0
      have p1 := (Same.any (D := Any) hb).cell trivial r1
      have p2 := (Same.any (D := Any) hb).cell trivial r2
      have q0 := (Same.any (D := Any) hb).cell trivial s0
      have q1 := (Same.any (D := Any) hb).cell trivial s1
      have q2 := (Same.any (D := Any) hb).cell trivial s2
      generalize l[j]'(by have := Hnl.out; omega) = y at p0 p1 p2 q0 q1 q2
      obtain ⟨y0, y1, y2⟩ := y
      simp only at p0 p1 p2 q0 q1 q2
      have ng1 := fun W => ng y0 y1 y2 W
      clear hr hs r0 r1 r2 s0 s1 s2 ng
      go_wp2_with (fail)
      go_quiet (fail)
      go_wp2_with (fail)
      exact ⟨⟨j + 1, by omega, by go_num, ⟨hb.os, hb.tape, hb.output, hb.size, hb.block⟩⟩, by simp [intOf]; omega⟩
    · clear hr hs
      go_wp2_with (fail)
      go_ret
      exact ⟨rfl, hb⟩
end Go.Proofs.Ytijniccmgjokoaa
