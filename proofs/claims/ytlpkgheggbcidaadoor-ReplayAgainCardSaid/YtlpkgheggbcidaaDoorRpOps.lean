/- A world of package replay in memory: keys of the map, appends, and what a change of one part leaves of the others. No condition. -/
import Derived.Test.YtlpkgheggbcidaaDoorRpCopy
import Derived.Test.YtlpkgheggbcidaaDoorMapEntry
import Derived.Maps.Keyed
import Derived.DeepKeys4
set_option linter.unusedVariables false
namespace Go.Mem
open Go.RowKit
/-- what an append to a row of elements asks of the element's type -/
structure ElOk (P : Program) (t e : TypeId) (size bytes : Nat) : Prop where
  un : P.underlying t = some (.slice e)
  inf : ∃ i z, P.info? e = some i ∧ i.zero = some z ∧ i.size = size ∧ i.bytes = bytes ∧ z.cells.size = size
  pos : 0 < size
  by_ : bytes ≤ 64
section
variable {P : Program} {w : World} {t e : TypeId} {size bytes n m c : Nat} {v : Value} {xs news : List Value} {D : Nat → Prop} {A : Option Addr}
theorem Seg.app (E : ElOk P t e size bytes) (h : Seg w e size v n xs) (hr : Reads w D size A m news) (hm : 0 < m) (h1 : ∀ u ∈ news, u.oneCell' = true) (hn : n + m ≤ 1000000) (ty : TypeId) :
    ∃ v' w', (Builtin.append_ #[t, t] ty #[v, .slice A m c]).run P w = .ok v' w' ∧ Seg w' e size v' (n + m) (xs ++ news) ∧ w.grownBy w' v.ownBlock ∧ (∀ b, v'.ownBlock = some b → v.ownBlock = some b ∨ w.heap.size ≤ b) := by
  obtain ⟨i, z, hi, hz, hs, hb, hzc⟩ := E.inf
  exact h.append t ty i z bytes E.un hi hz hs hb hzc E.pos hr hm h1 (by unfold maxLen; omega) (by have := Nat.mul_le_mul hn E.by_; omega)
theorem wp_app {o : Oper} {a : Act} {K : Act → World → Prop} {Q : Exit → Act → World → Prop} (E : ElOk P t e size bytes) (s x : Operand) (ho : o.op = .call { callee := .builtin .append, args := #[s, x], argTypes := #[t, t] })
    (h : Seg w e size v n xs) (hs : a.eval s = v) (hr : Reads w D size A m news) (hx : a.eval x = .slice A m c) (hm : 0 < m) (h1 : ∀ u ∈ news, u.oneCell' = true) (hn : n + m ≤ 1000000)
    (hK : ∀ v' w', Seg w' e size v' (n + m) (xs ++ news) → w.grownBy w' v.ownBlock → (∀ b, v'.ownBlock = some b → v.ownBlock = some b ∨ w.heap.size ≤ b) → K (a.put o.dst v') w') : o.wp P a w K Q := by
  obtain ⟨v', w', hrun, r1, r2, r3⟩ := h.app E hr hm h1 hn o.type (c := c)
  unfold Oper.wp execOp
  simp only [ho, resolve, invoke, builtin, Sem.run_bind, Sem.run_pure, Result.andThen_ok, List.map_toArray, List.map_cons, List.map_nil, hs, hx, hrun]
  exact hK v' w' r1 r2 r3
theorem step_app {ops : Array Oper} {o : Oper} {a : Act} {K : Act → World → Prop} {Q : Exit → Act → World → Prop} {F : Prop} (E : ElOk P t e size bytes) (hgd : o.guard = none) (s x : Operand) (ho : o.op = .call { callee := .builtin .append, args := #[s, x], argTypes := #[t, t] })
    (h : Seg w e size v n xs) (hs : a.eval s = v) (hr : Reads w D size A m news) (hx : a.eval x = .slice A m c) (hm : 0 < m) (h1 : ∀ u ∈ news, u.oneCell' = true) (hn : n + m ≤ 1000000)
    (hK : ∀ v' w', Seg w' e size v' (n + m) (xs ++ news) → w.grownBy w' v.ownBlock → (∀ b, v'.ownBlock = some b → v.ownBlock = some b ∨ w.heap.size ≤ b) → K (a.put o.dst v') w') :
    if Region.wanted o (yielded ops a.tmps) = true then Oper.wp P o a w K Q else F := by
  have hw : Region.wanted o (yielded ops a.tmps) = true := by simp [Region.wanted, hgd]
  rw [if_pos hw]
  exact wp_app E s x ho h hs hr hx hm h1 hn hK
/-- an append whose run is known -/
theorem wp_app_run {o : Oper} {a : Act} {K : Act → World → Prop} {Q : Exit → Act → World → Prop} {u v' : Value} {w' : World} (s x : Operand) (ho : o.op = .call { callee := .builtin .append, args := #[s, x], argTypes := #[t, t] }) (hs : a.eval s = v) (hx : a.eval x = u)
    (hrun : (Builtin.append_ #[t, t] o.type #[v, u]).run P w = .ok v' w') (hK : K (a.put o.dst v') w') : o.wp P a w K Q := by
  unfold Oper.wp execOp
  simp only [ho, resolve, invoke, builtin, Sem.run_bind, Sem.run_pure, Result.andThen_ok, List.map_toArray, List.map_cons, List.map_nil, hs, hx, hrun]
  exact hK
theorem step_app_run {ops : Array Oper} {o : Oper} {a : Act} {K : Act → World → Prop} {Q : Exit → Act → World → Prop} {F : Prop} {u v' : Value} {w' : World} (hgd : o.guard = none) (s x : Operand) (ho : o.op = .call { callee := .builtin .append, args := #[s, x], argTypes := #[t, t] }) (hs : a.eval s = v) (hx : a.eval x = u)
    (hrun : (Builtin.append_ #[t, t] o.type #[v, u]).run P w = .ok v' w') (hK : K (a.put o.dst v') w') : if Region.wanted o (yielded ops a.tmps) = true then Oper.wp P o a w K Q else F := by
  have hw : Region.wanted o (yielded ops a.tmps) = true := by simp [Region.wanted, hgd]
  rw [if_pos hw]
  exact wp_app_run s x ho hs hx hrun hK
theorem wpList_app_run {ops : Array Oper} {rest : List Oper} {o : Oper} {a : Act} {Q : Exit → Act → World → Prop} {u v' : Value} {w' : World} (hgd : o.guard = none) (s x : Operand) (ho : o.op = .call { callee := .builtin .append, args := #[s, x], argTypes := #[t, t] }) (hs : a.eval s = v) (hx : a.eval x = u)
    (hrun : (Builtin.append_ #[t, t] o.type #[v, u]).run P w = .ok v' w') (hK : wpList P ops Q rest (a.put o.dst v') w') : wpList P ops Q (o :: rest) a w :=
  wpList_plain hgd fun _ hK' => wp_app_run s x ho hs hx hrun (hK' _ _ hK)
theorem wpList_app {ops : Array Oper} {rest : List Oper} {o : Oper} {a : Act} {Q : Exit → Act → World → Prop} (E : ElOk P t e size bytes) (hgd : o.guard = none) (s x : Operand) (ho : o.op = .call { callee := .builtin .append, args := #[s, x], argTypes := #[t, t] })
    (h : Seg w e size v n xs) (hs : a.eval s = v) (hr : Reads w D size A m news) (hx : a.eval x = .slice A m c) (hm : 0 < m) (h1 : ∀ u ∈ news, u.oneCell' = true) (hn : n + m ≤ 1000000)
    (hK : ∀ v' w', Seg w' e size v' (n + m) (xs ++ news) → w.grownBy w' v.ownBlock → (∀ b, v'.ownBlock = some b → v.ownBlock = some b ∨ w.heap.size ≤ b) → wpList P ops Q rest (a.put o.dst v') w') : wpList P ops Q (o :: rest) a w :=
  wpList_plain hgd fun _ hK' => wp_app E s x ho h hs hr hx hm h1 hn fun v' w' h2 h3 h4 => hK' _ _ (hK v' w' h2 h3 h4)
theorem mput_put {α β : Type} [DecidableEq α] (l : List (α × β)) (a : α) (u v : β) : mput (mput l a u) a v = mput l a v := by
  have h1 : mget (mput l a u) a = some u := mget_put_same l a u
  unfold mput at h1 ⊢
  by_cases h : (mget l a).isSome
  · rw [if_pos h] at h1 ⊢
    rw [if_pos (by rw [h1]; rfl), if_pos h, List.map_map]
    apply List.map_congr_left
    intro p _
    by_cases hp : p.1 = a <;> simp [hp]
  · rw [if_neg h] at h1 ⊢
    rw [if_pos (by rw [h1]; rfl), if_neg h, List.map_append]
    have h0 : mget l a = none := by simpa using h
    rw [mget_none] at h0
    congr 1
    · conv => rhs; rw [← List.map_id l]
      apply List.map_congr_left
      intro p hp
      simp [h0 p hp]
    · simp
theorem Seg.alloc_ {size n : Nat} (h : Seg w e size v n xs) (o : Obj) : Seg (w.alloc o) e size v n xs := h.keep fun b hb => Below.heap_alloc w o b (h.lt b hb)
end
end Go.Mem
namespace Go.Proofs.YtlpkgheggbcidaaDoor
open Go.RowKit Go.Mem Go.Rp Go.Maps
theorem info_vl : (Tryd.prog.info? 56).map (fun i => (i.zero, i.size, i.bytes)) = some (some (.agg #[.int .i64 0, .int .i64 0, .string ⟨#[]⟩, .slice none 0 0]), 4, 56) := by kernel_rfl
theorem el_vl : ElOk Tryd.prog 54 56 4 56 := by
  obtain ⟨i, h1, h2, h3, h4⟩ := info_parts info_vl
  exact ⟨Tryd.underlying54, ⟨i, _, h1, h2, h3, h4, rfl⟩, by omega, by omega⟩
theorem info_sd : (Tryd.prog.info? 45).map (fun i => (i.zero, i.size, i.bytes)) = some (some (.agg #[.int .i64 0, .int .i64 0]), 2, 16) := by kernel_rfl
theorem el_sd : ElOk Tryd.prog 39 45 2 16 := by
  obtain ⟨i, h1, h2, h3, h4⟩ := info_parts info_sd
  exact ⟨Tryd.underlying39, ⟨i, _, h1, h2, h3, h4, rfl⟩, by omega, by omega⟩
theorem info_ch : (Tryd.prog.info? 36).map (fun i => (i.zero, i.size, i.bytes)) = some (some (.agg #[.int .i64 0, .int .i64 0, .int .i64 0]), 3, 24) := by kernel_rfl
theorem el_ch : ElOk Tryd.prog 27 36 3 24 := by
  obtain ⟨i, h1, h2, h3, h4⟩ := info_parts info_ch
  exact ⟨Tryd.underlying27, ⟨i, _, h1, h2, h3, h4, rfl⟩, by omega, by omega⟩
theorem info_ac : (Tryd.prog.info? 76).map (fun i => (i.zero, i.size, i.bytes)) = some (some (.pointer none), 1, 8) := by kernel_rfl
theorem el_ac : ElOk Tryd.prog 72 76 1 8 := by
  obtain ⟨i, h1, h2, h3, h4⟩ := info_parts info_ac
  exact ⟨Tryd.underlying72, ⟨i, _, h1, h2, h3, h4, rfl⟩, by omega, by omega⟩
theorem info_st : (Tryd.prog.info? 9).map (fun i => (i.zero, i.size, i.bytes)) = some (some (.string ⟨#[]⟩), 1, 16) := by kernel_rfl
theorem el_st : ElOk Tryd.prog 40 9 1 16 := by
  obtain ⟨i, h1, h2, h3, h4⟩ := info_parts info_st
  exact ⟨Tryd.underlying40, ⟨i, _, h1, h2, h3, h4, rfl⟩, by omega, by omega⟩
theorem key_at (k : Nat × Nat) (hk : okK k) : ∃ x, keyOf Tryd.prog 82 (encK k) = some x := by
  obtain ⟨a, b⟩ := k
  obtain ⟨h1, h2⟩ := hk
  simp only at h1 h2
  have hu := Tryd.underlying82
  have hi := Tryd.underlying3
  have hkt : Tryd.prog.keyType 82 = true := by kernel_rfl
  have hsz : Tryd.prog.types.size + 1 = (Tryd.prog.types.size - 1) + 1 + 1 := by kernel_rfl
  have c1 : Tryd.prog.cellsOf 82 = 2 := by kernel_rfl
  have c2 : Tryd.prog.cellsOf 3 = 1 := by kernel_rfl
  have wf : ∀ n : Nat, n < 1000 → (Lit.int .i64 (n : Int)).wf = true := fun n hn => by
    have h0 : IntKind.i64.min = -9223372036854775808 := by decide
    simp [Lit.wf, h0]
    omega
  have hf : (encK (a, b)).formed Tryd.prog 82 = true := by simp [Value.formed, encK, hu, c1]
  have hc : (encK (a, b)).cells.toList = [.int .i64 (a : Nat), .int .i64 (b : Nat)] := rfl
  unfold keyOf
  simp only [hu]
  rw [hkt, hf]
  simp only [Bool.and_self, if_true]
  rw [hsz, hc]
  generalize Tryd.prog.types.size - 1 = d
  have l1 : ∀ n : Nat, n < 1000 → Tryd.prog.keyLits (d + 1) 3 [.int .i64 (n : Int)] = some [.int .i64 n] := fun n hn => by
    unfold Program.keyLits
    simp [hi, wf n hn]
  unfold Program.keyLits
  simp only [hu]
  rw [if_pos (by rw [c1]; rfl)]
  simp [c2, List.range_succ, l1 a h1, l1 b h2]
theorem enc_ways : Enc Tryd.prog 82 encK okK where
  keyed := Keyed.of_law (deep_law_laid (m := 5) (by kernel_rfl) (by omega) (by decide +kernel) (by kernel_rfl) (by kernel_rfl))
  inj := encK_inj
  key := key_at
theorem zero_row : ∀ w : World, (zeroValue 54).run Tryd.prog w = .ok (.slice none 0 0) w := fun _ => by kernel_rfl
section
variable {w w' : World} {M : Nat} {l : List ((Nat × Nat) × Value)}
theorem look_way (h : MapOf encK okK w M l) (a b : Nat) (ha : a < 1000) (hb : b < 1000) (W : World) (hW : W.heap[M]? = w.heap[M]?) :
    (Instr.lookup 73 (.map (some M)) (.agg #[.int .i64 (a : Nat), .int .i64 (b : Nat)]) false).run Tryd.prog W = .ok ((mget l (a, b)).getD (.slice none 0 0)) W := by
  have := (h.same hW).lookup enc_ways Tryd.underlying73 zero_row (a := (a, b)) ⟨ha, hb⟩ false
  simp only [Bool.false_eq_true, if_false] at this
  exact this
theorem put_way (h : MapOf encK okK w M l) (a b : Nat) (ha : a < 1000) (hb : b < 1000) (v : Value) :
    ∃ w', (Instr.mapUpdate 73 (.map (some M)) (.agg #[.int .i64 (a : Nat), .int .i64 (b : Nat)]) v).run Tryd.prog w = .ok () w' ∧ MapOf encK okK w' M (mput l (a, b) v) ∧ w.grownBy w' (some M) :=
  h.update enc_ways Tryd.underlying73 (a := (a, b)) ⟨ha, hb⟩ v
theorem entry_way (h : MapOf encK okK w M l) (a b : Nat) (ha : a < 1000) (hb : b < 1000) :
    ∃ (c : Int) (w' : World), (Instr.mapEntry 73 (.map (some M)) (.agg #[.int .i64 (a : Nat), .int .i64 (b : Nat)])).run Tryd.prog w = .ok (.tuple #[(mget l (a, b)).getD (.slice none 0 0), .int .i64 c]) w' ∧
      EntryOf encK okK w' M (mput l (a, b) ((mget l (a, b)).getD (.slice none 0 0))) (a, b) ((mget l (a, b)).getD (.slice none 0 0)) c ∧ w.grownBy w' (some M) :=
  h.entry enc_ways Tryd.underlying73 zero_row (a := (a, b)) ⟨ha, hb⟩
theorem store_way {k : Nat × Nat} {u : Value} {c : Int} (h : EntryOf encK okK w M (mput l k u) k u c) (v : Value) :
    ∃ w', (Instr.entryStore 73 (.map (some M)) (.int .i64 c) v).run Tryd.prog w = .ok () w' ∧ MapOf encK okK w' M (mput l k v) ∧ w.grownBy w' (some M) := by
  obtain ⟨w8, k1, k2, k3⟩ := h.store (t := 73) enc_ways v
  rw [mput_put] at k2
  exact ⟨w8, k1, k2, k3⟩
end
section
variable {w w' : World} {B T : Nat} {col : Nat → Cl} {s : Wd} {A : Option Addr} {c : Nat} {av : Value} {ps : List Value} {M : Nat} {l : List ((Nat × Nat) × Value)} {sv : Value}
theorem WdW.lt_B (h : WdW w B T col s A c av ps M l sv) {b : Nat} (hb : b < B) : b < w.heap.size := Nat.lt_of_lt_of_le hb h.lB
/-- the blocks below B are as they were where none of them is its own -/
theorem WdW.same_own (h : WdW w B T col s A c av ps M l sv) {own : Nat → Prop} (hg : GrownIn own w w') (ho : ∀ b, own b → col b ≠ .out) : Same (fun b => b < B) w w' := Same.of_in hg fun b hb _ e => ho b e (h.low b hb)
theorem stp_of {own : Nat → Prop} (hg : GrownIn own w w') (ho : ∀ b, own b → col b ≠ .out) (k : Cl) : Stp col (recol col w.heap.size k) w w' := ⟨hg.wide ho, fun b hb => by rw [recol_old hb]⟩
/-- one way has changed -/
theorem WdW.way (h : WdW w B T col s A c av ps M l sv) (k : Nat × Nat) {v : Value} {x : List Vl} (hg : GrownIn (fun b => col b = .way k ∨ b = M) w w') (hm : MapOf encK okK w' M (mput l k v))
    (hs : Seg w' 56 4 v x.length (cat vlC x)) (hc : ∀ b, v.ownBlock = some b → recol col w.heap.size (.way k) b = .way k) :
    WdW w' B T (recol col w.heap.size (.way k)) { s with ways := mput s.ways k x } A c av ps M (mput l k v) sv ∧ Stp col (recol col w.heap.size (.way k)) w w' := by
  have own : ∀ b, (col b = .way k ∨ b = M) → col b ≠ .out := fun b e => by
    rcases e with e | rfl
    · rw [e]; simp
    · rw [h.cM]; simp
  have hB := h.same_own hg own
  have kp : ∀ b c, (∀ b, (col b = .way k ∨ b = M) → col b ≠ c) → b < w.heap.size → col b = c → w'.heap[b]? = w.heap[b]? ∧ recol col w.heap.size (.way k) b = c := fun b c hc hb e => ⟨hg.block b hb (fun h => hc b h e), by rw [recol_old hb]; exact e⟩
  have nT : T ≠ M := MapOf.no_blk h.mp h.blk
  have base : ∀ b, b < w.heap.size → col b = .base → b ≠ M → w'.heap[b]? = w.heap[b]? ∧ recol col w.heap.size (.way k) b = .base := fun b hb e hne => ⟨hg.block b hb (fun h => by
    rcases h with h | h
    · rw [e] at h; cases h
    · exact hne h), by rw [recol_old hb]; exact e⟩
  have kT := base T h.blk.lt h.cT nT
  have ka := fun b hb => base b (h.rw_.lt b hb) (h.ca b hb) (by
    obtain ⟨cur, hk⟩ := h.rw_.kind hb
    exact MapOf.no_blk h.mp hk)
  have nw : ∀ c, c ≠ .way k → c ≠ .base → ∀ b, (col b = .way k ∨ b = M) → col b ≠ c := fun c h1 h2 b e => by
    rcases e with e | rfl
    · rw [e]
      exact fun h => h1 h.symm
    · rw [h.cM]
      exact fun h => h2 h.symm
  have ks := fun b hb => kp b .said (nw _ (by simp) (by simp)) (h.sd.lt b hb) (h.cs b hb)
  refine ⟨⟨kT.1.trans h.blk, h.tv.keep hB, h.rw_.keep fun b hb => (ka b hb).1, ?_, hm, ?_, h.sd.keep fun b hb => (ks b hb).1, kT.2, ?_, fun b hb => (ka b hb).2, fun b hb => (ks b hb).2, low_recol h _, Nat.le_trans h.lB hg.size⟩, stp_of hg own _⟩
  · exact h.acts.keep hB fun b i hb e => kp b (.act i) (nw _ (by simp) (by simp)) hb e
  · exact h.ws.put k (fun b k' hne hb e => kp b (.way k') (nw _ (by simpa using hne) (by simp)) hb e) hs hc
  · rw [recol_old h.m_lt]
    exact h.cM
/-- one actor has changed -/
theorem WdW.act (h : WdW w B T col s A c av ps M l sv) {i : Nat} {x : Ac} {S : Nat} (hi : i < s.acs.length) (hp : ps[i]? = some (.pointer (some ⟨S, 0, none⟩))) (hg : GrownIn (fun b => col b = .act i) w w') (hx : ActAt w' B (fun b => recol col w.heap.size (.act i) b = .act i) S x) :
    WdW w' B T (recol col w.heap.size (.act i)) (setA s i x) A c av ps M l sv ∧ Stp col (recol col w.heap.size (.act i)) w w' := by
  have own : ∀ b, col b = .act i → col b ≠ .out := fun b e => by rw [e]; simp
  have hB := h.same_own hg own
  have kp : ∀ b c, c ≠ .act i → b < w.heap.size → col b = c → w'.heap[b]? = w.heap[b]? ∧ recol col w.heap.size (.act i) b = c := fun b c hc hb e => ⟨hg.block b hb (fun h => hc (e.symm.trans h)), by rw [recol_old hb]; exact e⟩
  have kT := kp T _ (by simp) h.blk.lt h.cT
  have kM := kp M _ (by simp) h.m_lt h.cM
  have ka := fun b hb => kp b _ (by simp) (h.rw_.lt b hb) (h.ca b hb)
  have ks := fun b hb => kp b _ (by simp) (h.sd.lt b hb) (h.cs b hb)
  refine ⟨⟨kT.1.trans h.blk, h.tv.keep hB, ?_, ?_, h.mp.same kM.1, h.ws.keep fun b k hb e => kp b _ (by simp) hb e, h.sd.keep fun b hb => (ks b hb).1, kT.2, kM.2, fun b hb => (ka b hb).2, fun b hb => (ks b hb).2, low_recol h _, Nat.le_trans h.lB hg.size⟩, stp_of hg own _⟩
  · have : (setA s i x).acs.length = s.acs.length := by simp [setA]
    rw [this]
    exact h.rw_.keep fun b hb => (ka b hb).1
  · refine ⟨by rw [h.acts.1]; simp [setA], fun j y hy => ?_⟩
    by_cases hj : i = j
    · subst hj
      have : (setA s i x).acs[i]? = some x := by simp [setA, hi]
      rw [this] at hy
      injection hy with hy
      subst hy
      exact ⟨S, hp, hx⟩
    · have : (setA s i x).acs[j]? = s.acs[j]? := by simp only [setA]; exact List.getElem?_set_ne (by omega)
      rw [this] at hy
      obtain ⟨S', h1, h2⟩ := h.acts.2 j y hy
      exact ⟨S', h1, h2.keep hB fun b hb e => kp b _ (by simp; omega) hb e⟩
/-- something has been said -/
theorem WdW.say (h : WdW w B T col s A c av ps M l sv) {sv' : Value} {xs : List (Int × Int)} (hg : GrownIn (fun b => b = T ∨ col b = .said) w w') (hb : Blk w' T 75 [.iface 49 (.slice A s.tv.length c), av, .map (some M), sv'])
    (hs : Seg w' 45 2 sv' xs.length (cat sdC xs)) (hc : ∀ b, sv'.ownBlock = some b → recol col w.heap.size .said b = .said) :
    WdW w' B T (recol col w.heap.size .said) { s with said := xs } A c av ps M l sv' ∧ Stp col (recol col w.heap.size .said) w w' := by
  have own : ∀ b, (b = T ∨ col b = .said) → col b ≠ .out := fun b e => by
    rcases e with rfl | e
    · rw [h.cT]; simp
    · rw [e]; simp
  have hB := h.same_own hg own
  have kp : ∀ b c, c ≠ .said → b ≠ T → b < w.heap.size → col b = c → w'.heap[b]? = w.heap[b]? ∧ recol col w.heap.size .said b = c := fun b c hc hn hb e => ⟨hg.block b hb (fun h => by
    rcases h with h | h
    · exact hn h
    · exact hc (e.symm.trans h)), by rw [recol_old hb]; exact e⟩
  have nM : M ≠ T := fun e => MapOf.no_blk h.mp h.blk e.symm
  have kM := kp M _ (by simp) nM h.m_lt h.cM
  have ka := fun b hb => kp b _ (by simp) (fun e => seg_own h.rw_ h.blk (by decide) (e ▸ hb)) (h.rw_.lt b hb) (h.ca b hb)
  have nc : ∀ b, col b ≠ .base → b ≠ T := fun b hb e => hb (by rw [e]; exact h.cT)
  refine ⟨⟨hb, h.tv.keep hB, h.rw_.keep fun b hb => (ka b hb).1, h.acts.keep hB fun b i hb e => kp b _ (by simp) (nc b (by rw [e]; simp)) hb e, h.mp.same kM.1, h.ws.keep fun b k hb e => kp b _ (by simp) (nc b (by rw [e]; simp)) hb e, hs, ?_, kM.2, fun b hb => (ka b hb).2, hc, low_recol h _, Nat.le_trans h.lB hg.size⟩, stp_of hg own _⟩
  rw [recol_old h.blk.lt]
  exact h.cT
/-- an actor has been put behind the others -/
theorem WdW.push (h : WdW w B T col s A c av ps M l sv) {av' : Value} {S : Nat} {x : Ac} (hg : GrownIn (fun b => b = T ∨ av.ownBlock = some b) w w') (hb : Blk w' T 75 [.iface 49 (.slice A s.tv.length c), av', .map (some M), sv])
    (hr : Seg w' 76 1 av' (s.acs.length + 1) (ps ++ [.pointer (some ⟨S, 0, none⟩)])) (hc : ∀ b, av'.ownBlock = some b → recol col w.heap.size .base b = .base)
    (hx : ActAt w B (fun b => col b = .act s.acs.length) S x) :
    WdW w' B T (recol col w.heap.size .base) { s with acs := s.acs ++ [x] } A c av' (ps ++ [.pointer (some ⟨S, 0, none⟩)]) M l sv ∧ Stp col (recol col w.heap.size .base) w w' := by
  have own : ∀ b, (b = T ∨ av.ownBlock = some b) → col b ≠ .out := fun b e => by
    rcases e with rfl | e
    · rw [h.cT]; simp
    · rw [h.ca b e]; simp
  have hB := h.same_own hg own
  have nb : ∀ b, (b = T ∨ av.ownBlock = some b) → col b = .base := fun b e => by
    rcases e with rfl | e
    · exact h.cT
    · exact h.ca b e
  have kp : ∀ b c, c ≠ .base → b < w.heap.size → col b = c → w'.heap[b]? = w.heap[b]? ∧ recol col w.heap.size .base b = c := fun b c hc hb e => ⟨hg.block b hb (fun h => hc (e.symm.trans (nb b h))), by rw [recol_old hb]; exact e⟩
  have nM : ¬ (M = T ∨ av.ownBlock = some M) := by
    rintro (e | e)
    · exact MapOf.no_blk h.mp h.blk e.symm
    · obtain ⟨cur, hk⟩ := h.rw_.kind e
      exact MapOf.no_blk h.mp hk rfl
  have kM : w'.heap[M]? = w.heap[M]? := hg.block M h.m_lt nM
  have ks := fun b hb => kp b _ (by simp) (h.sd.lt b hb) (h.cs b hb)
  refine ⟨⟨hb, h.tv.keep hB, by simpa using hr, ⟨?_, fun j y hy => ?_⟩, h.mp.same kM, h.ws.keep fun b k hb e => kp b _ (by simp) hb e, h.sd.keep fun b hb => (ks b hb).1, ?_, ?_, hc, fun b hb => (ks b hb).2, low_recol h _, Nat.le_trans h.lB hg.size⟩, stp_of hg own _⟩
  · simp [h.acts.1]
  · rcases Nat.lt_trichotomy j s.acs.length with hj | rfl | hj
    · rw [List.getElem?_append_left hj] at hy
      obtain ⟨S', h1, h2⟩ := h.acts.2 j y hy
      exact ⟨S', by rw [List.getElem?_append_left (by rw [h.acts.1]; exact hj)]; exact h1, h2.keep hB fun b hb e => kp b _ (by simp) hb e⟩
    · rw [List.getElem?_append_right (Nat.le_refl _), Nat.sub_self] at hy
      simp at hy
      subst hy
      exact ⟨S, by rw [List.getElem?_append_right (by rw [h.acts.1]; exact Nat.le_refl _), h.acts.1, Nat.sub_self]; rfl, hx.keep hB fun b hb e => kp b _ (by simp) hb e⟩
    · rw [List.getElem?_eq_none (by simp; omega)] at hy
      cases hy
  · rw [recol_old h.blk.lt]
    exact h.cT
  · rw [recol_old h.m_lt]
    exact h.cM
end
/-- what an operation of a world hands back, and leaves -/
def WPost (w : World) (B T : Nat) (col : Nat → Cl) (s' : Wd) (v : Value) (e : Ending) (w' : World) : Prop := e = .returned v ∧ ∃ col', WdAt w' B T col' s' ∧ Stp col col' w w'
end Go.Proofs.YtlpkgheggbcidaaDoor
