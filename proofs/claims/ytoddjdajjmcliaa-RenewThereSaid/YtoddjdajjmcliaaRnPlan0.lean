/- Words for Moves in memory; what renew's plan has made so far. -/
import Derived.Test.YtoddjdajjmcliaaRnShA
import Derived.Test.YtoddjdajjmcliaaRnLaw
import Derived.Test.YtoddjdajjmcliaaShFirstC
import Derived.Test.YtoddjdajjmcliaaShSameC
import Derived.Test.YtoddjdajjmcliaaJLawNumS
set_option linter.unusedVariables false
namespace Go.Proofs.Ytoddjdajjmcliaa
open Go.RowKit Go.Mem Go.Sh Go.Maps Go.Val
/-- the five cells of a field -/
def FdCells (w : World) (D : Nat → Prop) (cs : List Value) (f : Fld) : Prop := ∃ A c, cs = [.int .i64 f.src, .int .i64 f.val.kind, .int .i64 f.val.num, .string f.val.text, .slice A f.val.args.length c] ∧ VCells 10 w D [.int .i64 f.val.kind, .int .i64 f.val.num, .string f.val.text, .slice A f.val.args.length c] f.val ∧ -1 ≤ f.src ∧ f.src ≤ 1000
theorem FdCells.stable : Stable 5 FdCells where
  keep := fun ⟨A, c, e, h, h1⟩ hk => ⟨A, c, e, h.keep hk, h1⟩
  imp := fun ⟨A, c, e, h, h1⟩ hk => ⟨A, c, e, h.imp hk, h1⟩
  len := fun ⟨A, c, e, _⟩ => by rw [e]; rfl
  one := fun ⟨A, c, e, _⟩ u hu => by rw [e] at hu; simp at hu; rcases hu with rfl | rfl | rfl | rfl | rfl <;> rfl
def encI (i : Int) : Value := .int .i64 i
theorem enc_I : Enc Try.prog 3 encI I64 where
  keyed := int_keyed Try.underlying3
  inj := fun a b h => by unfold encI at h; injection h
  key := fun a h => ⟨_, keyOf_int_mk Try.underlying3 (by unfold I64 at h; exact WalkArith.wf_i64 (by omega))⟩
theorem zero_bl : ∀ w : World, (zeroValue 4).run Try.prog w = .ok (.bool false) w := fun _ => by kernel_rfl
theorem info_fd : (Try.prog.info? 104).map (fun i => (i.zero, i.size, i.bytes)) = some (some (.agg #[.int .i64 0, .int .i64 0, .int .i64 0, .string ⟨#[]⟩, .slice none 0 0]), 5, 64) := by kernel_rfl
theorem info_in : (Try.prog.info? 3).map (fun i => (i.zero, i.size, i.bytes)) = some (some (.int .i64 0), 1, 8) := by kernel_rfl
/-- append of fields onto a row of the call's own -/
theorem app_Fd (w : World) {ops : Array Oper} {rest : List Oper} {o : Oper} {a : Act} {Q : Exit → Act → World → Prop} (hgd : o.guard = none) (s x : Operand)
    (ho : o.op = .call { callee := .builtin .append, args := #[s, x], argTypes := #[97, 97] })
    {base : Nat} {v : Value} {n : Nat} {xs : List Value} (hown : w.ownsRow base 104 5 v n xs) (hs : a.eval s = v)
    {D : Nat → Prop} {A : Option Addr} {m : Nat} {news : List Value} (hr : Reads w D 5 A m news) {c : Nat} (hx : a.eval x = .slice A m c) (h1 : ∀ u ∈ news, u.oneCell' = true)
    (h63 : n + m ≤ 100000000) (hbase : base ≤ w.heap.size)
    (h : ∀ v' w', w'.ownsRow base 104 5 v' (n + m) (xs ++ news) → w.grownBy w' v.ownBlock → (v'.ownBlock = v.ownBlock ∨ v'.ownBlock = some w.heap.size) → wpList Try.prog ops Q rest (a.put o.dst v') w') : wpList Try.prog ops Q (o :: rest) a w := by
  obtain ⟨i0, hi0, hz0, hz1, hz2⟩ := info_parts info_fd
  exact wpList_append_any w hgd s x _ ho base _ i0 _ 5 64 Try.underlying97 hi0 hz0 hz1 hz2 rfl (by omega) v n xs hs hown D A m c news hx hr h1 (by simp only [maxLen]; omega) (by omega) hbase h
/-- append of ints onto a row of the call's own -/
theorem app_In (w : World) {ops : Array Oper} {rest : List Oper} {o : Oper} {a : Act} {Q : Exit → Act → World → Prop} (hgd : o.guard = none) (s x : Operand)
    (ho : o.op = .call { callee := .builtin .append, args := #[s, x], argTypes := #[44, 44] })
    {base : Nat} {v : Value} {n : Nat} {xs : List Value} (hown : w.ownsRow base 3 1 v n xs) (hs : a.eval s = v)
    {D : Nat → Prop} {A : Option Addr} {m : Nat} {news : List Value} (hr : Reads w D 1 A m news) {c : Nat} (hx : a.eval x = .slice A m c) (h1 : ∀ u ∈ news, u.oneCell' = true)
    (h63 : n + m ≤ 100000000) (hbase : base ≤ w.heap.size)
    (h : ∀ v' w', w'.ownsRow base 3 1 v' (n + m) (xs ++ news) → w.grownBy w' v.ownBlock → (v'.ownBlock = v.ownBlock ∨ v'.ownBlock = some w.heap.size) → wpList Try.prog ops Q rest (a.put o.dst v') w') : wpList Try.prog ops Q (o :: rest) a w := by
  obtain ⟨i0, hi0, hz0, hz1, hz2⟩ := info_parts info_in
  exact wpList_append_any w hgd s x _ ho base _ i0 _ 1 8 Try.underlying44 hi0 hz0 hz1 hz2 rfl (by omega) v n xs hs hown D A m c news hx hr h1 (by simp only [maxLen]; omega) (by omega) hbase h
/-- the cells of natural numbers -/
def natsV (l : List Nat) : List Value := l.map fun i => .int .i64 (i : Nat)
/-- a Move in memory -/
structure MoveAt (w : World) (D : Nat → Prop) (F : Option Addr) (nf cF : Nat) (Ls : Option Addr) (nl cL : Nat) (fl : List Fld) (lost : List Nat) : Prop where
  hf : nf = fl.length ∧ nf ≤ 1000 ∧ nf ≤ cF ∧ cF ≤ maxLen
  fr : ∃ vss, Reads w D 5 F nf vss.flatten ∧ All2 (FdCells w D) vss fl
  hl : nl = lost.length ∧ nl ≤ 1000 ∧ nl ≤ cL ∧ cL ≤ maxLen
  lr : Reads w D 1 Ls nl (natsV lost)
theorem MoveAt.keep {w w' : World} {D : Nat → Prop} {F : Option Addr} {nf cF : Nat} {Ls : Option Addr} {nl cL : Nat} {fl : List Fld} {lost : List Nat} (h : MoveAt w D F nf cF Ls nl cL fl lost) (hk : Same D w w') : MoveAt w' D F nf cF Ls nl cL fl lost := by
  obtain ⟨h1, ⟨vss, h2, h3⟩, h4, h5⟩ := h
  exact ⟨h1, ⟨vss, h2.keep hk, h3.imp fun x y hxy => FdCells.stable.keep hxy hk⟩, h4, h5.keep hk⟩
theorem MoveAt.imp {w : World} {D D' : Nat → Prop} {F : Option Addr} {nf cF : Nat} {Ls : Option Addr} {nl cL : Nat} {fl : List Fld} {lost : List Nat} (h : MoveAt w D F nf cF Ls nl cL fl lost) (hk : ∀ b, D b → b < w.heap.size → D' b) : MoveAt w D' F nf cF Ls nl cL fl lost := by
  obtain ⟨h1, ⟨vss, h2, h3⟩, h4, h5⟩ := h
  exact ⟨h1, ⟨vss, h2.imp (by omega) hk, h3.imp fun x y hxy => FdCells.stable.imp hxy hk⟩, h4, h5.imp (by omega) hk⟩
/-- the blocks of plan that stay: programs and actors, its result, and what holds of them -/
structure PlB (w wr : World) (PB QB AB BB RB : Nat) (pc qc ac bc : List Value) : Prop where
  be : Below w.heap.size w wr
  lo : w.heap.size ≤ PB ∧ w.heap.size ≤ QB ∧ w.heap.size ≤ AB ∧ w.heap.size ≤ BB ∧ w.heap.size ≤ RB
  pb : Blk wr PB 29 pc
  qb : Blk wr QB 29 qc
  ab : Blk wr AB 40 ac
  bb : Blk wr BB 40 bc
  rb : Blk wr RB 99 [.string ⟨#[]⟩, .int .i64 0, .slice none 0 0, .slice none 0 0]
theorem PlB.below {w wr w' : World} {PB QB AB BB RB : Nat} {pc qc ac bc : List Value} (h : PlB w wr PB QB AB BB RB pc qc ac bc) (hb : Below wr.heap.size wr w') : PlB w w' PB QB AB BB RB pc qc ac bc :=
  ⟨h.be.trans (hb.mono h.be.size), h.lo, h.pb.below hb h.pb.lt, h.qb.below hb h.qb.lt, h.ab.below hb h.ab.lt, h.bb.below hb h.bb.lt, h.rb.below hb h.rb.lt⟩
/-- only blocks from a bound on have changed -/
theorem PlB.high {w wr w' : World} {PB QB AB BB RB N : Nat} {pc qc ac bc : List Value} (h : PlB w wr PB QB AB BB RB pc qc ac bc) (hb : Below N wr w') (hN : w.heap.size ≤ N) (h1 : PB < N ∧ QB < N ∧ AB < N ∧ BB < N ∧ RB < N) : PlB w w' PB QB AB BB RB pc qc ac bc :=
  ⟨h.be.trans (hb.mono hN), h.lo, (hb.block PB h1.1).trans h.pb, (hb.block QB h1.2.1).trans h.qb, (hb.block AB h1.2.2.1).trans h.ab, (hb.block BB h1.2.2.2.1).trans h.bb, (hb.block RB h1.2.2.2.2).trans h.rb⟩
/-- the Move on its way: its block, its row of fields, the map of what is used; all from a bound on -/
structure PlM (N : Nat) (wr : World) (MB UB : Nat) (n k : Nat) (flds : List Fld) : Prop where
  lo : N ≤ MB ∧ N ≤ UB ∧ MB < N + 2 ∧ UB < N + 2 ∧ MB ≠ UB ∧ N + 2 ≤ wr.heap.size
  mb : ∃ F cF, Blk wr MB 99 [str [65], .int .i64 (n : Nat), .slice F k cF, .slice none 0 0] ∧ OwnList 104 5 FdCells wr (N + 2) (.slice F k cF) flds
  ub : ∃ us, MapOf encI I64 wr UB us ∧ ∀ i, mget us i = if i ∈ flds.map Fld.src then some (.bool true) else none
  len : flds.length = k
theorem PlM.below {N : Nat} {wr w' : World} {MB UB n k : Nat} {flds : List Fld} (h : PlM N wr MB UB n k flds) (hb : Below wr.heap.size wr w') : PlM N w' MB UB n k flds := by
  obtain ⟨h1, ⟨F, cF, h2, h3⟩, ⟨us, h4, h5⟩, h6⟩ := h
  exact ⟨⟨h1.1, h1.2.1, h1.2.2.1, h1.2.2.2.1, h1.2.2.2.2.1, Nat.le_trans h1.2.2.2.2.2 hb.size⟩, ⟨F, cF, h2.below hb h2.lt, h3.keep FdCells.stable (Same.any hb)⟩, ⟨us, h4.below hb, h5⟩, h6⟩
/-- one field more -/
theorem PlM.step {N : Nat} {w2 w3 w4 : World} {MB UB n k : Nat} {flds : List Fld} {F F' : Option Addr} {cF cF' : Nat} {us : List (Int × Value)} {vss : List (List Value)} {cs : List Value} {f : Fld}
    (lo : N ≤ MB ∧ N ≤ UB ∧ MB < N + 2 ∧ UB < N + 2 ∧ MB ≠ UB ∧ N + 2 ≤ w2.heap.size) (len : flds.length = k) (hmb : Blk w2 MB 99 [str [65], .int .i64 (n : Nat), .slice F k cF, .slice none 0 0])
    (hus : ∀ i, mget us i = if i ∈ flds.map Fld.src then some (.bool true) else none) (hm3 : MapOf encI I64 w3 UB (mput us f.src (.bool true))) (hg3 : w2.grownBy w3 (some UB))
    (ho3 : w3.ownsRow (N + 2) 104 5 (.slice F k cF) k vss.flatten) (ha3 : All2 (FdCells w3 (fun b => N + 2 ≤ b ∧ (Value.slice F k cF).ownBlock ≠ some b)) vss flds)
    (hy : FdCells w3 (fun b => N + 2 ≤ b ∧ (Value.slice F k cF).ownBlock ≠ some b) cs f)
    (hown4 : w4.ownsRow (N + 2) 104 5 (.slice F' (k + 1) cF') (k + 1) (vss.flatten ++ cs)) (hg4 : (w3.alloc (.cells cs.toArray 104)).grownBy w4 (Value.slice F k cF).ownBlock)
    (hat4 : (Value.slice F' (k + 1) cF').ownBlock = (Value.slice F k cF).ownBlock ∨ (Value.slice F' (k + 1) cF').ownBlock = some (w3.alloc (.cells cs.toArray 104)).heap.size) :
    PlM N (w4.setCell ⟨MB, 2, none⟩ (.slice F' (k + 1) cF')) MB UB n (k + 1) (flds ++ [f]) ∧ Below N w2 (w4.setCell ⟨MB, 2, none⟩ (.slice F' (k + 1) cF')) := by
  have hfar : ∀ i, (Value.slice F k cF).ownBlock = some i → N + 2 ≤ i := fun i hi => (ho3.lt i hi).1
  have s3 : w2.heap.size ≤ w3.heap.size := hg3.size
  have s4 : w3.heap.size + 1 ≤ w4.heap.size := by have := hg4.size; simpa using this
  subst len
  have hpush := OwnList.push FdCells.stable ha3 hy hg4 hat4 hown4
  have mb3 := hmb.grown hg3 (by intro e; injection e with e; exact lo.2.2.2.2.1 e)
  have mb4 := (mb3.alloc (.cells cs.toArray 104)).grown hg4 (fun e => by have := hfar _ e.symm; omega)
  have um4 := ((hm3.alloc (.cells cs.toArray 104)).grown hg4 (fun e => by have := hfar _ e.symm; omega)).setCell (p := ⟨MB, 2, none⟩) (fun e => lo.2.2.2.2.1 e) (.slice F' (flds.length + 1) cF')
  have hset : Same (fun b => N + 2 ≤ b) w4 (w4.setCell ⟨MB, 2, none⟩ (.slice F' (flds.length + 1) cF')) := fun b hb _ => Below.heap_setCell _ _ _ _ (by show b ≠ MB; omega)
  refine ⟨⟨⟨lo.1, lo.2.1, lo.2.2.1, lo.2.2.2.1, lo.2.2.2.2.1, by simp [World.setCell]; omega⟩, ⟨F', cF', mb4.put 2 _, ?_⟩, ⟨_, um4, fun i => ?_⟩, by simp⟩, ?_⟩
  · exact hpush.keep FdCells.stable hset
  · rw [mget_put, hus, List.map_append]
    by_cases e : i = f.src
    · simp [e]
    · simp [e]
  · refine Below.setCell ?_ (p := ⟨MB, 2, none⟩) lo.1 _
    have h3 : Below N w2 w3 := ⟨hg3.os, hg3.tape, hg3.output, hg3.size, fun i hi => hg3.block i (by omega) (fun e => by injection e with e; omega)⟩
    exact (h3.alloc (by omega) _).grown hg4 (by simp; omega) (fun i hi => by have := hfar i hi; omega)
/-- behind the fields: the list of what is lost on its way -/
structure PlL (N N3 : Nat) (wr : World) (MB UB n k : Nat) (F : Option Addr) (cF : Nat) (flds : List Fld) (us : List (Int × Value)) (i : Nat) (Ls : Option Addr) (l cL : Nat) : Prop where
  lo : N ≤ MB ∧ MB < N + 2 ∧ UB < N + 2 ∧ MB ≠ UB ∧ N + 2 ≤ N3 ∧ N3 ≤ wr.heap.size
  mb : Blk wr MB 99 [str [65], .int .i64 (n : Nat), .slice F k cF, .slice Ls l cL]
  fr : ∃ vss, Reads wr (fun b => N + 2 ≤ b ∧ b < N3) 5 F k vss.flatten ∧ All2 (FdCells wr (fun b => N + 2 ≤ b ∧ b < N3)) vss flds
  cap : k ≤ cF ∧ cF ≤ maxLen
  lr : wr.ownsRow N3 3 1 (.slice Ls l cL) l (natsV (lostF i (flds.map Fld.src)))
  ll : l = (lostF i (flds.map Fld.src)).length
  ub : MapOf encI I64 wr UB us
theorem PlL.same {N N3 : Nat} {wr : World} {MB UB n k : Nat} {F : Option Addr} {cF : Nat} {flds : List Fld} {us : List (Int × Value)} {i : Nat} {Ls : Option Addr} {l cL : Nat} (h : PlL N N3 wr MB UB n k F cF flds us i Ls l cL) (hi : lostF (i + 1) (flds.map Fld.src) = lostF i (flds.map Fld.src)) : PlL N N3 wr MB UB n k F cF flds us (i + 1) Ls l cL :=
  { h with lr := by rw [hi]; exact h.lr, ll := by rw [hi]; exact h.ll }
theorem PlM.next {N : Nat} {wr : World} {MB UB n k : Nat} {flds : List Fld} (h : PlM N wr MB UB n k flds) : ∃ F cF us, PlL N wr.heap.size wr MB UB n k F cF flds us 0 none 0 0 ∧ ∀ i, mget us i = if i ∈ flds.map Fld.src then some (.bool true) else none := by
  obtain ⟨h1, ⟨F, cF, h2, h3⟩, ⟨us, h4, h5⟩, h6⟩ := h
  obtain ⟨vss, e1, e2, e3, hr, ha⟩ := h3.reads FdCells.stable (by omega)
  exact ⟨F, cF, us, ⟨⟨h1.1, h1.2.2.1, h1.2.2.2.1, h1.2.2.2.2.1, h1.2.2.2.2.2, Nat.le_refl _⟩, h2, ⟨vss, hr.imp (by omega) fun b hb hl => ⟨hb, hl⟩, ha.imp fun x y hxy => FdCells.stable.imp hxy fun b hb hl => ⟨hb, hl⟩⟩, ⟨e2, e3⟩, World.ownsRow_nil _ _ _ _, rfl, h4⟩, h5⟩
theorem PlL.step {N N3 : Nat} {w2 w4 : World} {MB UB n k : Nat} {F : Option Addr} {cF : Nat} {flds : List Fld} {us : List (Int × Value)} {i : Nat} {Ls Ls' : Option Addr} {l cL cL' : Nat} (h : PlL N N3 w2 MB UB n k F cF flds us i Ls l cL) (hi : lostF (i + 1) (flds.map Fld.src) = lostF i (flds.map Fld.src) ++ [i])
    (hown4 : w4.ownsRow N3 3 1 (.slice Ls' (l + 1) cL') (l + 1) (natsV (lostF i (flds.map Fld.src)) ++ [.int .i64 (i : Nat)])) (hg4 : (w2.alloc (.cells #[.int .i64 (i : Nat)] 3)).grownBy w4 (Value.slice Ls l cL).ownBlock) :
    PlL N N3 (w4.setCell ⟨MB, 3, none⟩ (.slice Ls' (l + 1) cL')) MB UB n k F cF flds us (i + 1) Ls' (l + 1) cL' ∧ Below N w2 (w4.setCell ⟨MB, 3, none⟩ (.slice Ls' (l + 1) cL')) := by
  obtain ⟨lo, mb, ⟨vss, f1, f2⟩, cap, lr, ll, ub⟩ := h
  have hfar : ∀ i, (Value.slice Ls l cL).ownBlock = some i → N3 ≤ i := fun i hi => (lr.lt i hi).1
  have s4 : w2.heap.size + 1 ≤ w4.heap.size := by have := hg4.size; simpa using this
  have hk : ∀ b, b < N3 → b < w2.heap.size → b ≠ MB → (w4.setCell ⟨MB, 3, none⟩ (.slice Ls' (l + 1) cL')).heap[b]? = w2.heap[b]? := fun b hb hl hne =>
    (Below.heap_setCell _ _ _ _ hne).trans ((hg4.block b (by simp; omega) (fun e => by have := hfar _ e.symm; omega)).trans (Below.heap_alloc _ _ b hl))
  have mb4 := (mb.alloc (.cells #[.int .i64 (i : Nat)] 3)).grown hg4 (fun e => by have := hfar _ e.symm; omega)
  refine ⟨⟨⟨lo.1, lo.2.1, lo.2.2.1, lo.2.2.2.1, lo.2.2.2.2.1, by simp [World.setCell]; omega⟩, mb4.put 3 _, ⟨vss, f1.keep fun b hb hl => hk b hb.2 hl (by omega), f2.imp fun x y hxy => FdCells.stable.keep hxy fun b hb hl => hk b hb.2 hl (by omega)⟩, cap, ?_, ?_, ?_⟩, ?_⟩
  · rw [hi]
    unfold natsV at hown4 ⊢
    rw [List.map_append]
    exact own_set hown4 (by omega)
  · rw [hi, ll]
    simp
  · exact ub.same (hk UB (by omega) ub.lt (fun e => lo.2.2.2.1 e.symm))
  · refine Below.setCell ?_ (p := ⟨MB, 3, none⟩) lo.1 _
    exact ((Below.refl N w2).alloc (by omega) _).grown hg4 (by simp; omega) (fun i hi => by have := hfar i hi; omega)
end Go.Proofs.Ytoddjdajjmcliaa
