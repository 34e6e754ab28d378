/- Keys of package move's maps; contracts of push, isNode, isWho. -/
import Derived.Test.YtckkelppdeampaaHarb
import Derived.Test.YtckkelppdeampaaMapEntry
import Derived.Maps.Keyed
import Derived.DeepKeys4
import Derived.Deep.QuietTactic
import Derived.BigQuiet
import Derived.StillTailTactics
import Derived.Deep.RegionHeld3
set_option linter.unusedVariables false
namespace Go.Proofs.Ytckkelppdeampaa
open Go.RowKit Go.Mem Go.Mv Go.Maps
theorem wf1000 (n : Nat) (hn : n < 1000) : (Lit.int .i64 (n : Int)).wf = true := by
  have h0 : IntKind.i64.min = -9223372036854775808 := by decide
  simp [Lit.wf, h0]
  omega
theorem key_pair (k : Nat × Nat) (hk : okP k) : ∃ x, keyOf Try.prog 51 (encP k) = some x := by
  obtain ⟨a, b⟩ := k
  obtain ⟨h1, h2⟩ := hk
  simp only at h1 h2
  have hu := Try.underlying51
  have hi := Try.underlying3
  have hkt : Try.prog.keyType 51 = true := by kernel_rfl
  have hsz : Try.prog.types.size + 1 = (Try.prog.types.size - 1) + 1 + 1 := by kernel_rfl
  have c1 : Try.prog.cellsOf 51 = 2 := by kernel_rfl
  have c2 : Try.prog.cellsOf 3 = 1 := by kernel_rfl
  have hf : (encP (a, b)).formed Try.prog 51 = true := by simp [Value.formed, encP, hu, c1]
  have hc : (encP (a, b)).cells.toList = [.int .i64 (a : Nat), .int .i64 (b : Nat)] := rfl
  unfold keyOf
  simp only [hu]
  rw [hkt, hf]
  simp only [Bool.and_self, if_true]
  rw [hsz, hc]
  generalize Try.prog.types.size - 1 = d
  have l1 : ∀ n : Nat, n < 1000 → Try.prog.keyLits (d + 1) 3 [.int .i64 (n : Int)] = some [.int .i64 n] := fun n hn => by
    unfold Program.keyLits
    simp [hi, wf1000 n hn]
  unfold Program.keyLits
  simp only [hu]
  rw [if_pos (by rw [c1]; rfl)]
  simp [c2, List.range_succ, l1 a h1, l1 b h2]
theorem enc_pair : Enc Try.prog 51 encP okP where
  keyed := Keyed.of_law (deep_law_laid (m := 5) (by kernel_rfl) (by omega) (by decide +kernel) (by kernel_rfl) (by kernel_rfl))
  inj := encP_inj
  key := key_pair
theorem key_spot (k : Nat × Nat) (hk : okP k) : ∃ x, keyOf Try.prog 54 (encP k) = some x := by
  obtain ⟨a, b⟩ := k
  obtain ⟨h1, h2⟩ := hk
  simp only at h1 h2
  have hu := Try.underlying54
  have hi := Try.underlying3
  have hkt : Try.prog.keyType 54 = true := by kernel_rfl
  have hsz : Try.prog.types.size + 1 = (Try.prog.types.size - 1) + 1 + 1 := by kernel_rfl
  have c1 : Try.prog.cellsOf 54 = 2 := by kernel_rfl
  have c2 : Try.prog.cellsOf 3 = 1 := by kernel_rfl
  have hf : (encP (a, b)).formed Try.prog 54 = true := by simp [Value.formed, encP, hu, c1]
  have hc : (encP (a, b)).cells.toList = [.int .i64 (a : Nat), .int .i64 (b : Nat)] := rfl
  unfold keyOf
  simp only [hu]
  rw [hkt, hf]
  simp only [Bool.and_self, if_true]
  rw [hsz, hc]
  generalize Try.prog.types.size - 1 = d
  have l1 : ∀ n : Nat, n < 1000 → Try.prog.keyLits (d + 1) 3 [.int .i64 (n : Int)] = some [.int .i64 n] := fun n hn => by
    unfold Program.keyLits
    simp [hi, wf1000 n hn]
  unfold Program.keyLits
  simp only [hu]
  simp [c1, c2, l1 a h1, l1 b h2]
theorem enc_spot : Enc Try.prog 54 encP okP where
  keyed := Keyed.of_law (deep_law_laid (m := 5) (by kernel_rfl) (by omega) (by decide +kernel) (by kernel_rfl) (by kernel_rfl))
  inj := encP_inj
  key := key_spot

/-- the blocks that may change: those of the simulation's parts -/
def Own (col : Nat → Mc) (b : Nat) : Prop := col b ≠ .cst ∧ col b ≠ .out
/-- a step: of what there was only parts of the simulation have changed; a colour stays, or a block of a part is laid off -/
structure Stp (w w' : World) (col col' : Nat → Mc) : Prop where
  gr : GrownIn (Own col) w w'
  kc : ∀ b, b < w.heap.size → col' b = col b ∨ (col' b = .cst ∧ Own col b)
theorem Stp.trans {w w' w'' : World} {col col' col'' : Nat → Mc} (h : Stp w w' col col') (k : Stp w' w'' col' col'') : Stp w w'' col col'' :=
  ⟨h.gr.trans k.gr fun b hb => by
    rcases Nat.lt_or_ge b w.heap.size with hl | hl
    · rcases h.kc b hl with e | ⟨e, _⟩
      · unfold Own at hb ⊢
        rw [e] at hb
        exact .inl hb
      · exact absurd e hb.1
    · exact .inr hl, fun b hb => by
    rcases k.kc b (Nat.lt_of_lt_of_le hb h.gr.size) with e2 | ⟨e2, o2⟩ <;> rcases h.kc b hb with e1 | ⟨e1, o1⟩
    · exact .inl (e2.trans e1)
    · exact .inr ⟨e2.trans e1, o1⟩
    · refine .inr ⟨e2, ?_⟩
      unfold Own at o2 ⊢
      rw [e1] at o2
      exact o2
    · exact absurd e1 o2.1⟩
theorem Stp.grow {w w' : World} {col : Nat → Mc} {own : Nat → Prop} (c : Mc) (hg : GrownIn own w w') (ho : ∀ b, b < w.heap.size → own b → Own col b) : Stp w w' col (recol col w.heap.size c) :=
  ⟨⟨hg.os, hg.tape, hg.output, hg.size, fun b hb hn => hg.block b hb fun e => hn (ho b hb e)⟩, fun b hb => .inl (recol_old hb)⟩
theorem Stp.same {w w' : World} {col : Nat → Mc} (hg : GrownIn (fun _ => False) w w') : Stp w w' col col := ⟨⟨hg.os, hg.tape, hg.output, hg.size, fun b hb _ => hg.block b hb id⟩, fun _ _ => .inl rfl⟩
theorem Stp.cst {w w' : World} {col col' : Nat → Mc} (h : Stp w w' col col') {g : Nat} (hl : g < w.heap.size) (hc : col g = .cst) : w'.heap[g]? = w.heap[g]? ∧ col' g = .cst :=
  ⟨h.gr.block g hl fun e => e.1 hc, by
    rcases h.kc g hl with e | ⟨e, _⟩
    · exact e.trans hc
    · exact e⟩
theorem Stp.blk {w w' : World} {col col' : Nat → Mc} (h : Stp w w' col col') {g : Nat} {t : TypeId} {cs : List Value} (hb : Blk w g t cs) (hc : col g = .cst) : Blk w' g t cs ∧ col' g = .cst :=
  ⟨(h.cst hb.lt hc).1.trans hb, (h.cst hb.lt hc).2⟩
def HPost (w : World) (B : Nat) (col : Nat → Mc) (T : Nat) (s' : Hb) (e : Ending) (w' : World) : Prop := ∃ col' m', e = .returned (.tuple #[]) ∧ m'.T = T ∧ HW w' B col' m' s' ∧ Stp w w' col col'
section
variable {w w' : World} {B : Nat} {col : Nat → Mc} {m : Hm} {s : Hb}
theorem HW.own (h : HW w B col m s) {c : Mc} (hc : c ≠ .out) : ∀ b, col b = c → B ≤ b := fun b hb => by
  rcases Nat.lt_or_ge b B with hl | hl
  · exact absurd ((h.low b hl).symm.trans hb).symm hc
  · exact hl
theorem HW.at_way (h : HW w B col m s) (a b : Nat) : RowAt w col (.way (a, b)) 68 7 (chan s.ways a b).length ((mget m.lW (a, b)).getD (.slice none 0 0)) (elcs (chan s.ways a b)) := by
  have hs : (mget m.lW (a, b)).isSome = (mget s.ways (a, b)).isSome := by
    have := keys_put2 (a := (a, b)) (v := Value.bool true) (u := ([] : List El)) h.kW
    have hp : ∀ {δ : Type} (l : List ((Nat × Nat) × δ)) (v : δ), (mput l (a, b) v).length = if (mget l (a, b)).isSome then l.length else l.length + 1 := by
      intro δ l v
      unfold mput
      split <;> simp
    have hl := congrArg List.length this
    have hk := congrArg List.length h.kW
    simp only [List.length_map] at hl hk
    rw [hp, hp] at hl
    cases h1 : (mget m.lW (a, b)).isSome <;> cases h2 : (mget s.ways (a, b)).isSome <;> rw [h1, h2] at hl <;> simp at hl <;> first | rfl | omega
  unfold chan
  cases h1 : mget m.lW (a, b) with
  | none =>
    rw [h1] at hs
    have h2 : mget s.ways (a, b) = none := by simpa using hs.symm
    rw [h2]
    exact ⟨Seg.nil _ _ _, fun g hg => by simp [Value.ownBlock] at hg⟩
  | some v =>
    rw [h1] at hs
    obtain ⟨c, h2⟩ := Option.isSome_iff_exists.1 hs.symm
    rw [h2]
    exact h.eW _ _ _ h1 h2
end
theorem zero_row : ∀ w : World, (zeroValue 52).run Try.prog w = .ok (.slice none 0 0) w := fun _ => by kernel_rfl
theorem look_way {w : World} {m : Nat} {l : List ((Nat × Nat) × Value)} (h : MapOf encP okP w m l) (a b : Nat) (ha : a < 1000) (hb : b < 1000) (W : World) (hW : W.heap[m]? = w.heap[m]?) :
    (Instr.lookup 47 (.map (some m)) (.agg #[.int .i64 (a : Nat), .int .i64 (b : Nat)]) false).run Try.prog W = .ok ((mget l (a, b)).getD (.slice none 0 0)) W := by
  have := (h.same hW).lookup enc_pair Try.underlying47 zero_row (a := (a, b)) ⟨ha, hb⟩ false
  simp only [Bool.false_eq_true, if_false] at this
  exact this
theorem put_way {w : World} {m : Nat} {l : List ((Nat × Nat) × Value)} (h : MapOf encP okP w m l) (a b : Nat) (ha : a < 1000) (hb : b < 1000) (v : Value) :
    ∃ w', (Instr.mapUpdate 47 (.map (some m)) (.agg #[.int .i64 (a : Nat), .int .i64 (b : Nat)]) v).run Try.prog w = .ok () w' ∧ MapOf encP okP w' m (mput l (a, b) v) ∧ w.grownBy w' (some m) :=
  h.update enc_pair Try.underlying47 (a := (a, b)) ⟨ha, hb⟩ v
theorem zel : (Try.prog.info? 68).map (fun i => (i.zero, i.size, i.bytes)) = some (some (.agg #[.int .i64 0, .int .i64 0, .int .i64 0, .int .i64 0, .int .i64 0, .int .i64 0, .int .i64 0]), 7, 56) := by kernel_rfl
theorem _root_.Go.Mem.Seg.alloc_ {w : World} {e : TypeId} {size n : Nat} {v : Value} {xs : List Value} (h : Seg w e size v n xs) (o : Obj) : Seg (w.alloc o) e size v n xs := h.keep fun b hb => Below.heap_alloc w o b (h.lt b hb)
/-- append of one element to a row, in a region that draws its order -/
theorem step_app_el (w : World) {ops : Array Oper} {o : Oper} {a : Act} {K : Act → World → Prop} {Q : Exit → Act → World → Prop} {E : Prop} (hgd : o.guard = none) (s x : Operand)
    (ho : o.op = .call { callee := .builtin .append, args := #[s, x], argTypes := #[52, 52] })
    {v : Value} {n : Nat} {xs : List Value} (hseg : Seg w 68 7 v n xs) (hs : a.eval s = v)
    {D : Nat → Prop} {A : Option Addr} {m : Nat} {news : List Value} (hr : Reads w D 7 A m news) {c : Nat} (hx : a.eval x = .slice A m c) (h1 : ∀ u ∈ news, u.oneCell' = true) (hm : 0 < m)
    (h63 : n + m ≤ 1000000000)
    (h : ∀ v' w', Seg w' 68 7 v' (n + m) (xs ++ news) → w.grownBy w' v.ownBlock → (∀ b, v'.ownBlock = some b → v.ownBlock = some b ∨ w.heap.size ≤ b) → K (a.put o.dst v') w') :
    if Region.wanted o (yielded ops a.tmps) = true then Oper.wp Try.prog o a w K Q else E := by
  obtain ⟨i0, hi0, hz0, hz1, hz2⟩ := info_parts zel
  obtain ⟨v', w', hrun, r1, r2, r3⟩ := hseg.append (P := Try.prog) 52 o.type i0 _ 56 Try.underlying52 hi0 hz0 hz1 hz2 rfl (by omega) (c := c) hr hm h1 (by simp only [maxLen]; omega) (by omega)
  have hw : Region.wanted o (yielded ops a.tmps) = true := by simp [Region.wanted, hgd]
  rw [if_pos hw]
  unfold Oper.wp execOp
  simp only [ho, resolve, invoke, builtin, Sem.run_bind, Sem.run_pure, Result.andThen_ok, List.map_toArray, List.map_cons, List.map_nil, hs, hx, hrun]
  exact h v' w' r1 r2 r3

/-- a channel has a new row, and the map holds it -/
theorem harb_row {w w2 w3 : World} {B : Nat} {col : Nat → Mc} {m : Hm} {s : Hb} (h : HW w B col m s) (hB : B ≤ w.heap.size) {k : Nat × Nat} {v v2 : Value} {c : List El}
    (hcol : ∀ b, v.ownBlock = some b → col b = .way k) (hgw : w.grownBy w2 v.ownBlock) (hseg : Seg w2 68 7 v2 c.length (elcs c)) (hat : ∀ b, v2.ownBlock = some b → v.ownBlock = some b ∨ w.heap.size ≤ b) (hm3 : MapOf encP okP w3 m.Wy (mput m.lW k v2)) (hg3 : w2.grownBy w3 (some m.Wy)) :
    HW w3 B (recol col w.heap.size (.way k)) { m with lW := mput m.lW k v2 } { s with ways := mput s.ways k c } ∧ Stp w w3 col (recol col w.heap.size (.way k)) := by
  have hg : GrownIn (fun b => col b = .way k ∨ b = m.Wy) w w3 := (GrownIn.of_grown hgw fun b hb => .inl (hcol b hb)).trans (own' := fun b => b = m.Wy) (GrownIn.of_grown hg3 fun b hb => by injection hb with hb; exact hb.symm) fun b hb => .inl (.inr hb)
  refine ⟨h.way hB hg hm3 ⟨hseg.keep fun b hb => hg3.block b (hseg.lt b hb) fun e => ?_, fun b hb => ?_⟩, Stp.grow _ hg fun b hb e => ?_⟩
  · injection e with e
    subst e
    rcases hat _ hb with e | e
    · have := hcol _ e
      rw [h.cW] at this
      cases this
    · have := h.hW.lt
      omega
  · rcases hat b hb with e | e
    · rcases Nat.lt_or_ge b w.heap.size with hl | hl
      · rw [recol_old hl]; exact hcol b e
      · rw [recol_new hl]
    · rw [recol_new e]
  · unfold Own
    rcases e with e | rfl
    · rw [e]; simp
    · rw [h.cW]; simp
theorem grown_alloc {w w' : World} {o : Obj} {row : Option Nat} (h : (w.alloc o).grownBy w' row) : w.grownBy w' row :=
  ⟨h.os, h.tape, h.output, Nat.le_trans (by simp) h.size, fun b hb hn => (h.block b (by simp; omega) hn).trans (Below.heap_alloc w o b hb)⟩
theorem grown_allocd {w w' : World} {o : Obj} {row : Option Nat} (h : ((w.alloc o).drew).grownBy w' row) : w.grownBy w' row :=
  ⟨h.os, h.tape, h.output, Nat.le_trans (by show _ ≤ (w.alloc o).heap.size; simp) h.size, fun b hb hn => (h.block b (by show _ < (w.alloc o).heap.size; simp; omega) hn).trans (Below.heap_alloc w o b hb)⟩
theorem cell_same {w w' : World} {b o : Nat} {u : Option Value} (h : w'.heap[b]? = w.heap[b]?) (hc : w.cell? ⟨b, o, none⟩ = u) : w'.cell? ⟨b, o, none⟩ = u := (World.cell?_of_block (w := w) h).trans hc

set_option maxRecDepth 100000 in
set_option maxHeartbeats 2000000 in
theorem push_any (w : World) (B : Nat) (col : Nat → Mc) (m : Hm) (s : Hb) (h : HW w B col m s) (hB : B ≤ w.heap.size) (a b : Nat) (ha : a < 1000) (hb : b < 1000) (x : El) (hl : (chan s.ways a b).length ≤ 1000000) :
    Calls Try.prog 20 #[.pointer (some ⟨m.T, 0, none⟩), .int .i64 (a : Nat), .int .i64 (b : Nat), .agg #[.int .i64 x.kind, .int .i64 x.who, .int .i64 x.src, .int .i64 x.seq, .int .i64 x.n, .int .i64 x.bn, .int .i64 x.bm]] w (HPost w B col m.T (push s a b x)) := by
  obtain ⟨xk, xw, xs, xq, xn, x1, x2⟩ := x
  obtain ⟨w1, hw1⟩ : ∃ w1, w1 = w.alloc (.cells #[.int .i64 xk, .int .i64 xw, .int .i64 xs, .int .i64 xq, .int .i64 xn, .int .i64 x1, .int .i64 x2] 68) := ⟨_, rfl⟩
  have bX : Blk w1 w.heap.size 68 [.int .i64 xk, .int .i64 xw, .int .i64 xs, .int .i64 xq, .int .i64 xn, .int .i64 x1, .int .i64 x2] := by rw [hw1]; exact Blk.new w _ _
  have hg1 : GrownIn (fun _ => False) w w1 := by rw [hw1]; exact (GrownIn.refl _ _).alloc _
  have h1 := h.grow hB hg1
  have hB1 : B ≤ w1.heap.size := Nat.le_trans hB hg1.size
  obtain ⟨X, hX⟩ : ∃ X, X = w.heap.size := ⟨_, rfl⟩
  rw [← hX] at bX
  have hXB : B ≤ X := by omega
  have hcX : recol col w.heap.size .cst X = .cst := recol_new (by omega)
  generalize hc1 : recol col w.heap.size .cst = col1 at h1 hcX
  have hat := h1.at_way a b
  have c0 := h1.blk.cell 5
  have x0 := bX.cell 0
  have x1' := bX.cell 1
  have x2' := bX.cell 2
  have x3 := bX.cell 3
  have x4 := bX.cell 4
  have x5 := bX.cell 5
  have x6 := bX.cell 6
  simp only [List.getElem?_cons_succ, List.getElem?_cons_zero] at c0 x0 x1' x2' x3 x4 x5 x6
  have lT := h1.blk.lt
  have lX := bX.lt
  have lk0 := look_way h1.hW a b ha hb w1.drew rfl
  have lk1 := look_way h1.hW a b ha hb ((w1.alloc (.cells #[.int .i64 xk, .int .i64 xw, .int .i64 xs, .int .i64 xq, .int .i64 xn, .int .i64 x1, .int .i64 x2] 68)).drew) (Below.heap_alloc w1 _ _ h1.hW.lt)
  obtain ⟨A0, n0, e0⟩ : ∃ A0 n0, (mget m.lW (a, b)).getD (.slice none 0 0) = .slice A0 (chan s.ways a b).length n0 := by
    obtain ⟨A1, c1, e1, _⟩ := hat.1.form
    exact ⟨A1, c1, e1⟩
  rw [e0] at lk0 lk1 hat
  obtain ⟨L, hL⟩ : ∃ L, L = (chan s.ways a b).length := ⟨_, rfl⟩
  rw [← hL] at lk0 lk1 hat hl
  have HL := Lib.hid hL
  have HW1 := Lib.hid hw1
  have HX := Lib.hid hX
  have H1 := Lib.hid h1
  have HAT := Lib.hid hat
  have HBX := Lib.hid bX
  have HG1 := Lib.hid (Stp.grow (col := col) .cst hg1 fun _ _ e => e.elim)
  rw [hc1] at HG1
  have HCX := Lib.hid hcX
  -- a row of a channel is no block of the world's own
  have hnv : ∀ q, (col1 q = .cst ∨ col1 q = .ways) → (Value.slice A0 L n0).ownBlock ≠ some q := fun q hq e => by
    have := HAT.out.2 q e
    rcases hq with hq | hq <;> rw [this] at hq <;> cases hq
  have nTV := hnv m.T (.inl h1.cT)
  have nXV := hnv X (.inl hcX)
  have nWV := hnv m.Wy (.inr h1.cW)
  have nTW : m.T ≠ m.Wy := fun e => by have := h1.cT; rw [e, h1.cW] at this; cases this
  have nXW : X ≠ m.Wy := fun e => by have := hcX; rw [e, h1.cW] at this; cases this
  have lW := h1.hW.lt
  have HN := Lib.hid (And.intro nTV (And.intro nXV (And.intro nWV (And.intro nTW nXW))))
  clear h hw1 hX h1 hat bX hg1 hcX hnv nTV nXV nWV nTW nXW hL hc1 e0
  go_enter Try.func20, Try.ntmps20
  go_wp2_with (fail)
  rw [← HW1.out, ← HX.out]
  go_region_held3 (fun w' => w'.cell? ⟨m.T, 5, none⟩ = some (.map (some m.Wy)) ∧ w'.cell? ⟨X, 0, none⟩ = some (.int .i64 xk) ∧ w'.cell? ⟨X, 1, none⟩ = some (.int .i64 xw) ∧ w'.cell? ⟨X, 2, none⟩ = some (.int .i64 xs) ∧ w'.cell? ⟨X, 3, none⟩ = some (.int .i64 xq) ∧ w'.cell? ⟨X, 4, none⟩ = some (.int .i64 xn) ∧ w'.cell? ⟨X, 5, none⟩ = some (.int .i64 x1) ∧ w'.cell? ⟨X, 6, none⟩ = some (.int .i64 x2))
    (first | exact f8.out | exact f7.out | go_keep)
    ((refine step_app_el _ rfl (.tmp 22) (.tmp 24) (by rfl) (v := .slice A0 L n0) (n := L) (xs := elcs (chan s.ways a b)) (A := some ⟨w1.heap.size, 0, none⟩) (m := 1) (news := [.int .i64 xk, .int .i64 xw, .int .i64 xs, .int .i64 xq, .int .i64 xn, .int .i64 x1, .int .i64 x2]) (c := 1) (D := Any) (by exact Seg.alloc_ HAT.out.1 (.cells #[.int .i64 xk, .int .i64 xw, .int .i64 xs, .int .i64 xq, .int .i64 xn, .int .i64 x1, .int .i64 x2] 68)) rfl (by exact Reads.new (D := Any) w1 [.int .i64 xk, .int .i64 xw, .int .i64 xs, .int .i64 xq, .int .i64 xn, .int .i64 x1, .int .i64 x2] 7 1 68 trivial rfl) rfl (by simp [Value.oneCell']) (by omega) (by omega) ?_; intro v2 w7 hseg7 hg7 hat7; have hg7' : w1.grownBy w7 (Value.slice A0 L n0).ownBlock := grown_allocd hg7; have kT := hg7'.block m.T lT (fun e => HN.out.1 e.symm); have kX := hg7'.block X lX (fun e => HN.out.2.1 e.symm); have f7 := Lib.hid (And.intro (cell_same kT c0) (And.intro (cell_same kX x0) (And.intro (cell_same kX x1') (And.intro (cell_same kX x2') (And.intro (cell_same kX x3) (And.intro (cell_same kX x4) (And.intro (cell_same kX x5) (cell_same kX x6)))))))); obtain ⟨w8, hst, hm8, hg8⟩ := put_way (H1.out.hW.same (hg7'.block m.Wy lW (fun e => HN.out.2.2.1 e.symm))) a b ha hb v2; have kT8 := (hg8.block m.T (Nat.lt_of_lt_of_le lT hg7'.size) (fun e => HN.out.2.2.2.1 (by injection e))).trans kT; have kX8 := (hg8.block X (Nat.lt_of_lt_of_le lX hg7'.size) (fun e => HN.out.2.2.2.2 (by injection e))).trans kX; have f8 := Lib.hid (And.intro (cell_same kT8 c0) (And.intro (cell_same kX8 x0) (And.intro (cell_same kX8 x1') (And.intro (cell_same kX8 x2') (And.intro (cell_same kX8 x3) (And.intro (cell_same kX8 x4) (And.intro (cell_same kX8 x5) (cell_same kX8 x6)))))))); have fin := Lib.hid (And.intro hseg7 (And.intro hg7' (And.intro hat7 (And.intro hm8 hg8)))); clear hseg7 hg7 hg7' hat7 hm8 hg8 kT kX kT8 kX8))
  all_goals
    go_end0
    obtain ⟨g1, g2, g3, g4, g5⟩ := fin.out
    have hl1 : L + 1 = (chan s.ways a b ++ [(⟨xk, xw, xs, xq, xn, x1, x2⟩ : El)]).length := by rw [HL.out]; simp
    rw [hl1] at g1
    have g1' : Seg w7 68 7 v2 (chan s.ways a b ++ [(⟨xk, xw, xs, xq, xn, x1, x2⟩ : El)]).length (elcs (chan s.ways a b ++ [(⟨xk, xw, xs, xq, xn, x1, x2⟩ : El)])) := by rw [elcs_app]; exact g1
    obtain ⟨q1, q2⟩ := harb_row H1.out hB1 (k := (a, b)) (v := .slice A0 L n0) HAT.out.2 g2 g1' (fun b hb => (g3 b hb).imp id fun h => by have : w1.heap.size ≤ b := by { simp at h; omega }; exact this) g4 g5
    exact ⟨_, { m with lW := mput m.lW (a, b) v2 }, rfl, rfl, q1, HG1.out.trans q2⟩
end Go.Proofs.Ytckkelppdeampaa
