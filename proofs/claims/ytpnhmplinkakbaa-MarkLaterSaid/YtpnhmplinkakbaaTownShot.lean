/- Contract of package mark's shot. -/
import Derived.Test.YtpnhmplinkakbaaTownNew
import Derived.Test.YtpnhmplinkakbaaHeldG
import Derived.Test.YtpnhmplinkakbaaSetRow
import Derived.Maps.RangeWalk
set_option linter.unusedVariables false
namespace Go.Proofs.Ytpnhmplinkakbaa
open Go.RowKit Go.Mem Go.Maps

/-- one cell that holds a slice of slices of ints -/
def WaysCell (w : World) (D : Nat → Prop) (cs : List Value) (l : List (List Int)) : Prop := ∃ v, cs = [v] ∧ ListAt 1 NumsCell w D v l
theorem WaysCell.stable : Stable 1 WaysCell where
  keep := fun ⟨v, e, h⟩ hk => ⟨v, e, h.keep NumsCell.stable hk⟩
  imp := fun ⟨v, e, h⟩ hk => ⟨v, e, h.imp NumsCell.stable (by omega) hk⟩
  len := fun ⟨v, e, _⟩ => by simp [e]
  one := fun ⟨v, e, h⟩ u hu => by
    obtain ⟨A, c, vss, rfl, _⟩ := h
    subst e
    simp at hu
    subst hu
    rfl
def AccD (B : Nat) (sv yv : Value) (b : Nat) : Prop := B ≤ b ∧ yv.ownBlock ≠ some b ∧ sv.ownBlock ≠ some b
/-- what has been gathered: the states, the ways; and the ways that are gathered next -/
structure Acc (w : World) (B : Nat) (sv yv : Value) (xs : List Int) (ls : List (List (List Int))) (v : Value) (l : List (List Int)) : Prop where
  sr : w.ownsRow B 3 1 sv xs.length (nums xs)
  yr : ∃ vss, w.ownsRow B 30 1 yv ls.length vss.flatten ∧ All2 (WaysCell w (AccD B sv yv)) vss ls
  pe : WaysCell w (AccD B sv yv) [v] l
section
variable {w w' : World} {B : Nat} {sv yv sv' yv' : Value} {xs : List Int} {ls : List (List (List Int))} {v : Value} {l : List (List Int)}
theorem Acc.keep (h : Acc w B sv yv xs ls v l) (hb : Below w.heap.size w w') : Acc w' B sv yv xs ls v l := by
  obtain ⟨vss, h1, h2⟩ := h.yr
  exact ⟨own_keep h.sr fun b hb' => hb.block b (h.sr.lt b hb').2, ⟨vss, own_keep h1 fun b hb' => hb.block b (h1.lt b hb').2, h2.imp fun _ _ hx => WaysCell.stable.keep hx (Same.any hb)⟩, WaysCell.stable.keep h.pe (Same.any hb)⟩
theorem Acc.alloc (h : Acc w B sv yv xs ls v l) (o : Obj) : Acc (w.alloc o) B sv yv xs ls v l := h.keep ((Below.refl _ _).alloc (Nat.le_refl _) _)
theorem Acc.drew (h : Acc w B sv yv xs ls v l) : Acc w.drew B sv yv xs ls v l := h.keep (Below.refl _ _).drew
theorem Acc.ne (h : Acc w B sv yv xs ls v l) (b : Nat) (h1 : sv.ownBlock = some b) : yv.ownBlock ≠ some b := by
  obtain ⟨vss, hy, _⟩ := h.yr
  rcases h.sr.2 with ⟨rfl, _⟩ | ⟨g, cap, cur, rfl, _, hg, _⟩
  · simp [Value.ownBlock] at h1
  · simp [Value.ownBlock] at h1
    subst h1
    exact own_ne hy (show Blk w g 3 cur.toList by unfold Blk; simpa using hg) (by decide)
theorem Acc.app_s (h : Acc w B sv yv xs ls v l) {x : Int} (hg : w.grownBy w' sv.ownBlock) (hr : w'.ownsRow B 3 1 sv' (xs.length + 1) (nums xs ++ [.int .i64 x])) (hat : sv'.ownBlock = sv.ownBlock ∨ sv'.ownBlock = some w.heap.size) : Acc w' B sv' yv (xs ++ [x]) ls v l := by
  obtain ⟨vss, h1, h2⟩ := h.yr
  have hD : ∀ cs y, WaysCell w (AccD B sv yv) cs y → WaysCell w' (AccD B sv' yv) cs y := fun cs y hx => by
    have a1 := WaysCell.stable.imp hx (D' := fun b => AccD B sv yv b ∧ b < w.heap.size) fun b hb hl => ⟨hb, hl⟩
    have a2 := WaysCell.stable.keep a1 (w' := w') fun b hb _ => hg.block b hb.2 fun e => hb.1.2.2 e.symm
    refine WaysCell.stable.imp a2 fun b hb _ => ⟨hb.1.1, hb.1.2.1, fun e => ?_⟩
    rcases hat with e2 | e2
    · exact hb.1.2.2 (e2.symm.trans e)
    · rw [e2] at e
      injection e with e
      have := hb.2
      omega
  refine ⟨by rw [List.length_append, nums_append]; exact hr, ⟨vss, own_keep h1 fun b hb' => hg.block b (h1.lt b hb').2 fun e => h.ne b e.symm hb', h2.imp fun _ _ hx => hD _ _ hx⟩, hD _ _ h.pe⟩
theorem Acc.app_y (h : Acc w B sv yv xs ls v l) {vss : List (List Value)} (h1 : w.ownsRow B 30 1 yv ls.length vss.flatten) (h2 : All2 (WaysCell w (AccD B sv yv)) vss ls) (hg : w.grownBy w' yv.ownBlock) (hr : w'.ownsRow B 30 1 yv' (ls.length + 1) (vss.flatten ++ [v])) (hat : yv'.ownBlock = yv.ownBlock ∨ yv'.ownBlock = some w.heap.size) :
    w'.ownsRow B 3 1 sv xs.length (nums xs) ∧ ∃ vss', w'.ownsRow B 30 1 yv' (ls ++ [l]).length vss'.flatten ∧ All2 (WaysCell w' (AccD B sv yv')) vss' (ls ++ [l]) := by
  have hD : ∀ cs y, WaysCell w (AccD B sv yv) cs y → WaysCell w' (AccD B sv yv') cs y := fun cs y hx => by
    have a1 := WaysCell.stable.imp hx (D' := fun b => AccD B sv yv b ∧ b < w.heap.size) fun b hb hl => ⟨hb, hl⟩
    have a2 := WaysCell.stable.keep a1 (w' := w') fun b hb _ => hg.block b hb.2 fun e => hb.1.2.1 e.symm
    refine WaysCell.stable.imp a2 fun b hb _ => ⟨hb.1.1, fun e => ?_, hb.1.2.2⟩
    rcases hat with e2 | e2
    · exact hb.1.2.1 (e2.symm.trans e)
    · rw [e2] at e
      injection e with e
      have := hb.2
      omega
  refine ⟨own_keep h.sr fun b hb' => hg.block b (h.sr.lt b hb').2 fun e => h.ne b hb' e.symm, vss ++ [[v]], ?_, (h2.imp fun _ _ hx => hD _ _ hx).snoc (hD _ _ h.pe)⟩
  simpa using hr
end

theorem below_of_alloc {w w1 : World} {o : Obj} (h : Below (w.alloc o).heap.size (w.alloc o) w1) : Below w.heap.size w w1 := ((Below.refl w.heap.size w).alloc (Nat.le_refl _) o).trans (h.mono (by simp))
theorem blk_reads {w : World} {g : Nat} {t : TypeId} {cs : List Value} (h : Blk w g t cs) (size n : Nat) (hl : cs.length = n * size) : Reads w Any size (some ⟨g, 0, none⟩) n cs :=
  ⟨hl, fun _ => ⟨g, 0, rfl, trivial, fun j u hu => by rw [h.cell]; simpa using hu⟩⟩
theorem info_rows : (Try.prog.info? 30).map (fun i => (i.zero, i.size, i.bytes)) = some (some (.slice none 0 0), 1, 24) := by kernel_rfl
theorem step_app_rows (w : World) {ops : Array Oper} {o : Oper} {a : Act} {K : Act → World → Prop} {Q : Exit → Act → World → Prop} {E : Prop} (hgd : o.guard = none) (s x : Operand)
    (ho : o.op = .call { callee := .builtin .append, args := #[s, x], argTypes := #[57, 57] })
    {base : Nat} {v : Value} {n : Nat} {xs : List Value} (hown : w.ownsRow base 30 1 v n xs) (hs : a.eval s = v)
    {D : Nat → Prop} {A : Option Addr} {m : Nat} {news : List Value} (hr : Reads w D 1 A m news) {c : Nat} (hx : a.eval x = .slice A m c) (h1 : ∀ u ∈ news, u.oneCell' = true)
    (h63 : n + m ≤ 2932031007402) (hbase : base ≤ w.heap.size)
    (h : ∀ v' w', w'.ownsRow base 30 1 v' (n + m) (xs ++ news) → w.grownBy w' v.ownBlock → (v'.ownBlock = v.ownBlock ∨ v'.ownBlock = some w.heap.size) → K (a.put o.dst v') w') :
    if Region.wanted o (yielded ops a.tmps) = true then Oper.wp Try.prog o a w K Q else E := by
  obtain ⟨i0, hi0, hz0, hz1, hz2⟩ := info_parts info_rows
  exact step_append_any w hgd s x _ ho base _ i0 _ 1 24 Try.underlying57 hi0 hz0 hz1 hz2 rfl (by omega) v n xs hs hown D A m c news hx hr h1 (by simp only [maxLen]; omega) (by omega) hbase h
def tellS (x : Sd) : Int := if doneB x then x.state else 0
def tellW (x : Sd) : List (List Int) := if doneB x then x.ways else []
def tellE (x : Sd) : Int := if doneB x then 0 else 8
theorem tell_two (w : World) (S : Nat) (own : Nat → Prop) (x : Sd) (h : Side w S own x) :
    Calls Try.prog 13 #[.pointer (some ⟨S, 0, none⟩)] w fun e w' => ∃ A c, e = .returned (.tuple #[.int .i64 (tellS x), .slice A (tellW x).length c, .int .i64 (tellE x)]) ∧ OwnList 22 1 NumsCell w' w.heap.size (.slice A (tellW x).length c) (tellW x) ∧ Below w.heap.size w w' := by
  refine (tell_any w S own x h).mono ?_
  rintro e w' ⟨h1, h2, hb⟩
  by_cases hd : x.started = true ∧ ¬ false ∈ x.marked
  · have e1 : doneB x = true := by
      unfold doneB
      rw [hd.1]
      simp [hd.2]
    obtain ⟨A, c, rfl, ho⟩ := h1 hd
    exact ⟨A, c, by simp [tellS, tellW, tellE, e1], by simpa [tellW, e1] using ho, hb⟩
  · have e1 : doneB x = false := by
      unfold doneB
      cases hs : x.started with
      | false => rfl
      | true =>
        have : false ∈ x.marked := Classical.not_not.1 fun hn => hd ⟨hs, hn⟩
        simp [this]
    exact ⟨none, 0, by rw [h2 hd]; simp [tellS, tellW, tellE, e1], by simpa [tellW, e1] using OwnList.nil (R := NumsCell) w' w.heap.size 22 1, hb⟩
def AccR (w : World) (B : Nat) (sv yv : Value) (xs : List Int) (ls : List (List (List Int))) : Prop :=
  w.ownsRow B 3 1 sv xs.length (nums xs) ∧ ∃ vss, w.ownsRow B 30 1 yv ls.length vss.flatten ∧ All2 (WaysCell w (AccD B sv yv)) vss ls
def OW (B O b : Nat) : Prop := B ≤ b ∨ b = O
def RelS (W1 wr : World) (B O : Nat) (d : Bool) (sv yv nv : Value) (xs : List Int) (ls : List (List (List Int))) : Prop :=
  Blk wr O 59 [.bool d, sv, yv, nv, .int .i64 0] ∧ AccR wr B sv yv xs ls ∧ GrownIn (OW B O) W1 wr
theorem rel_end {W1 w5 : World} {B O : Nat} {d : Bool} {sv yv sv' yv' nv : Value} {xs : List Int} {ls : List (List (List Int))} (hb : Blk w5 O 59 [.bool d, sv, yv, nv, .int .i64 0]) (ha : AccR w5 B sv' yv' xs ls) (hg : GrownIn (OW B O) W1 w5) (hO : O < B) :
    RelS W1 ((w5.setCell ⟨O, 1, none⟩ sv').setCell ⟨O, 2, none⟩ yv') B O d sv' yv' nv xs ls := by
  have hk : ∀ b, B ≤ b → ((w5.setCell ⟨O, 1, none⟩ sv').setCell ⟨O, 2, none⟩ yv').heap[b]? = w5.heap[b]? := fun b hb' => (Below.heap_setCell _ ⟨O, 2, none⟩ yv' b (by show b ≠ O; omega)).trans (Below.heap_setCell w5 ⟨O, 1, none⟩ sv' b (by show b ≠ O; omega))
  obtain ⟨h1, vss, h2, h3⟩ := ha
  exact ⟨(hb.put 1 sv').put 2 yv', ⟨own_keep h1 fun b hb' => hk b (h1.lt b hb').1, vss, own_keep h2 fun b hb' => hk b (h2.lt b hb').1, h3.imp fun _ _ hx => WaysCell.stable.keep hx fun b hb' _ => hk b hb'.1⟩, (hg.set (p := ⟨O, 1, none⟩) (.inr rfl) sv').set (p := ⟨O, 2, none⟩) (.inr rfl) yv'⟩
structure Sh where
  done : Bool
  states : List Int
  ways : List (List (List Int))
  now : List Int
  left : Int
def shotF (s : Tn) : Sh := ⟨allDone s, if allDone s then s.sides.map (·.state) else [], if allDone s then s.sides.map (·.ways) else [], s.coins, wsum (fun _ c => posum c) s.ways⟩
theorem all_tell {s : Tn} (h : allDone s = true) : s.sides.map tellS = s.sides.map (·.state) ∧ s.sides.map tellW = s.sides.map (·.ways) := by
  have h1 := List.all_eq_true.1 h
  exact ⟨List.map_congr_left fun x hx => by simp [tellS, h1 x hx], List.map_congr_left fun x hx => by simp [tellW, h1 x hx]⟩
def ShCells (w : World) (D : Nat → Prop) (cs : List Value) (x : Sh) : Prop :=
  ∃ A1 c1 A2 c2 vss A3 c3, cs = [.bool x.done, .slice A1 x.states.length c1, .slice A2 x.ways.length c2, .slice A3 x.now.length c3, .int .i64 x.left] ∧ (x.states.length ≤ c1 ∧ c1 ≤ maxLen) ∧ (x.ways.length ≤ c2 ∧ c2 ≤ maxLen) ∧ (x.now.length ≤ c3 ∧ c3 ≤ maxLen) ∧
    Reads w D 1 A1 x.states.length (nums x.states) ∧ Reads w D 1 A2 x.ways.length vss.flatten ∧ All2 (WaysCell w D) vss x.ways ∧ Reads w D 1 A3 x.now.length (nums x.now)
theorem ShCells.stable : Stable 5 ShCells where
  keep := fun ⟨A1, c1, A2, c2, vss, A3, c3, e, h1, h2, h3, r1, r2, a2, r3⟩ hk => ⟨A1, c1, A2, c2, vss, A3, c3, e, h1, h2, h3, r1.keep hk, r2.keep hk, a2.imp fun _ _ h => WaysCell.stable.keep h hk, r3.keep hk⟩
  imp := fun ⟨A1, c1, A2, c2, vss, A3, c3, e, h1, h2, h3, r1, r2, a2, r3⟩ hk => ⟨A1, c1, A2, c2, vss, A3, c3, e, h1, h2, h3, r1.imp (by omega) hk, r2.imp (by omega) hk, a2.imp fun _ _ h => WaysCell.stable.imp h hk, r3.imp (by omega) hk⟩
  len := fun ⟨A1, c1, A2, c2, vss, A3, c3, e, _⟩ => by simp [e]
  one := fun ⟨A1, c1, A2, c2, vss, A3, c3, e, _⟩ u hu => by subst e; simp at hu; rcases hu with rfl | rfl | rfl | rfl | rfl <;> rfl
theorem posum_nn (c : List Int) : 0 ≤ posum c := by
  induction c with
  | nil => simp [posum]
  | cons x r ih => rw [posum_cons]; omega
/-- how much is on its way in the entries of a map -/
def leftF (ws : Ways) (left : List ((Nat × Nat) × Value)) : Int := (left.map fun p => posum (chan ws p.1.1 p.1.2)).sum
theorem leftF_nn (ws : Ways) (left : List ((Nat × Nat) × Value)) : 0 ≤ leftF ws left := by
  induction left with
  | nil => simp [leftF]
  | cons p r ih =>
    have := posum_nn (chan ws p.1.1 p.1.2)
    simp only [leftF, List.map_cons, List.sum_cons] at ih ⊢
    omega
theorem leftF_all {w : World} {col : Nat → Col} {l : List ((Nat × Nat) × Value)} {ws : Ways} (h : WaysIn w col l ws) (hn : (ws.map (·.1)).Nodup) : leftF ws l = wsum (fun _ c => posum c) ws := by
  have e1 : leftF ws l = ((l.map (·.1)).map fun k => posum (chan ws k.1 k.2)).sum := by unfold leftF; rw [List.map_map]; rfl
  have e2 : wsum (fun _ c => posum c) ws = ((ws.map (·.1)).map fun k => posum (chan ws k.1 k.2)).sum := by
    unfold wsum
    rw [List.map_map]
    congr 1
    apply List.map_congr_left
    intro p hp
    have := mget_at hn (a := p.1) (v := p.2) hp
    simp [chan, this]
  rw [e1, e2, h.1]
theorem leftF_mid (ws : Ways) (l1 l2 : List ((Nat × Nat) × Value)) (x : Nat × Nat) (v : Value) : leftF ws (l1 ++ (x, v) :: l2) = leftF ws (l1 ++ l2) + posum (chan ws x.1 x.2) := by
  simp [leftF]
  omega
theorem posum_take (c : List Int) (j : Nat) (h : j < c.length) : posum (c.take (j + 1)) = posum (c.take j) + max c[j] 0 := by
  rw [List.take_succ_eq_append_getElem h, posum_app]
theorem posum_take_le (c : List Int) : ∀ (d j : Nat), j + d = c.length → posum (c.take j) ≤ posum c
  | 0, j, h => by rw [List.take_of_length_le (by omega)]; omega
  | d + 1, j, h => by
    have := posum_take_le c d (j + 1) (by omega)
    rw [posum_take c j (by omega)] at this
    omega
theorem rel_below {W1 w4 w5 : World} {B O : Nat} {d : Bool} {sv yv nv : Value} {xs : List Int} {ls : List (List (List Int))} (h : RelS W1 w4 B O d sv yv nv xs ls) (hb : Below w4.heap.size w4 w5) : RelS W1 w5 B O d sv yv nv xs ls := by
  obtain ⟨h0, ⟨h1, vss, h2, h3⟩, hg⟩ := h
  exact ⟨h0.below hb h0.lt, ⟨own_keep h1 fun b hb' => hb.block b (h1.lt b hb').2, vss, own_keep h2 fun b hb' => hb.block b (h2.lt b hb').2, h3.imp fun _ _ hx => WaysCell.stable.keep hx (Same.any hb)⟩, ⟨hb.os.trans hg.os, hb.tape.trans hg.tape, hb.output.trans hg.output, Nat.le_trans hg.size hb.size, fun i hi hn => (hb.block i (Nat.lt_of_lt_of_le hi hg.size)).trans (hg.block i hi hn)⟩⟩
theorem ent_form {w : World} {B T : Nat} {col : Nat → Col} {s : Tn} {C cC : Nat} {curC : List Value} {S cS : Nat} {curS : List Value} {m : Nat} {l left l1 l2 : List ((Nat × Nat) × Value)} {x : Nat × Nat} {v : Value} (h : TownW w B T col s C cC curC S cS curS m l) (hl : ∀ p ∈ left, p ∈ l) (he : left = l1 ++ (x, v) :: l2) :
    ∃ (A : Option Addr) (c : Nat) (cl : List Int), v = .slice A cl.length c ∧ cl = chan s.ways x.1 x.2 ∧ Reads w Any 1 A cl.length (nums cl) := by
  have hm : (x, v) ∈ l := hl _ (by rw [he]; simp)
  have hg := mget_at (h.mp.keys enc_ways) hm
  obtain ⟨h1, _⟩ := h.ws.at_ x.1 x.2
  rw [show ((x.1, x.2) : Nat × Nat) = x from rfl, hg] at h1
  simp only [Option.getD_some] at h1
  obtain ⟨A, c, e, _, _, hr⟩ := h1.reads
  exact ⟨A, c, _, e, rfl, hr.imp (by omega) fun _ _ _ => trivial⟩
theorem acc_far {w4 wr : World} {B : Nat} {sv yv : Value} {xs : List Int} {ls : List (List (List Int))} (h : AccR w4 B sv yv xs ls) (hk : ∀ b, B ≤ b → b < w4.heap.size → wr.heap[b]? = w4.heap[b]?) : AccR wr B sv yv xs ls := by
  obtain ⟨h1, vss, h2, h3⟩ := h
  exact ⟨own_keep h1 fun b hb => hk b (h1.lt b hb).1 (h1.lt b hb).2, vss, own_keep h2 fun b hb => hk b (h2.lt b hb).1 (h2.lt b hb).2, h3.imp fun _ _ hx => WaysCell.stable.imp (WaysCell.stable.keep (WaysCell.stable.imp hx (D' := fun b => AccD B sv yv b ∧ b < w4.heap.size) fun b hb hl => ⟨hb, hl⟩) fun b hb _ => hk b hb.1.1 hb.2) fun b hb _ => hb.1⟩
theorem acc_cells {w : World} {B : Nat} {X : Sh} {A1 A2 A3 : Option Addr} {c1 c2 c3 n : Nat} {D : Nat → Prop} (h : AccR w B (.slice A1 X.states.length c1) (.slice A2 X.ways.length c2) X.states X.ways) (hn : NumsV w D (.slice A3 n c3) X.now) (hl : X.now.length = n) (hB : ∀ b, B ≤ b → D b) (e : Int) (he : e = X.left) :
    ShCells w D [.bool X.done, .slice A1 X.states.length c1, .slice A2 X.ways.length c2, .slice A3 n c3, .int .i64 e] X := by
  obtain ⟨h1, vss, h2, h3⟩ := h
  obtain ⟨_, f1, f2⟩ := own_form h1
  obtain ⟨_, g1, g2⟩ := own_form h2
  obtain ⟨k1, k2, hr1⟩ := own_reads (by omega) h1
  obtain ⟨k3, k4, hr2⟩ := own_reads (by omega) h2
  obtain ⟨A', n', c', e', k5, k6, hr3⟩ := hn
  injection e' with e1 e2 e3
  subst e1 e2 e3 he hl
  exact ⟨A1, c1, A2, c2, vss, A3, c3, rfl, ⟨k1, k2⟩, ⟨k3, k4⟩, ⟨k5, k6⟩, hr1.imp (by omega) fun b hb _ => hB b hb, hr2.imp (by omega) fun b hb _ => hB b hb, h3.imp fun _ _ hx => WaysCell.stable.imp hx fun b hb _ => hB b hb.1, hr3⟩
def ShotPost (w : World) (x : Sh) (e : Ending) (w' : World) : Prop := ∃ cs, e = .returned (.agg cs.toArray) ∧ ShCells w' (fun b => w.heap.size < b) cs x ∧ Below w.heap.size w w'
def ShotS (O : Nat) (sv yv : Value) (w : World) : Prop := w.cell? ⟨O, 1, none⟩ = some sv ∧ w.cell? ⟨O, 2, none⟩ = some yv
theorem sOf {w : World} {O : Nat} {u0 sv yv nv u4 : Value} {t : TypeId} (h : Blk w O t [u0, sv, yv, nv, u4]) : ShotS O sv yv w := ⟨h.cell 1, h.cell 2⟩
theorem rel_acc {W1 wq w2 : World} {B O : Nat} {d d' : Bool} {sv yv nv v : Value} {xs : List Int} {ls : List (List (List Int))} {l : List (List Int)} (h : RelS W1 wq B O d sv yv nv xs ls) (hb : Below wq.heap.size wq w2) (ho : OwnList 22 1 NumsCell w2 wq.heap.size v l) (hO : O < B) (hB : B ≤ wq.heap.size) :
    Acc (w2.setCell ⟨O, 0, none⟩ (.bool d')) B sv yv xs ls v l ∧ Blk (w2.setCell ⟨O, 0, none⟩ (.bool d')) O 59 [.bool d', sv, yv, nv, .int .i64 0] ∧ GrownIn (OW B O) W1 (w2.setCell ⟨O, 0, none⟩ (.bool d')) := by
  obtain ⟨hO1, ⟨h1, vss, h2, h3⟩, hg⟩ := h
  have hk : ∀ b, B ≤ b → b < wq.heap.size → (w2.setCell ⟨O, 0, none⟩ (.bool d')).heap[b]? = wq.heap[b]? := fun b hb' hl => (Below.heap_setCell w2 ⟨O, 0, none⟩ _ b (by show b ≠ O; omega)).trans (hb.block b hl)
  refine ⟨⟨own_keep h1 fun b hb' => hk b (h1.lt b hb').1 (h1.lt b hb').2, ⟨vss, own_keep h2 fun b hb' => hk b (h2.lt b hb').1 (h2.lt b hb').2, h3.imp fun _ _ hx => WaysCell.stable.imp (WaysCell.stable.keep (WaysCell.stable.imp hx (D' := fun b => AccD B sv yv b ∧ b < wq.heap.size) fun b hb' hl => ⟨hb', hl⟩) fun b hb' _ => hk b hb'.1.1 hb'.2) fun b hb' _ => hb'.1⟩, ?_⟩, (hO1.below hb hO1.lt).put 0 _, (hg.trans (own' := fun b => wq.heap.size ≤ b) (GrownIn.of_below hb) fun b hb' => .inl (.inl (by omega))).set (p := ⟨O, 0, none⟩) (.inr rfl) _⟩
  refine ⟨v, rfl, ((ho.listAt NumsCell.stable (by omega)).imp NumsCell.stable (by omega) (D' := fun b => wq.heap.size ≤ b) fun b hb' _ => hb').keep NumsCell.stable (fun b hb' _ => Below.heap_setCell w2 ⟨O, 0, none⟩ _ b (by show b ≠ O; omega)) |>.imp NumsCell.stable (by omega) fun b hb' _ => ⟨by omega, fun e => ?_, fun e => ?_⟩⟩
  · have := (h2.lt b e).2; omega
  · have := (h1.lt b e).2; omega

set_option maxRecDepth 100000 in
set_option maxHeartbeats 8000000 in
theorem shot_any (w : World) (B T : Nat) (col : Nat → Col) (s : Tn) (n : Nat) (h : TownAt w B T col s) (hf : Fine n s) (hnd : (s.ways.map (·.1)).Nodup) (hTot : wsum (fun _ c => posum c) s.ways ≤ 1000000000000) :
    Calls Try.prog 40 #[.pointer (some ⟨T, 0, none⟩)] w (ShotPost w (shotF s)) := by
  obtain ⟨C, cC, curC, S, cS, curS, m, l, h⟩ := h
  have c0 := h.blk.cell 0
  have c1 := h.blk.cell 1
  simp only [List.getElem?_cons_zero, List.getElem?_cons_succ] at c0 c1
  rw [hf.lc] at c0
  rw [hf.ls] at c1
  have lT := h.blk.lt
  have n8 := hf.n8
  have hCr : Reads w Any 1 (some ⟨C, 0, none⟩) n (nums s.coins) := by
    refine ⟨by rw [nums_length, hf.lc]; omega, fun _ => ⟨C, 0, rfl, trivial, fun j u hu => ?_⟩⟩
    rw [h.hC.cell, Nat.zero_add]
    rw [← h.hc, List.getElem?_take] at hu
    split at hu
    · exact hu
    · cases hu
  have CL := Lib.hid (clone_ints (some ⟨C, 0, none⟩) n cC s.coins Any (w.alloc (.cells #[.bool false, .slice none 0 0, .slice none 0 0, .slice none 0 0, .int .i64 0] 59)) (hCr.keep (Same.alloc _ _ _)) (by omega))
  have H := Lib.hid h
  have Hf := Lib.hid hf
  clear h hf hCr
  go_enter Try.func40, Try.ntmps40
  go_wp2_with (fail)
  refine CL.out.mono ?_
  rintro e w1 ⟨A3, c3, rfl, ho3, hb1⟩
  have hbw1 : Below w.heap.size w w1 := below_of_alloc hb1
  have hZ1 : Blk w1 w.heap.size 59 [.bool false, .slice none 0 0, .slice none 0 0, .slice none 0 0, .int .i64 0] := Blk.below (by exact Blk.new w _ _) hb1 (by simp)
  have c1' := (Same.any (D := Any) hbw1).cell trivial c1
  have lT1 : T < w1.heap.size := by have := hbw1.size; omega
  go_wp2_with (fail)
  obtain ⟨W1, hW1⟩ : ∃ W1, W1 = w1.alloc (.cells #[.bool true, .slice none 0 0, .slice none 0 0, .slice A3 n c3, .int .i64 0] 59) := ⟨_, rfl⟩
  have hO0 : Blk W1 w1.heap.size 59 [.bool true, .slice none 0 0, .slice none 0 0, .slice A3 n c3, .int .i64 0] := by rw [hW1]; exact Blk.new w1 _ _
  have hbW : Below w1.heap.size w1 W1 := by rw [hW1]; exact (Below.refl _ _).alloc (Nat.le_refl _) _
  have hsW : W1.heap.size = w1.heap.size + 1 := by rw [hW1]; simp
  have hbwW : Below w.heap.size w W1 := hbw1.trans (hbW.mono hbw1.size)
  have hnow : NumsV W1 (fun b => w.heap.size < b ∧ b < w1.heap.size) (.slice A3 n c3) s.coins := by
    have hlt3 := ho3.lt
    obtain ⟨A, c', e, x1, x2, x3⟩ := Reads.of_own ho3
    injection e with e1 e2 e3
    subst e1 e3
    exact ⟨A3, n, c3, rfl, x1, x2, (x3.imp (by omega) (D' := fun b => w.heap.size < b ∧ b < w1.heap.size) fun b hb hl => ⟨by have := (hlt3 b hb).1; simp at this; omega, hl⟩).keep (Same.any hbW)⟩
  obtain ⟨O, hO⟩ : ∃ O, O = w1.heap.size := ⟨_, rfl⟩
  obtain ⟨B1, hB1⟩ : ∃ B1, B1 = W1.heap.size := ⟨_, rfl⟩
  have hOB : O < B1 := by omega
  have hOw : w.heap.size ≤ O := by have := hbw1.size; omega
  rw [← hW1, ← hO]
  rw [← hO] at hO0 hnow
  have hrel0 : RelS W1 W1 B1 O ((s.sides.take 0).all doneB) (.slice none 0 0) (.slice none 0 0) (.slice A3 n c3) ((s.sides.take 0).map tellS) ((s.sides.take 0).map tellW) := ⟨hO0, ⟨World.ownsRow_nil _ _ _ _, [], World.ownsRow_nil _ _ _ _, All2.nil⟩, GrownIn.refl _ _⟩
  have HR0 := Lib.hid hrel0
  have HNow := Lib.hid hnow
  have HBW := Lib.hid hbwW
  have HZ := Lib.hid (hZ1.below hbW hZ1.lt)
  have hwO : w.heap.size < O := by have := hZ1.lt; omega
  clear hZ1
  have hBsz : B1 = W1.heap.size := hB1
  have HBsz := Lib.hid hBsz
  clear hrel0 hnow hO0 hbW hW1 hO hB1 hBsz hsW ho3 CL
  go_loopw [24] (fun i wr => ∃ k sv yv, k ≤ n ∧ i = .int .i64 (k : Nat) ∧ Hid (RelS W1 wr B1 O ((s.sides.take k).all doneB) sv yv (.slice A3 n c3) ((s.sides.take k).map tellS) ((s.sides.take k).map tellW))) (fun i _ => n - (intOf i).toNat)
  case atStart => exact ⟨0, _, _, Nat.zero_le _, rfl, HR0⟩
  case round =>
    clear HR0
    obtain ⟨k, sv, yv, hk, rfl, HR⟩ := hrel
    obtain ⟨wq, hwq⟩ : ∃ wq, wq = wr := ⟨_, rfl⟩
    subst hwq
    have hbq : Below w.heap.size w wq := Below.of_in HBW.out HR.out.2.2 (fun b hb => by rcases hb with hb | rfl; have := HBW.out.size; have := HBsz.out; omega; exact hOw) (by have := HBW.out.size; omega)
    have hBq : B1 ≤ wq.heap.size := by have := HR.out.2.2.size; have := HBsz.out; omega
    by_cases hlt : k < n
    · have hkl : k < s.sides.length := by have := Hf.out.ls; omega
      obtain ⟨S0, _, q2, q3⟩ := side_cell H.out hkl
      have q2' := (Same.any (D := Any) hbq).cell trivial q2
      have TL := Lib.hid (tell_two wq S0 _ (sd s k) (q3.keep (Same.any hbq)))
      have eX : s.sides[k] = sd s k := by simp [sd, List.getD_eq_getElem?_getD, hkl]
      have etk : s.sides.take (k + 1) = s.sides.take k ++ [sd s k] := by rw [List.take_succ_eq_append_getElem hkl, eX]
      have HXS : Hid ((s.sides.take (k + 1)).map tellS = (s.sides.take k).map tellS ++ [tellS (sd s k)]) := by unfold Hid; rw [etk]; simp
      have HLS : Hid ((s.sides.take (k + 1)).map tellW = (s.sides.take k).map tellW ++ [tellW (sd s k)]) := by unfold Hid; rw [etk]; simp
      have HDN : Hid ((s.sides.take (k + 1)).all doneB = ((s.sides.take k).all doneB && doneB (sd s k))) := by unfold Hid; rw [etk]; simp
      have hte : (tellE (sd s k) == 0) = doneB (sd s k) := by unfold tellE; cases doneB (sd s k) <;> rfl
      have hxl : ((s.sides.take k).map tellS).length ≤ 8 := by rw [List.length_map, List.length_take]; omega
      have hll : ((s.sides.take k).map tellW).length ≤ 8 := by rw [List.length_map, List.length_take]; omega
      have hrel := HR.out
      generalize (s.sides.take k).map tellS = xs at hrel HXS hxl
      generalize (s.sides.take k).map tellW = ls at hrel HLS hll
      obtain ⟨Asv, csv, rfl, _⟩ := own_form hrel.2.1.1
      obtain ⟨Ayv, cyv, rfl⟩ : ∃ A c, yv = .slice A ls.length c := by
        obtain ⟨_, _, h2, _⟩ := hrel.2.1
        obtain ⟨A, c, e, _⟩ := own_form h2
        exact ⟨A, c, e⟩
      generalize tellS (sd s k) = x at HXS TL
      generalize tellW (sd s k) = l7w at HLS TL
      generalize hgte : tellE (sd s k) = te at TL hte
      generalize doneB (sd s k) = dk at HDN hte
      have Hte := Lib.hid hte
      have HRel := Lib.hid hrel
      clear hte hgte hrel HR q2 q3 etk eX hkl
      generalize hdd : (s.sides.take k).all doneB = dd at HRel HDN
      clear hdd
      have b0 := HRel.out.1.cell 0
      simp only [List.getElem?_cons_zero] at b0
      have lO := HRel.out.1.lt
      have k0 : (0 : Int) ≤ (k : Int) := by omega
      go_upto_region 6 with (go_at_call 13; refine TL.out.mono ?_; rintro e w2 ⟨A7, c7, rfl, ho2, hb2⟩)
      have hO2 := HRel.out.1.below hb2 lO
      have b02 := hO2.cell 0
      simp only [List.getElem?_cons_zero] at b02
      have f02 := hO2.frozen 0
      have lO2 := hO2.lt
      obtain ⟨l7, hl7⟩ : ∃ l7, l7 = l7w.length := ⟨_, rfl⟩
      rw [← hl7] at ho2 ⊢
      clear hl7 b0
      have hacc0 := fun d' => rel_acc (d' := d') HRel.out hb2 ho2 hOB hBq
      have HA0 := Lib.hid hacc0
      have hsz2 : wq.heap.size ≤ w2.heap.size := hb2.size
      clear hacc0 hO2 hb2 ho2 TL q2'
      have hd : ∃ d, d = ((s.sides.take (k + 1)).all doneB) ∧ ∃ u, u = (if dd then te == 0 else false) ∧ u = d := by
        refine ⟨_, rfl, _, rfl, ?_⟩
        rw [HDN.out, Hte.out]
        cases dd <;> rfl
      obtain ⟨d, hd1, u, hu, hud⟩ := hd
      have HDN2 : Hid ((s.sides.take (k + 1)).all doneB = d) := hd1.symm
      subst hud
      have Hu := Lib.hid hu
      clear hd1 hu HDN Hte
      obtain ⟨wr, hwr⟩ : ∃ wr, wr = w2.setCell ⟨O, 0, none⟩ (.bool u) := ⟨_, rfl⟩
      have Hwr := Lib.hid hwr
      obtain ⟨hacc0, hob0, hgi0⟩ := HA0.out u
      rw [← hwr] at hacc0 hob0 hgi0
      have hacc := Lib.hid hacc0
      have hob := Lib.hid hob0
      have hgi := Lib.hid hgi0
      have hszr : wq.heap.size ≤ wr.heap.size := by rw [hwr]; simpa [World.setCell] using hsz2
      have hBr : B1 ≤ wr.heap.size := by omega
      clear hacc0 hob0 hgi0 hwr HA0
      cases dd
      all_goals
        go_upto_region 7 with (fail)
        have hu := Hu.out
        simp only [Bool.false_eq_true, if_false, if_true] at hu
        first | rw [← hu] | skip
        have hwr := Hwr.out
        try rw [hu] at hwr
        first | rw [← hwr] | (rw [← hu] at hwr; rw [← hwr])
        clear hwr hu b02 f02 lO2
        --REGION7
        refine wp_region_g (S := ShotS O (.slice Asv xs.length csv) (.slice Ayv ls.length cyv)) (m := 11) (by kernel_rfl) ?_
        change wpAnyG _ _ _ _ _ _ _ _ _ (World.drew wr)
        have hS : ShotS O (.slice Asv xs.length csv) (.slice Ayv ls.length cyv) (World.drew wr) := sOf (by exact hob.out)
        repeat (first | (refine wpAnyG_take (i := 0) (v := .pointer (some ⟨O, 1, none⟩)) rfl ?_ ?_ ?_ (fun _ _ _ h => h) (Or.inl ⟨by rfl, ?_⟩) hS ?_; (· decide +kernel); (· decide +kernel); (· decide +kernel); (· (intro w' hS'; obtain ⟨zz1, zz2⟩ := hS'; go_simp))) | (refine wpAnyG_take (i := 1) (v := (.slice Asv xs.length csv)) rfl ?_ ?_ ?_ (fun _ _ _ h => h) (Or.inl ⟨by rfl, ?_⟩) hS ?_; (· decide +kernel); (· decide +kernel); (· decide +kernel); (· (intro w' hS'; obtain ⟨zz1, zz2⟩ := hS'; go_simp))) | (refine wpAnyG_take (i := 2) (v := .int .i64 x) rfl ?_ ?_ ?_ (fun _ _ _ h => h) (Or.inl ⟨by rfl, ?_⟩) hS ?_; (· decide +kernel); (· decide +kernel); (· decide +kernel); (· (intro w' hS'; obtain ⟨zz1, zz2⟩ := hS'; go_simp))) | (refine wpAnyG_take (i := 5) (v := .pointer (some ⟨O, 2, none⟩)) rfl ?_ ?_ ?_ (fun _ _ _ h => h) (Or.inl ⟨by rfl, ?_⟩) hS ?_; (· decide +kernel); (· decide +kernel); (· decide +kernel); (· (intro w' hS'; obtain ⟨zz1, zz2⟩ := hS'; go_simp))) | (refine wpAnyG_take (i := 6) (v := (.slice Ayv ls.length cyv)) rfl ?_ ?_ ?_ (fun _ _ _ h => h) (Or.inl ⟨by rfl, ?_⟩) hS ?_; (· decide +kernel); (· decide +kernel); (· decide +kernel); (· (intro w' hS'; obtain ⟨zz1, zz2⟩ := hS'; go_simp))) | (refine wpAnyG_take (i := 7) (v := .slice A7 l7 c7) rfl ?_ ?_ ?_ (fun _ _ _ h => h) (Or.inl ⟨by rfl, ?_⟩) hS ?_; (· decide +kernel); (· decide +kernel); (· decide +kernel); (· (intro w' hS'; obtain ⟨zz1, zz2⟩ := hS'; go_simp))))
        refine wpAnyG_ready (rs := [3, 8]) (by decide +kernel) (by simp) ?_
        refine AllReadyG.cons rfl (fun K hK => ?_) (AllReadyG.cons rfl (fun K hK => ?_) AllReadyG.nil)
        · go_simp
          have acc1 := Lib.hid (hacc.out.alloc (.cells #[.int .i64 x] 3))
          have ob1 := Lib.hid (hob.out.alloc (.cells #[.int .i64 x] 3))
          have gi1 := Lib.hid (hgi.out.alloc (.cells #[.int .i64 x] 3))
          have bn1 := Lib.hid (Blk.new wr 3 [.int .i64 x])
          have hS : ShotS O (.slice Asv xs.length csv) (.slice Ayv ls.length cyv) (wr.alloc (.cells #[.int .i64 x] 3)) := sOf (by exact ob1.out)
          refine hK _ _ (fun _ => hS) ?_
          clear hK K
          refine wpAnyG_ready (rs := [4, 8]) (by decide +kernel) (by simp) ?_
          refine AllReadyG.cons rfl (fun K hK => ?_) (AllReadyG.cons rfl (fun K hK => ?_) AllReadyG.nil)
          · refine step_app_int _ rfl (.tmp 42) (.tmp 44) (by rfl) (base := B1) (v := (.slice Asv xs.length csv)) (n := xs.length) (xs := nums xs) (by exact acc1.out.sr) rfl (D := Any) (A := some ⟨wr.heap.size, 0, none⟩) (m := 1) (news := [.int .i64 x]) (c := 1) (by exact blk_reads bn1.out 1 1 rfl) (by first | rfl | simp) (by simp [Value.oneCell']) (by omega) (by first | omega | (simp; omega)) ?_
            intro v2 w2 hr2 hg2 hat2
            have hh2 : (wr.alloc (.cells #[.int .i64 x] 3)).grownBy w2 (Value.ownBlock (.slice Asv xs.length csv)) := ⟨hg2.os, hg2.tape, hg2.output, hg2.size, hg2.block⟩
            have acc2 := Lib.hid (Acc.app_s (w' := w2) (sv' := v2) acc1.out hh2 hr2 (by exact hat2))
            have gi2 := Lib.hid (gi1.out.trans (w'' := w2) (GrownIn.of_grown (own := fun b => B1 ≤ b) hh2 (fun b hb => (hacc.out.sr.lt b hb).1)) fun b hb => .inl (.inl hb))
            have ob2 := Lib.hid (Blk.grown ob1.out hh2 (fun e => own_ne hacc.out.sr hob.out (by decide) e.symm))
            obtain ⟨Av2, cv2, ev2, _⟩ := own_form hr2
            have hz2 : wr.heap.size ≤ w2.heap.size := by have := hg2.size; (try simp at this); omega
            subst ev2
            have hS : ShotS O (.slice Asv xs.length csv) (.slice Ayv ls.length cyv) w2 := sOf (by exact ob2.out)
            refine hK _ _ (fun _ => hS) ?_
            clear hK K hr2 hg2 hat2
            repeat (first | (refine wpAnyG_take (i := 10) (v := .pointer (some ⟨O, 1, none⟩)) rfl ?_ ?_ ?_ (fun _ _ _ h => h) (Or.inl ⟨by rfl, ?_⟩) hS ?_; (· decide +kernel); (· decide +kernel); (· decide +kernel); (· (intro w' hS'; obtain ⟨zz1, zz2⟩ := hS'; go_simp))))
            refine wpAnyG_ready (rs := [8]) (by decide +kernel) (by simp) ?_
            refine AllReadyG.cons rfl (fun K hK => ?_) AllReadyG.nil
            go_simp
            have acc3 := Lib.hid (acc2.out.alloc (.cells #[.slice A7 l7 c7] 30))
            have ob3 := Lib.hid (ob2.out.alloc (.cells #[.slice A7 l7 c7] 30))
            have gi3 := Lib.hid (gi2.out.alloc (.cells #[.slice A7 l7 c7] 30))
            have bn3 := Lib.hid (Blk.new w2 30 [.slice A7 l7 c7])
            have hS : ShotS O (.slice Asv xs.length csv) (.slice Ayv ls.length cyv) (w2.alloc (.cells #[.slice A7 l7 c7] 30)) := sOf (by exact ob3.out)
            refine hK _ _ (fun _ => hS) ?_
            clear hK K
            refine wpAnyG_ready (rs := [9]) (by decide +kernel) (by simp) ?_
            refine AllReadyG.cons rfl (fun K hK => ?_) AllReadyG.nil
            obtain ⟨vss, hy1, hy2⟩ := acc3.out.yr
            refine step_app_rows _ rfl (.tmp 47) (.tmp 49) (by rfl) (base := B1) (v := (.slice Ayv ls.length cyv)) (n := ls.length) (xs := vss.flatten) (by exact hy1) rfl (D := Any) (A := some ⟨w2.heap.size, 0, none⟩) (m := 1) (news := [.slice A7 l7 c7]) (c := 1) (by exact blk_reads bn3.out 1 1 rfl) (by first | rfl | simp) (by simp [Value.oneCell']) (by omega) (by first | omega | (simp; omega)) ?_
            intro v4 w4 hr4 hg4 hat4
            obtain ⟨Av4, cv4, ev4, _⟩ := own_form hr4
            subst ev4
            have hh4 : (w2.alloc (.cells #[.slice A7 l7 c7] 30)).grownBy w4 (Value.ownBlock (.slice Ayv ls.length cyv)) := ⟨hg4.os, hg4.tape, hg4.output, hg4.size, hg4.block⟩
            have fin := Lib.hid (Acc.app_y (w' := w4) (yv' := .slice Av4 (ls.length + 1) cv4) acc3.out hy1 hy2 hh4 hr4 (by exact hat4))
            have obf : Blk w4 O 59 [.bool u, .slice Asv xs.length csv, .slice Ayv ls.length cyv, .slice A3 n c3, .int .i64 0] := Blk.grown ob3.out hh4 (fun e => own_ne hy1 (by exact ob3.out) (by decide) e.symm)
            have gif := Lib.hid (gi3.out.trans (w'' := w4) (GrownIn.of_grown (own := fun b => B1 ≤ b) hh4 (fun b hb => (hy1.lt b hb).1)) fun b hb => .inl (.inl hb))
            have hS : ShotS O (.slice Asv xs.length csv) (.slice Ayv ls.length cyv) w4 := sOf obf
            refine hK _ _ (fun _ => hS) ?_
            clear hK K hy1 hy2 hr4 hg4 hat4
            have f1 := obf.frozen 1
            have f2 := obf.frozen 2
            have lO := obf.lt
            have y1 := obf.cell 1
            have y2 := obf.cell 2
            simp only [List.getElem?_cons_zero, List.getElem?_cons_succ] at y1 y2
            have Obf := Lib.hid obf
            clear obf hS
            refine wpAnyG_ready (rs := [11]) (by decide +kernel) (by simp) ?_
            refine AllReadyG.cons rfl (fun K hK => ?_) AllReadyG.nil
            go_simp
            refine hK _ _ (fun h => absurd h (by decide)) ?_
            clear hK K
            refine wpAnyG_ready (rs := [12]) (by decide +kernel) (by simp) ?_
            refine AllReadyG.cons rfl (fun K hK => ?_) AllReadyG.nil
            go_simp
            refine hK _ _ (fun h => absurd h (by decide)) ?_
            clear hK K
            refine wpAnyG_ready (rs := [13]) (by decide +kernel) (by simp) ?_
            refine AllReadyG.cons rfl (fun K hK => ?_) AllReadyG.nil
            go_simp
            refine hK _ _ (fun h => absurd h (by decide)) ?_
            clear hK K
            refine wpAnyG_done (by decide +kernel) ?_ _
            go_wp2_with (fail)
            have hre := rel_end (sv' := (.slice Av2 (xs.length + 1) cv2)) (yv' := (.slice Av4 (ls.length + 1) cv4)) Obf.out fin.out gif.out hOB
            exact ⟨⟨k + 1, _, _, by omega, by go_num, by rw [HXS.out, HLS.out, HDN2.out]; exact hre⟩, by simp [intOf]; omega⟩
          · go_simp
            have acc2 := Lib.hid (acc1.out.alloc (.cells #[.slice A7 l7 c7] 30))
            have ob2 := Lib.hid (ob1.out.alloc (.cells #[.slice A7 l7 c7] 30))
            have gi2 := Lib.hid (gi1.out.alloc (.cells #[.slice A7 l7 c7] 30))
            have bn2 : Hid (Blk ((wr.alloc (.cells #[.int .i64 x] 3)).alloc (.cells #[.slice A7 l7 c7] 30)) (wr.heap.size + 1) 30 [.slice A7 l7 c7]) := blk2 wr (.cells #[.int .i64 x] 3) 30 [.slice A7 l7 c7]
            have bo2 := Lib.hid (bn1.out.alloc (.cells #[.slice A7 l7 c7] 30))
            have hS : ShotS O (.slice Asv xs.length csv) (.slice Ayv ls.length cyv) ((wr.alloc (.cells #[.int .i64 x] 3)).alloc (.cells #[.slice A7 l7 c7] 30)) := sOf (by exact ob2.out)
            refine hK _ _ (fun _ => hS) ?_
            clear hK K
            refine wpAnyG_ready (rs := [4]) (by decide +kernel) (by simp) ?_
            refine AllReadyG.cons rfl (fun K hK => ?_) AllReadyG.nil
            refine step_app_int _ rfl (.tmp 42) (.tmp 44) (by rfl) (base := B1) (v := (.slice Asv xs.length csv)) (n := xs.length) (xs := nums xs) (by exact acc2.out.sr) rfl (D := Any) (A := some ⟨wr.heap.size, 0, none⟩) (m := 1) (news := [.int .i64 x]) (c := 1) (by exact blk_reads bo2.out 1 1 rfl) (by first | rfl | simp) (by simp [Value.oneCell']) (by omega) (by first | omega | (simp; omega)) ?_
            intro v3 w3 hr3 hg3 hat3
            have hh3 : ((wr.alloc (.cells #[.int .i64 x] 3)).alloc (.cells #[.slice A7 l7 c7] 30)).grownBy w3 (Value.ownBlock (.slice Asv xs.length csv)) := ⟨hg3.os, hg3.tape, hg3.output, hg3.size, hg3.block⟩
            have acc3 := Lib.hid (Acc.app_s (w' := w3) (sv' := v3) acc2.out hh3 hr3 (by exact hat3))
            have gi3 := Lib.hid (gi2.out.trans (w'' := w3) (GrownIn.of_grown (own := fun b => B1 ≤ b) hh3 (fun b hb => (hacc.out.sr.lt b hb).1)) fun b hb => .inl (.inl hb))
            have ob3 := Lib.hid (Blk.grown ob2.out hh3 (fun e => own_ne hacc.out.sr hob.out (by decide) e.symm))
            have bo3 := Lib.hid (Blk.grown bn2.out hh3 (fun e => by have := (hacc.out.sr.lt _ e.symm).2; first | omega | (simp at this)))
            obtain ⟨Av3, cv3, ev3, _⟩ := own_form hr3
            have hz3 : wr.heap.size ≤ w3.heap.size := by have := hg3.size; (try simp at this); omega
            subst ev3
            have hS : ShotS O (.slice Asv xs.length csv) (.slice Ayv ls.length cyv) w3 := sOf (by exact ob3.out)
            refine hK _ _ (fun _ => hS) ?_
            clear hK K hr3 hg3 hat3
            repeat (first | (refine wpAnyG_take (i := 10) (v := .pointer (some ⟨O, 1, none⟩)) rfl ?_ ?_ ?_ (fun _ _ _ h => h) (Or.inl ⟨by rfl, ?_⟩) hS ?_; (· decide +kernel); (· decide +kernel); (· decide +kernel); (· (intro w' hS'; obtain ⟨zz1, zz2⟩ := hS'; go_simp))))
            refine wpAnyG_ready (rs := [9]) (by decide +kernel) (by simp) ?_
            refine AllReadyG.cons rfl (fun K hK => ?_) AllReadyG.nil
            obtain ⟨vss, hy1, hy2⟩ := acc3.out.yr
            refine step_app_rows _ rfl (.tmp 47) (.tmp 49) (by rfl) (base := B1) (v := (.slice Ayv ls.length cyv)) (n := ls.length) (xs := vss.flatten) (by exact hy1) rfl (D := Any) (A := some ⟨wr.heap.size + 1, 0, none⟩) (m := 1) (news := [.slice A7 l7 c7]) (c := 1) (by exact blk_reads bo3.out 1 1 rfl) (by first | rfl | simp) (by simp [Value.oneCell']) (by omega) (by first | omega | (simp; omega)) ?_
            intro v4 w4 hr4 hg4 hat4
            obtain ⟨Av4, cv4, ev4, _⟩ := own_form hr4
            subst ev4
            have hh4 : w3.grownBy w4 (Value.ownBlock (.slice Ayv ls.length cyv)) := ⟨hg4.os, hg4.tape, hg4.output, hg4.size, hg4.block⟩
            have fin := Lib.hid (Acc.app_y (w' := w4) (yv' := .slice Av4 (ls.length + 1) cv4) acc3.out hy1 hy2 hh4 hr4 (by exact hat4))
            have obf : Blk w4 O 59 [.bool u, .slice Asv xs.length csv, .slice Ayv ls.length cyv, .slice A3 n c3, .int .i64 0] := Blk.grown ob3.out hh4 (fun e => own_ne hy1 (by exact ob3.out) (by decide) e.symm)
            have gif := Lib.hid (gi3.out.trans (w'' := w4) (GrownIn.of_grown (own := fun b => B1 ≤ b) hh4 (fun b hb => (hy1.lt b hb).1)) fun b hb => .inl (.inl hb))
            have hS : ShotS O (.slice Asv xs.length csv) (.slice Ayv ls.length cyv) w4 := sOf obf
            refine hK _ _ (fun _ => hS) ?_
            clear hK K hy1 hy2 hr4 hg4 hat4
            have f1 := obf.frozen 1
            have f2 := obf.frozen 2
            have lO := obf.lt
            have y1 := obf.cell 1
            have y2 := obf.cell 2
            simp only [List.getElem?_cons_zero, List.getElem?_cons_succ] at y1 y2
            have Obf := Lib.hid obf
            clear obf hS
            refine wpAnyG_ready (rs := [11]) (by decide +kernel) (by simp) ?_
            refine AllReadyG.cons rfl (fun K hK => ?_) AllReadyG.nil
            go_simp
            refine hK _ _ (fun h => absurd h (by decide)) ?_
            clear hK K
            refine wpAnyG_ready (rs := [12]) (by decide +kernel) (by simp) ?_
            refine AllReadyG.cons rfl (fun K hK => ?_) AllReadyG.nil
            go_simp
            refine hK _ _ (fun h => absurd h (by decide)) ?_
            clear hK K
            refine wpAnyG_ready (rs := [13]) (by decide +kernel) (by simp) ?_
            refine AllReadyG.cons rfl (fun K hK => ?_) AllReadyG.nil
            go_simp
            refine hK _ _ (fun h => absurd h (by decide)) ?_
            clear hK K
            refine wpAnyG_done (by decide +kernel) ?_ _
            go_wp2_with (fail)
            have hre := rel_end (sv' := (.slice Av3 (xs.length + 1) cv3)) (yv' := (.slice Av4 (ls.length + 1) cv4)) Obf.out fin.out gif.out hOB
            exact ⟨⟨k + 1, _, _, by omega, by go_num, by rw [HXS.out, HLS.out, HDN2.out]; exact hre⟩, by simp [intOf]; omega⟩
        · go_simp
          have acc1 := Lib.hid (hacc.out.alloc (.cells #[.slice A7 l7 c7] 30))
          have ob1 := Lib.hid (hob.out.alloc (.cells #[.slice A7 l7 c7] 30))
          have gi1 := Lib.hid (hgi.out.alloc (.cells #[.slice A7 l7 c7] 30))
          have bn1 := Lib.hid (Blk.new wr 30 [.slice A7 l7 c7])
          have hS : ShotS O (.slice Asv xs.length csv) (.slice Ayv ls.length cyv) (wr.alloc (.cells #[.slice A7 l7 c7] 30)) := sOf (by exact ob1.out)
          refine hK _ _ (fun _ => hS) ?_
          clear hK K
          refine wpAnyG_ready (rs := [3]) (by decide +kernel) (by simp) ?_
          refine AllReadyG.cons rfl (fun K hK => ?_) AllReadyG.nil
          go_simp
          have acc2 := Lib.hid (acc1.out.alloc (.cells #[.int .i64 x] 3))
          have ob2 := Lib.hid (ob1.out.alloc (.cells #[.int .i64 x] 3))
          have gi2 := Lib.hid (gi1.out.alloc (.cells #[.int .i64 x] 3))
          have bn2 : Hid (Blk ((wr.alloc (.cells #[.slice A7 l7 c7] 30)).alloc (.cells #[.int .i64 x] 3)) (wr.heap.size + 1) 3 [.int .i64 x]) := blk2 wr (.cells #[.slice A7 l7 c7] 30) 3 [.int .i64 x]
          have bo2 := Lib.hid (bn1.out.alloc (.cells #[.int .i64 x] 3))
          have hS : ShotS O (.slice Asv xs.length csv) (.slice Ayv ls.length cyv) ((wr.alloc (.cells #[.slice A7 l7 c7] 30)).alloc (.cells #[.int .i64 x] 3)) := sOf (by exact ob2.out)
          refine hK _ _ (fun _ => hS) ?_
          clear hK K
          refine wpAnyG_ready (rs := [4]) (by decide +kernel) (by simp) ?_
          refine AllReadyG.cons rfl (fun K hK => ?_) AllReadyG.nil
          refine step_app_int _ rfl (.tmp 42) (.tmp 44) (by rfl) (base := B1) (v := (.slice Asv xs.length csv)) (n := xs.length) (xs := nums xs) (by exact acc2.out.sr) rfl (D := Any) (A := some ⟨wr.heap.size + 1, 0, none⟩) (m := 1) (news := [.int .i64 x]) (c := 1) (by exact blk_reads bn2.out 1 1 rfl) (by first | rfl | simp) (by simp [Value.oneCell']) (by omega) (by first | omega | (simp; omega)) ?_
          intro v3 w3 hr3 hg3 hat3
          have hh3 : ((wr.alloc (.cells #[.slice A7 l7 c7] 30)).alloc (.cells #[.int .i64 x] 3)).grownBy w3 (Value.ownBlock (.slice Asv xs.length csv)) := ⟨hg3.os, hg3.tape, hg3.output, hg3.size, hg3.block⟩
          have acc3 := Lib.hid (Acc.app_s (w' := w3) (sv' := v3) acc2.out hh3 hr3 (by exact hat3))
          have gi3 := Lib.hid (gi2.out.trans (w'' := w3) (GrownIn.of_grown (own := fun b => B1 ≤ b) hh3 (fun b hb => (hacc.out.sr.lt b hb).1)) fun b hb => .inl (.inl hb))
          have ob3 := Lib.hid (Blk.grown ob2.out hh3 (fun e => own_ne hacc.out.sr hob.out (by decide) e.symm))
          have bo3 := Lib.hid (Blk.grown bo2.out hh3 (fun e => by have := (hacc.out.sr.lt _ e.symm).2; first | omega | (simp at this)))
          obtain ⟨Av3, cv3, ev3, _⟩ := own_form hr3
          have hz3 : wr.heap.size ≤ w3.heap.size := by have := hg3.size; (try simp at this); omega
          subst ev3
          have hS : ShotS O (.slice Asv xs.length csv) (.slice Ayv ls.length cyv) w3 := sOf (by exact ob3.out)
          refine hK _ _ (fun _ => hS) ?_
          clear hK K hr3 hg3 hat3
          repeat (first | (refine wpAnyG_take (i := 10) (v := .pointer (some ⟨O, 1, none⟩)) rfl ?_ ?_ ?_ (fun _ _ _ h => h) (Or.inl ⟨by rfl, ?_⟩) hS ?_; (· decide +kernel); (· decide +kernel); (· decide +kernel); (· (intro w' hS'; obtain ⟨zz1, zz2⟩ := hS'; go_simp))))
          refine wpAnyG_ready (rs := [9]) (by decide +kernel) (by simp) ?_
          refine AllReadyG.cons rfl (fun K hK => ?_) AllReadyG.nil
          obtain ⟨vss, hy1, hy2⟩ := acc3.out.yr
          refine step_app_rows _ rfl (.tmp 47) (.tmp 49) (by rfl) (base := B1) (v := (.slice Ayv ls.length cyv)) (n := ls.length) (xs := vss.flatten) (by exact hy1) rfl (D := Any) (A := some ⟨wr.heap.size, 0, none⟩) (m := 1) (news := [.slice A7 l7 c7]) (c := 1) (by exact blk_reads bo3.out 1 1 rfl) (by first | rfl | simp) (by simp [Value.oneCell']) (by omega) (by first | omega | (simp; omega)) ?_
          intro v4 w4 hr4 hg4 hat4
          obtain ⟨Av4, cv4, ev4, _⟩ := own_form hr4
          subst ev4
          have hh4 : w3.grownBy w4 (Value.ownBlock (.slice Ayv ls.length cyv)) := ⟨hg4.os, hg4.tape, hg4.output, hg4.size, hg4.block⟩
          have fin := Lib.hid (Acc.app_y (w' := w4) (yv' := .slice Av4 (ls.length + 1) cv4) acc3.out hy1 hy2 hh4 hr4 (by exact hat4))
          have obf : Blk w4 O 59 [.bool u, .slice Asv xs.length csv, .slice Ayv ls.length cyv, .slice A3 n c3, .int .i64 0] := Blk.grown ob3.out hh4 (fun e => own_ne hy1 (by exact ob3.out) (by decide) e.symm)
          have gif := Lib.hid (gi3.out.trans (w'' := w4) (GrownIn.of_grown (own := fun b => B1 ≤ b) hh4 (fun b hb => (hy1.lt b hb).1)) fun b hb => .inl (.inl hb))
          have hS : ShotS O (.slice Asv xs.length csv) (.slice Ayv ls.length cyv) w4 := sOf obf
          refine hK _ _ (fun _ => hS) ?_
          clear hK K hy1 hy2 hr4 hg4 hat4
          have f1 := obf.frozen 1
          have f2 := obf.frozen 2
          have lO := obf.lt
          have y1 := obf.cell 1
          have y2 := obf.cell 2
          simp only [List.getElem?_cons_zero, List.getElem?_cons_succ] at y1 y2
          have Obf := Lib.hid obf
          clear obf hS
          refine wpAnyG_ready (rs := [11]) (by decide +kernel) (by simp) ?_
          refine AllReadyG.cons rfl (fun K hK => ?_) AllReadyG.nil
          go_simp
          refine hK _ _ (fun h => absurd h (by decide)) ?_
          clear hK K
          refine wpAnyG_ready (rs := [12]) (by decide +kernel) (by simp) ?_
          refine AllReadyG.cons rfl (fun K hK => ?_) AllReadyG.nil
          go_simp
          refine hK _ _ (fun h => absurd h (by decide)) ?_
          clear hK K
          refine wpAnyG_ready (rs := [13]) (by decide +kernel) (by simp) ?_
          refine AllReadyG.cons rfl (fun K hK => ?_) AllReadyG.nil
          go_simp
          refine hK _ _ (fun h => absurd h (by decide)) ?_
          clear hK K
          refine wpAnyG_done (by decide +kernel) ?_ _
          go_wp2_with (fail)
          have hre := rel_end (sv' := (.slice Av3 (xs.length + 1) cv3)) (yv' := (.slice Av4 (ls.length + 1) cv4)) Obf.out fin.out gif.out hOB
          exact ⟨⟨k + 1, _, _, by omega, by go_num, by rw [HXS.out, HLS.out, HDN2.out]; exact hre⟩, by simp [intOf]; omega⟩
        --END7
        skip
    · obtain rfl : k = n := by omega
      have hall : s.sides.take k = s.sides := List.take_of_length_le (by have := Hf.out.ls; omega)
      have hrel := HR.out
      rw [hall] at hrel
      have hO1 := hrel.1
      have y0 := hO1.cell 0
      simp only [List.getElem?_cons_zero] at y0
      have f1 := hO1.frozen 1
      have f2 := hO1.frozen 2
      have y1 := hO1.cell 1
      have y2 := hO1.cell 2
      simp only [List.getElem?_cons_succ, List.getElem?_cons_zero] at y1 y2
      have lO := hO1.lt
      have Hrel := Lib.hid hrel
      have hda : s.sides.all doneB = allDone s := rfl
      rw [hda] at y0
      have lTq : T < wq.heap.size := by have := hbq.size; omega
      have c2q : wq.cell? ⟨T, 2, none⟩ = some (.map (some m)) := (Same.any (D := Any) hbq).cell trivial (H.out.blk.cell 2)
      obtain ⟨X, hX⟩ : ∃ X, X = shotF s := ⟨_, rfl⟩
      rw [← hX]
      have HX := Lib.hid hX
      clear hall hrel HR hO1 hda hX hlt
      have hmA : MapOf encK okK wq m l := H.out.mp.same (hbq.block m H.out.m_lt)
      have lm := H.out.m_lt
      have hmB : MapOf encK okK ((wq.setCell ⟨O, 1, none⟩ (.slice none 0 0)).setCell ⟨O, 2, none⟩ (.slice none 0 0)) m l := (hmA.setCell (p := ⟨O, 1, none⟩) (by show O ≠ m; omega) _).setCell (p := ⟨O, 2, none⟩) (by show O ≠ m; omega) _
      have HmA := Lib.hid hmA
      have HmB := Lib.hid hmB
      clear hmA hmB
      cases hdn : allDone s
      case' false =>
        have hre := rel_end (sv' := .slice none 0 0) (yv' := .slice none 0 0) (xs := []) (ls := []) (Hrel.out.1) ⟨World.ownsRow_nil _ _ _ _, [], World.ownsRow_nil _ _ _ _, All2.nil⟩ Hrel.out.2.2 hOB
        have hda : s.sides.all doneB = allDone s := rfl
        rw [hda, hdn] at hre
        have hXs : X.done = false ∧ X.states = [] ∧ X.ways = [] := by rw [HX.out]; simp [shotF, hdn]
        have HRe := Lib.hid hre
      case' true =>
        have hre := Hrel.out
        have hda : s.sides.all doneB = allDone s := rfl
        rw [hda, hdn] at hre
        have hXs : X.done = true ∧ X.states = s.sides.map tellS ∧ X.ways = s.sides.map tellW := by
          obtain ⟨e1, e2⟩ := all_tell hdn
          rw [HX.out]
          simp [shotF, hdn, e1, e2]
        have HRe := Lib.hid hre
      all_goals
        have HXs := Lib.hid hXs
        clear hXs hre hda
        rw [hdn] at y0
        clear hdn
        go_wp2_with (refine wpList_mrange _ rfl (.tmp 62) 110 rfl Try.underlying110 rfl (by first | exact HmA.out | exact HmB.out) ?_; intro w5 hit5 hb5 hs5)
      all_goals
        go_frame
        have e5 : ((wq.setCell ⟨O, 1, none⟩ (.slice none 0 0)).setCell ⟨O, 2, none⟩ (.slice none 0 0)).heap.size = wq.heap.size := by simp [World.setCell]
        try rw [e5] at hit5 ⊢
        clear e5
        have hR5 := rel_below HRe.out (by exact hb5)
        have hR4 : ∃ W4, W4.heap.size = wq.heap.size ∧ Below W4.heap.size W4 w5 ∧ ∃ svF yvF, RelS W1 W4 B1 O X.done svF yvF (.slice A3 k c3) X.states X.ways := by
          obtain ⟨e1, e2, e3⟩ := HXs.out
          have h1 := HRe.out
          rw [← e1, ← e2, ← e3] at h1
          exact ⟨_, by first | rfl | simp [World.setCell], hb5, _, _, h1⟩
        obtain ⟨W4, hs4, hb45, svF, yvF, hR4⟩ := hR4
        have hR5 := rel_below hR4 hb45
        obtain ⟨R, hR⟩ : ∃ R, R = wq.heap.size := ⟨_, rfl⟩
        rw [← hR] at hit5 ⊢
        have hRB : B1 ≤ R := by omega
        have hRq : wq.heap.size ≤ R := by omega
        have hmq : m < wq.heap.size := by have := hbq.size; omega
        clear hR
        obtain ⟨hO5, hacc5, hg5⟩ := hR5
        obtain ⟨Af, cf, rfl, hsf⟩ := own_form hacc5.1
        obtain ⟨Ag, cg, rfl, hyf⟩ : ∃ A c, yvF = .slice A X.ways.length c ∧ X.ways.length ≤ c ∧ c ≤ maxLen := by
          obtain ⟨_, _, h2, _⟩ := hacc5
          exact own_form h2
        have Hsf := Lib.hid hsf
        have Hyf := Lib.hid hyf
        clear hsf hyf
        have hk5 : X.left = leftF s.ways l := by rw [HX.out, leftF_all H.out.ws hnd]; rfl
        have hTot' : leftF s.ways l ≤ 1000000000000 := by rw [leftF_all H.out.ws hnd]; exact hTot
        have Hk5 := Lib.hid hk5
        have HO5 := Lib.hid hO5
        have HA4 := Lib.hid hR4.2.1
        have HB45 := Lib.hid hb45
        have Hs4 := Lib.hid hs4
        have HG5 := Lib.hid hg5
        have HI5 := Lib.hid hit5
        have hmR : m ≠ R := by omega
        have hw5 : Below w.heap.size w w5 := Below.of_in HBW.out hg5 (fun b hb => by rcases hb with hb | rfl; have := HBW.out.size; have := HBsz.out; omega; exact hOw) (by have := HBW.out.size; omega)
        have HW5 := Lib.hid hw5
        have HTot := Lib.hid hTot'
        clear hk5 hO5 hacc5 hg5 hit5 hw5 hb5 hR4 hb45 hs4 y0 y1 y2 f1 f2 lO HRe HXs hTot' HmA HmB Hrel c2q lTq hs5
        go_loopg [10] l.length (fun g v10 wr => ∃ left acc, Hid (left.length = g ∧ IterOf encK okK wr m R l left ∧ (∀ p ∈ left, p ∈ l) ∧ acc + leftF s.ways left = leftF s.ways l ∧ 0 ≤ acc ∧ GrownIn (fun b => b = O ∨ b = R) w5 wr) ∧ Hid (Blk wr O 59 [.bool X.done, .slice Af X.states.length cf, .slice Ag X.ways.length cg, .slice A3 k c3, .int .i64 acc]))
        case atStart => exact ⟨l, 0, ⟨rfl, HI5.out, fun _ h => h, by omega, by omega, GrownIn.refl _ _⟩, HO5⟩
        case round =>
          obtain ⟨left, acc, HL, HB⟩ := hrel
          have hgr := HL.out.2.2.2.2.2
          have hZr : Blk wr w.heap.size 59 [.bool false, .slice none 0 0, .slice none 0 0, .slice none 0 0, .int .i64 0] := by
            have h1 : Blk w5 w.heap.size 59 [.bool false, .slice none 0 0, .slice none 0 0, .slice none 0 0, .int .i64 0] := (HG5.out.block _ HZ.out.lt (fun e => by rcases e with e | e <;> omega)).trans HZ.out
            exact (hgr.block _ h1.lt (fun e => by rcases e with e | e; omega; have := HBW.out.size; have := HBsz.out; omega)).trans h1
          have hwr : Below w.heap.size w wr := Below.of_in HW5.out hgr (fun b hb => by rcases hb with rfl | rfl; omega; have := HBW.out.size; have := HBsz.out; omega) HW5.out.size
          have o0 := HB.out.cell 0
          have o1 := HB.out.cell 1
          have o2 := HB.out.cell 2
          have o3 := HB.out.cell 3
          have o4 := HB.out.cell 4
          have z0 := hZr.cell 0
          have z1 := hZr.cell 1
          have z2 := hZr.cell 2
          have z3 := hZr.cell 3
          have z4 := hZr.cell 4
          simp only [List.getElem?_cons_zero, List.getElem?_cons_succ] at o0 o1 o2 o3 o4 z0 z1 z2 z3 z4
          have fz0 := hZr.frozen 0
          have fz1 := hZr.frozen 1
          have fz2 := hZr.frozen 2
          have fz3 := hZr.frozen 3
          have fz4 := hZr.frozen 4
          have lO := HB.out.lt
          have lz := hZr.lt
          have hq := setRow_blk hZr [.bool X.done, .slice Af X.states.length cf, .slice Ag X.ways.length cg, .slice A3 k c3, .int .i64 acc] rfl
          have hbq2 := setRow_below (Nat.le_refl w.heap.size) [.bool X.done, .slice Af X.states.length cf, .slice Ag X.ways.length cg, .slice A3 k c3, .int .i64 acc] wr 0 hwr
          have hacr : AccR wr B1 (.slice Af X.states.length cf) (.slice Ag X.ways.length cg) X.states X.ways := acc_far HA4.out fun b hb hl => (hgr.block b (by have := HB45.out.size; omega) fun e => by rcases e with e | e; omega; have := Hs4.out; omega).trans (HB45.out.block b hl)
          have hnw : NumsV wr (fun b => w.heap.size < b) (.slice A3 k c3) s.coins := by
            have h1 := (HNow.out.keep (w' := w5) fun b hb hl => HG5.out.block b hl fun e => by rcases e with e | e; have := HBsz.out; omega; omega).imp (D' := fun b => w.heap.size < b ∧ b < O) fun b hb _ => hb
            exact (h1.keep (w' := wr) fun b hb hl => hgr.block b hl fun e => by rcases e with e | e; omega; omega).imp fun b hb _ => hb.1
          have hfin := fun e he => acc_cells (X := X) hacr (by rw [HX.out]; exact hnw) (by rw [HX.out]; exact Hf.out.lc) (fun b hb => by omega) e he
          have Hfin := Lib.hid hfin
          have hvq := fun e he => ShCells.stable.keep (hfin e he) (setRow_same (g := w.heap.size) (by omega) [.bool X.done, .slice Af X.states.length cf, .slice Ag X.ways.length cg, .slice A3 k c3, .int .i64 acc] wr 0)
          simp only [setRow, Nat.reduceAdd] at hq hbq2 hvq
          have Hq := Lib.hid hq
          have Hbq := Lib.hid hbq2
          have Hvq := Lib.hid hvq
          have Hwr := Lib.hid hwr
          have Hgr := Lib.hid hgr
          clear hq hbq2 hacr hwr hZr hgr hnw hfin hvq Hfin
          go_wp2_with (refine wpList_mnext _ rfl (.tmp 63) rfl rfl HL.out.2.1 hmR (fun h0 => ?_) ?_; rotate_left; intro x v l1 l2 w6 h0 hit6 hg6 hs6 hent; obtain ⟨A9, c9, cl, rfl, hcl, hr9⟩ := ent_form H.out HL.out.2.2.1 h0; have HCL := Lib.hid hcl; have H0 := Lib.hid h0; clear hcl h0)
          · have hsum : acc + (posum cl + leftF s.ways (l1 ++ l2)) = leftF s.ways l := by
              have := HL.out.2.2.2.1
              rw [H0.out, leftF_mid] at this
              rw [HCL.out]
              omega
            have hpn := leftF_nn s.ways (l1 ++ l2)
            have hacc0 := HL.out.2.2.2.2.1
            have htot := HTot.out
            have HB6 := Lib.hid (HB.out.grown hg6 (by intro e; injection e with e; omega))
            have HI6 := Lib.hid hit6
            have HG6 := Lib.hid (Hgr.out.trans (own' := fun b => b = R) (GrownIn.of_grown hg6 fun b hb => by injection hb with hb; exact hb.symm) fun b hb => .inl (.inr hb))
            have HS := Lib.hid hsum
            have hc1000 : cl.length ≤ 1000 := by rw [HCL.out]; exact Hf.out.ll _ _
            have hmO : m < O := by have := H.out.m_lt; omega
            have hle : acc + posum cl ≤ 1000000000000 := by omega
            have Hr9 := Lib.hid hr9
            clear hit6 hg6 hs6 hent hsum hpn htot o0 o1 o2 o3 o4 z0 z1 z2 z3 z4 fz0 fz1 fz2 fz3 fz4 lO lz hr9
            go_loopw [70] (fun i wr2 => ∃ j, j ≤ cl.length ∧ i = .int .i64 (j : Nat) ∧ Hid (Blk wr2 O 59 [.bool X.done, .slice Af X.states.length cf, .slice Ag X.ways.length cg, .slice A3 k c3, .int .i64 (acc + posum (cl.take j))] ∧ IterOf encK okK wr2 m R l (l1 ++ l2) ∧ GrownIn (fun b => b = O ∨ b = R) w5 wr2)) (fun i _ => cl.length - (intOf i).toNat)
            case atStart => exact ⟨0, Nat.zero_le _, rfl, by simpa [posum] using HB6.out, HI6.out, HG6.out⟩
            case round =>
              obtain ⟨j, hj, rfl, HJ⟩ := hrel
              by_cases hjl : j < cl.length
              · have hwr2 : Below w.heap.size w wr := Below.of_in HW5.out HJ.out.2.2 (fun b hb => by rcases hb with rfl | rfl; omega; have := HBW.out.size; have := HBsz.out; omega) HW5.out.size
                obtain ⟨b9, off9, u9, rfl, _, hu9, hc9⟩ := Hr9.out.at_ hjl
                rw [nums_at cl j hjl] at hu9
                injection hu9 with hu9
                subst hu9
                have x9 := (Same.any (D := Any) hwr2).cell trivial hc9
                have o4 := HJ.out.1.cell 4
                simp only [List.getElem?_cons_zero, List.getElem?_cons_succ] at o4
                have fo4 := HJ.out.1.frozen 4
                have lO := HJ.out.1.lt
                have hpt := posum_take cl j hjl
                have hp1 := posum_take_le cl (cl.length - (j + 1)) (j + 1) (by omega)
                have hp0 := posum_nn (cl.take j)
                have HPT := Lib.hid hpt
                generalize cl[j] = x0 at x9 HPT hpt
                generalize posum (cl.take j) = pj at o4 hp0 HPT hpt HJ
                have lb9 := lt_of_cell x9
                have hp2 := hp1
                rw [hpt] at hp2
                have hx1 : x0 ≤ 1000000000000 := by omega
                clear hpt hp1 hwr2 hc9
                have hw : (acc + pj + if x0 < 0 then 0 else x0) = acc + posum (cl.take (j + 1)) := by
                  rw [HPT.out]
                  split <;> omega
                have Hw := Lib.hid hw
                clear hw
                go_wp2_with (fail)
                rw [Hw.out]
                refine ⟨⟨j + 1, by omega, by go_num, HJ.out.1.put 4 _, HJ.out.2.1.same (Below.heap_setCell wr ⟨O, 4, none⟩ _ m (by show m ≠ O; omega)) (Below.heap_setCell wr ⟨O, 4, none⟩ _ R (by show R ≠ O; omega)), HJ.out.2.2.set (p := ⟨O, 4, none⟩) (.inl rfl) _⟩, by simp [intOf]; omega⟩
              · obtain rfl : j = cl.length := by omega
                have htl : cl.take cl.length = cl := List.take_of_length_le (Nat.le_refl _)
                have hJ := HJ.out
                rw [htl] at hJ
                have HJ2 := Lib.hid hJ
                clear HJ hJ htl
                go_wp2_with (fail)
                go_roundg (l1 ++ l2).length
                case measure =>
                  have e1 := HL.out.1
                  rw [H0.out] at e1
                  simp at e1 ⊢
                  omega
                case rel =>
                  have e1 := HS.out
                  have e2 := posum_nn cl
                  exact ⟨l1 ++ l2, acc + posum cl, ⟨rfl, HJ2.out.2.1, fun p hp => HL.out.2.2.1 p (by rw [H0.out]; rcases List.mem_append.1 hp with hp | hp; exact List.mem_append_left _ hp; exact List.mem_append_right _ (List.mem_cons_of_mem _ hp)), by omega, by omega, HJ2.out.2.2⟩, HJ2.out.1⟩
          · have he : acc = X.left := by
              have := HL.out.2.2.2.1
              rw [h0] at this
              have h1 := Hk5.out
              simp only [leftF, List.map_nil, List.sum_nil] at this
              unfold leftF at h1
              omega
            refine ret_blk rfl rfl Hq.out Try.underlying59 (by kernel_rfl) rfl ?_
            rw [show shotF s = X from HX.out.symm]
            exact ⟨_, rfl, Hvq.out _ he, Hbq.out⟩
end Go.Proofs.Ytpnhmplinkakbaa
