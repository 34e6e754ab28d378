/- A simulation of package move in memory: blocks have colours, which part owns them; what a change of one part leaves of the others. (Printed by moveharb.py.) -/
import Derived.Test.YtckkelppdeampaaMoveBound
import Derived.Test.YtckkelppdeampaaSeg
import Derived.Test.YtckkelppdeampaaNum
import Derived.Test.YtckkelppdeampaaGrown
import Derived.Deep.RegionHeld3
import Derived.Deep.RegionLaw
import Derived.Deep.DeepCutAuto
import Derived.Deep.LoopGhost
set_option linter.unusedVariables false
namespace Go.Mv
open Go.Mem
inductive Mc where
  | out
  | cst
  | at_
  | bel
  | sent
  | ways
  | wt
  | gt
  | box (k : Nat × Nat)
  | way (k : Nat × Nat)
  | wr (i : Nat)
  | gr (i : Nat)
def recol (col : Nat → Mc) (n : Nat) (c : Mc) (b : Nat) : Mc := if b < n then col b else c
theorem recol_old {col : Nat → Mc} {n : Nat} {c : Mc} {b : Nat} (h : b < n) : recol col n c b = col b := if_pos h
theorem recol_new {col : Nat → Mc} {n : Nat} {c : Mc} {b : Nat} (h : n ≤ b) : recol col n c b = c := if_neg (by omega)
def isWr (i : Nat) : Mc → Bool
  | .wr j => decide (j = i)
  | _ => false
/-- the blocks of one row are laid off -/
def decol (col : Nat → Mc) (n i : Nat) (b : Nat) : Mc := if b < n then (if isWr i (col b) then .cst else col b) else .cst
theorem decol_old {col : Nat → Mc} {n i b : Nat} (h : b < n) (hc : col b ≠ .wr i) : decol col n i b = col b := by
  unfold decol
  rw [if_pos h, if_neg]
  intro e
  cases hb : col b <;> rw [hb] at e hc <;> simp [isWr] at e
  exact hc (by rw [e])
theorem decol_row {col : Nat → Mc} {n i b : Nat} (h : b < n) (hc : col b = .wr i) : decol col n i b = .cst := by
  unfold decol
  rw [if_pos h, hc, if_pos (by simp [isWr])]
def encP (k : Nat × Nat) : Value := .agg #[.int .i64 (k.1 : Nat), .int .i64 (k.2 : Nat)]
def okP (k : Nat × Nat) : Prop := k.1 < 1000 ∧ k.2 < 1000
theorem encP_inj (a b : Nat × Nat) (h : encP a = encP b) : a = b := by
  unfold encP at h
  injection h with h
  injection h with h
  injection h with h1 h2
  injection h2 with h2 _
  injection h1 with _ h1
  injection h2 with _ h2
  exact Prod.ext (by omega) (by omega)
def encM (n : Nat) : Value := .int .i64 n
def okM (n : Nat) : Prop := n ≤ 1000000
def elc (x : El) : List Value := [.int .i64 x.kind, .int .i64 x.who, .int .i64 x.src, .int .i64 x.seq, .int .i64 x.n, .int .i64 x.bn, .int .i64 x.bm]
def elcs (l : List El) : List Value := l.flatMap elc
theorem elcs_len (l : List El) : (elcs l).length = l.length * 7 := by
  induction l with
  | nil => rfl
  | cons x r ih => unfold elcs at ih ⊢; rw [List.flatMap_cons, List.length_append, ih]; simp [elc]; omega
theorem elcs_app (l k : List El) : elcs (l ++ k) = elcs l ++ elcs k := by simp [elcs]
def gtc (g : Nat × Nat) : List Value := [.int .i64 g.1, .int .i64 g.2]
def gtcs (l : List (Nat × Nat)) : List Value := l.flatMap gtc
theorem gtcs_app (l k : List (Nat × Nat)) : gtcs (l ++ k) = gtcs l ++ gtcs k := by simp [gtcs]
def bv (b : Nat × Nat) : Value := .agg #[.int .i64 b.1, .int .i64 b.2]
def natv (l : List Nat) : List Value := l.map fun n => .int .i64 (n : Nat)
structure Hm where
  T : Nat
  AT : Nat
  cA : Nat
  Bl : Nat
  Sn : Nat
  In : Nat
  Wy : Nat
  WT : Nat
  cW : Nat
  GT : Nat
  cG : Nat
  I : Nat → Nat → Nat
  J : Nat → Nat → Nat
  curA : List Value
  lB : List ((Nat × Nat) × Value)
  lS : List ((Nat × Nat) × Value)
  lI : List ((Nat × Nat) × Value)
  lW : List ((Nat × Nat) × Value)
  curW : List Value
  curG : List Value
end Go.Mv
namespace Go.Proofs.Ytckkelppdeampaa
open Go.RowKit Go.Mem Go.Mv

/-- an inbox: its block, its map's block -/
structure BoxAt (w : World) (I J : Nat) (b : Bx) : Prop where
  blk : Blk w I 58 [.int .i64 (b.next : Nat), .map (some J)]
  st : MapOf encM okM w J (b.st.map fun p => (p.1, encM p.2))
theorem BoxAt.same {w w' : World} {I J : Nat} {b : Bx} (h : BoxAt w I J b) (hI : w'.heap[I]? = w.heap[I]?) (hJ : w'.heap[J]? = w.heap[J]?) : BoxAt w' I J b := ⟨hI.trans h.blk, h.st.same hJ⟩
/-- a row of elements that lies in blocks of one colour -/
def RowAt (w : World) (col : Nat → Mc) (c : Mc) (e size n : Nat) (v : Value) (xs : List Value) : Prop := Seg w e size v n xs ∧ ∀ b, v.ownBlock = some b → col b = c
/-- what is kept of blocks whose colour is none of c -/
def Keeps (w w' : World) (col col' : Nat → Mc) (c : Mc → Prop) : Prop := ∀ b, b < w.heap.size → ¬ c (col b) → w'.heap[b]? = w.heap[b]? ∧ col' b = col b
theorem RowAt.keep {w w' : World} {col col' : Nat → Mc} {k : Mc} {e size n : Nat} {v : Value} {xs : List Value} {c : Mc → Prop} (h : RowAt w col k e size n v xs) (hk : Keeps w w' col col' c) (nc : ¬ c k) : RowAt w' col' k e size n v xs :=
  ⟨h.1.keep fun b hb => (hk b (h.1.lt b hb) (by rw [h.2 b hb]; exact nc)).1, fun b hb => by rw [(hk b (h.1.lt b hb) (by rw [h.2 b hb]; exact nc)).2]; exact h.2 b hb⟩
theorem Keeps.of_in {w w' : World} {col : Nat → Mc} {k : Mc} {own : Nat → Prop} {c : Mc → Prop} (h : GrownIn own w w') (ho : ∀ b, b < w.heap.size → own b → c (col b)) : Keeps w w' col (recol col w.heap.size k) c :=
  fun b hb hn => ⟨h.block b hb fun e => hn (ho b hb e), recol_old hb⟩

theorem keys_put2 {α β γ : Type} [DecidableEq α] {l : List (α × β)} {k : List (α × γ)} (h : l.map (·.1) = k.map (·.1)) {a : α} {v : β} {u : γ} : (mput l a v).map (·.1) = (mput k a u).map (·.1) := by
  have hs : ∀ {l : List (α × β)} {k : List (α × γ)}, l.map (·.1) = k.map (·.1) → (mget l a).isSome = (mget k a).isSome := by
    intro l
    induction l with
    | nil => intro k h; cases k with
      | nil => rfl
      | cons q k => simp at h
    | cons p l ih => intro k h; cases k with
      | nil => simp at h
      | cons q k =>
        simp only [List.map_cons, List.cons.injEq] at h
        rw [mget_cons, mget_cons, h.1]
        split
        · rfl
        · exact ih h.2
  have hp : ∀ {δ : Type} (l : List (α × δ)) (v : δ), (mput l a v).map (·.1) = if (mget l a).isSome then l.map (·.1) else l.map (·.1) ++ [a] := by
    intro δ l v
    unfold mput
    split
    · rw [List.map_map]
      apply List.map_congr_left
      intro p _
      simp only [Function.comp_apply]
      split
      · rename_i e; exact e.symm
      · rfl
    · simp
  rw [hp, hp, hs h, h]
structure HW (w : World) (B : Nat) (col : Nat → Mc) (m : Hm) (s : Hb) : Prop where
  blk : Blk w m.T 50 [.int .i64 (s.nodes : Nat), .slice (some ⟨m.AT, 0, none⟩) s.at_.length m.cA, .map (some m.Bl), .map (some m.Sn), .map (some m.In), .map (some m.Wy), .slice (some ⟨m.WT, 0, none⟩) (s.nodes + 1) m.cW, .slice (some ⟨m.GT, 0, none⟩) s.got.length m.cG]
  hA : Blk w m.AT 3 m.curA
  eA : m.curA.take s.at_.length = natv s.at_
  hB : MapOf encP okP w m.Bl m.lB
  eB : ∀ a x, 1 ≤ a → a ≤ s.nodes → x < s.at_.length → mget m.lB (a, x) = some (bv (s.bel a x))
  hS : MapOf encP okP w m.Sn m.lS
  eS : ∀ a x, 1 ≤ a → a ≤ s.nodes → x < s.at_.length → (mget m.lS (a, x)).getD (.int .i64 0) = .int .i64 (s.sent a x : Nat)
  hI : MapOf encP okP w m.In m.lI
  eI : ∀ a x, 1 ≤ a → a ≤ s.nodes → x < s.at_.length → mget m.lI (a, x) = some (.pointer (some ⟨m.I a x, 0, none⟩))
  bx : ∀ a x, 1 ≤ a → a ≤ s.nodes → x < s.at_.length → BoxAt w (m.I a x) (m.J a x) (s.box a x) ∧ col (m.I a x) = .box (a, x) ∧ col (m.J a x) = .box (a, x)
  hW : MapOf encP okP w m.Wy m.lW
  kW : m.lW.map (·.1) = s.ways.map (·.1)
  eW : ∀ k v c, mget m.lW k = some v → mget s.ways k = some c → RowAt w col (.way k) 68 7 c.length v (elcs c)
  hT : Blk w m.WT 52 m.curW
  eT : ∀ (i : Nat) (row : List El), s.wait[i]? = some row → ∃ v, m.curW[i]? = some v ∧ RowAt w col (.wr i) 68 7 row.length v (elcs row)
  hG : Blk w m.GT 36 m.curG
  eG : ∀ (i : Nat) (row : List (Nat × Nat)), s.got[i]? = some row → ∃ v, m.curG[i]? = some v ∧ RowAt w col (.gr i) 62 2 row.length v (gtcs row)
  cT : col m.T = .cst
  cA : col m.AT = .at_
  cB : col m.Bl = .bel
  cS : col m.Sn = .sent
  cI : col m.In = .cst
  cW : col m.Wy = .ways
  cWT : col m.WT = .wt
  cGT : col m.GT = .gt
  wl : s.wait.length = s.nodes + 1
  gl : s.got.length = s.at_.length
  low : ∀ b, b < B → col b = .out
  nd : s.nodes ≤ 8 ∧ s.at_.length ≤ 5
section
variable {w w' : World} {B : Nat} {col : Nat → Mc} {m : Hm} {s : Hb}
/-- the same memory -/
theorem HW.heap (h : HW w B col m s) (e : w'.heap = w.heap) : HW w' B col m s := by
  have hk : Keeps w w' col col (fun _ => False) := fun b _ _ => ⟨by rw [e], rfl⟩
  exact {
    blk := (hk _ h.blk.lt (by rw [h.cT]; exact id)).1.trans h.blk
    hA := (hk _ h.hA.lt (by rw [h.cA]; exact id)).1.trans h.hA
    eA := h.eA
    hB := h.hB.same (hk _ h.hB.lt (by rw [h.cB]; exact id)).1
    eB := h.eB
    hS := h.hS.same (hk _ h.hS.lt (by rw [h.cS]; exact id)).1
    eS := h.eS
    hI := h.hI.same (hk _ h.hI.lt (by rw [h.cI]; exact id)).1
    eI := h.eI
    bx := fun a x q1 q2 q3 => by
      obtain ⟨h1, h2, h3⟩ := h.bx a x q1 q2 q3
      obtain ⟨k1, k2⟩ := hk _ h1.blk.lt (by rw [h2]; exact id)
      obtain ⟨k3, k4⟩ := hk _ h1.st.lt (by rw [h3]; exact id)
      exact ⟨h1.same k1 k3, k2.trans h2, k4.trans h3⟩
    hW := h.hW.same (hk _ h.hW.lt (by rw [h.cW]; exact id)).1
    kW := h.kW
    eW := fun k v c h1 h2 => (h.eW k v c h1 h2).keep hk (by exact id)
    hT := (hk _ h.hT.lt (by rw [h.cWT]; exact id)).1.trans h.hT
    eT := fun i row hr => by
      obtain ⟨v, h1, h2⟩ := h.eT i row hr
      exact ⟨v, h1, h2.keep hk (by exact id)⟩
    hG := (hk _ h.hG.lt (by rw [h.cGT]; exact id)).1.trans h.hG
    eG := fun i row hr => by
      obtain ⟨v, h1, h2⟩ := h.eG i row hr
      exact ⟨v, h1, h2.keep hk (by exact id)⟩
    cT := (hk _ h.blk.lt (by rw [h.cT]; exact id)).2.trans h.cT
    cA := h.cA
    cB := h.cB
    cS := h.cS
    cI := h.cI
    cW := h.cW
    cWT := h.cWT
    cGT := h.cGT
    wl := h.wl
    gl := h.gl
    low := h.low
    nd := h.nd
  }
/-- growth elsewhere -/
theorem HW.grow (h : HW w B col m s) (hB : B ≤ w.heap.size) (hg : GrownIn (fun _ => False) w w') :
    HW w' B (recol col w.heap.size .cst) m s := by
  have kc : ∀ b, b < w.heap.size → recol col w.heap.size .cst b = col b := fun b hb => recol_old hb
  have hk : Keeps w w' col (recol col w.heap.size .cst) (fun e => False) := Keeps.of_in hg fun b hb e => e
  exact {
    blk := (hk _ h.blk.lt (by rw [h.cT]; exact id)).1.trans h.blk
    hA := (hk _ h.hA.lt (by rw [h.cA]; exact id)).1.trans h.hA
    eA := h.eA
    hB := h.hB.same (hk _ h.hB.lt (by rw [h.cB]; exact id)).1
    eB := h.eB
    hS := h.hS.same (hk _ h.hS.lt (by rw [h.cS]; exact id)).1
    eS := h.eS
    hI := h.hI.same (hk _ h.hI.lt (by rw [h.cI]; exact id)).1
    eI := h.eI
    bx := fun a x q1 q2 q3 => by
      obtain ⟨h1, h2, h3⟩ := h.bx a x q1 q2 q3
      obtain ⟨k1, k2⟩ := hk _ h1.blk.lt (by rw [h2]; exact id)
      obtain ⟨k3, k4⟩ := hk _ h1.st.lt (by rw [h3]; exact id)
      exact ⟨h1.same k1 k3, k2.trans h2, k4.trans h3⟩
    hW := h.hW.same (hk _ h.hW.lt (by rw [h.cW]; exact id)).1
    kW := h.kW
    eW := fun k v c h1 h2 => (h.eW k v c h1 h2).keep hk (by exact id)
    hT := (hk _ h.hT.lt (by rw [h.cWT]; exact id)).1.trans h.hT
    eT := fun i row hr => by
      obtain ⟨v, h1, h2⟩ := h.eT i row hr
      exact ⟨v, h1, h2.keep hk (by exact id)⟩
    hG := (hk _ h.hG.lt (by rw [h.cGT]; exact id)).1.trans h.hG
    eG := fun i row hr => by
      obtain ⟨v, h1, h2⟩ := h.eG i row hr
      exact ⟨v, h1, h2.keep hk (by exact id)⟩
    cT := (hk _ h.blk.lt (by rw [h.cT]; exact id)).2.trans h.cT
    cA := (kc _ h.hA.lt).trans h.cA
    cB := (kc _ h.hB.lt).trans h.cB
    cS := (kc _ h.hS.lt).trans h.cS
    cI := (kc _ h.hI.lt).trans h.cI
    cW := (kc _ h.hW.lt).trans h.cW
    cWT := (kc _ h.hT.lt).trans h.cWT
    cGT := (kc _ h.hG.lt).trans h.cGT
    wl := h.wl
    gl := h.gl
    low := fun b hb => by rw [kc b (Nat.lt_of_lt_of_le hb hB)]; exact h.low b hb
    nd := h.nd
  }
/-- a change of one channel -/
theorem HW.way (h : HW w B col m s) (hB : B ≤ w.heap.size) {k : Nat × Nat} {v : Value} {c : List El} (hg : GrownIn (fun b => col b = .way k ∨ b = m.Wy) w w') (hm : MapOf encP okP w' m.Wy (mput m.lW k v)) (hv : RowAt w' (recol col w.heap.size (.way k)) (.way k) 68 7 c.length v (elcs c)) :
    HW w' B (recol col w.heap.size (.way k)) { m with lW := mput m.lW k v } { s with ways := mput s.ways k c } := by
  have kc : ∀ b, b < w.heap.size → recol col w.heap.size (.way k) b = col b := fun b hb => recol_old hb
  have hk : Keeps w w' col (recol col w.heap.size (.way k)) (fun e => e = .way k ∨ e = .ways) := Keeps.of_in hg fun b hb e => e.imp id (fun e => by rw [e]; exact h.cW)
  exact {
    blk := (hk _ h.blk.lt (by rw [h.cT]; simp)).1.trans h.blk
    hA := (hk _ h.hA.lt (by rw [h.cA]; simp)).1.trans h.hA
    eA := h.eA
    hB := h.hB.same (hk _ h.hB.lt (by rw [h.cB]; simp)).1
    eB := h.eB
    hS := h.hS.same (hk _ h.hS.lt (by rw [h.cS]; simp)).1
    eS := h.eS
    hI := h.hI.same (hk _ h.hI.lt (by rw [h.cI]; simp)).1
    eI := h.eI
    bx := fun a x q1 q2 q3 => by
      obtain ⟨h1, h2, h3⟩ := h.bx a x q1 q2 q3
      obtain ⟨k1, k2⟩ := hk _ h1.blk.lt (by rw [h2]; simp)
      obtain ⟨k3, k4⟩ := hk _ h1.st.lt (by rw [h3]; simp)
      exact ⟨h1.same k1 k3, k2.trans h2, k4.trans h3⟩
    hW := hm
    kW := keys_put2 h.kW
    eW := fun k' v' c' h1 h2 => by
      dsimp only at h1 h2
      rw [mget_put] at h1 h2
      by_cases e : k' = k
      · rw [if_pos e] at h1 h2
        injection h1 with h1
        injection h2 with h2
        subst h1 h2 e
        exact hv
      · rw [if_neg e] at h1 h2
        exact (h.eW k' v' c' h1 h2).keep hk (by simp [e])
    hT := (hk _ h.hT.lt (by rw [h.cWT]; simp)).1.trans h.hT
    eT := fun i row hr => by
      obtain ⟨v, h1, h2⟩ := h.eT i row hr
      exact ⟨v, h1, h2.keep hk (by simp)⟩
    hG := (hk _ h.hG.lt (by rw [h.cGT]; simp)).1.trans h.hG
    eG := fun i row hr => by
      obtain ⟨v, h1, h2⟩ := h.eG i row hr
      exact ⟨v, h1, h2.keep hk (by simp)⟩
    cT := (hk _ h.blk.lt (by rw [h.cT]; simp)).2.trans h.cT
    cA := (kc _ h.hA.lt).trans h.cA
    cB := (kc _ h.hB.lt).trans h.cB
    cS := (kc _ h.hS.lt).trans h.cS
    cI := (kc _ h.hI.lt).trans h.cI
    cW := (kc _ h.hW.lt).trans h.cW
    cWT := (kc _ h.hT.lt).trans h.cWT
    cGT := (kc _ h.hG.lt).trans h.cGT
    wl := h.wl
    gl := h.gl
    low := fun b hb => by rw [kc b (Nat.lt_of_lt_of_le hb hB)]; exact h.low b hb
    nd := h.nd
  }
/-- a change of one row of waiting letters -/
theorem HW.row (h : HW w B col m s) (hB : B ≤ w.heap.size) {i : Nat} {v : Value} {row : List El} (hil : i < s.wait.length) (hg : GrownIn (fun b => col b = .wr i ∨ b = m.WT) w w') (hm : Blk w' m.WT 52 (m.curW.set i v)) (hv : RowAt w' (recol col w.heap.size (.wr i)) (.wr i) 68 7 row.length v (elcs row)) :
    HW w' B (recol col w.heap.size (.wr i)) { m with curW := m.curW.set i v } { s with wait := s.wait.set i row } := by
  have kc : ∀ b, b < w.heap.size → recol col w.heap.size (.wr i) b = col b := fun b hb => recol_old hb
  have hk : Keeps w w' col (recol col w.heap.size (.wr i)) (fun e => e = .wr i ∨ e = .wt) := Keeps.of_in hg fun b hb e => e.imp id (fun e => by rw [e]; exact h.cWT)
  exact {
    blk := (hk _ h.blk.lt (by rw [h.cT]; simp)).1.trans h.blk
    hA := (hk _ h.hA.lt (by rw [h.cA]; simp)).1.trans h.hA
    eA := h.eA
    hB := h.hB.same (hk _ h.hB.lt (by rw [h.cB]; simp)).1
    eB := h.eB
    hS := h.hS.same (hk _ h.hS.lt (by rw [h.cS]; simp)).1
    eS := h.eS
    hI := h.hI.same (hk _ h.hI.lt (by rw [h.cI]; simp)).1
    eI := h.eI
    bx := fun a x q1 q2 q3 => by
      obtain ⟨h1, h2, h3⟩ := h.bx a x q1 q2 q3
      obtain ⟨k1, k2⟩ := hk _ h1.blk.lt (by rw [h2]; simp)
      obtain ⟨k3, k4⟩ := hk _ h1.st.lt (by rw [h3]; simp)
      exact ⟨h1.same k1 k3, k2.trans h2, k4.trans h3⟩
    hW := h.hW.same (hk _ h.hW.lt (by rw [h.cW]; simp)).1
    kW := h.kW
    eW := fun k v c h1 h2 => (h.eW k v c h1 h2).keep hk (by simp)
    hT := hm
    eT := fun j r hr => by
      dsimp only at hr
      by_cases e : j = i
      · subst e
        rw [List.getElem?_set_self hil] at hr
        injection hr with hr
        subst hr
        obtain ⟨v0, h1, _⟩ := h.eT j _ (List.getElem?_eq_getElem hil)
        exact ⟨v, List.getElem?_set_self (List.getElem?_eq_some_iff.1 h1).1, hv⟩
      · rw [List.getElem?_set_ne (Ne.symm e)] at hr
        obtain ⟨v0, h1, h2⟩ := h.eT j r hr
        refine ⟨v0, ?_, h2.keep hk (by simp [e])⟩
        dsimp only
        rw [List.getElem?_set_ne (Ne.symm e)]
        exact h1
    hG := (hk _ h.hG.lt (by rw [h.cGT]; simp)).1.trans h.hG
    eG := fun i row hr => by
      obtain ⟨v, h1, h2⟩ := h.eG i row hr
      exact ⟨v, h1, h2.keep hk (by simp)⟩
    cT := (hk _ h.blk.lt (by rw [h.cT]; simp)).2.trans h.cT
    cA := (kc _ h.hA.lt).trans h.cA
    cB := (kc _ h.hB.lt).trans h.cB
    cS := (kc _ h.hS.lt).trans h.cS
    cI := (kc _ h.hI.lt).trans h.cI
    cW := (kc _ h.hW.lt).trans h.cW
    cWT := (kc _ h.hT.lt).trans h.cWT
    cGT := (kc _ h.hG.lt).trans h.cGT
    wl := by simpa using h.wl
    gl := h.gl
    low := fun b hb => by rw [kc b (Nat.lt_of_lt_of_le hb hB)]; exact h.low b hb
    nd := h.nd
  }
/-- a change of what one actor got -/
theorem HW.grow_ (h : HW w B col m s) (hB : B ≤ w.heap.size) {i : Nat} {v : Value} {row : List (Nat × Nat)} (hil : i < s.got.length) (hg : GrownIn (fun b => col b = .gr i ∨ b = m.GT) w w') (hm : Blk w' m.GT 36 (m.curG.set i v)) (hv : RowAt w' (recol col w.heap.size (.gr i)) (.gr i) 62 2 row.length v (gtcs row)) :
    HW w' B (recol col w.heap.size (.gr i)) { m with curG := m.curG.set i v } { s with got := s.got.set i row } := by
  have kc : ∀ b, b < w.heap.size → recol col w.heap.size (.gr i) b = col b := fun b hb => recol_old hb
  have hk : Keeps w w' col (recol col w.heap.size (.gr i)) (fun e => e = .gr i ∨ e = .gt) := Keeps.of_in hg fun b hb e => e.imp id (fun e => by rw [e]; exact h.cGT)
  exact {
    blk := by
      dsimp only
      rw [List.length_set]
      exact (hk _ h.blk.lt (by rw [h.cT]; simp)).1.trans h.blk
    hA := (hk _ h.hA.lt (by rw [h.cA]; simp)).1.trans h.hA
    eA := h.eA
    hB := h.hB.same (hk _ h.hB.lt (by rw [h.cB]; simp)).1
    eB := h.eB
    hS := h.hS.same (hk _ h.hS.lt (by rw [h.cS]; simp)).1
    eS := h.eS
    hI := h.hI.same (hk _ h.hI.lt (by rw [h.cI]; simp)).1
    eI := h.eI
    bx := fun a x q1 q2 q3 => by
      obtain ⟨h1, h2, h3⟩ := h.bx a x q1 q2 q3
      obtain ⟨k1, k2⟩ := hk _ h1.blk.lt (by rw [h2]; simp)
      obtain ⟨k3, k4⟩ := hk _ h1.st.lt (by rw [h3]; simp)
      exact ⟨h1.same k1 k3, k2.trans h2, k4.trans h3⟩
    hW := h.hW.same (hk _ h.hW.lt (by rw [h.cW]; simp)).1
    kW := h.kW
    eW := fun k v c h1 h2 => (h.eW k v c h1 h2).keep hk (by simp)
    hT := (hk _ h.hT.lt (by rw [h.cWT]; simp)).1.trans h.hT
    eT := fun i row hr => by
      obtain ⟨v, h1, h2⟩ := h.eT i row hr
      exact ⟨v, h1, h2.keep hk (by simp)⟩
    hG := hm
    eG := fun j r hr => by
      dsimp only at hr
      by_cases e : j = i
      · subst e
        rw [List.getElem?_set_self hil] at hr
        injection hr with hr
        subst hr
        obtain ⟨v0, h1, _⟩ := h.eG j _ (List.getElem?_eq_getElem hil)
        exact ⟨v, List.getElem?_set_self (List.getElem?_eq_some_iff.1 h1).1, hv⟩
      · rw [List.getElem?_set_ne (Ne.symm e)] at hr
        obtain ⟨v0, h1, h2⟩ := h.eG j r hr
        refine ⟨v0, ?_, h2.keep hk (by simp [e])⟩
        dsimp only
        rw [List.getElem?_set_ne (Ne.symm e)]
        exact h1
    cT := (hk _ h.blk.lt (by rw [h.cT]; simp)).2.trans h.cT
    cA := (kc _ h.hA.lt).trans h.cA
    cB := (kc _ h.hB.lt).trans h.cB
    cS := (kc _ h.hS.lt).trans h.cS
    cI := (kc _ h.hI.lt).trans h.cI
    cW := (kc _ h.hW.lt).trans h.cW
    cWT := (kc _ h.hT.lt).trans h.cWT
    cGT := (kc _ h.hG.lt).trans h.cGT
    wl := h.wl
    gl := by simpa using h.gl
    low := fun b hb => by rw [kc b (Nat.lt_of_lt_of_le hb hB)]; exact h.low b hb
    nd := h.nd
  }
/-- a change of one inbox -/
theorem HW.inbox (h : HW w B col m s) (hB : B ≤ w.heap.size) {a x : Nat} {b' : Bx} (ha : 1 ≤ a ∧ a ≤ s.nodes) (hx : x < s.at_.length) (hg : GrownIn (fun b => col b = .box (a, x)) w w') (hb : BoxAt w' (m.I a x) (m.J a x) b') :
    HW w' B (recol col w.heap.size (.box (a, x))) m { s with box := upd2 s.box a x b' } := by
  have kc : ∀ b, b < w.heap.size → recol col w.heap.size (.box (a, x)) b = col b := fun b hb => recol_old hb
  have hk : Keeps w w' col (recol col w.heap.size (.box (a, x))) (fun e => e = .box (a, x)) := Keeps.of_in hg fun b hb e => e
  exact {
    blk := (hk _ h.blk.lt (by rw [h.cT]; simp)).1.trans h.blk
    hA := (hk _ h.hA.lt (by rw [h.cA]; simp)).1.trans h.hA
    eA := h.eA
    hB := h.hB.same (hk _ h.hB.lt (by rw [h.cB]; simp)).1
    eB := h.eB
    hS := h.hS.same (hk _ h.hS.lt (by rw [h.cS]; simp)).1
    eS := h.eS
    hI := h.hI.same (hk _ h.hI.lt (by rw [h.cI]; simp)).1
    eI := h.eI
    bx := fun a' x' q1 q2 q3 => by
      obtain ⟨h1, h2, h3⟩ := h.bx a' x' q1 q2 q3
      by_cases e : a' = a ∧ x' = x
      · obtain ⟨rfl, rfl⟩ := e
        dsimp only
        rw [upd2_same]
        exact ⟨hb, (kc _ h1.blk.lt).trans h2, (kc _ h1.st.lt).trans h3⟩
      · have ne : ¬ (Mc.box (a', x') = Mc.box (a, x)) := fun e2 => by
          injection e2 with e2
          injection e2 with e2 e3
          exact e ⟨e2, e3⟩
        obtain ⟨k1, k2⟩ := hk _ h1.blk.lt (by rw [h2]; exact ne)
        obtain ⟨k3, k4⟩ := hk _ h1.st.lt (by rw [h3]; exact ne)
        dsimp only
        rw [upd2_other _ _ e]
        exact ⟨h1.same k1 k3, k2.trans h2, k4.trans h3⟩
    hW := h.hW.same (hk _ h.hW.lt (by rw [h.cW]; simp)).1
    kW := h.kW
    eW := fun k v c h1 h2 => (h.eW k v c h1 h2).keep hk (by simp)
    hT := (hk _ h.hT.lt (by rw [h.cWT]; simp)).1.trans h.hT
    eT := fun i row hr => by
      obtain ⟨v, h1, h2⟩ := h.eT i row hr
      exact ⟨v, h1, h2.keep hk (by simp)⟩
    hG := (hk _ h.hG.lt (by rw [h.cGT]; simp)).1.trans h.hG
    eG := fun i row hr => by
      obtain ⟨v, h1, h2⟩ := h.eG i row hr
      exact ⟨v, h1, h2.keep hk (by simp)⟩
    cT := (hk _ h.blk.lt (by rw [h.cT]; simp)).2.trans h.cT
    cA := (kc _ h.hA.lt).trans h.cA
    cB := (kc _ h.hB.lt).trans h.cB
    cS := (kc _ h.hS.lt).trans h.cS
    cI := (kc _ h.hI.lt).trans h.cI
    cW := (kc _ h.hW.lt).trans h.cW
    cWT := (kc _ h.hT.lt).trans h.cWT
    cGT := (kc _ h.hG.lt).trans h.cGT
    wl := h.wl
    gl := h.gl
    low := fun b hb => by rw [kc b (Nat.lt_of_lt_of_le hb hB)]; exact h.low b hb
    nd := h.nd
  }
/-- a change of one belief -/
theorem HW.belief (h : HW w B col m s) (hB : B ≤ w.heap.size) {a x : Nat} {v : Nat × Nat} (hg : GrownIn (fun b => b = m.Bl) w w') (hm : MapOf encP okP w' m.Bl (mput m.lB (a, x) (bv v))) :
    HW w' B (recol col w.heap.size .cst) { m with lB := mput m.lB (a, x) (bv v) } { s with bel := upd2 s.bel a x v } := by
  have kc : ∀ b, b < w.heap.size → recol col w.heap.size .cst b = col b := fun b hb => recol_old hb
  have hk : Keeps w w' col (recol col w.heap.size .cst) (fun e => e = .bel) := Keeps.of_in hg fun b hb e => by rw [e]; exact h.cB
  exact {
    blk := (hk _ h.blk.lt (by rw [h.cT]; simp)).1.trans h.blk
    hA := (hk _ h.hA.lt (by rw [h.cA]; simp)).1.trans h.hA
    eA := h.eA
    hB := hm
    eB := fun a' x' q1 q2 q3 => by
      dsimp only
      rw [mget_put]
      by_cases e : a' = a ∧ x' = x
      · obtain ⟨rfl, rfl⟩ := e
        rw [if_pos rfl, upd2_same]
      · rw [if_neg (fun e2 => e (by injection e2 with e2 e3; exact ⟨e2, e3⟩)), upd2_other _ _ e]
        exact h.eB a' x' q1 q2 q3
    hS := h.hS.same (hk _ h.hS.lt (by rw [h.cS]; simp)).1
    eS := h.eS
    hI := h.hI.same (hk _ h.hI.lt (by rw [h.cI]; simp)).1
    eI := h.eI
    bx := fun a x q1 q2 q3 => by
      obtain ⟨h1, h2, h3⟩ := h.bx a x q1 q2 q3
      obtain ⟨k1, k2⟩ := hk _ h1.blk.lt (by rw [h2]; simp)
      obtain ⟨k3, k4⟩ := hk _ h1.st.lt (by rw [h3]; simp)
      exact ⟨h1.same k1 k3, k2.trans h2, k4.trans h3⟩
    hW := h.hW.same (hk _ h.hW.lt (by rw [h.cW]; simp)).1
    kW := h.kW
    eW := fun k v c h1 h2 => (h.eW k v c h1 h2).keep hk (by simp)
    hT := (hk _ h.hT.lt (by rw [h.cWT]; simp)).1.trans h.hT
    eT := fun i row hr => by
      obtain ⟨v, h1, h2⟩ := h.eT i row hr
      exact ⟨v, h1, h2.keep hk (by simp)⟩
    hG := (hk _ h.hG.lt (by rw [h.cGT]; simp)).1.trans h.hG
    eG := fun i row hr => by
      obtain ⟨v, h1, h2⟩ := h.eG i row hr
      exact ⟨v, h1, h2.keep hk (by simp)⟩
    cT := (hk _ h.blk.lt (by rw [h.cT]; simp)).2.trans h.cT
    cA := (kc _ h.hA.lt).trans h.cA
    cB := (kc _ h.hB.lt).trans h.cB
    cS := (kc _ h.hS.lt).trans h.cS
    cI := (kc _ h.hI.lt).trans h.cI
    cW := (kc _ h.hW.lt).trans h.cW
    cWT := (kc _ h.hT.lt).trans h.cWT
    cGT := (kc _ h.hG.lt).trans h.cGT
    wl := h.wl
    gl := h.gl
    low := fun b hb => by rw [kc b (Nat.lt_of_lt_of_le hb hB)]; exact h.low b hb
    nd := h.nd
  }
/-- a change of one number of letters -/
theorem HW.sends (h : HW w B col m s) (hB : B ≤ w.heap.size) {a x n : Nat} (hg : GrownIn (fun b => b = m.Sn) w w') (hm : MapOf encP okP w' m.Sn (mput m.lS (a, x) (.int .i64 (n : Nat)))) :
    HW w' B (recol col w.heap.size .cst) { m with lS := mput m.lS (a, x) (.int .i64 (n : Nat)) } { s with sent := upd2 s.sent a x n } := by
  have kc : ∀ b, b < w.heap.size → recol col w.heap.size .cst b = col b := fun b hb => recol_old hb
  have hk : Keeps w w' col (recol col w.heap.size .cst) (fun e => e = .sent) := Keeps.of_in hg fun b hb e => by rw [e]; exact h.cS
  exact {
    blk := (hk _ h.blk.lt (by rw [h.cT]; simp)).1.trans h.blk
    hA := (hk _ h.hA.lt (by rw [h.cA]; simp)).1.trans h.hA
    eA := h.eA
    hB := h.hB.same (hk _ h.hB.lt (by rw [h.cB]; simp)).1
    eB := h.eB
    hS := hm
    eS := fun a' x' q1 q2 q3 => by
      dsimp only
      rw [mget_put]
      by_cases e : a' = a ∧ x' = x
      · obtain ⟨rfl, rfl⟩ := e
        rw [if_pos rfl, upd2_same]
        rfl
      · rw [if_neg (fun e2 => e (by injection e2 with e2 e3; exact ⟨e2, e3⟩)), upd2_other _ _ e]
        exact h.eS a' x' q1 q2 q3
    hI := h.hI.same (hk _ h.hI.lt (by rw [h.cI]; simp)).1
    eI := h.eI
    bx := fun a x q1 q2 q3 => by
      obtain ⟨h1, h2, h3⟩ := h.bx a x q1 q2 q3
      obtain ⟨k1, k2⟩ := hk _ h1.blk.lt (by rw [h2]; simp)
      obtain ⟨k3, k4⟩ := hk _ h1.st.lt (by rw [h3]; simp)
      exact ⟨h1.same k1 k3, k2.trans h2, k4.trans h3⟩
    hW := h.hW.same (hk _ h.hW.lt (by rw [h.cW]; simp)).1
    kW := h.kW
    eW := fun k v c h1 h2 => (h.eW k v c h1 h2).keep hk (by simp)
    hT := (hk _ h.hT.lt (by rw [h.cWT]; simp)).1.trans h.hT
    eT := fun i row hr => by
      obtain ⟨v, h1, h2⟩ := h.eT i row hr
      exact ⟨v, h1, h2.keep hk (by simp)⟩
    hG := (hk _ h.hG.lt (by rw [h.cGT]; simp)).1.trans h.hG
    eG := fun i row hr => by
      obtain ⟨v, h1, h2⟩ := h.eG i row hr
      exact ⟨v, h1, h2.keep hk (by simp)⟩
    cT := (hk _ h.blk.lt (by rw [h.cT]; simp)).2.trans h.cT
    cA := (kc _ h.hA.lt).trans h.cA
    cB := (kc _ h.hB.lt).trans h.cB
    cS := (kc _ h.hS.lt).trans h.cS
    cI := (kc _ h.hI.lt).trans h.cI
    cW := (kc _ h.hW.lt).trans h.cW
    cWT := (kc _ h.hT.lt).trans h.cWT
    cGT := (kc _ h.hG.lt).trans h.cGT
    wl := h.wl
    gl := h.gl
    low := fun b hb => by rw [kc b (Nat.lt_of_lt_of_le hb hB)]; exact h.low b hb
    nd := h.nd
  }
/-- a change of one actor's place -/
theorem HW.place (h : HW w B col m s) (hB : B ≤ w.heap.size) {i n : Nat} (hi : i < s.at_.length) (hg : GrownIn (fun b => b = m.AT) w w') (hm : Blk w' m.AT 3 (m.curA.set i (.int .i64 (n : Nat)))) :
    HW w' B (recol col w.heap.size .cst) { m with curA := m.curA.set i (.int .i64 (n : Nat)) } { s with at_ := s.at_.set i n } := by
  have kc : ∀ b, b < w.heap.size → recol col w.heap.size .cst b = col b := fun b hb => recol_old hb
  have hk : Keeps w w' col (recol col w.heap.size .cst) (fun e => e = .at_) := Keeps.of_in hg fun b hb e => by rw [e]; exact h.cA
  exact {
    blk := by
      dsimp only
      rw [List.length_set]
      exact (hk _ h.blk.lt (by rw [h.cT]; simp)).1.trans h.blk
    hA := hm
    eA := by
      dsimp only
      rw [List.length_set, List.take_set, h.eA]
      simp [natv, List.map_set]
    hB := h.hB.same (hk _ h.hB.lt (by rw [h.cB]; simp)).1
    eB := fun a x q1 q2 q3 => h.eB a x q1 q2 (by simpa using q3)
    hS := h.hS.same (hk _ h.hS.lt (by rw [h.cS]; simp)).1
    eS := fun a x q1 q2 q3 => h.eS a x q1 q2 (by simpa using q3)
    hI := h.hI.same (hk _ h.hI.lt (by rw [h.cI]; simp)).1
    eI := fun a x q1 q2 q3 => h.eI a x q1 q2 (by simpa using q3)
    bx := fun a x q1 q2 q3 => by
      obtain ⟨h1, h2, h3⟩ := h.bx a x q1 q2 (by simpa using q3)
      obtain ⟨k1, k2⟩ := hk _ h1.blk.lt (by rw [h2]; simp)
      obtain ⟨k3, k4⟩ := hk _ h1.st.lt (by rw [h3]; simp)
      exact ⟨h1.same k1 k3, k2.trans h2, k4.trans h3⟩
    hW := h.hW.same (hk _ h.hW.lt (by rw [h.cW]; simp)).1
    kW := h.kW
    eW := fun k v c h1 h2 => (h.eW k v c h1 h2).keep hk (by simp)
    hT := (hk _ h.hT.lt (by rw [h.cWT]; simp)).1.trans h.hT
    eT := fun i row hr => by
      obtain ⟨v, h1, h2⟩ := h.eT i row hr
      exact ⟨v, h1, h2.keep hk (by simp)⟩
    hG := (hk _ h.hG.lt (by rw [h.cGT]; simp)).1.trans h.hG
    eG := fun i row hr => by
      obtain ⟨v, h1, h2⟩ := h.eG i row hr
      exact ⟨v, h1, h2.keep hk (by simp)⟩
    cT := (hk _ h.blk.lt (by rw [h.cT]; simp)).2.trans h.cT
    cA := (kc _ h.hA.lt).trans h.cA
    cB := (kc _ h.hB.lt).trans h.cB
    cS := (kc _ h.hS.lt).trans h.cS
    cI := (kc _ h.hI.lt).trans h.cI
    cW := (kc _ h.hW.lt).trans h.cW
    cWT := (kc _ h.hT.lt).trans h.cWT
    cGT := (kc _ h.hG.lt).trans h.cGT
    wl := h.wl
    gl := by simpa using h.gl
    low := fun b hb => by rw [kc b (Nat.lt_of_lt_of_le hb hB)]; exact h.low b hb
    nd := by simpa using h.nd
  }
/-- a row of waiting letters is laid off -/
theorem HW.detach (h : HW w B col m s) (hB : B ≤ w.heap.size) {i : Nat} (hil : i < s.wait.length) (hg : GrownIn (fun b => b = m.WT) w w') (hm : Blk w' m.WT 52 (m.curW.set i (.slice none 0 0))) :
    HW w' B (decol col w.heap.size i) { m with curW := m.curW.set i (.slice none 0 0) } { s with wait := s.wait.set i [] } := by
  have kc : ∀ b, b < w.heap.size → col b ≠ .wr i → decol col w.heap.size i b = col b := fun b hb hc => decol_old hb hc
  have hk : Keeps w w' col (decol col w.heap.size i) (fun e => e = .wr i ∨ e = .wt) := fun b hb hn => ⟨hg.block b hb fun e => hn (.inr (by rw [e]; exact h.cWT)), decol_old hb fun e => hn (.inl e)⟩
  exact {
    blk := (hk _ h.blk.lt (by rw [h.cT]; simp)).1.trans h.blk
    hA := (hk _ h.hA.lt (by rw [h.cA]; simp)).1.trans h.hA
    eA := h.eA
    hB := h.hB.same (hk _ h.hB.lt (by rw [h.cB]; simp)).1
    eB := h.eB
    hS := h.hS.same (hk _ h.hS.lt (by rw [h.cS]; simp)).1
    eS := h.eS
    hI := h.hI.same (hk _ h.hI.lt (by rw [h.cI]; simp)).1
    eI := h.eI
    bx := fun a x q1 q2 q3 => by
      obtain ⟨h1, h2, h3⟩ := h.bx a x q1 q2 q3
      obtain ⟨k1, k2⟩ := hk _ h1.blk.lt (by rw [h2]; simp)
      obtain ⟨k3, k4⟩ := hk _ h1.st.lt (by rw [h3]; simp)
      exact ⟨h1.same k1 k3, k2.trans h2, k4.trans h3⟩
    hW := h.hW.same (hk _ h.hW.lt (by rw [h.cW]; simp)).1
    kW := h.kW
    eW := fun k v c h1 h2 => (h.eW k v c h1 h2).keep hk (by simp)
    hT := hm
    eT := fun j r hr => by
      dsimp only at hr
      by_cases e : j = i
      · subst e
        rw [List.getElem?_set_self hil] at hr
        injection hr with hr
        subst hr
        obtain ⟨v0, h1, _⟩ := h.eT j _ (List.getElem?_eq_getElem hil)
        exact ⟨_, List.getElem?_set_self (List.getElem?_eq_some_iff.1 h1).1, Seg.nil _ _ _, fun b hb => by simp [Value.ownBlock] at hb⟩
      · rw [List.getElem?_set_ne (Ne.symm e)] at hr
        obtain ⟨v0, h1, h2⟩ := h.eT j r hr
        refine ⟨v0, ?_, h2.keep hk (by simp [e])⟩
        dsimp only
        rw [List.getElem?_set_ne (Ne.symm e)]
        exact h1
    hG := (hk _ h.hG.lt (by rw [h.cGT]; simp)).1.trans h.hG
    eG := fun i row hr => by
      obtain ⟨v, h1, h2⟩ := h.eG i row hr
      exact ⟨v, h1, h2.keep hk (by simp)⟩
    cT := (hk _ h.blk.lt (by rw [h.cT]; simp)).2.trans h.cT
    cA := (kc _ h.hA.lt (by rw [h.cA]; simp)).trans h.cA
    cB := (kc _ h.hB.lt (by rw [h.cB]; simp)).trans h.cB
    cS := (kc _ h.hS.lt (by rw [h.cS]; simp)).trans h.cS
    cI := (kc _ h.hI.lt (by rw [h.cI]; simp)).trans h.cI
    cW := (kc _ h.hW.lt (by rw [h.cW]; simp)).trans h.cW
    cWT := (kc _ h.hT.lt (by rw [h.cWT]; simp)).trans h.cWT
    cGT := (kc _ h.hG.lt (by rw [h.cGT]; simp)).trans h.cGT
    wl := by simpa using h.wl
    gl := h.gl
    low := fun b hb => by rw [kc b (Nat.lt_of_lt_of_le hb hB) (by rw [h.low b hb]; simp)]; exact h.low b hb
    nd := h.nd
  }
end
end Go.Proofs.Ytckkelppdeampaa
