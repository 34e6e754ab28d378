/- A simulation of package mark in memory: blocks have colours, which part owns them; what a change of one part leaves of the others. -/
import Derived.Test.YtpnhmplinkakbaaMarkLaw
import Derived.Test.YtpnhmplinkakbaaSeg
import Derived.Test.YtpnhmplinkakbaaSideNew
set_option linter.unusedVariables false
namespace Go.Mem
inductive Col where
  | out
  | base
  | coins
  | rows (i : Nat)
  | way (k : Nat × Nat)
def recol (col : Nat → Col) (n : Nat) (c : Col) (b : Nat) : Col := if b < n then col b else c
theorem recol_old {col : Nat → Col} {n : Nat} {c : Col} {b : Nat} (h : b < n) : recol col n c b = col b := if_pos h
theorem recol_new {col : Nat → Col} {n : Nat} {c : Col} {b : Nat} (h : n ≤ b) : recol col n c b = c := if_neg (by omega)
end Go.Mem
namespace Go.Proofs.Ytpnhmplinkakbaa
open Go.RowKit Go.Mem

theorem WaysAt.own_imp {w : World} {own own' : Nat → Prop} {vs : List Value} {ls : List (List Int)} (h : WaysAt w own vs ls) (hk : ∀ b, b < w.heap.size → own b → own' b) : WaysAt w own' vs ls :=
  ⟨h.1, fun i v l hv hl => ⟨(h.2.1 i v l hv hl).1, fun b hb => hk b ((h.2.1 i v l hv hl).1.lt b hb).2 ((h.2.1 i v l hv hl).2 b hb)⟩, h.2.2⟩
theorem Side.own_imp {w : World} {S : Nat} {own own' : Nat → Prop} {x : Sd} (h : Side w S own x) (hk : ∀ b, b < w.heap.size → own b → own' b) : Side w S own' x := by
  obtain ⟨P, cp, M, Y, vs, hS, hP, h8, hM, hY, hml, hwl, oS, oM, oY, hW, h200⟩ := h
  exact ⟨P, cp, M, Y, vs, hS, hP.imp (by omega) fun b hb hl => ⟨hk b hl hb.1, hb.2⟩, h8, hM, hY, hml, hwl, hk S hS.lt oS, hk M hM.lt oM, hk Y hY.lt oY, hW.own_imp hk, h200⟩
theorem Side.keep {w w' : World} {S : Nat} {own : Nat → Prop} {x : Sd} (h : Side w S own x) (hk : Same own w w') : Side w' S own x := by
  obtain ⟨P, cp, M, Y, vs, hS, hP, h8, hM, hY, hml, hwl, oS, oM, oY, hW, h200⟩ := h
  refine ⟨P, cp, M, Y, vs, hS.same hk oS, hP.keep fun b hb hl => hk b hb.1 hl, h8, hM.same hk oM, hY.same hk oY, hml, hwl, oS, oM, oY, hW.keep fun i v b hv hb => ?_, h200⟩
  have hi : i < x.ways.length := by rw [← hW.1]; exact (List.getElem?_eq_some_iff.1 hv).1
  obtain ⟨h1, h2⟩ := hW.2.1 i v _ hv (List.getElem?_eq_getElem hi)
  exact hk b (h2 b hb) (h1.lt b hb).2
theorem Side.lt {w : World} {S : Nat} {own : Nat → Prop} {x : Sd} (h : Side w S own x) : S < w.heap.size := by
  obtain ⟨P, cp, M, Y, vs, hS, _⟩ := h
  exact hS.lt

def encK (k : Nat × Nat) : Value := .agg #[.int .i64 (k.1 : Nat), .int .i64 (k.2 : Nat)]
def okK (k : Nat × Nat) : Prop := k.1 < 1000 ∧ k.2 < 1000
theorem encK_inj (a b : Nat × Nat) (h : encK a = encK b) : a = b := by
  unfold encK at h
  injection h with h
  injection h with h
  injection h with h1 h2
  injection h2 with h2 _
  injection h1 with _ h1
  injection h2 with _ h2
  exact Prod.ext (by omega) (by omega)

def SidesIn (w : World) (col : Nat → Col) (cur : List Value) (sides : List Sd) : Prop :=
  ∀ (i : Nat) x, sides[i]? = some x → ∃ S : Nat, cur[i]? = some (.pointer (some ⟨S, 0, none⟩)) ∧ Side w S (fun b => col b = .rows i) x
def WaysIn (w : World) (col : Nat → Col) (l : List ((Nat × Nat) × Value)) (ws : Ways) : Prop :=
  l.map (·.1) = ws.map (·.1) ∧ ∀ k v c, mget l k = some v → mget ws k = some c → Seg w 3 1 v c.length (nums c) ∧ ∀ b, v.ownBlock = some b → col b = .way k
structure TownW (w : World) (B T : Nat) (col : Nat → Col) (s : Tn) (C cC : Nat) (curC : List Value) (S cS : Nat) (curS : List Value) (m : Nat) (l : List ((Nat × Nat) × Value)) : Prop where
  blk : Blk w T 113 [.slice (some ⟨C, 0, none⟩) s.coins.length cC, .slice (some ⟨S, 0, none⟩) s.sides.length cS, .map (some m)]
  hC : Blk w C 3 curC
  hc : curC.take s.coins.length = nums s.coins
  hS : Blk w S 23 curS
  sd : SidesIn w col curS s.sides
  mp : MapOf encK okK w m l
  ws : WaysIn w col l s.ways
  cT : col T = .base
  cC : col C = .coins
  cS : col S = .base
  cm : col m = .base
  low : ∀ b, b < B → col b = .out
def TownAt (w : World) (B T : Nat) (col : Nat → Col) (s : Tn) : Prop := ∃ C cC curC S cS curS m l, TownW w B T col s C cC curC S cS curS m l

theorem mget_keys {α β γ : Type} [DecidableEq α] : ∀ {l : List (α × β)} {k : List (α × γ)}, l.map (·.1) = k.map (·.1) → ∀ a, (mget l a).isSome = (mget k a).isSome
  | [], [], _, a => rfl
  | [], q :: k, h, a => by simp at h
  | p :: l, [], h, a => by simp at h
  | p :: l, q :: k, h, a => by
    simp only [List.map_cons, List.cons.injEq] at h
    rw [mget_cons, mget_cons, h.1]
    split
    · rfl
    · exact mget_keys h.2 a
theorem WaysIn.at_ {w : World} {col : Nat → Col} {l : List ((Nat × Nat) × Value)} {ws : Ways} (h : WaysIn w col l ws) (a b : Nat) :
    Seg w 3 1 ((mget l (a, b)).getD (.slice none 0 0)) (chan ws a b).length (nums (chan ws a b)) ∧ ∀ g, ((mget l (a, b)).getD (.slice none 0 0)).ownBlock = some g → col g = .way (a, b) := by
  have hk := mget_keys h.1 (a, b)
  unfold chan
  cases h1 : mget l (a, b) with
  | none =>
    rw [h1] at hk
    have h2 : mget ws (a, b) = none := by simpa using hk.symm
    rw [h2]
    exact ⟨Seg.nil _ _ _, fun g hg => by simp [Value.ownBlock] at hg⟩
  | some v =>
    rw [h1] at hk
    obtain ⟨c, h2⟩ := Option.isSome_iff_exists.1 hk.symm
    rw [h2]
    exact h.2 _ _ _ h1 h2
theorem WaysIn.keep {w w' : World} {col col' : Nat → Col} {l : List ((Nat × Nat) × Value)} {ws : Ways} (h : WaysIn w col l ws) (hk : ∀ b k, b < w.heap.size → col b = .way k → w'.heap[b]? = w.heap[b]? ∧ col' b = .way k) : WaysIn w' col' l ws :=
  ⟨h.1, fun k v c h1 h2 => by
    obtain ⟨h3, h4⟩ := h.2 k v c h1 h2
    exact ⟨h3.keep fun b hb => (hk b k (h3.lt b hb) (h4 b hb)).1, fun b hb => (hk b k (h3.lt b hb) (h4 b hb)).2⟩⟩
theorem WaysIn.put {w w' : World} {col col' : Nat → Col} {l : List ((Nat × Nat) × Value)} {ws : Ways} (h : WaysIn w col l ws) (k : Nat × Nat) {v : Value} {c : List Int} (hk : ∀ b k', k' ≠ k → b < w.heap.size → col b = .way k' → w'.heap[b]? = w.heap[b]? ∧ col' b = .way k')
    (hv : Seg w' 3 1 v c.length (nums c)) (hvc : ∀ b, v.ownBlock = some b → col' b = .way k) : WaysIn w' col' (mput l k v) (mput ws k c) := by
  refine ⟨by rw [keys_put, keys_put, h.1, mget_keys h.1], fun k' v' c' h1 h2 => ?_⟩
  rw [mget_put] at h1 h2
  by_cases e : k' = k
  · rw [if_pos e] at h1 h2
    injection h1 with h1
    injection h2 with h2
    subst h1 h2 e
    exact ⟨hv, hvc⟩
  · rw [if_neg e] at h1 h2
    obtain ⟨h3, h4⟩ := h.2 k' v' c' h1 h2
    exact ⟨h3.keep fun b hb => (hk b k' e (h3.lt b hb) (h4 b hb)).1, fun b hb => (hk b k' e (h3.lt b hb) (h4 b hb)).2⟩
theorem SidesIn.keep {w w' : World} {col col' : Nat → Col} {cur : List Value} {sides : List Sd} (h : SidesIn w col cur sides) (hk : ∀ b i, b < w.heap.size → col b = .rows i → w'.heap[b]? = w.heap[b]? ∧ col' b = .rows i) : SidesIn w' col' cur sides := by
  intro i x hx
  obtain ⟨S, h1, h2⟩ := h i x hx
  have hl := h2.own_imp (own' := fun b => col b = .rows i ∧ b < w.heap.size) fun b hb ho => ⟨ho, hb⟩
  exact ⟨S, h1, (hl.keep fun b hb _ => (hk b i hb.2 hb.1).1).own_imp fun b _ hb => (hk b i hb.2 hb.1).2⟩

section
variable {w w' : World} {B T : Nat} {col : Nat → Col} {s : Tn} {C cC : Nat} {curC : List Value} {S cS : Nat} {curS : List Value} {m : Nat} {l : List ((Nat × Nat) × Value)}
theorem TownW.m_lt (h : TownW w B T col s C cC curC S cS curS m l) : m < w.heap.size := h.mp.lt
theorem TownW.Tm (h : TownW w B T col s C cC curC S cS curS m l) : T ≠ m := by
  rintro rfl
  obtain ⟨es, clock, hb, _⟩ := h.mp
  have := h.blk
  unfold Blk at this
  rw [hb] at this
  cases this
theorem TownW.Sm (h : TownW w B T col s C cC curC S cS curS m l) : S ≠ m := by
  rintro rfl
  obtain ⟨es, clock, hb, _⟩ := h.mp
  have := h.hS
  unfold Blk at this
  rw [hb] at this
  cases this
theorem TownW.own (h : TownW w B T col s C cC curC S cS curS m l) {c : Col} (hc : c ≠ .out) : ∀ b, col b = c → B ≤ b := fun b hb => by
  rcases Nat.lt_or_ge b B with hl | hl
  · exact absurd ((h.low b hl).symm.trans hb).symm hc
  · exact hl
theorem low_recol (h : TownW w B T col s C cC curC S cS curS m l) (hB : B ≤ w.heap.size) (c : Col) : ∀ b, b < B → recol col w.heap.size c b = .out := fun b hb => by
  rw [recol_old (by omega)]
  exact h.low b hb
/-- a change of one side -/
theorem TownW.side (h : TownW w B T col s C cC curC S cS curS m l) (hB : B ≤ w.heap.size) {i : Nat} {S0 : Nat} {x' : Sd} {own' : Nat → Prop} (hi : curS[i]? = some (.pointer (some ⟨S0, 0, none⟩))) (hil : i < s.sides.length)
    (hg : GrownIn (fun b => col b = .rows i) w w') (hs : Side w' S0 own' x') (ho : ∀ b, own' b → col b = .rows i ∨ w.heap.size ≤ b) :
    TownW w' B T (recol col w.heap.size (.rows i)) ⟨s.coins, s.sides.set i x', s.ways⟩ C cC curC S cS curS m l := by
  have hk : ∀ b c, c ≠ .rows i → b < w.heap.size → col b = c → w'.heap[b]? = w.heap[b]? ∧ recol col w.heap.size (.rows i) b = c := fun b c hc hb e => ⟨hg.block b hb (by rw [e]; exact hc), by rw [recol_old hb]; exact e⟩
  have kT := hk T _ (by simp) h.blk.lt h.cT
  have kC := hk C _ (by simp) h.hC.lt h.cC
  have kS := hk S _ (by simp) h.hS.lt h.cS
  have km := hk m _ (by simp) h.m_lt h.cm
  have hb := h.blk
  refine ⟨?_, kC.1.trans h.hC, h.hc, kS.1.trans h.hS, ?_, h.mp.same km.1, h.ws.keep fun b k hb e => hk b _ (by simp) hb e, kT.2, kC.2, kS.2, km.2, low_recol h hB _⟩
  · rw [List.length_set]
    exact kT.1.trans hb
  · intro j x hx
    by_cases e : j = i
    · subst e
      rw [List.getElem?_set_self hil] at hx
      injection hx with hx
      subst hx
      refine ⟨S0, hi, hs.own_imp fun b hb ho' => ?_⟩
      rcases ho b ho' with e | e
      · rcases Nat.lt_or_ge b w.heap.size with hl | hl
        · rw [recol_old hl]; exact e
        · rw [recol_new hl]
      · rw [recol_new e]
    · rw [List.getElem?_set_ne (fun h => e h.symm)] at hx
      obtain ⟨S1, h1, h2⟩ := h.sd j x hx
      have hl := h2.own_imp (own' := fun b => col b = .rows j ∧ b < w.heap.size) fun b hb ho => ⟨ho, hb⟩
      have e2 : (Col.rows j) ≠ .rows i := fun h => by injection h with h; exact e h
      exact ⟨S1, h1, (hl.keep fun b hb _ => (hk b _ e2 hb.2 hb.1).1).own_imp fun b _ hb => (hk b _ e2 hb.2 hb.1).2⟩
/-- a change of one channel -/
theorem TownW.way (h : TownW w B T col s C cC curC S cS curS m l) (hB : B ≤ w.heap.size) {k : Nat × Nat} {v : Value} {c : List Int}
    (hg : GrownIn (fun b => col b = .way k ∨ b = m) w w') (hm : MapOf encK okK w' m (mput l k v)) (hv : Seg w' 3 1 v c.length (nums c)) (ho : ∀ b, v.ownBlock = some b → col b = .way k ∨ w.heap.size ≤ b) :
    TownW w' B T (recol col w.heap.size (.way k)) ⟨s.coins, s.sides, mput s.ways k c⟩ C cC curC S cS curS m (mput l k v) := by
  have hk : ∀ b c, c ≠ .way k → b ≠ m → b < w.heap.size → col b = c → w'.heap[b]? = w.heap[b]? ∧ recol col w.heap.size (.way k) b = c := fun b c hc hne hb e => ⟨hg.block b hb (by rw [e]; exact fun h => h.elim hc hne), by rw [recol_old hb]; exact e⟩
  have kT := hk T _ (by simp) h.Tm h.blk.lt h.cT
  have nm : ∀ b c, col b = c → c ≠ .base → b ≠ m := fun b c e hc hbm => hc (by rw [← e, hbm, h.cm])
  have kC := hk C _ (by simp) (nm C _ h.cC (by simp)) h.hC.lt h.cC
  have kS := hk S _ (by simp) h.Sm h.hS.lt h.cS
  refine ⟨kT.1.trans h.blk, kC.1.trans h.hC, h.hc, kS.1.trans h.hS, h.sd.keep fun b i hb e => hk b _ (by simp) (nm b _ e (by simp)) hb e, hm, h.ws.put k (fun b k' hne hb e => hk b _ (fun h => hne (by injection h)) (nm b _ e (by simp)) hb e) hv ?_, kT.2, kC.2, kS.2, by rw [recol_old h.m_lt]; exact h.cm, low_recol h hB _⟩
  intro b hb
  rcases ho b hb with e | e
  · rcases Nat.lt_or_ge b w.heap.size with hl | hl
    · rw [recol_old hl]; exact e
    · rw [recol_new hl]
  · rw [recol_new e]
/-- a change of one number of coins -/
theorem TownW.coin (h : TownW w B T col s C cC curC S cS curS m l) {i : Nat} (hi : i < s.coins.length) (v : Int) :
    TownW (w.setCell ⟨C, i, none⟩ (.int .i64 v)) B T col ⟨s.coins.set i v, s.sides, s.ways⟩ C cC (curC.set i (.int .i64 v)) S cS curS m l := by
  have hk : ∀ b c, c ≠ .coins → col b = c → (w.setCell ⟨C, i, none⟩ (.int .i64 v)).heap[b]? = w.heap[b]? := fun b c hc e => Below.heap_setCell w ⟨C, i, none⟩ _ b (by rintro rfl; exact hc (e.symm.trans h.cC))
  refine ⟨?_, h.hC.put i _, ?_, (hk S _ (by simp) h.cS).trans h.hS, h.sd.keep fun b j hb e => ⟨hk b _ (by simp) e, e⟩, h.mp.same (hk m _ (by simp) h.cm), h.ws.keep fun b k hb e => ⟨hk b _ (by simp) e, e⟩, h.cT, h.cC, h.cS, h.cm, h.low⟩
  · simp only [List.length_set]
    exact (hk T _ (by simp) h.cT).trans h.blk
  · simp only [List.length_set]
    rw [List.take_set, h.hc]
    simp [nums, List.map_set]
/-- growth elsewhere -/
theorem TownW.below (h : TownW w B T col s C cC curC S cS curS m l) (hb : Below w.heap.size w w') (hB : B ≤ w.heap.size) : TownW w' B T (recol col w.heap.size .base) s C cC curC S cS curS m l := by
  have hk : ∀ b c, b < w.heap.size → col b = c → w'.heap[b]? = w.heap[b]? ∧ recol col w.heap.size .base b = c := fun b c hl e => ⟨hb.block b hl, by rw [recol_old hl]; exact e⟩
  exact ⟨(hk T _ h.blk.lt h.cT).1.trans h.blk, (hk C _ h.hC.lt h.cC).1.trans h.hC, h.hc, (hk S _ h.hS.lt h.cS).1.trans h.hS, h.sd.keep fun b i hl e => hk b _ hl e, h.mp.same (hk m _ h.m_lt h.cm).1, h.ws.keep fun b k hl e => hk b _ hl e, (hk T _ h.blk.lt h.cT).2, (hk C _ h.hC.lt h.cC).2, (hk S _ h.hS.lt h.cS).2, (hk m _ h.m_lt h.cm).2, low_recol h hB _⟩
end
end Go.Proofs.Ytpnhmplinkakbaa
