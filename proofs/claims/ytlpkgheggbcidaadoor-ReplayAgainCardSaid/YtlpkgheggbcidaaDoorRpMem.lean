/- A world of package replay in memory: blocks have colours, which part owns them; what a change of one part leaves of the others. No condition. -/
import Derived.Test.YtlpkgheggbcidaaDoorRpLaw
import Derived.Test.YtlpkgheggbcidaaDoorSeg
import Derived.Test.YtlpkgheggbcidaaDoorGrown
import Derived.Test.YtlpkgheggbcidaaDoorNumD
set_option linter.unusedVariables false
namespace Go.Rp
open Go.Mem Go.RowKit
inductive Cl where
  | out
  | base
  | said
  | act (i : Nat)
  | way (k : Nat × Nat)
def recol (col : Nat → Cl) (n : Nat) (c : Cl) (b : Nat) : Cl := if b < n then col b else c
theorem recol_old {col : Nat → Cl} {n : Nat} {c : Cl} {b : Nat} (h : b < n) : recol col n c b = col b := if_pos h
theorem recol_new {col : Nat → Cl} {n : Nat} {c : Cl} {b : Nat} (h : n ≤ b) : recol col n c b = c := if_neg (by omega)
def bst (s : Bs) : Value := .string ⟨s.toArray⟩
/-- things written one behind the other -/
def cat {α : Type} (f : α → List Value) (l : List α) : List Value := (l.map f).flatten
section
variable {α : Type} {f : α → List Value} {k : Nat}
theorem cat_nil : cat f [] = [] := rfl
theorem cat_cons (a : α) (l : List α) : cat f (a :: l) = f a ++ cat f l := rfl
theorem cat_app (l m : List α) : cat f (l ++ m) = cat f l ++ cat f m := by simp [cat]
theorem cat_one (a : α) : cat f [a] = f a := by simp [cat]
theorem cat_len (hf : ∀ a, (f a).length = k) : ∀ l : List α, (cat f l).length = l.length * k
  | [] => by simp [cat]
  | a :: l => by rw [cat_cons, List.length_append, hf, cat_len hf l, List.length_cons, Nat.add_mul]; omega
theorem cat_at (hf : ∀ a, (f a).length = k) : ∀ (l : List α) (i j : Nat) (hi : i < l.length), j < k → (cat f l)[i * k + j]? = (f l[i])[j]?
  | a :: l, 0, j, hi, hj => by
    rw [cat_cons, Nat.zero_mul, Nat.zero_add, List.getElem?_append_left (by rw [hf]; exact hj)]
    rfl
  | a :: l, i + 1, j, hi, hj => by
    rw [cat_cons, List.getElem?_append_right (by rw [hf, Nat.add_mul]; omega)]
    have := cat_at hf l i j (by simpa using hi) hj
    rw [show (i + 1) * k + j - (f a).length = i * k + j by rw [hf, Nat.add_mul]; omega, this]
    rfl
theorem cat_take (hf : ∀ a, (f a).length = k) (l : List α) (i : Nat) : (cat f l).take (i * k) = cat f (l.take i) := by
  by_cases h : i ≤ l.length
  · have e : cat f l = cat f (l.take i) ++ cat f (l.drop i) := by rw [← cat_app, List.take_append_drop]
    rw [e, List.take_append_of_le_length (by rw [cat_len hf, List.length_take]; rw [Nat.min_eq_left h]; exact Nat.le_refl _)]
    apply List.take_of_length_le
    rw [cat_len hf, List.length_take, Nat.min_eq_left h]
    exact Nat.le_refl _
  · rw [List.take_of_length_le (by rw [cat_len hf]; exact Nat.mul_le_mul_right _ (by omega)), List.take_of_length_le (by omega)]
theorem cat_drop (hf : ∀ a, (f a).length = k) (l : List α) (i : Nat) : (cat f l).drop (i * k) = cat f (l.drop i) := by
  by_cases h : i ≤ l.length
  · have e : cat f l = cat f (l.take i) ++ cat f (l.drop i) := by rw [← cat_app, List.take_append_drop]
    have e2 : (cat f (l.take i)).length = i * k := by rw [cat_len hf, List.length_take, Nat.min_eq_left h]
    rw [e, ← e2, List.drop_left]
  · rw [List.drop_of_length_le (by rw [cat_len hf]; exact Nat.mul_le_mul_right _ (by omega)), List.drop_of_length_le (by omega)]
    rfl
theorem cat_ones (hf : ∀ a, ∀ u ∈ f a, u.oneCell' = true) (l : List α) : ∀ u ∈ cat f l, u.oneCell' = true := by
  intro u hu
  unfold cat at hu
  obtain ⟨x, hx, hu⟩ := List.mem_flatten.1 hu
  obtain ⟨a, _, rfl⟩ := List.mem_map.1 hx
  exact hf a u hu
end
def vlC (v : Vl) : List Value := [.int .i64 v.kd, .int .i64 v.nm, .string ⟨#[]⟩, .slice none 0 0]
def vlV (v : Vl) : Value := .agg #[.int .i64 v.kd, .int .i64 v.nm, .string ⟨#[]⟩, .slice none 0 0]
def sdC (p : Int × Int) : List Value := [.int .i64 p.1, .int .i64 p.2]
def chC (c : Ch) : List Value := [.int .i64 c.k, .int .i64 c.a, .int .i64 c.b]
theorem vlC_len (v : Vl) : (vlC v).length = 4 := rfl
theorem sdC_len (v : Int × Int) : (sdC v).length = 2 := rfl
theorem chC_len (v : Ch) : (chC v).length = 3 := rfl
theorem vlC_one (v : Vl) : ∀ u ∈ vlC v, u.oneCell' = true := by
  intro u hu
  simp only [vlC, List.mem_cons, List.mem_nil_iff, or_false] at hu
  rcases hu with rfl | rfl | rfl | rfl <;> rfl
theorem sdC_one (v : Int × Int) : ∀ u ∈ sdC v, u.oneCell' = true := by
  intro u hu
  simp only [sdC, List.mem_cons, List.mem_nil_iff, or_false] at hu
  rcases hu with rfl | rfl <;> rfl
theorem chC_one (v : Ch) : ∀ u ∈ chC v, u.oneCell' = true := by
  intro u hu
  simp only [chC, List.mem_cons, List.mem_nil_iff, or_false] at hu
  rcases hu with rfl | rfl | rfl <;> rfl
/-- the cells of a toy; la: the arguments of the last thing that it came to -/
def tyC (A : Option Addr) (c : Nat) (t : Ty) (la : Value) : List Value := [.slice A t.sc.length c, .int .i64 (t.i : Nat), .int .i64 t.sum, .int .i64 t.self, .bool t.waits, .bool t.asks, .int .i64 t.last.kd, .int .i64 t.last.nm, bst t.last.tx, .int .i64 t.last.vl.kd, .int .i64 t.last.vl.nm, .string ⟨#[]⟩, .slice none 0 0, la]
def outV (o : Ot) (la : Value) : Value := .agg #[.int .i64 o.kd, .int .i64 o.nm, bst o.tx, .int .i64 o.vl.kd, .int .i64 o.vl.nm, .string ⟨#[]⟩, .slice none 0 0, la]
def acC (T : Nat) (rt : TypeId) (bv : Value) (x : Ac) : List Value := [.iface rt (.pointer (some ⟨T, 0, none⟩)), bv, .bool x.waiting, .int .i64 x.ticks, .int .i64 (x.off : Nat), .bool x.ended, bst x.how]
theorem seg_own {w : World} {e : TypeId} {size n : Nat} {v : Value} {xs : List Value} (h : Seg w e size v n xs) {g : Nat} {t : TypeId} {cs : List Value} (hb : Blk w g t cs) (ht : t ≠ e) : v.ownBlock ≠ some g := fun e => by
  obtain ⟨cur, hg⟩ := h.kind e
  exact hg.ne_ hb (fun e => ht e.symm) rfl
/-- a script, or a row of scripts -/
def ScAt (w : World) (B : Nat) (A : Option Addr) (c : Nat) (s : List Int) : Prop := Reads w (fun b => b < B) 1 A s.length (nums s) ∧ s.length ≤ c ∧ c ≤ maxLen
def TvAt (w : World) (B : Nat) (A : Option Addr) (c : Nat) (tv : List (List Int)) : Prop :=
  tv.length ≤ c ∧ c ≤ maxLen ∧ ∃ xs, Reads w (fun b => b < B) 1 A tv.length xs ∧ ∀ (i : Nat) s, tv[i]? = some s → ∃ Ai ci, xs[i]? = some (.slice Ai s.length ci) ∧ ScAt w B Ai ci s
theorem ScAt.keep {w w' : World} {B : Nat} {A : Option Addr} {c : Nat} {s : List Int} (h : ScAt w B A c s) (hk : Same (fun b => b < B) w w') : ScAt w' B A c s := ⟨h.1.keep hk, h.2⟩
theorem TvAt.keep {w w' : World} {B : Nat} {A : Option Addr} {c : Nat} {tv : List (List Int)} (h : TvAt w B A c tv) (hk : Same (fun b => b < B) w w') : TvAt w' B A c tv := by
  obtain ⟨h1, h2, xs, h3, h4⟩ := h
  exact ⟨h1, h2, xs, h3.keep hk, fun i s hs => by
    obtain ⟨Ai, ci, h5, h6⟩ := h4 i s hs
    exact ⟨Ai, ci, h5, h6.keep hk⟩⟩
end Go.Rp
namespace Go.Proofs.YtlpkgheggbcidaaDoor
open Go.RowKit Go.Mem Go.Rp
def ToyAt (w : World) (B T : Nat) (t : Ty) : Prop := ∃ A c LA ln lc, Blk w T 168 (tyC A c t (.slice LA ln lc)) ∧ ScAt w B A c t.sc ∧ (t.waits = true → t.last.kd ≠ 4)
theorem ToyAt.keep {w w' : World} {B T : Nat} {t : Ty} (h : ToyAt w B T t) (hk : Same (fun b => b < B) w w') (hT : w'.heap[T]? = w.heap[T]?) : ToyAt w' B T t := by
  obtain ⟨A, c, LA, ln, lc, h1, h2, h3⟩ := h
  exact ⟨A, c, LA, ln, lc, hT.trans h1, h2.keep hk, h3⟩
theorem ToyAt.lt {w : World} {B T : Nat} {t : Ty} (h : ToyAt w B T t) : T < w.heap.size := by
  obtain ⟨A, c, LA, ln, lc, h1, _⟩ := h
  exact h1.lt
/-- an actor in memory, toy included, with its blocks named -/
structure ActW (w : World) (B : Nat) (own : Nat → Prop) (S T : Nat) (bv : Value) (x : Ac) : Prop where
  blk : Blk w S 80 (acC T 166 bv x)
  box : Seg w 56 4 bv x.box.length (cat vlC x.box)
  toy : ToyAt w B T x.ty
  oS : own S
  oT : own T
  ob : ∀ b, bv.ownBlock = some b → own b
def ActAt (w : World) (B : Nat) (own : Nat → Prop) (S : Nat) (x : Ac) : Prop := ∃ T bv, ActW w B own S T bv x
theorem ActAt.keep {w w' : World} {B : Nat} {own own' : Nat → Prop} {S : Nat} {x : Ac} (h : ActAt w B own S x) (hB : Same (fun b => b < B) w w') (hk : ∀ b, b < w.heap.size → own b → w'.heap[b]? = w.heap[b]? ∧ own' b) : ActAt w' B own' S x := by
  obtain ⟨T, bv, h⟩ := h
  have hS := hk S h.blk.lt h.oS
  have hT := hk T h.toy.lt h.oT
  exact ⟨T, bv, ⟨hS.1.trans h.blk, h.box.keep fun b hb => (hk b (h.box.lt b hb) (h.ob b hb)).1, h.toy.keep hB hT.1, hS.2, hT.2, fun b hb => (hk b (h.box.lt b hb) (h.ob b hb)).2⟩⟩
def encK (k : Nat × Nat) : Value := .agg #[.int .i64 (k.1 : Nat), .int .i64 (k.2 : Nat)]
def okK (k : Nat × Nat) : Prop := k.1 < 1000 ∧ k.2 < 1000
theorem encK_inj (a b : Nat × Nat) (h : encK a = encK b) : a = b := by
  unfold encK at h
  injection h with h
  injection h with h
  injection h with h1 h2
  injection h2 with h2 _
  injection h1 with _ h1
  injection h2 with _ h2
  exact Prod.ext (by omega) (by omega)
def ActsIn (w : World) (B : Nat) (col : Nat → Cl) (ps : List Value) (acs : List Ac) : Prop :=
  ps.length = acs.length ∧ ∀ (i : Nat) x, acs[i]? = some x → ∃ S : Nat, ps[i]? = some (.pointer (some ⟨S, 0, none⟩)) ∧ ActAt w B (fun b => col b = .act i) S x
abbrev Wy := List ((Nat × Nat) × List Vl)
def WaysIn (w : World) (col : Nat → Cl) (l : List ((Nat × Nat) × Value)) (ws : Wy) : Prop :=
  l.map (·.1) = ws.map (·.1) ∧ ∀ k v c, mget l k = some v → mget ws k = some c → Seg w 56 4 v c.length (cat vlC c) ∧ ∀ b, v.ownBlock = some b → col b = .way k
/-- a world in memory, with its blocks named: T the world, M its map, av sv the slices of actors and of what was said -/
structure WdW (w : World) (B T : Nat) (col : Nat → Cl) (s : Wd) (A : Option Addr) (c : Nat) (av : Value) (ps : List Value) (M : Nat) (l : List ((Nat × Nat) × Value)) (sv : Value) : Prop where
  blk : Blk w T 75 [.iface 49 (.slice A s.tv.length c), av, .map (some M), sv]
  tv : TvAt w B A c s.tv
  rw_ : Seg w 76 1 av s.acs.length ps
  acts : ActsIn w B col ps s.acs
  mp : MapOf encK okK w M l
  ws : WaysIn w col l s.ways
  sd : Seg w 45 2 sv s.said.length (cat sdC s.said)
  cT : col T = .base
  cM : col M = .base
  ca : ∀ b, av.ownBlock = some b → col b = .base
  cs : ∀ b, sv.ownBlock = some b → col b = .said
  low : ∀ b, b < B → col b = .out
  lB : B ≤ w.heap.size
def WdAt (w : World) (B T : Nat) (col : Nat → Cl) (s : Wd) : Prop := ∃ A c av ps M l sv, WdW w B T col s A c av ps M l sv
/-- a step of a world: only its blocks have changed, and it has taken no old block -/
structure Stp (col col' : Nat → Cl) (w w' : World) : Prop where
  g : GrownIn (fun b => col b ≠ .out) w w'
  c : ∀ b, b < w.heap.size → (col' b = .out ↔ col b = .out)
theorem Stp.refl (col : Nat → Cl) (w : World) : Stp col col w w := ⟨GrownIn.refl _ _, fun _ _ => Iff.rfl⟩
theorem Stp.trans {col col' col2 : Nat → Cl} {w w' w2 : World} (h : Stp col col' w w') (k : Stp col' col2 w' w2) : Stp col col2 w w2 := by
  refine ⟨h.g.trans k.g fun b hb => ?_, fun b hb => (k.c b (Nat.lt_of_lt_of_le hb h.g.size)).trans (h.c b hb)⟩
  rcases Nat.lt_or_ge b w.heap.size with hl | hl
  · exact .inl fun e => hb ((h.c b hl).2 e)
  · exact .inr hl
theorem Stp.below {col : Nat → Cl} {w w' : World} (h : Below w.heap.size w w') (c : Cl) : Stp col (recol col w.heap.size c) w w' := ⟨GrownIn.of_below h, fun b hb => by rw [recol_old hb]⟩
theorem mget_keys {α β γ : Type} [DecidableEq α] : ∀ {l : List (α × β)} {k : List (α × γ)}, l.map (·.1) = k.map (·.1) → ∀ a, (mget l a).isSome = (mget k a).isSome
  | [], [], _, a => rfl
  | [], q :: k, h, a => by simp at h
  | p :: l, [], h, a => by simp at h
  | p :: l, q :: k, h, a => by
    simp only [List.map_cons, List.cons.injEq] at h
    rw [mget_cons, mget_cons, h.1]
    split
    · rfl
    · exact mget_keys h.2 a
theorem keys_put {α β : Type} [DecidableEq α] (l : List (α × β)) (a : α) (v : β) : (mput l a v).map (·.1) = if (mget l a).isSome then l.map (·.1) else l.map (·.1) ++ [a] := by
  unfold mput
  split
  · rw [List.map_map]
    apply List.map_congr_left
    intro p _
    by_cases hp : p.1 = a <;> simp [hp]
  · simp
theorem WaysIn.at_ {w : World} {col : Nat → Cl} {l : List ((Nat × Nat) × Value)} {s : Wd} (h : WaysIn w col l s.ways) (k : Nat × Nat) :
    Seg w 56 4 ((mget l k).getD (.slice none 0 0)) (wayF s k).length (cat vlC (wayF s k)) ∧ ∀ g, ((mget l k).getD (.slice none 0 0)).ownBlock = some g → col g = .way k := by
  have hk := mget_keys h.1 k
  unfold wayF
  cases h1 : mget l k with
  | none =>
    rw [h1] at hk
    have h2 : mget s.ways k = none := by simpa using hk.symm
    rw [h2]
    exact ⟨Seg.nil _ _ _, fun g hg => by simp [Value.ownBlock] at hg⟩
  | some v =>
    rw [h1] at hk
    obtain ⟨c, h2⟩ := Option.isSome_iff_exists.1 hk.symm
    rw [h2]
    exact h.2 _ _ _ h1 h2
theorem WaysIn.keep {w w' : World} {col col' : Nat → Cl} {l : List ((Nat × Nat) × Value)} {ws : Wy} (h : WaysIn w col l ws) (hk : ∀ b k, b < w.heap.size → col b = .way k → w'.heap[b]? = w.heap[b]? ∧ col' b = .way k) : WaysIn w' col' l ws :=
  ⟨h.1, fun k v c h1 h2 => by
    obtain ⟨h3, h4⟩ := h.2 k v c h1 h2
    exact ⟨h3.keep fun b hb => (hk b k (h3.lt b hb) (h4 b hb)).1, fun b hb => (hk b k (h3.lt b hb) (h4 b hb)).2⟩⟩
theorem WaysIn.put {w w' : World} {col col' : Nat → Cl} {l : List ((Nat × Nat) × Value)} {ws : Wy} (h : WaysIn w col l ws) (k : Nat × Nat) {v : Value} {c : List Vl} (hk : ∀ b k', k' ≠ k → b < w.heap.size → col b = .way k' → w'.heap[b]? = w.heap[b]? ∧ col' b = .way k')
    (hv : Seg w' 56 4 v c.length (cat vlC c)) (hvc : ∀ b, v.ownBlock = some b → col' b = .way k) : WaysIn w' col' (mput l k v) (mput ws k c) := by
  refine ⟨by rw [keys_put, keys_put, h.1, mget_keys h.1], fun k' v' c' h1 h2 => ?_⟩
  rw [mget_put] at h1 h2
  by_cases e : k' = k
  · rw [if_pos e] at h1 h2
    injection h1 with h1
    injection h2 with h2
    subst h1 h2 e
    exact ⟨hv, hvc⟩
  · rw [if_neg e] at h1 h2
    obtain ⟨h3, h4⟩ := h.2 k' v' c' h1 h2
    exact ⟨h3.keep fun b hb => (hk b k' e (h3.lt b hb) (h4 b hb)).1, fun b hb => (hk b k' e (h3.lt b hb) (h4 b hb)).2⟩
theorem ActsIn.keep {w w' : World} {B : Nat} {col col' : Nat → Cl} {ps : List Value} {acs : List Ac} (h : ActsIn w B col ps acs) (hB : Same (fun b => b < B) w w') (hk : ∀ b i, b < w.heap.size → col b = .act i → w'.heap[b]? = w.heap[b]? ∧ col' b = .act i) : ActsIn w' B col' ps acs :=
  ⟨h.1, fun i x hx => by
    obtain ⟨S, h1, h2⟩ := h.2 i x hx
    exact ⟨S, h1, h2.keep hB fun b hl hb => hk b i hl hb⟩⟩
section
variable {w w' : World} {B T : Nat} {col col' : Nat → Cl} {s : Wd} {A : Option Addr} {c : Nat} {av : Value} {ps : List Value} {M : Nat} {l : List ((Nat × Nat) × Value)} {sv : Value}
theorem WdW.m_lt (h : WdW w B T col s A c av ps M l sv) : M < w.heap.size := h.mp.lt
theorem MapOf.no_blk {α : Type} {enc : α → Value} {ok : α → Prop} {l : List (α × Value)} {M g : Nat} {t : TypeId} {cs : List Value} (h : MapOf enc ok w M l) (hb : Blk w g t cs) : g ≠ M := by
  rintro rfl
  obtain ⟨es, clock, h1, _⟩ := h
  unfold Blk at hb
  rw [h1] at hb
  cases hb
theorem WdW.own (h : WdW w B T col s A c av ps M l sv) {k : Cl} (hc : k ≠ .out) : ∀ b, col b = k → B ≤ b := fun b hb => by
  rcases Nat.lt_or_ge b B with hl | hl
  · exact absurd ((h.low b hl).symm.trans hb).symm hc
  · exact hl
/-- nothing of it has changed -/
theorem WdW.keep (h : WdW w B T col s A c av ps M l sv) (hl : w.heap.size ≤ w'.heap.size) (hB : Same (fun b => b < B) w w') (hk : ∀ b, b < w.heap.size → col b ≠ .out → w'.heap[b]? = w.heap[b]? ∧ col' b = col b) (low : ∀ b, b < B → col' b = .out) : WdW w' B T col' s A c av ps M l sv := by
  have k : ∀ b c, c ≠ .out → b < w.heap.size → col b = c → w'.heap[b]? = w.heap[b]? ∧ col' b = c := fun b c hc hb e => by
    have := hk b hb (by rw [e]; exact hc)
    exact ⟨this.1, this.2.trans e⟩
  have kT := k T _ (by simp) h.blk.lt h.cT
  have kM := k M _ (by simp) h.m_lt h.cM
  have ka := fun b hb => k b _ (by simp) (h.rw_.lt b hb) (h.ca b hb)
  have ks := fun b hb => k b _ (by simp) (h.sd.lt b hb) (h.cs b hb)
  exact ⟨kT.1.trans h.blk, h.tv.keep hB, h.rw_.keep fun b hb => (ka b hb).1, h.acts.keep hB fun b i hb e => k b _ (by simp) hb e, h.mp.same kM.1, h.ws.keep fun b i hb e => k b _ (by simp) hb e, h.sd.keep fun b hb => (ks b hb).1, kT.2, kM.2, fun b hb => (ka b hb).2, fun b hb => (ks b hb).2, low, Nat.le_trans h.lB hl⟩
theorem low_recol (h : WdW w B T col s A c av ps M l sv) (k : Cl) : ∀ b, b < B → recol col w.heap.size k b = .out := fun b hb => by
  rw [recol_old (by have := h.lB; omega)]
  exact h.low b hb
theorem WdW.below (h : WdW w B T col s A c av ps M l sv) (hb : Below w.heap.size w w') (k : Cl) : WdW w' B T (recol col w.heap.size k) s A c av ps M l sv :=
  h.keep hb.size (Same.any hb) (fun b hl _ => ⟨hb.block b hl, recol_old hl⟩) (low_recol h k)
theorem WdW.same_low (h : WdW w B T col s A c av ps M l sv) {k : Cl} (hk : k ≠ .out) (hg : GrownIn (fun b => col b = k) w w') : Same (fun b => b < B) w w' := Same.of_in hg fun b hb _ e => by have := h.own hk b e; omega
end
end Go.Proofs.YtlpkgheggbcidaaDoor
