/- Plain laws of package mark's simulation: what Run computes step by step, and what is kept on the way. No program in sight but for the words of a side. -/
import Derived.Test.YtpnhmplinkakbaaSide2
import Derived.Test.YtpnhmplinkakbaaMap
set_option linter.unusedVariables false
namespace Go.Mem
section
variable {α : Type} [DecidableEq α] {β : Type}
theorem keys_put (l : List (α × β)) (a : α) (v : β) : (mput l a v).map (·.1) = if (mget l a).isSome then l.map (·.1) else l.map (·.1) ++ [a] := by
  unfold mput
  split
  · rw [List.map_map]
    apply List.map_congr_left
    intro p _
    by_cases h : p.1 = a <;> simp [h]
  · simp
theorem nodup_put {l : List (α × β)} (a : α) (v : β) (h : (l.map (·.1)).Nodup) : ((mput l a v).map (·.1)).Nodup := by
  rw [keys_put]
  split
  · exact h
  · rename_i hn
    have h0 : mget l a = none := by simpa using hn
    rw [mget_none] at h0
    refine List.nodup_append.2 ⟨h, by simp, fun x hx y hy => ?_⟩
    obtain ⟨p, hp, rfl⟩ := List.mem_map.1 hx
    simp only [List.mem_singleton] at hy
    subst hy
    exact h0 p hp
end
end Go.Mem
namespace Go.Proofs.Ytpnhmplinkakbaa
open Go.RowKit Go.Mem

structure Dd where
  kind : Int
  from_ : Int
  to_ : Int
  n : Int
abbrev Ways := List ((Nat × Nat) × List Int)
structure Tn where
  coins : List Int
  sides : List Sd
  ways : Ways
def sd0 : Sd := ⟨[], false, 0, [], []⟩
def chan (ws : Ways) (a b : Nat) : List Int := (mget ws (a, b)).getD []
def push (ws : Ways) (a b : Nat) (n : Int) : Ways := mput ws (a, b) (chan ws a b ++ [n])
def spreadK (a k : Nat) (ws : Ways) : Ways := (List.range k).foldl (fun ws b => if b = a then ws else push ws a b (-1)) ws
def pos (b a : Nat) : Nat := if a < b then a else a - 1
def sd (s : Tn) (i : Nat) : Sd := s.sides.getD i sd0
def co (s : Tn) (i : Nat) : Int := s.coins.getD i 0
def beginT (s : Tn) (a : Nat) : Tn :=
  if (sd s a).started then s else ⟨s.coins, s.sides.set a (beginF (sd s a) (co s a)).1, spreadK a s.coins.length s.ways⟩
def payT (s : Tn) (a b : Nat) (n : Int) : Tn :=
  if 1 ≤ n ∧ n ≤ co s a ∧ (chan s.ways a b).length < 200 then ⟨s.coins.set a (co s a - n), s.sides, push s.ways a b n⟩ else s
def coinT (s : Tn) (a b : Nat) (n : Int) (r : List Int) : Tn := ⟨s.coins.set b (co s b + n), s.sides.set b (msgF (sd s b) (pos b a) n).1, mput s.ways (a, b) r⟩
def markT (s : Tn) (a b : Nat) (r : List Int) : Tn :=
  ⟨s.coins, s.sides.set b (markF (sd s b) (pos b a) (co s b)).1, if (markF (sd s b) (pos b a) (co s b)).2.1 then spreadK b s.coins.length (mput s.ways (a, b) r) else mput s.ways (a, b) r⟩
def comeT (s : Tn) (a b : Nat) : Tn :=
  match chan s.ways a b with
  | [] => s
  | n :: r => if n = -1 then markT s a b r else coinT s a b n r
def doF (s : Tn) (d : Dd) : Tn :=
  if 0 ≤ d.from_ ∧ d.from_ < s.coins.length then
    if d.kind = 3 then beginT s d.from_.toNat
    else if (0 ≤ d.to_ ∧ d.to_ < s.coins.length) ∧ d.to_ ≠ d.from_ then
      if d.kind = 1 then payT s d.from_.toNat d.to_.toNat d.n
      else if d.kind = 2 then comeT s d.from_.toNat d.to_.toNat else s
    else s
  else s
def peersOf (n i : Nat) : List Int := ((List.range n).filter fun k => !decide (k = i)).map fun (k : Nat) => (k : Int)
def newF (coins : List Int) : Tn :=
  ⟨coins, (List.range coins.length).map fun i => ⟨peersOf coins.length i, false, 0, List.replicate (coins.length - 1) false, List.replicate (coins.length - 1) []⟩, []⟩
def mkd (s : Tn) (a b : Nat) : Bool := (sd s b).marked.getD (pos b a) false

/-! ### sums -/
theorem sum_set : ∀ (l : List Int) (i : Nat) (v : Int), i < l.length → (l.set i v).sum = l.sum - l.getD i 0 + v
  | [], i, v, h => by simp at h
  | x :: r, 0, v, h => by simp; omega
  | x :: r, i + 1, v, h => by
    have := sum_set r i v (by simpa using h)
    simp only [List.set_cons_succ, List.sum_cons, List.getD_cons_succ]
    omega
def sval (c : Int) (x : Sd) : Int := (if x.started then x.state else c) + (x.ways.map List.sum).sum
def total (cs : List Int) (xs : List Sd) : Int := (List.zipWith sval cs xs).sum
theorem total_set : ∀ (cs : List Int) (xs : List Sd) (i : Nat) (c : Int) (x : Sd), i < cs.length → i < xs.length → total (cs.set i c) (xs.set i x) = total cs xs - sval (cs.getD i 0) (xs.getD i sd0) + sval c x
  | [], xs, i, c, x, h, _ => by simp at h
  | a :: cs, [], i, c, x, _, h => by simp at h
  | a :: cs, y :: xs, 0, c, x, _, _ => by simp [total]; omega
  | a :: cs, y :: xs, i + 1, c, x, h, h' => by
    have := total_set cs xs i c x (by simpa using h) (by simpa using h')
    simp only [total, List.set_cons_succ, List.zipWith_cons_cons, List.sum_cons, List.getD_cons_succ] at this ⊢
    omega
theorem set_getD {α : Type} : ∀ (l : List α) (i : Nat) (d : α), l.set i (l.getD i d) = l
  | [], i, d => by simp
  | x :: r, 0, d => by simp
  | x :: r, i + 1, d => by
    have := set_getD r i d
    simp only [List.set_cons_succ, List.getD_cons_succ, this]
theorem getD_set {α : Type} (l : List α) (i j : Nat) (v d : α) (h : i < l.length) : (l.set i v).getD j d = if j = i then v else l.getD j d := by
  by_cases e : j = i
  · subst e
    simp [List.getD_eq_getElem?_getD, h]
  · have e2 : ¬ i = j := fun h => e h.symm
    simp [List.getD_eq_getElem?_getD, e, e2]
def wsum (f : Nat × Nat → List Int → Int) (ws : Ways) : Int := (ws.map fun p => f p.1 p.2).sum
theorem wsum_congr {f g : Nat × Nat → List Int → Int} {ws : Ways} (h : ∀ p ∈ ws, f p.1 p.2 = g p.1 p.2) : wsum f ws = wsum g ws := by
  unfold wsum
  rw [List.map_congr_left fun p hp => h p hp]
theorem wsum_put (f : Nat × Nat → List Int → Int) (ws : Ways) (k : Nat × Nat) (v : List Int) (hn : (ws.map (·.1)).Nodup) (h0 : f k [] = 0) : wsum f (mput ws k v) = wsum f ws - f k ((mget ws k).getD []) + f k v := by
  unfold mput
  by_cases hs : (mget ws k).isSome
  · rw [if_pos hs]
    clear h0
    induction ws with
    | nil => simp [mget_nil] at hs
    | cons p r ih =>
      rw [List.map_cons, List.nodup_cons] at hn
      unfold wsum at ih ⊢
      rw [mget_cons] at hs ⊢
      simp only [List.map_cons, List.sum_cons]
      by_cases hp : p.1 = k
      · have hno : ∀ q ∈ r, q.1 ≠ k := fun q hq e => hn.1 (List.mem_map.2 ⟨q, hq, by rw [e, hp]⟩)
        have e1 : r.map (fun p => if p.1 = k then (k, v) else p) = r := by
          conv => rhs; rw [← List.map_id r]
          apply List.map_congr_left
          intro q hq
          simp [hno q hq]
        rw [e1, if_pos hp, if_pos hp]
        subst hp
        simp only [Option.getD_some]
        omega
      · rw [if_neg hp] at hs ⊢
        rw [if_neg hp]
        have := ih hn.2 hs
        omega
  · rw [if_neg hs]
    have h1 : mget ws k = none := by simpa using hs
    rw [h1]
    simp [wsum, h0]
theorem chan_put (ws : Ways) (a b c d : Nat) (v : List Int) : chan (mput ws (a, b) v) c d = if c = a ∧ d = b then v else chan ws c d := by
  unfold chan
  rw [mget_put]
  by_cases h : c = a ∧ d = b
  · simp [h]
  · have : ¬ (c, d) = (a, b) := fun e => h (by injection e with e1 e2; exact ⟨e1, e2⟩)
    rw [if_neg this, if_neg h]
theorem spread_succ (a k : Nat) (ws : Ways) : spreadK a (k + 1) ws = if k = a then spreadK a k ws else push (spreadK a k ws) a k (-1) := by
  unfold spreadK
  rw [List.range_succ, List.foldl_append]
  rfl
theorem chan_spread (a : Nat) (ws : Ways) (c d : Nat) : ∀ k, chan (spreadK a k ws) c d = if c = a ∧ d < k ∧ d ≠ a then chan ws c d ++ [-1] else chan ws c d
  | 0 => by rw [if_neg (by omega)]; rfl
  | k + 1 => by
    rw [spread_succ]
    by_cases hk : k = a
    · rw [if_pos hk, chan_spread a ws c d k]
      by_cases h : c = a ∧ d < k ∧ d ≠ a
      · rw [if_pos h, if_pos (by omega)]
      · rw [if_neg h, if_neg (by omega)]
    · rw [if_neg hk]
      unfold push
      rw [chan_put, chan_spread a ws c d k, chan_spread a ws a k k]
      by_cases h : c = a ∧ d = k
      · obtain ⟨rfl, rfl⟩ := h
        rw [if_pos ⟨rfl, rfl⟩, if_neg (by omega), if_pos (by omega)]
      · rw [if_neg h]
        by_cases h2 : c = a ∧ d < k ∧ d ≠ a
        · rw [if_pos h2, if_pos (by omega)]
        · rw [if_neg h2, if_neg (by omega)]
theorem nodup_spread (a : Nat) {ws : Ways} (h : (ws.map (·.1)).Nodup) : ∀ k, ((spreadK a k ws).map (·.1)).Nodup
  | 0 => h
  | k + 1 => by
    rw [spread_succ]
    split
    · exact nodup_spread a h k
    · exact nodup_put _ _ (nodup_spread a h k)
theorem keys_spread (a n : Nat) (ha : a < n) {ws : Ways} (h : ∀ p ∈ ws, p.1.1 < n ∧ p.1.2 < n ∧ p.1.1 ≠ p.1.2) : ∀ k, k ≤ n → ∀ p ∈ spreadK a k ws, p.1.1 < n ∧ p.1.2 < n ∧ p.1.1 ≠ p.1.2
  | 0, _, p, hp => h p hp
  | k + 1, hk, p, hp => by
    rw [spread_succ] at hp
    split at hp
    · exact keys_spread a n ha h k (by omega) p hp
    · rename_i hka
      rcases mem_put hp with rfl | hp
      · exact ⟨ha, (by omega : k < n), fun e => hka e.symm⟩
      · exact keys_spread a n ha h k (by omega) p hp
theorem wsum_spread (f : Nat × Nat → List Int → Int) (a : Nat) {ws : Ways} (hn : (ws.map (·.1)).Nodup) : ∀ k, (∀ b, b < k → b ≠ a → f (a, b) [] = 0 ∧ f (a, b) (chan ws a b ++ [-1]) = f (a, b) (chan ws a b)) → wsum f (spreadK a k ws) = wsum f ws
  | 0, _ => rfl
  | k + 1, h => by
    rw [spread_succ]
    split
    · exact wsum_spread f a hn k fun b hb => h b (by omega)
    · rename_i hk
      obtain ⟨h0, h1⟩ := h k (by omega) hk
      unfold push
      rw [wsum_put f _ _ _ (nodup_spread a hn k) h0, wsum_spread f a hn k fun b hb => h b (by omega)]
      have e : (mget (spreadK a k ws) (a, k)).getD [] = chan ws a k := by
        have := chan_spread a ws a k k
        rw [if_neg (by omega)] at this
        exact this
      rw [e, chan_spread a ws a k k, if_neg (by omega), h1]
      omega

/-! ### what is kept -/
def posum (c : List Int) : Int := (c.map fun n => max n 0).sum
def pre (m : Bool) (c : List Int) : Int := if m then 0 else (c.takeWhile fun n => !decide (n = -1)).sum
theorem pre_nil (m : Bool) : pre m [] = 0 := by cases m <;> rfl
theorem takeWhile_app (c : List Int) (x : Int) (h : -1 ∉ c) : (c ++ [x]).takeWhile (fun n => !decide (n = -1)) = if x = -1 then c else c ++ [x] := by
  induction c with
  | nil => by_cases hx : x = -1 <;> simp [hx]
  | cons y r ih =>
    have hy : y ≠ -1 := fun e => h (by simp [e])
    have := ih (fun e => h (List.mem_cons_of_mem _ e))
    rw [List.cons_append, List.takeWhile_cons, if_pos (by simp [hy]), this]
    split <;> simp
theorem takeWhile_in (c d : List Int) (h : -1 ∈ c) : (c ++ d).takeWhile (fun n => !decide (n = -1)) = c.takeWhile (fun n => !decide (n = -1)) := by
  induction c with
  | nil => simp at h
  | cons y r ih =>
    by_cases hy : y = -1
    · simp [hy]
    · rw [List.cons_append, List.takeWhile_cons, List.takeWhile_cons, if_pos (by simp [hy]), if_pos (by simp [hy]), ih (by rcases List.mem_cons.1 h with e | e; exact absurd e.symm hy; exact e)]
theorem takeWhile_all (c : List Int) (h : -1 ∉ c) : c.takeWhile (fun n => !decide (n = -1)) = c := by
  have := takeWhile_app c (-1) h
  rw [if_pos rfl] at this
  induction c with
  | nil => rfl
  | cons y r ih =>
    have hy : y ≠ -1 := fun e => h (by simp [e])
    have hr : -1 ∉ r := fun e => h (List.mem_cons_of_mem _ e)
    rw [List.takeWhile_cons, if_pos (by simp [hy]), ih hr (by have := takeWhile_app r (-1) hr; rwa [if_pos rfl] at this)]
theorem sum_app1 (c : List Int) (x : Int) : (c ++ [x]).sum = c.sum + x := by simp
theorem posum_app (c : List Int) (x : Int) : posum (c ++ [x]) = posum c + max x 0 := by simp [posum]
theorem posum_cons (c : List Int) (x : Int) : posum (x :: c) = max x 0 + posum c := by simp [posum]

structure Shape (n : Nat) (x : Sd) (i : Nat) : Prop where
  pe : x.peers = peersOf n i
  lm : x.marked.length = n - 1
  lw : x.ways.length = n - 1
structure Inv (n : Nat) (sum : Int) (k : Nat) (s : Tn) : Prop where
  lc : s.coins.length = n
  ls : s.sides.length = n
  shp : ∀ i, i < n → Shape n (sd s i) i
  nd : (s.ways.map (·.1)).Nodup
  ky : ∀ p ∈ s.ways, p.1.1 < n ∧ p.1.2 < n ∧ p.1.1 ≠ p.1.2
  el : ∀ a b, ∀ x ∈ chan s.ways a b, x = -1 ∨ 1 ≤ x
  c0 : ∀ i, 0 ≤ co s i
  cnt : ∀ a b, a < n → b < n → a ≠ b → (chan s.ways a b).count (-1) = if (sd s a).started = true ∧ mkd s a b = false then 1 else 0
  ms : ∀ a b, a < n → b < n → a ≠ b → mkd s a b = true → (sd s a).started = true
  nr : ∀ i, (sd s i).started = false → ∀ l ∈ (sd s i).ways, l = []
  rl : ∀ a b, a < n → b < n → a ≠ b → ((sd s b).ways.getD (pos b a) []).length + (chan s.ways a b).countP (fun x => !decide (x = -1)) ≤ k
  sm : s.coins.sum + wsum (fun _ c => posum c) s.ways = sum
  sh : total s.coins s.sides + wsum (fun p c => pre (mkd s p.1 p.2) c) s.ways = sum
theorem pos_lt {n a b : Nat} (ha : a < n) (hb : b < n) (h : a ≠ b) : pos b a < n - 1 := by unfold pos; split <;> omega
theorem pos_inj {a b c : Nat} (h : a ≠ b) (h' : c ≠ b) (e : pos b a = pos b c) : a = c := by unfold pos at e; split at e <;> split at e <;> omega
theorem not_in_of_count {c : List Int} (h : c.count (-1) = 0) : -1 ∉ c := List.count_eq_zero.1 h
theorem in_of_count {c : List Int} {k : Nat} (h : c.count (-1) = k + 1) : -1 ∈ c := List.count_pos_iff.1 (by omega)
def MB (n : Nat) (s : Tn) : Prop := ∀ a b, a < n → b < n → a ≠ b → mkd s a b = true → (sd s b).started = true
theorem Inv.up {n : Nat} {sum : Int} {k : Nat} {s : Tn} (h : Inv n sum k s) : Inv n sum (k + 1) s :=
  { h with rl := fun a b ha hb hab => Nat.le_succ_of_le (h.rl a b ha hb hab) }
theorem sd_set {cs : List Int} {xs : List Sd} {ws : Ways} {a : Nat} {x : Sd} {s : Tn} (hx : xs = s.sides) (h : a < s.sides.length) (i : Nat) : sd ⟨cs, xs.set a x, ws⟩ i = if i = a then x else sd s i := by
  subst hx
  exact getD_set _ _ _ _ _ h
theorem co_set {cs : List Int} {xs : List Sd} {ws : Ways} {a : Nat} {v : Int} {s : Tn} (hc : cs = s.coins) (h : a < s.coins.length) (i : Nat) : co ⟨cs.set a v, xs, ws⟩ i = if i = a then v else co s i := by
  subst hc
  exact getD_set _ _ _ _ _ h
theorem inv_begin {n : Nat} {sum : Int} {k : Nat} {s : Tn} (h : Inv n sum k s) {a : Nat} (ha : a < n) : Inv n sum k (beginT s a) := by
  unfold beginT
  by_cases hst : (sd s a).started = true
  · rw [if_pos hst]
    exact h
  · rw [if_neg hst]
    have hst' : (sd s a).started = false := by simpa using hst
    have hal : a < s.sides.length := by rw [h.ls]; exact ha
    have hac : a < s.coins.length := by rw [h.lc]; exact ha
    have hbg : (beginF (sd s a) (co s a)).1 = { sd s a with started := true, state := co s a } := by simp [beginF, hst']
    rw [hbg, h.lc]
    have hsd := fun i => sd_set (cs := s.coins) (ws := spreadK a n s.ways) (x := { sd s a with started := true, state := co s a }) (s := s) rfl hal i
    have hmk : ∀ c d, mkd ⟨s.coins, s.sides.set a { sd s a with started := true, state := co s a }, spreadK a n s.ways⟩ c d = mkd s c d := by
      intro c d
      unfold mkd
      rw [hsd]
      split
      · rename_i e; subst e; rfl
      · rfl
    have hch : ∀ c d, chan (spreadK a n s.ways) c d = if c = a ∧ d < n ∧ d ≠ a then chan s.ways c d ++ [-1] else chan s.ways c d := fun c d => chan_spread a s.ways c d n
    have hno : ∀ b, b < n → b ≠ a → mkd s a b = false ∧ (chan s.ways a b).count (-1) = 0 := by
      intro b hb hne
      have h1 : mkd s a b = false := by
        cases hm : mkd s a b with
        | false => rfl
        | true => exact absurd (h.ms a b ha hb (fun e => hne e.symm) hm) hst
      exact ⟨h1, by rw [h.cnt a b ha hb (fun e => hne e.symm), if_neg (fun e => hst e.1)]⟩
    refine { lc := h.lc, ls := by simp [h.ls], shp := ?_, nd := nodup_spread a h.nd n, ky := keys_spread a n ha h.ky n (Nat.le_refl _), el := ?_, c0 := h.c0, cnt := ?_, ms := ?_, nr := ?_, rl := ?_, sm := ?_, sh := ?_ }
    · intro i hi
      rw [hsd]
      split
      · rename_i e; subst e; exact ⟨(h.shp i hi).pe, (h.shp i hi).lm, (h.shp i hi).lw⟩
      · exact h.shp i hi
    · intro c d x hx
      rw [hch] at hx
      split at hx
      · rcases List.mem_append.1 hx with hx | hx
        · exact h.el c d x hx
        · simp at hx; exact .inl hx
      · exact h.el c d x hx
    · intro c d hc hd hcd
      show (chan (spreadK a n s.ways) c d).count (-1) = _
      rw [hch, hmk, hsd]
      by_cases e : c = a
      · subst e
        obtain ⟨h1, h2⟩ := hno d hd (fun e => hcd e.symm)
        rw [if_pos ⟨rfl, hd, fun e => hcd e.symm⟩, if_pos rfl, List.count_append, h2, h1]
        simp
      · rw [if_neg (fun x => e x.1), if_neg e]
        exact h.cnt c d hc hd hcd
    · intro c d hc hd hcd hm
      rw [hmk] at hm
      rw [hsd]
      split
      · rfl
      · exact h.ms c d hc hd hcd hm
    · intro i hi
      rw [hsd] at hi ⊢
      split at hi
      · simp at hi
      · rename_i e
        rw [if_neg e]
        exact h.nr i hi
    · intro c d hc hd hcd
      show ((sd _ d).ways.getD (pos d c) []).length + (chan (spreadK a n s.ways) c d).countP _ ≤ k
      have := h.rl c d hc hd hcd
      have e1 : (sd (⟨s.coins, s.sides.set a { sd s a with started := true, state := co s a }, spreadK a n s.ways⟩ : Tn) d).ways = (sd s d).ways := by
        rw [hsd]
        split
        · rename_i e; subst e; rfl
        · rfl
      rw [e1, hch]
      split
      · rw [List.countP_append]
        simpa using this
      · exact this
    · have := h.sm
      rw [← wsum_spread (fun _ c => posum c) a h.nd n (fun b hb hne => ⟨rfl, by show posum (_ ++ [-1]) = posum _; rw [posum_app]; exact Int.add_zero _⟩)] at this
      exact this
    · have := h.sh
      have e1 : total s.coins (s.sides.set a { sd s a with started := true, state := co s a }) = total s.coins s.sides := by
        have := total_set s.coins s.sides a (co s a) { sd s a with started := true, state := co s a } hac hal
        have e : s.coins.set a (co s a) = s.coins := set_getD s.coins a 0
        rw [e] at this
        have h2 : sval (s.coins.getD a 0) (s.sides.getD a sd0) = sval (co s a) { sd s a with started := true, state := co s a } := by
          show sval (co s a) (sd s a) = _
          simp [sval, hst']
        omega
      show total s.coins (s.sides.set a _) + wsum _ (spreadK a n s.ways) = sum
      rw [e1, ← this]
      congr 1
      have e2 : wsum (fun p c => pre (mkd (⟨s.coins, s.sides.set a { sd s a with started := true, state := co s a }, spreadK a n s.ways⟩ : Tn) p.1 p.2) c) (spreadK a n s.ways) = wsum (fun p c => pre (mkd s p.1 p.2) c) (spreadK a n s.ways) := wsum_congr fun p _ => by simp only [hmk]
      rw [e2]
      refine wsum_spread _ a h.nd n fun b hb hne => ⟨pre_nil _, ?_⟩
      obtain ⟨h1, h2⟩ := hno b hb hne
      have h3 := not_in_of_count h2
      simp only [h1]
      unfold pre
      simp only [Bool.false_eq_true, if_false]
      rw [takeWhile_app _ _ h3, if_pos rfl, takeWhile_all _ h3]
theorem mb_begin {n : Nat} {sum : Int} {k : Nat} {s : Tn} (h : Inv n sum k s) (hm : MB n s) {a : Nat} (ha : a < n) : MB n (beginT s a) := by
  unfold beginT
  by_cases hst : (sd s a).started = true
  · rw [if_pos hst]
    exact hm
  · rw [if_neg hst]
    have hst' : (sd s a).started = false := by simpa using hst
    have hal : a < s.sides.length := by rw [h.ls]; exact ha
    have hbg : (beginF (sd s a) (co s a)).1 = { sd s a with started := true, state := co s a } := by simp [beginF, hst']
    rw [hbg]
    have hsd := fun i => sd_set (cs := s.coins) (ws := spreadK a s.coins.length s.ways) (x := { sd s a with started := true, state := co s a }) (s := s) rfl hal i
    intro c d hc hd hcd hmk
    unfold mkd at hmk
    rw [hsd] at hmk ⊢
    split
    · rfl
    · rename_i e
      rw [if_neg e] at hmk
      exact hm c d hc hd hcd hmk
theorem inv_pay {n : Nat} {sum : Int} {k : Nat} {s : Tn} (h : Inv n sum k s) {a b : Nat} (ha : a < n) (hb : b < n) (hab : a ≠ b) (m : Int) : Inv n sum (k + 1) (payT s a b m) := by
  unfold payT
  split
  · rename_i hc
    obtain ⟨h1, h2, h3⟩ := hc
    have hal : a < s.sides.length := by rw [h.ls]; exact ha
    have hac : a < s.coins.length := by rw [h.lc]; exact ha
    have hne : m ≠ -1 := by omega
    have hch : ∀ c d, chan (push s.ways a b m) c d = if c = a ∧ d = b then chan s.ways a b ++ [m] else chan s.ways c d := fun c d => chan_put _ _ _ _ _ _
    refine { lc := by simp [h.lc], ls := h.ls, shp := h.shp, nd := nodup_put _ _ h.nd, ky := ?_, el := ?_, c0 := ?_, cnt := ?_, ms := h.ms, nr := h.nr, rl := ?_, sm := ?_, sh := ?_ }
    · intro p hp
      rcases mem_put hp with rfl | hp
      · exact ⟨ha, hb, hab⟩
      · exact h.ky p hp
    · intro c d x hx
      rw [hch] at hx
      split at hx
      · rcases List.mem_append.1 hx with hx | hx
        · exact h.el a b x hx
        · simp at hx; exact .inr (by omega)
      · exact h.el c d x hx
    · intro i
      rw [co_set rfl hac]
      split
      · omega
      · exact h.c0 i
    · intro c d hc hd hcd
      show (chan (push s.ways a b m) c d).count (-1) = if (sd s c).started = true ∧ mkd s c d = false then 1 else 0
      rw [hch]
      split
      · rename_i e
        obtain ⟨rfl, rfl⟩ := e
        rw [List.count_append, h.cnt c d hc hd hcd]
        simp [hne]
      · exact h.cnt c d hc hd hcd
    · intro c d hc hd hcd
      show ((sd s d).ways.getD (pos d c) []).length + (chan (push s.ways a b m) c d).countP _ ≤ k + 1
      have := h.rl c d hc hd hcd
      rw [hch]
      split
      · rename_i e
        obtain ⟨rfl, rfl⟩ := e
        rw [List.countP_append]
        have e2 : [m].countP (fun x => !decide (x = -1)) ≤ 1 := List.countP_le_length
        omega
      · omega
    · have := h.sm
      show (s.coins.set a (co s a - m)).sum + wsum _ (push s.ways a b m) = sum
      unfold push
      rw [sum_set _ _ _ hac, wsum_put _ _ _ _ h.nd rfl]
      show s.coins.sum - co s a + (co s a - m) + (wsum _ s.ways - posum (chan s.ways a b) + posum (chan s.ways a b ++ [m])) = sum
      rw [posum_app]
      omega
    · have := h.sh
      show total (s.coins.set a (co s a - m)) s.sides + wsum (fun p c => pre (mkd s p.1 p.2) c) (push s.ways a b m) = sum
      have e1 := total_set s.coins s.sides a (co s a - m) (sd s a) hac hal
      have e : s.sides.set a (sd s a) = s.sides := set_getD s.sides a sd0
      rw [e] at e1
      unfold push
      rw [e1, wsum_put _ _ _ _ h.nd (pre_nil _)]
      show total s.coins s.sides - sval (co s a) (sd s a) + sval (co s a - m) (sd s a) + (wsum _ s.ways - pre (mkd s a b) (chan s.ways a b) + pre (mkd s a b) (chan s.ways a b ++ [m])) = sum
      have hmk := h.cnt a b ha hb hab
      cases hst : (sd s a).started with
      | true =>
        have e2 : sval (co s a - m) (sd s a) = sval (co s a) (sd s a) := by simp [sval, hst]
        have e3 : pre (mkd s a b) (chan s.ways a b ++ [m]) = pre (mkd s a b) (chan s.ways a b) := by
          cases hm : mkd s a b with
          | true => rfl
          | false =>
            rw [hst, hm, if_pos ⟨rfl, rfl⟩] at hmk
            unfold pre
            rw [takeWhile_in _ _ (in_of_count (k := 0) hmk)]
        omega
      | false =>
        have hm : mkd s a b = false := by
          cases hm : mkd s a b with
          | false => rfl
          | true => rw [h.ms a b ha hb hab hm] at hst; cases hst
        rw [hst, if_neg (by simp)] at hmk
        have hni := not_in_of_count hmk
        have e2 : sval (co s a - m) (sd s a) = sval (co s a) (sd s a) - m := by simp [sval, hst]; omega
        have e3 : pre (mkd s a b) (chan s.ways a b ++ [m]) = pre (mkd s a b) (chan s.ways a b) + m := by
          rw [hm]
          unfold pre
          simp only [Bool.false_eq_true, if_false]
          rw [takeWhile_app _ _ hni, if_neg hne, sum_app1, takeWhile_all _ hni]
        omega
  · exact h.up
theorem mkd_at {n : Nat} {sum : Int} {k : Nat} {s : Tn} (h : Inv n sum k s) {a b : Nat} (ha : a < n) (hb : b < n) (hab : a ≠ b) : (sd s b).marked[pos b a]? = some (mkd s a b) := by
  have := pos_lt ha hb hab
  have hl := (h.shp b hb).lm
  unfold mkd
  rw [List.getD_eq_getElem?_getD, List.getElem?_eq_getElem (by omega)]
  rfl
theorem sval_msg (c c' : Int) (x : Sd) (i : Nat) (m : Int) (hi : i < x.ways.length) (h200 : (x.ways.getD i []).length < 200) (hm : (x.marked[i]? = some true) → x.started = true) (hc : c' = c + m) (mm : Bool) (hmm : x.marked[i]? = some mm) :
    sval c' (msgF x i m).1 = sval c x + (if mm then 0 else m) := by
  unfold msgF
  by_cases h1 : x.started = false ∨ x.marked[i]? = some true
  · rw [if_pos h1]
    rcases h1 with h1 | h1
    · have : mm = false := by
        cases mm with
        | false => rfl
        | true => rw [hm hmm] at h1; cases h1
      subst this
      simp [sval, h1, hc]
      omega
    · rw [h1] at hmm
      injection hmm with hmm
      subst hmm
      simp [sval, hm h1]
  · rw [if_neg h1, if_neg]
    · have hst : x.started = true := by
        cases hs : x.started with
        | true => rfl
        | false => exact absurd (.inl hs) h1
      have : mm = false := by
        cases mm with
        | false => rfl
        | true => exact absurd (.inr hmm) h1
      subst this
      have hs : ((x.ways.set i ((x.ways[i]?).getD [] ++ [m])).map List.sum).sum = (x.ways.map List.sum).sum + m := by
        rw [List.map_set, sum_set _ _ _ (by simpa using hi), List.getD_eq_getElem?_getD, List.getElem?_map, List.getElem?_eq_getElem hi]
        simp
        omega
      simp only [sval, hst, if_true, hs]
      simp
      omega
    · rw [List.getD_eq_getElem?_getD, List.getElem?_eq_getElem hi] at h200
      rw [List.getElem?_eq_getElem hi]
      simp at h200 ⊢
      omega
theorem msg_fields (x : Sd) (i : Nat) (m : Int) : (msgF x i m).1.peers = x.peers ∧ (msgF x i m).1.marked = x.marked ∧ (msgF x i m).1.started = x.started ∧ (msgF x i m).1.ways.length = x.ways.length ∧ (msgF x i m).1.state = x.state := by
  unfold msgF
  split
  · exact ⟨rfl, rfl, rfl, rfl, rfl⟩
  · split
    · exact ⟨rfl, rfl, rfl, rfl, rfl⟩
    · exact ⟨rfl, rfl, rfl, by simp, rfl⟩
theorem msg_ways_same (x : Sd) (i : Nat) (m : Int) : ((msgF x i m).1.ways.getD i []).length ≤ (x.ways.getD i []).length + 1 := by
  unfold msgF
  split
  · exact Nat.le_succ _
  · split
    · exact Nat.le_succ _
    · show ((x.ways.set i _).getD i []).length ≤ _
      by_cases hi : i < x.ways.length
      · rw [getD_set _ _ _ _ _ hi, if_pos rfl, List.getD_eq_getElem?_getD]
        simp
      · rw [List.set_eq_of_length_le (by omega)]
        omega
theorem msg_ways_other (x : Sd) (i : Nat) (m : Int) {j : Nat} (h : j ≠ i) : (msgF x i m).1.ways.getD j [] = x.ways.getD j [] := by
  unfold msgF
  split
  · rfl
  · split
    · rfl
    · show (x.ways.set i _).getD j [] = _
      by_cases hi : i < x.ways.length
      · rw [getD_set _ _ _ _ _ hi, if_neg h]
      · rw [List.set_eq_of_length_le (by omega)]
theorem inv_coin {n : Nat} {sum : Int} {k : Nat} {s : Tn} (h : Inv n sum k s) (hmb : MB n s) (hk : k < 200) {a b : Nat} (ha : a < n) (hb : b < n) (hab : a ≠ b) {m : Int} {r : List Int} (hm : m ≠ -1) (hc : chan s.ways a b = m :: r) : Inv n sum k (coinT s a b m r) := by
  have hbl : b < s.sides.length := by rw [h.ls]; exact hb
  have hbc : b < s.coins.length := by rw [h.lc]; exact hb
  have hm1 : 1 ≤ m := by
    rcases h.el a b m (by rw [hc]; simp) with e | e
    · exact absurd e hm
    · exact e
  have hpl := pos_lt ha hb hab
  have hat := mkd_at h ha hb hab
  obtain ⟨f1, f2, f3, f4, f5⟩ := msg_fields (sd s b) (pos b a) m
  have hsd := fun i => sd_set (cs := s.coins.set b (co s b + m)) (ws := mput s.ways (a, b) r) (x := (msgF (sd s b) (pos b a) m).1) (s := s) rfl hbl i
  have hst : ∀ i, (sd (coinT s a b m r) i).started = (sd s i).started := fun i => by
    unfold coinT
    rw [hsd]
    split
    · rename_i e; subst e; exact f3
    · rfl
  have hmk : ∀ c d, mkd (coinT s a b m r) c d = mkd s c d := by
    intro c d
    unfold mkd coinT
    rw [hsd]
    split
    · rename_i e; subst e; rw [f2]
    · rfl
  have hch : ∀ c d, chan (mput s.ways (a, b) r) c d = if c = a ∧ d = b then r else chan s.ways c d := fun c d => chan_put _ _ _ _ _ _
  have hst2 : (sd s b).marked[pos b a]? = some true → (sd s b).started = true := fun e => by
    rw [hat] at e
    injection e with e
    exact hmb a b ha hb hab e
  have hsv := sval_msg (co s b) (co s b + m) (sd s b) (pos b a) m (by have := (h.shp b hb).lw; omega) (by have := h.rl a b ha hb hab; omega) hst2 rfl _ hat
  refine { lc := by simp [coinT, h.lc], ls := by simp [coinT, h.ls], shp := ?_, nd := nodup_put _ _ h.nd, ky := ?_, el := ?_, c0 := ?_, cnt := ?_, ms := ?_, nr := ?_, rl := ?_, sm := ?_, sh := ?_ }
  · intro i hi
    unfold coinT
    rw [hsd]
    split
    · rename_i e; subst e; exact ⟨by rw [f1]; exact (h.shp i hi).pe, by rw [f2]; exact (h.shp i hi).lm, by rw [f4]; exact (h.shp i hi).lw⟩
    · exact h.shp i hi
  · intro p hp
    rcases mem_put hp with rfl | hp
    · exact ⟨ha, hb, hab⟩
    · exact h.ky p hp
  · intro c d x hx
    unfold coinT at hx
    simp only at hx
    rw [hch] at hx
    split at hx
    · exact h.el a b x (by rw [hc]; exact List.mem_cons_of_mem _ hx)
    · exact h.el c d x hx
  · intro i
    unfold coinT
    rw [co_set rfl hbc]
    split
    · have := h.c0 b; omega
    · exact h.c0 i
  · intro c d hc' hd hcd
    show (chan (mput s.ways (a, b) r) c d).count (-1) = _
    rw [hch, hmk, hst]
    split
    · rename_i e
      obtain ⟨rfl, rfl⟩ := e
      rw [← h.cnt c d hc' hd hcd, hc, List.count_cons_of_ne (fun e => hm e)]
    · exact h.cnt c d hc' hd hcd
  · intro c d hc' hd hcd hm'
    rw [hmk] at hm'
    rw [hst]
    exact h.ms c d hc' hd hcd hm'
  · intro i hi
    rw [hst] at hi
    unfold coinT
    rw [hsd]
    split
    · rename_i e
      subst e
      have : (msgF (sd s i) (pos i a) m).1 = sd s i := by unfold msgF; rw [if_pos (.inl hi)]
      rw [this]
      exact h.nr i hi
    · exact h.nr i hi
  · intro c d hc' hd hcd
    show ((sd _ d).ways.getD (pos d c) []).length + (chan (mput s.ways (a, b) r) c d).countP _ ≤ k
    have h1 := h.rl c d hc' hd hcd
    unfold coinT
    rw [hch, hsd]
    by_cases e : d = b
    · subst e
      rw [if_pos rfl]
      by_cases e2 : c = a
      · subst e2
        rw [if_pos ⟨rfl, rfl⟩]
        rw [hc, List.countP_cons, if_pos (by simp [hm])] at h1
        have h2 := msg_ways_same (sd s d) (pos d c) m
        omega
      · have h2 := msg_ways_other (sd s d) (pos d a) m (j := pos d c) (fun e3 => e2 (pos_inj hcd hab e3))
        rw [if_neg (fun x => e2 x.1), h2]
        exact h1
    · rw [if_neg e, if_neg (fun x => e x.2)]
      exact h1
  · have := h.sm
    show (s.coins.set b (co s b + m)).sum + wsum _ (mput s.ways (a, b) r) = sum
    rw [sum_set _ _ _ hbc, wsum_put _ _ _ _ h.nd rfl]
    show s.coins.sum - co s b + (co s b + m) + (wsum _ s.ways - posum (chan s.ways a b) + posum r) = sum
    rw [hc, posum_cons]
    omega
  · have := h.sh
    show total (s.coins.set b (co s b + m)) (s.sides.set b (msgF (sd s b) (pos b a) m).1) + wsum (fun p c => pre (mkd (coinT s a b m r) p.1 p.2) c) (mput s.ways (a, b) r) = sum
    rw [total_set _ _ _ _ _ hbc hbl, hsv]
    simp only [hmk]
    rw [wsum_put _ _ _ _ h.nd (pre_nil _)]
    show total s.coins s.sides - sval (co s b) (sd s b) + _ + (wsum _ s.ways - pre (mkd s a b) (chan s.ways a b) + pre (mkd s a b) r) = sum
    rw [hc]
    cases hmm : mkd s a b with
    | true =>
      have p1 : ∀ c, pre true c = 0 := fun _ => rfl
      rw [p1, p1]
      simp only [if_true]
      omega
    | false =>
      have e : pre false (m :: r) = m + pre false r := by simp [pre, hm]
      rw [e]
      simp only [Bool.false_eq_true, if_false]
      omega
theorem mb_coin {n : Nat} {sum : Int} {k : Nat} {s : Tn} (h : Inv n sum k s) (hmb : MB n s) {a b : Nat} (ha : a < n) (hb : b < n) (hab : a ≠ b) {m : Int} {r : List Int} : MB n (coinT s a b m r) := by
  have hbl : b < s.sides.length := by rw [h.ls]; exact hb
  obtain ⟨f1, f2, f3, f4, f5⟩ := msg_fields (sd s b) (pos b a) m
  have hsd := fun i => sd_set (cs := s.coins.set b (co s b + m)) (ws := mput s.ways (a, b) r) (x := (msgF (sd s b) (pos b a) m).1) (s := s) rfl hbl i
  intro c d hc hd hcd hm
  unfold mkd coinT at hm
  unfold coinT
  rw [hsd] at hm ⊢
  split
  · rename_i e
    rw [if_pos e, f2] at hm
    rw [f3]
    subst e
    exact hmb c d hc hd hcd hm
  · rename_i e
    rw [if_neg e] at hm
    exact hmb c d hc hd hcd hm

/-- the first half of a marker's coming: the mark is set -/
def markedT (s : Tn) (a b : Nat) (r : List Int) : Tn := ⟨s.coins, s.sides.set b { sd s b with marked := (sd s b).marked.set (pos b a) true }, mput s.ways (a, b) r⟩
theorem mark_two {s : Tn} {a b : Nat} {r : List Int} (hb : b < s.sides.length) (hm : (sd s b).marked[pos b a]? = some false) : markT s a b r = beginT (markedT s a b r) b := by
  have hsd : sd (markedT s a b r) b = { sd s b with marked := (sd s b).marked.set (pos b a) true } := by
    unfold markedT
    rw [sd_set rfl hb, if_pos rfl]
  have hco : co (markedT s a b r) b = co s b := rfl
  unfold markT beginT
  rw [hsd, hco]
  have hmf : markF (sd s b) (pos b a) (co s b) = ((beginF { sd s b with marked := (sd s b).marked.set (pos b a) true } (co s b)).1, !(sd s b).started, 0) := by simp [markF, hm]
  rw [hmf]
  cases hst : (sd s b).started with
  | true => simp [beginF, hst, markedT]
  | false => simp [beginF, hst, markedT]
theorem inv_marked {n : Nat} {sum : Int} {k : Nat} {s : Tn} (h : Inv n sum k s) {a b : Nat} (ha : a < n) (hb : b < n) (hab : a ≠ b) {r : List Int} (hc : chan s.ways a b = -1 :: r) :
    Inv n sum k (markedT s a b r) ∧ (sd s b).marked[pos b a]? = some false := by
  have hbl : b < s.sides.length := by rw [h.ls]; exact hb
  have hbc : b < s.coins.length := by rw [h.lc]; exact hb
  have hpl := pos_lt ha hb hab
  have hat := mkd_at h ha hb hab
  have hcnt := h.cnt a b ha hb hab
  rw [hc, List.count_cons_self] at hcnt
  have hboth : (sd s a).started = true ∧ mkd s a b = false := by
    by_cases e : (sd s a).started = true ∧ mkd s a b = false
    · exact e
    · rw [if_neg e] at hcnt; omega
  rw [if_pos hboth] at hcnt
  have hr0 : r.count (-1) = 0 := by omega
  have hri := not_in_of_count hr0
  have hsd := fun i => sd_set (cs := s.coins) (ws := mput s.ways (a, b) r) (x := { sd s b with marked := (sd s b).marked.set (pos b a) true }) (s := s) rfl hbl i
  have hst : ∀ i, (sd (markedT s a b r) i).started = (sd s i).started := fun i => by
    unfold markedT
    rw [hsd]
    split
    · rename_i e; subst e; rfl
    · rfl
  have hlm := (h.shp b hb).lm
  have hmk : ∀ c d, c < n → d < n → c ≠ d → mkd (markedT s a b r) c d = if c = a ∧ d = b then true else mkd s c d := by
    intro c d hc' hd hcd
    unfold mkd markedT
    rw [hsd]
    by_cases e : d = b
    · subst e
      rw [if_pos rfl]
      show ((sd s d).marked.set (pos d a) true).getD (pos d c) false = _
      rw [getD_set _ _ _ _ _ (by omega)]
      by_cases e2 : c = a
      · subst e2; simp
      · have : pos d c ≠ pos d a := fun e3 => e2 (pos_inj hcd hab e3)
        rw [if_neg this, if_neg (fun x => e2 x.1)]
    · rw [if_neg e, if_neg (fun x => e x.2)]
  have hch : ∀ c d, chan (mput s.ways (a, b) r) c d = if c = a ∧ d = b then r else chan s.ways c d := fun c d => chan_put _ _ _ _ _ _
  refine ⟨{ lc := h.lc, ls := by simp [markedT, h.ls], shp := ?_, nd := nodup_put _ _ h.nd, ky := ?_, el := ?_, c0 := h.c0, cnt := ?_, ms := ?_, nr := ?_, rl := ?_, sm := ?_, sh := ?_ }, by rw [hat, hboth.2]⟩
  · intro i hi
    unfold markedT
    rw [hsd]
    split
    · rename_i e; subst e; exact ⟨(h.shp i hi).pe, by simpa using (h.shp i hi).lm, (h.shp i hi).lw⟩
    · exact h.shp i hi
  · intro p hp
    rcases mem_put hp with rfl | hp
    · exact ⟨ha, hb, hab⟩
    · exact h.ky p hp
  · intro c d x hx
    unfold markedT at hx
    simp only at hx
    rw [hch] at hx
    split at hx
    · exact h.el a b x (by rw [hc]; exact List.mem_cons_of_mem _ hx)
    · exact h.el c d x hx
  · intro c d hc' hd hcd
    show (chan (mput s.ways (a, b) r) c d).count (-1) = _
    rw [hch, hmk c d hc' hd hcd, hst]
    split
    · rw [hr0]; simp
    · exact h.cnt c d hc' hd hcd
  · intro c d hc' hd hcd hm'
    rw [hmk c d hc' hd hcd] at hm'
    rw [hst]
    split at hm'
    · rename_i e
      obtain ⟨rfl, rfl⟩ := e
      exact hboth.1
    · exact h.ms c d hc' hd hcd hm'
  · intro i hi
    rw [hst] at hi
    unfold markedT
    rw [hsd]
    split
    · rename_i e; subst e; exact h.nr i hi
    · exact h.nr i hi
  · intro c d hc' hd hcd
    show ((sd _ d).ways.getD (pos d c) []).length + (chan (mput s.ways (a, b) r) c d).countP _ ≤ k
    have h1 := h.rl c d hc' hd hcd
    have e1 : (sd (markedT s a b r) d).ways = (sd s d).ways := by
      unfold markedT
      rw [hsd]
      split
      · rename_i e; subst e; rfl
      · rfl
    rw [e1, hch]
    split
    · rename_i e
      obtain ⟨rfl, rfl⟩ := e
      rw [hc, List.countP_cons] at h1
      omega
    · exact h1
  · have := h.sm
    show s.coins.sum + wsum _ (mput s.ways (a, b) r) = sum
    rw [wsum_put _ _ _ _ h.nd rfl]
    show s.coins.sum + (wsum _ s.ways - posum (chan s.ways a b) + posum r) = sum
    rw [hc, posum_cons]
    omega
  · have := h.sh
    show total s.coins (s.sides.set b { sd s b with marked := (sd s b).marked.set (pos b a) true }) + wsum (fun p c => pre (mkd (markedT s a b r) p.1 p.2) c) (mput s.ways (a, b) r) = sum
    have e1 := total_set s.coins s.sides b (co s b) { sd s b with marked := (sd s b).marked.set (pos b a) true } hbc hbl
    have e : s.coins.set b (co s b) = s.coins := set_getD s.coins b 0
    rw [e] at e1
    have e6 := e1.trans (Int.sub_add_cancel _ _)
    have e3 : wsum (fun p c => pre (mkd (markedT s a b r) p.1 p.2) c) s.ways = wsum (fun p c => pre (mkd s p.1 p.2) c) s.ways := by
      refine wsum_congr fun p hp => ?_
      obtain ⟨k1, k2, k3⟩ := h.ky p hp
      rw [hmk _ _ k1 k2 k3]
      split
      · rename_i e4
        have e5 : p.2 = -1 :: r := by
          have hg := mget_at h.nd (a := p.1) (v := p.2) hp
          have : p.1 = (a, b) := Prod.ext e4.1 e4.2
          rw [this] at hg
          unfold chan at hc
          rw [hg] at hc
          exact hc
        rw [e5, e4.1, e4.2, hboth.2]
        simp [pre]
      · rfl
    rw [e6, wsum_put _ _ _ _ h.nd (pre_nil _), e3]
    show total s.coins s.sides + (wsum _ s.ways - pre (mkd (markedT s a b r) a b) (chan s.ways a b) + pre (mkd (markedT s a b r) a b) r) = sum
    rw [hmk a b ha hb hab, if_pos ⟨rfl, rfl⟩]
    have p1 : ∀ c, pre true c = 0 := fun _ => rfl
    rw [p1, p1]
    omega
theorem mb_mark {n : Nat} {sum : Int} {k : Nat} {s : Tn} (h : Inv n sum k s) (hmb : MB n s) {a b : Nat} (ha : a < n) (hb : b < n) (hab : a ≠ b) {r : List Int} (hm : (sd s b).marked[pos b a]? = some false) : MB n (markT s a b r) := by
  have hbl : b < s.sides.length := by rw [h.ls]; exact hb
  have hmf : markF (sd s b) (pos b a) (co s b) = ((beginF { sd s b with marked := (sd s b).marked.set (pos b a) true } (co s b)).1, !(sd s b).started, 0) := by simp [markF, hm]
  intro c d hc hd hcd hmm
  unfold markT at hmm ⊢
  unfold mkd at hmm
  rw [sd_set rfl hbl] at hmm ⊢
  split
  · rw [hmf]
    unfold beginF
    split
    · rename_i e; exact e
    · rfl
  · rename_i e
    rw [if_neg e] at hmm
    exact hmb c d hc hd hcd hmm
def pays (d : Dd) : Nat := if d.kind = 1 then 1 else 0
theorem inv_do {n : Nat} {sum : Int} {k : Nat} {s : Tn} (h : Inv n sum k s) (hmb : MB n s) (hk : k < 200) (d : Dd) : Inv n sum (k + pays d) (doF s d) ∧ MB n (doF s d) := by
  have hup : Inv n sum (k + pays d) s := by
    unfold pays
    split
    · exact h.up
    · exact h
  unfold doF
  rw [h.lc]
  split
  · rename_i hf
    have hf' : d.from_.toNat < n := by omega
    split
    · rename_i h3
      have : pays d = 0 := by unfold pays; rw [if_neg (by omega)]
      rw [this]
      exact ⟨inv_begin h hf', mb_begin h hmb hf'⟩
    · split
      · rename_i ht
        have ht' : d.to_.toNat < n := by omega
        have hne : d.from_.toNat ≠ d.to_.toNat := by omega
        split
        · rename_i h1
          have : pays d = 1 := by unfold pays; rw [if_pos h1]
          rw [this]
          refine ⟨inv_pay h hf' ht' hne _, ?_⟩
          unfold payT
          split
          · exact hmb
          · exact hmb
        · split
          · rename_i h2
            have : pays d = 0 := by unfold pays; rw [if_neg (by omega)]
            rw [this]
            unfold comeT
            split
            · exact ⟨h, hmb⟩
            · rename_i m r hc
              split
              · rename_i e
                subst e
                obtain ⟨h1, h2⟩ := inv_marked h hf' ht' hne hc
                have hbl : d.to_.toNat < s.sides.length := by rw [h.ls]; exact ht'
                refine ⟨?_, mb_mark h hmb hf' ht' hne h2⟩
                rw [mark_two hbl h2]
                exact inv_begin h1 ht'
              · rename_i e
                exact ⟨inv_coin h hmb hk hf' ht' hne e hc, mb_coin h hmb hf' ht' hne⟩
          · exact ⟨hup, hmb⟩
      · exact ⟨hup, hmb⟩
  · exact ⟨hup, hmb⟩
def runF (s : Tn) (l : List Dd) : Tn := l.foldl doF s
def paysL (l : List Dd) : Nat := (l.map pays).sum
theorem inv_run {n : Nat} {sum : Int} : ∀ (l : List Dd) {k : Nat} {s : Tn}, Inv n sum k s → MB n s → k + paysL l < 200 → Inv n sum (k + paysL l) (runF s l) ∧ MB n (runF s l)
  | [], k, s, h, hm, _ => ⟨by show Inv n sum (k + 0) s; exact h, hm⟩
  | d :: r, k, s, h, hm, hk => by
    have e : paysL (d :: r) = pays d + paysL r := by simp [paysL]
    rw [e] at hk ⊢
    obtain ⟨h1, h2⟩ := inv_do h hm (by omega) d
    have := inv_run r h1 h2 (by omega)
    rw [← Nat.add_assoc]
    exact this
/-! ### at the beginning, at the end -/
theorem total_new (cs : List Int) (xs : List Sd) (hx : ∀ x ∈ xs, x.started = false ∧ ∀ l ∈ x.ways, l = []) (hl : cs.length = xs.length) : total cs xs = cs.sum := by
  induction cs generalizing xs with
  | nil => simp [total]
  | cons c r ih =>
    cases xs with
    | nil => simp at hl
    | cons x xr =>
      have h1 := ih xr (fun y hy => hx y (List.mem_cons_of_mem _ hy)) (by simpa using hl)
      obtain ⟨h2, h3⟩ := hx x (by simp)
      have h4 : (x.ways.map List.sum).sum = 0 := by
        have : ∀ ls : List (List Int), (∀ l ∈ ls, l = []) → (ls.map List.sum).sum = 0 := by
          intro ls
          induction ls with
          | nil => intro _; rfl
          | cons l lr ih2 =>
            intro h
            rw [List.map_cons, List.sum_cons, ih2 fun y hy => h y (List.mem_cons_of_mem _ hy), h l (by simp)]
            rfl
        exact this _ h3
      simp only [total, List.zipWith_cons_cons, List.sum_cons, sval, h2, h4] at h1 ⊢
      simp
      exact h1
theorem sd_new (coins : List Int) (i : Nat) (hi : i < coins.length) : sd (newF coins) i = ⟨peersOf coins.length i, false, 0, List.replicate (coins.length - 1) false, List.replicate (coins.length - 1) []⟩ := by
  simp [sd, newF, List.getD_eq_getElem?_getD, hi]
theorem sd_over (s : Tn) (i : Nat) (hi : s.sides.length ≤ i) : sd s i = sd0 := by
  simp [sd, List.getD_eq_getElem?_getD, hi]
theorem chan_new (coins : List Int) (a b : Nat) : chan (newF coins).ways a b = [] := rfl
theorem mem_sides_new {coins : List Int} {x : Sd} (hx : x ∈ (newF coins).sides) : x.started = false ∧ ∀ l ∈ x.ways, l = [] := by
  obtain ⟨i, _, rfl⟩ := List.mem_map.1 hx
  exact ⟨rfl, fun l hl => (List.mem_replicate.1 hl).2⟩
theorem inv_new (coins : List Int) (h0 : ∀ c ∈ coins, 0 ≤ c) : Inv coins.length coins.sum 0 (newF coins) ∧ MB coins.length (newF coins) := by
  have hst : ∀ i, (sd (newF coins) i).started = false := by
    intro i
    by_cases hi : i < coins.length
    · rw [sd_new coins i hi]
    · rw [sd_over _ _ (by simp [newF]; omega)]; rfl
  have hmk : ∀ a b, b < coins.length → mkd (newF coins) a b = false := by
    intro a b hb
    unfold mkd
    rw [sd_new coins b hb]
    simp only [List.getD_eq_getElem?_getD, List.getElem?_replicate]
    split <;> rfl
  refine ⟨{ lc := rfl, ls := by simp [newF], shp := ?_, nd := by simp [newF], ky := by simp [newF], el := by simp [chan_new], c0 := ?_, cnt := ?_, ms := ?_, nr := ?_, rl := ?_, sm := by simp [newF, wsum], sh := ?_ }, ?_⟩
  · intro i hi
    rw [sd_new coins i hi]
    exact ⟨rfl, by simp, by simp⟩
  · intro i
    show 0 ≤ coins.getD i 0
    rw [List.getD_eq_getElem?_getD]
    cases e : coins[i]? with
    | none => simp
    | some c => exact h0 c (List.mem_of_getElem? e)
  · intro a b ha hb hab
    rw [chan_new, hst]
    simp
  · intro a b ha hb hab hm
    rw [hmk a b hb] at hm
    cases hm
  · intro i _ l hl
    by_cases hi : i < coins.length
    · rw [sd_new coins i hi] at hl
      exact (List.mem_replicate.1 hl).2
    · rw [sd_over _ _ (by simp [newF]; omega)] at hl
      simp [sd0] at hl
  · intro a b ha hb hab
    rw [chan_new, sd_new coins b hb]
    simp only [List.getD_eq_getElem?_getD, List.getElem?_replicate]
    split <;> simp
  · show total coins (newF coins).sides + 0 = coins.sum
    rw [total_new _ _ (fun x hx => mem_sides_new hx) (by simp [newF])]
    omega
  · intro a b ha hb hab hm
    rw [hmk a b hb] at hm
    cases hm

/-- what is written down is complete -/
def doneB (x : Sd) : Bool := x.started && !(x.marked.contains false)
def allDone (s : Tn) : Bool := s.sides.all doneB
theorem done_at {s : Tn} (h : allDone s = true) {i : Nat} (hi : i < s.sides.length) : (sd s i).started = true ∧ ∀ j, j < (sd s i).marked.length → (sd s i).marked[j]? = some true := by
  have h1 : doneB (sd s i) = true := by
    have e : sd s i = s.sides[i] := by simp [sd, List.getD_eq_getElem?_getD, hi]
    rw [e]
    exact List.all_eq_true.1 h _ (List.getElem_mem hi)
  unfold doneB at h1
  simp only [Bool.and_eq_true, Bool.not_eq_true'] at h1
  refine ⟨h1.1, fun j hj => ?_⟩
  rw [List.getElem?_eq_getElem hj]
  cases hm : (sd s i).marked[j] with
  | true => rfl
  | false =>
    have : (sd s i).marked.contains false = true := by
      rw [List.contains_iff_mem]
      exact hm ▸ List.getElem_mem hj
    rw [this] at h1
    simp at h1
theorem total_done : ∀ (cs : List Int) (xs : List Sd), (∀ x ∈ xs, x.started = true) → cs.length = xs.length → total cs xs = (xs.map fun x => x.state).sum + ((xs.map fun x => (x.ways.map List.sum).sum)).sum
  | [], [], _, _ => rfl
  | [], x :: r, _, h => by simp at h
  | c :: cs, [], _, h => by simp at h
  | c :: cs, x :: xs, h, hl => by
    have := total_done cs xs (fun y hy => h y (List.mem_cons_of_mem _ hy)) (by simpa using hl)
    simp only [total, List.zipWith_cons_cons, List.sum_cons, sval, h x (by simp), if_true, List.map_cons] at this ⊢
    omega
/-- a complete snapshot has all coins -/
theorem shot_sum {n : Nat} {sum : Int} {k : Nat} {s : Tn} (h : Inv n sum k s) (hd : allDone s = true) : (s.sides.map fun x => x.state).sum + ((s.sides.map fun x => (x.ways.map List.sum).sum)).sum = sum := by
  have h1 := h.sh
  have e0 : wsum (fun p c => pre (mkd s p.1 p.2) c) s.ways = 0 := by
    have : wsum (fun p c => pre (mkd s p.1 p.2) c) s.ways = wsum (fun _ _ => 0) s.ways := by
      refine wsum_congr fun p hp => ?_
      obtain ⟨k1, k2, k3⟩ := h.ky p hp
      have h2 := (done_at hd (i := p.1.2) (by rw [h.ls]; exact k2)).2 (pos p.1.2 p.1.1) (by rw [(h.shp _ k2).lm]; exact pos_lt k1 k2 k3)
      rw [mkd_at h k1 k2 k3] at h2
      injection h2 with h2
      simp [h2, pre]
    rw [this]
    unfold wsum
    induction s.ways with
    | nil => rfl
    | cons p r ih => rw [List.map_cons, List.sum_cons, ih]; rfl
  rw [e0, total_done _ _ (fun x hx => by
    have h3 := List.all_eq_true.1 hd x hx
    unfold doneB at h3
    simp only [Bool.and_eq_true] at h3
    exact h3.1) (by rw [h.lc, h.ls])] at h1
  omega
/-- it stays -/
theorem done_do {n : Nat} {sum : Int} {k : Nat} {s : Tn} (h : Inv n sum k s) (hd : allDone s = true) (d : Dd) : (doF s d).sides = s.sides := by
  unfold doF
  rw [h.lc]
  split
  · rename_i hf
    have hf' : d.from_.toNat < n := by omega
    split
    · unfold beginT
      rw [if_pos (done_at hd (by rw [h.ls]; exact hf')).1]
    · split
      · rename_i ht
        have ht' : d.to_.toNat < n := by omega
        have hne : d.from_.toNat ≠ d.to_.toNat := by omega
        have hp := (done_at hd (i := d.to_.toNat) (by rw [h.ls]; exact ht')).2 (pos d.to_.toNat d.from_.toNat) (by rw [(h.shp _ ht').lm]; exact pos_lt hf' ht' hne)
        split
        · unfold payT
          split <;> rfl
        · split
          · unfold comeT
            split
            · rfl
            · split
              · unfold markT
                have : (markF (sd s d.to_.toNat) (pos d.to_.toNat d.from_.toNat) (co s d.to_.toNat)).1 = sd s d.to_.toNat := by simp [markF, hp]
                simp only [this]
                exact set_getD _ _ _
              · rename_i m r _ _
                unfold coinT
                have : (msgF (sd s d.to_.toNat) (pos d.to_.toNat d.from_.toNat) m).1 = sd s d.to_.toNat := by simp [msgF, hp]
                simp only [this]
                exact set_getD _ _ _
          · rfl
      · rfl
  · rfl
theorem done_run {n : Nat} {sum : Int} : ∀ (l : List Dd) {k : Nat} {s : Tn}, Inv n sum k s → MB n s → k + paysL l < 200 → allDone s = true → (runF s l).sides = s.sides
  | [], k, s, _, _, _, _ => rfl
  | d :: r, k, s, h, hm, hk, hd => by
    have e : paysL (d :: r) = pays d + paysL r := by simp [paysL]
    rw [e] at hk
    obtain ⟨h1, h2⟩ := inv_do h hm (by omega) d
    have e1 := done_do h hd d
    have hd' : allDone (doF s d) = true := by unfold allDone; rw [e1]; exact hd
    exact (done_run r h1 h2 (by omega) hd').trans e1
end Go.Proofs.Ytpnhmplinkakbaa
