/- How much is still to come in package move's simulation: a measure of what is in the channels. No program in sight. -/
import Derived.Test.YtckkelppdeampaaMvTr
set_option linter.unusedVariables false
namespace Go.Mv
open Go.Mem
/-! ### sums over channels -/
def tsum (F : Nat × Nat → List El → Nat) (ws : Ways) : Nat := (ws.map fun p => F p.1 p.2).sum
theorem tsum_map (F : Nat × Nat → List El → Nat) : ∀ (ws : Ways) (k : Nat × Nat) (l : List El), (ws.map (·.1)).Nodup → tsum F (ws.map fun p => if p.1 = k then (k, l) else p) + (match mget ws k with | some o => F k o | none => 0) = tsum F ws + (match mget ws k with | some _ => F k l | none => 0)
  | [], k, l, _ => by simp [tsum, mget_nil]
  | p :: r, k, l, h => by
    rw [List.map_cons, List.nodup_cons] at h
    have ih := tsum_map F r k l h.2
    rw [mget_cons]
    by_cases e : p.1 = k
    · have hr : mget r k = none := by
        rw [mget_none]
        intro q hq hk
        exact h.1 (List.mem_map.2 ⟨q, hq, by rw [hk, e]⟩)
      rw [hr] at ih
      subst e
      simp [tsum] at ih ⊢
      omega
    · simp only [tsum, List.map_cons, List.sum_cons, if_neg e] at ih ⊢
      omega
theorem tsum_put (F : Nat × Nat → List El → Nat) (hf : ∀ k, F k [] = 0) (ws : Ways) (a b : Nat) (l : List El) (h : (ws.map (·.1)).Nodup) : tsum F (mput ws (a, b) l) + F (a, b) (chan ws a b) = tsum F ws + F (a, b) l := by
  have hm := tsum_map F ws (a, b) l h
  unfold mput chan
  cases hg : mget ws (a, b) with
  | none => simp [tsum, hf]
  | some o => rw [hg] at hm; simpa using hm
theorem tsum_le {F G : Nat × Nat → List El → Nat} : ∀ (ws : Ways), (∀ p ∈ ws, F p.1 p.2 ≤ G p.1 p.2) → tsum F ws ≤ tsum G ws
  | [], _ => Nat.le_refl _
  | p :: r, h => by
    have := tsum_le r fun q hq => h q (by simp [hq])
    have := h p (by simp)
    simp only [tsum, List.map_cons, List.sum_cons] at *
    omega
theorem tsum_mem (F : Nat × Nat → List El → Nat) : ∀ (ws : Ways) (p : (Nat × Nat) × List El), p ∈ ws → F p.1 p.2 ≤ tsum F ws
  | [], p, h => by simp at h
  | q :: r, p, h => by
    simp only [tsum, List.map_cons, List.sum_cons]
    rcases List.mem_cons.1 h with rfl | h
    · omega
    · have := tsum_mem F r p h
      unfold tsum at this
      omega
theorem tsum_chan (F : Nat × Nat → List El → Nat) (hf : ∀ k, F k [] = 0) (ws : Ways) (a b : Nat) : F (a, b) (chan ws a b) ≤ tsum F ws := by
  unfold chan
  cases hg : mget ws (a, b) with
  | none => simp [hf]
  | some o => exact tsum_mem F ws _ (mget_mem hg)
theorem chan_of {ws : Ways} (h : (ws.map (·.1)).Nodup) {p : (Nat × Nat) × List El} (hp : p ∈ ws) : chan ws p.1.1 p.1.2 = p.2 := by
  unfold chan
  rw [mget_at h (a := (p.1.1, p.1.2)) (v := p.2) hp]
  rfl
/-- two channels -/
theorem tsum_two (F : Nat × Nat → List El → Nat) (hf : ∀ k, F k [] = 0) (ws : Ways) (hn : (ws.map (·.1)).Nodup) {a b c d : Nat} (h : ¬ (c = a ∧ d = b)) : F (a, b) (chan ws a b) + F (c, d) (chan ws c d) ≤ tsum F ws := by
  have h1 := tsum_put F hf ws a b [] hn
  have h2 := tsum_chan F hf (mput ws (a, b) []) c d
  rw [chan_put, if_neg h] at h2
  rw [hf] at h1
  omega

/-! ### the measure of a channel -/
def vL (g : Nat → Nat) (sn : Nat → Bool) (w : Nat) : Nat := if sn w then 1 else g w
def val (g z : Nat → Nat) (sn : Nat → Bool) (x : El) : Nat := if x.kind = 0 then vL g sn x.who else if x.kind = 1 then z x.who else 1
def nxt (sn : Nat → Bool) (x : El) : Nat → Bool := if x.kind = 1 then fun w => decide (w = x.who) || sn w else sn
def pot (g z : Nat → Nat) : List El → (Nat → Bool) → Nat
  | [], _ => 0
  | x :: r, sn => val g z sn x + pot g z r (nxt sn x)
def allp (g z : Nat → Nat) (N : Nat) : List El → (Nat → Bool) → Prop
  | [], _ => True
  | x :: r, sn => val g z sn x + 1 ≤ N ∧ allp g z N r (nxt sn x)
def no : Nat → Bool := fun _ => false
theorem nxt_at (sn : Nat → Bool) (x : El) (w : Nat) : nxt sn x w = (isA w x || sn w) := by
  unfold nxt isA
  split
  · rename_i h
    rw [h]
    simp only [decide_true, Bool.true_and]
    congr 1
    exact decide_eq_decide.2 ⟨fun e => e.symm, fun e => e.symm⟩
  · rename_i h
    simp [h]
theorem vL_nxt {g g' : Nat → Nat} {sn sn' : Nat → Bool} (h : ∀ w, vL g' sn' w ≤ vL g sn w) (x : El) : ∀ w, vL g' (nxt sn' x) w ≤ vL g (nxt sn x) w := by
  intro w
  have := h w
  unfold vL at this ⊢
  rw [nxt_at, nxt_at]
  cases isA w x
  · simpa using this
  · simp
theorem val_mono {g g' z z' : Nat → Nat} {sn sn' : Nat → Bool} (h : ∀ w, vL g' sn' w ≤ vL g sn w) (hz : ∀ w, z' w ≤ z w) (x : El) : val g' z' sn' x ≤ val g z sn x := by
  unfold val
  split
  · exact h _
  · split
    · exact hz _
    · exact Nat.le_refl _
theorem pot_mono {g g' z z' : Nat → Nat} (hz : ∀ w, z' w ≤ z w) : ∀ (l : List El) {sn sn' : Nat → Bool}, (∀ w, vL g' sn' w ≤ vL g sn w) → pot g' z' l sn' ≤ pot g z l sn
  | [], _, _, _ => Nat.le_refl _
  | x :: r, sn, sn', h => by
    unfold pot
    have := pot_mono hz r (vL_nxt h x)
    have := val_mono h hz x
    omega
theorem allp_mono {g g' z z' : Nat → Nat} {N N' : Nat} (hz : ∀ w, z' w ≤ z w) (hN : N ≤ N') : ∀ (l : List El) {sn sn' : Nat → Bool}, (∀ w, vL g' sn' w ≤ vL g sn w) → allp g z N l sn → allp g' z' N' l sn'
  | [], _, _, _, _ => True.intro
  | x :: r, sn, sn', h, ⟨h1, h2⟩ => by
    have := val_mono h hz x
    exact ⟨by omega, allp_mono hz hN r (vL_nxt h x) h2⟩
def nxts (sn : Nat → Bool) (l : List El) : Nat → Bool := fun w => l.any (isA w) || sn w
theorem nxts_cons (sn : Nat → Bool) (x : El) (l : List El) : nxts (nxt sn x) l = nxts sn (x :: l) := by
  funext w
  unfold nxts
  rw [nxt_at, List.any_cons]
  cases isA w x <;> cases l.any (isA w) <;> cases sn w <;> rfl
theorem pot_app (g z : Nat → Nat) (x : El) : ∀ (l : List El) (sn : Nat → Bool), pot g z (l ++ [x]) sn = pot g z l sn + val g z (nxts sn l) x
  | [], sn => by
    have : nxts sn [] = sn := by funext w; simp [nxts]
    rw [this]
    simp [pot]
  | y :: r, sn => by
    rw [List.cons_append]
    unfold pot
    rw [pot_app g z x r, nxts_cons]
    omega
theorem allp_app (g z : Nat → Nat) (N : Nat) (x : El) : ∀ (l : List El) (sn : Nat → Bool), allp g z N l sn → val g z (nxts sn l) x + 1 ≤ N → allp g z N (l ++ [x]) sn
  | [], sn, _, h => by
    have : nxts sn [] = sn := by funext w; simp [nxts]
    rw [this] at h
    exact ⟨h, True.intro⟩
  | y :: r, sn, ⟨h1, h2⟩, h => ⟨h1, allp_app g z N x r _ h2 (by rw [nxts_cons]; exact h)⟩
theorem pot_len {g z : Nat → Nat} (hg : ∀ w, 1 ≤ g w) (hz : ∀ w, 1 ≤ z w) : ∀ (l : List El) (sn : Nat → Bool), l.length ≤ pot g z l sn
  | [], _ => Nat.le_refl _
  | x :: r, sn => by
    have := pot_len hg hz r (nxt sn x)
    have hv : 1 ≤ val g z sn x := by
      unfold val vL
      split
      · split
        · omega
        · exact hg _
      · split
        · exact hz _
        · omega
    rw [pot, List.length_cons]
    omega
theorem allp_none {g z : Nat → Nat} {N : Nat} (hN : N ≤ 1) (hg : ∀ w, 1 ≤ g w) (hz : ∀ w, 1 ≤ z w) {l : List El} {sn : Nat → Bool} (h : allp g z N l sn) : l = [] := by
  cases l with
  | nil => rfl
  | cons x r =>
    have hv : 1 ≤ val g z sn x := by
      unfold val vL
      split
      · split
        · omega
        · exact hg _
      · split
        · exact hz _
        · omega
    have := h.1
    omega

/-! ### ranks of nodes on an actor's way -/
theorem idx_cons (x a : Nat) (r : List Nat) : (x :: r).idxOf a = if x = a then 0 else r.idxOf a + 1 := by
  rw [List.idxOf_cons]
  by_cases e : x = a
  · simp [e]
  · rw [if_neg e]
    have : (x == a) = false := by simpa using e
    simp [this]
theorem idx_len : ∀ (r : List Nat) (a : Nat), a ∉ r → r.idxOf a = r.length
  | [], a, _ => rfl
  | x :: r, a, h => by
    rw [idx_cons, if_neg (fun e => h (by simp [e])), idx_len r a (fun e => h (by simp [e]))]
    rfl
theorem pos_idx : ∀ (r : List Nat) {m c : Nat}, pos r m c → r.idxOf c + m + 1 ≤ r.length
  | [], m, c, h => by have := pos_lt h; simp at this
  | x :: r, m, c, h => by
    rw [idx_cons, List.length_cons]
    rcases pos_split h with ⟨rfl, rfl⟩ | h
    · rw [if_pos rfl]; omega
    · have := pos_idx r h
      split <;> omega
theorem idx_pos : ∀ (r : List Nat) {a : Nat}, a ∈ r → pos r (r.length - 1 - r.idxOf a) a ∧ r.idxOf a + 1 ≤ r.length
  | [], a, h => by simp at h
  | x :: r, a, h => by
    rw [idx_cons]
    by_cases e : x = a
    · subst e
      rw [if_pos rfl]
      refine ⟨?_, by simp⟩
      have := pos_top x r
      simpa using this
    · rw [if_neg e]
      have hm : a ∈ r := by
        rcases List.mem_cons.1 h with h | h
        · exact absurd h.symm e
        · exact h
      obtain ⟨h1, h2⟩ := idx_pos r hm
      refine ⟨?_, by rw [List.length_cons]; omega⟩
      have h3 := pos_cons x h1
      rw [List.length_cons]
      rw [show r.length + 1 - 1 - (r.idxOf a + 1) = r.length - 1 - r.idxOf a by omega]
      exact h3
theorem up_idx {r : List Nat} {a k : Nat} (hr : r ≠ []) (ha : r.idxOf a ≠ 0) (h : ∀ m, pos r m a → m + 1 < r.length → m < k) : r.length ≤ r.idxOf a + k := by
  by_cases hm : a ∈ r
  · obtain ⟨h1, h2⟩ := idx_pos r hm
    have := h _ h1 (by omega)
    omega
  · rw [idx_len r a hm]
    omega
def rho (n : Nat) (r : List Nat) (b : Nat) : Nat := (if r.idxOf 1 < r.idxOf b then 1 else 0) + (if 2 ≤ n ∧ r.idxOf 2 < r.idxOf b then 1 else 0) + (if 3 ≤ n ∧ r.idxOf 3 < r.idxOf b then 1 else 0)
theorem rho_lt {n : Nat} {r : List Nat} {b c : Nat} (h : r.idxOf c < r.idxOf b) (hc : 1 ≤ c ∧ c ≤ n) (hn : n ≤ 3) : rho n r c + 1 ≤ rho n r b := by
  unfold rho
  rcases (show c = 1 ∨ c = 2 ∨ c = 3 from by omega) with rfl | rfl | rfl <;> (repeat' split) <;> omega
theorem rho_le {n : Nat} {r : List Nat} {b : Nat} (hb : 1 ≤ b ∧ b ≤ n) (hn : n ≤ 3) : rho n r b ≤ 2 := by
  unfold rho
  rcases (show b = 1 ∨ b = 2 ∨ b = 3 from by omega) with rfl | rfl | rfl <;> (repeat' split) <;> omega
theorem rho_zero {n : Nat} {r : List Nat} {b : Nat} (h : r.idxOf b = 0) : rho n r b = 0 := by
  unfold rho
  rw [h]
  simp
theorem idx_zero {c z : Nat} {r : List Nat} (h : (c :: r).idxOf z = 0) : c = z := by
  rw [idx_cons] at h
  split at h
  · rename_i e; exact e
  · omega
theorem rho_one {n : Nat} {c b : Nat} {r : List Nat} (h : (c :: r).idxOf b = 1) : rho n (c :: r) b ≤ 1 := by
  unfold rho
  rw [h]
  have h1 := fun e => idx_zero (c := c) (z := 1) (r := r) e
  have h2 := fun e => idx_zero (c := c) (z := 2) (r := r) e
  have h3 := fun e => idx_zero (c := c) (z := 3) (r := r) e
  generalize (c :: r).idxOf 1 = i1 at *
  generalize (c :: r).idxOf 2 = i2 at *
  generalize (c :: r).idxOf 3 = i3 at *
  by_cases e1 : i1 = 0
  · have := h1 e1
    have n2 : i2 ≠ 0 := fun e => by have := h2 e; omega
    have n3 : i3 ≠ 0 := fun e => by have := h3 e; omega
    (repeat' split) <;> omega
  · by_cases e2 : i2 = 0
    · have := h2 e2
      have n3 : i3 ≠ 0 := fun e => by have := h3 e; omega
      (repeat' split) <;> omega
    · (repeat' split) <;> omega
/-- what a letter for w in channel (a, b) still costs -/
def gv (n : Nat) (at_ : List Nat) (R : Nat → List Nat) (B : Nat → Bool) (q : Nat → Nat → Nat) (a b w : Nat) : Nat :=
  if at_.getD w 0 ≠ 0 then 1 + 2 * rho n (R w) b
  else if B w then 5 + q a b
  else if (R w).idxOf b = 0 then 5 else if (R w).idxOf b = 1 then 3 else 7
def zv (B : Nat → Bool) (w : Nat) : Nat := if B w then 0 else 1
theorem gv_pos (n : Nat) (at_ : List Nat) (R : Nat → List Nat) (B : Nat → Bool) (q : Nat → Nat → Nat) (a b w : Nat) : 1 ≤ gv n at_ R B q a b w := by
  unfold gv
  (repeat' split) <;> omega
/-- a letter that goes on costs less -/
theorem fwd {n : Nat} {bel : Nat → Nat → Nat × Nat} {at_ : List Nat} {ws : Ways} {W : Nat} {R : Nat → List Nat} (h : Tr n bel at_ ws W R) (hn : n ≤ 3) {B : Nat → Bool} {q : Nat → Nat → Nat} {w a b : Nat} (hb : 1 ≤ b ∧ b ≤ n) (hw : w < W)
    (h0 : at_.getD w 0 ≠ b) (h1 : (bel b w).1 ≠ b) (good : at_.getD w 0 = 0 → B w = false → (R w).length ≤ (bel ((R w).headD 0) w).2 + 2) (hq : B w = true → ∀ c, 1 ≤ c → c ≤ n → c ≠ b → q b c + 1 ≤ q a b) :
    (if (chan ws b (bel b w).1).any (isA w) then 1 else gv n at_ R B q b (bel b w).1 w) + (if B w = true then 1 else 2) ≤ gv n at_ R B q a b w := by
  have hk := h.kn b w hb.1 hb.2 hw
  have hc := h.rg w hw _ (pos_mem hk)
  have hi := pos_idx _ hk
  have hup := fun m hp hm => h.up b w m hb.1 hb.2 hw hp hm
  have hne := h.ne w hw
  by_cases e0 : at_.getD w 0 = 0
  · obtain ⟨c, k, r, hR, hck⟩ := h.fly w hw e0
    by_cases hB : B w = true
    · have := hq hB _ hc.1 hc.2 h1
      have e2 : ∀ x y, gv n at_ R B q x y w = 5 + q x y := by
        intro x y
        unfold gv
        rw [if_neg (by simpa using e0), if_pos hB]
      rw [e2, e2, if_pos hB]
      split <;> omega
    · have hBf : B w = false := by simpa using hB
      have hg := good e0 hBf
      have e2 : ∀ x y, gv n at_ R B q x y w = if (R w).idxOf y = 0 then 5 else if (R w).idxOf y = 1 then 3 else 7 := by
        intro x y
        unfold gv
        rw [if_neg (by simpa using e0), if_neg hB]
      rw [e2, e2, if_neg hB]
      by_cases b0 : (R w).idxOf b = 0
      · rw [if_pos b0]
        have hcb : c = b := by rw [hR] at b0; exact idx_zero b0
        have hhd : (R w).headD 0 = b := by rw [hR]; simpa using hcb
        rw [hhd] at hg
        have hn0 : (R w).idxOf (bel b w).1 ≠ 0 := fun e => by rw [hR] at e; exact h1 ((idx_zero e).symm.trans hcb)
        have h11 : (R w).idxOf (bel b w).1 = 1 := by omega
        rw [if_neg hn0, if_pos h11]
        split <;> omega
      · rw [if_neg b0]
        have hu := up_idx hne b0 hup
        by_cases b1 : (R w).idxOf b = 1
        · rw [if_pos b1]
          have hz : (R w).idxOf (bel b w).1 = 0 := by omega
          have hcc : c = (bel b w).1 := by rw [hR] at hz; exact idx_zero hz
          have hkb : k = b := by
            rw [hR, idx_cons] at b1
            split at b1
            · omega
            · have hz1 : (k :: r).idxOf b = 0 := by omega
              exact idx_zero hz1
          have hcnt := (h.ch b (bel b w).1).cnt w hw e0 r (by rw [hR, hcc, hkb])
          have hany : (chan ws b (bel b w).1).any (isA w) = true := by
            have hp : 0 < (chan ws b (bel b w).1).countP (isA w) := by omega
            obtain ⟨x, hx, hxa⟩ := List.countP_pos_iff.1 hp
            exact List.any_eq_true.2 ⟨x, hx, hxa⟩
          rw [if_pos hany]
          omega
        · rw [if_neg b1]
          have hcr := h.rg w hw c (by rw [hR]; simp)
          have hkr := h.rg w hw k (by rw [hR]; simp)
          have hcb : c ≠ b := fun e => b0 (by rw [hR, idx_cons, if_pos e])
          have hkb : k ≠ b := fun e => b1 (by rw [hR, idx_cons, if_neg hcb, idx_cons, if_pos e])
          have hor : (bel b w).1 = c ∨ (bel b w).1 = k := by omega
          rcases hor with e | e
          · have : (R w).idxOf (bel b w).1 = 0 := by rw [e, hR, idx_cons, if_pos rfl]
            rw [if_pos this]
            split <;> omega
          · have : (R w).idxOf (bel b w).1 = 1 := by rw [e, hR, idx_cons, if_neg hck, idx_cons, if_pos rfl]
            rw [this]
            simp only [Nat.one_ne_zero, if_false, if_true]
            split <;> omega
  · obtain ⟨⟨r, hR⟩, hf⟩ := h.fix w hw e0
    have b0 : (R w).idxOf b ≠ 0 := fun e => by rw [hR] at e; exact h0 (idx_zero e)
    have hu := up_idx hne b0 hup
    have := rho_lt (n := n) (r := R w) (b := b) (c := (bel b w).1) (by omega) hc hn
    unfold gv
    rw [if_pos e0, if_pos e0]
    split <;> split <;> omega
end Go.Mv
