/- Plain laws of package layout: what it computes; the texts stand there; what fits is one line. No program in sight. -/
import Derived.Test.YtdbpgofabbpadaaDoorMap
set_option linter.unusedVariables false
namespace Go.Ly
open Go.Mem
structure Pc where
  kind : Nat
  n : Nat
  s : List UInt8
structure Grp where
  width : Nat
  tail : Nat
  hard : Bool
  broken : Bool
  indent : Nat
def zeroG : Grp := ⟨0, 0, false, false, 0⟩
def topG : Grp := ⟨0, 0, false, true, 0⟩
def lenF (p : Pc) : Nat := if p.kind = 2 then 1 else p.s.length
def tailF : List Pc → Nat
  | [] => 0
  | p :: r => if p.kind = 2 ∨ p.kind = 3 ∨ p.kind = 4 then 0 else p.s.length + tailF r
structure Sg where
  at_ : Nat
  width : Nat
  hards : Nat
def zeroS : Sg := ⟨0, 0, 0⟩
structure Ms where
  out : List (Nat × Grp)
  stack : List Sg
  width : Nat
  hards : Nat
def lastS (l : List Sg) : Sg := l.getLast?.getD zeroS
def lastG (l : List Grp) : Grp := l.getLast?.getD topG
def msF (d : List Pc) (i : Nat) (m : Ms) (p : Pc) : Ms :=
  if p.kind = 5 then ⟨m.out, m.stack ++ [⟨i, m.width, m.hards⟩], m.width + lenF p, m.hards⟩
  else if p.kind = 6 then ⟨mput m.out (lastS m.stack).at_ ⟨m.width - (lastS m.stack).width, tailF (d.drop (i + 1)), decide ((lastS m.stack).hards < m.hards), false, 0⟩, m.stack.dropLast, m.width + lenF p, m.hards⟩
  else if p.kind = 4 then ⟨m.out, m.stack, m.width + lenF p, m.hards + 1⟩
  else ⟨m.out, m.stack, m.width + lenF p, m.hards⟩
def msAt (d : List Pc) : Nat → Ms
  | 0 => ⟨[], [], 0, 0⟩
  | k + 1 => match d[k]? with
    | some p => msF d k (msAt d k) p
    | none => msAt d k
theorem msAt_next {d : List Pc} {k : Nat} (h : k < d.length) : msAt d (k + 1) = msF d k (msAt d k) d[k] := by
  rw [msAt, List.getElem?_eq_getElem h]
structure Ls where
  out : List UInt8
  col : Nat
  stack : List Grp
def openG (G : List (Nat × Grp)) (width i : Nat) (l : Ls) (p : Pc) : Grp :=
  ⟨((mget G i).getD zeroG).width, ((mget G i).getD zeroG).tail, ((mget G i).getD zeroG).hard,
    (lastG l.stack).broken && (((mget G i).getD zeroG).hard || decide (width < l.col + ((mget G i).getD zeroG).width + ((mget G i).getD zeroG).tail)), (lastG l.stack).indent + p.n⟩
def lsF (G : List (Nat × Grp)) (width i : Nat) (l : Ls) (p : Pc) : Ls :=
  if p.kind = 5 then ⟨l.out, l.col, l.stack ++ [openG G width i l p]⟩
  else if p.kind = 6 then ⟨l.out, l.col, l.stack.dropLast⟩
  else if p.kind = 4 ∨ ((lastG l.stack).broken = true ∧ p.kind ≠ 1) then ⟨l.out ++ (10 :: List.replicate (lastG l.stack).indent 32), (lastG l.stack).indent, l.stack⟩
  else if p.kind = 2 then ⟨l.out ++ [32], l.col + 1, l.stack⟩
  else ⟨l.out ++ p.s, l.col + p.s.length, l.stack⟩
def lsAt (G : List (Nat × Grp)) (width : Nat) (d : List Pc) : Nat → Ls
  | 0 => ⟨[], 0, [topG]⟩
  | k + 1 => match d[k]? with
    | some p => lsF G width k (lsAt G width d k) p
    | none => lsAt G width d k
theorem lsAt_next {G : List (Nat × Grp)} {width : Nat} {d : List Pc} {k : Nat} (h : k < d.length) : lsAt G width d (k + 1) = lsF G width k (lsAt G width d k) d[k] := by
  rw [lsAt, List.getElem?_eq_getElem h]
def layF (d : List Pc) (width : Nat) : List UInt8 := (lsAt (msAt d d.length).out width d d.length).out

/-- how deep a document is behind its pieces -/
def depStep (n : Nat) (p : Pc) : Option Nat := if p.kind = 5 then some (n + 1) else if p.kind = 6 then (match n with | 0 => none | m + 1 => some m) else some n
def dep : Nat → List Pc → Option Nat
  | n, [] => some n
  | n, p :: r => match depStep n p with
    | none => none
    | some m => dep m r
theorem dep_app : ∀ (a b : List Pc) (n : Nat), dep n (a ++ b) = (dep n a).bind fun m => dep m b
  | [], b, n => rfl
  | p :: a, b, n => by
    show (match depStep n p with | none => none | some m => dep m (a ++ b)) = (match depStep n p with | none => none | some m => dep m a).bind fun m => dep m b
    cases depStep n p with
    | none => rfl
    | some m => exact dep_app a b m
theorem dep_one (n : Nat) (p : Pc) : dep n [p] = depStep n p := by
  unfold dep
  cases depStep n p <;> rfl
/-- a right piece -/
def POk (p : Pc) : Prop := (1 ≤ p.kind ∧ p.kind ≤ 6) ∧ p.n ≤ 3 ∧ p.s.length ≤ 8 ∧ (p.kind ≠ 1 → p.s = []) ∧ (p.kind ≠ 5 → p.n = 0) ∧ ∀ b ∈ p.s, 97 ≤ b.toNat ∧ b.toNat ≤ 99
structure Ok (d : List Pc) : Prop where
  len : d.length ≤ 100
  pc : ∀ p ∈ d, POk p
  dep : dep 0 d = some 0
/-- the depth at place k -/
def depAt (d : List Pc) (k : Nat) : Nat := (dep 0 (d.take k)).getD 0
theorem Ok.depth {d : List Pc} (h : Ok d) (k : Nat) : Ly.dep 0 (d.take k) = some (depAt d k) := by
  have := h.dep
  rw [← List.take_append_drop k d, dep_app] at this
  unfold depAt
  cases e : Ly.dep 0 (d.take k) with
  | none => rw [e] at this; cases this
  | some m => rfl
theorem Ok.depthNext {d : List Pc} (h : Ok d) {k : Nat} (hk : k < d.length) : depStep (depAt d k) d[k] = some (depAt d (k + 1)) := by
  have h1 := h.depth (k + 1)
  rw [List.take_succ_eq_append_getElem hk, dep_app, h.depth k] at h1
  rw [← dep_one]
  exact h1
theorem Ok.depthEnd {d : List Pc} (h : Ok d) : depAt d d.length = 0 := by
  have h1 := h.depth d.length
  rw [List.take_length, h.dep] at h1
  injection h1 with h1
  exact h1.symm
theorem depAt_zero (d : List Pc) : depAt d 0 = 0 := rfl
theorem Ok.depthLe {d : List Pc} (h : Ok d) : ∀ (k : Nat), k ≤ d.length → depAt d k ≤ k
  | 0, _ => Nat.le_refl _
  | k + 1, hk => by
    have h1 := h.depthNext (show k < d.length by omega)
    have h2 := h.depthLe k (by omega)
    unfold depStep at h1
    split at h1
    · injection h1 with h1; omega
    · split at h1
      · split at h1
        · cases h1
        · injection h1 with h1; omega
      · injection h1 with h1; omega
/-- .. at a piece -/
theorem Ok.open_ {d : List Pc} (h : Ok d) {k : Nat} (hk : k < d.length) (e : d[k].kind = 5) : depAt d (k + 1) = depAt d k + 1 := by
  have h1 := h.depthNext hk
  unfold depStep at h1
  rw [if_pos e] at h1
  injection h1 with h1
  exact h1.symm
theorem Ok.close {d : List Pc} (h : Ok d) {k : Nat} (hk : k < d.length) (e : d[k].kind = 6) : depAt d k = depAt d (k + 1) + 1 := by
  have h1 := h.depthNext hk
  unfold depStep at h1
  rw [if_neg (by omega), if_pos e] at h1
  split at h1
  · cases h1
  · rename_i m hm
    injection h1 with h1
    omega
theorem Ok.other {d : List Pc} (h : Ok d) {k : Nat} (hk : k < d.length) (e : d[k].kind ≠ 5) (e2 : d[k].kind ≠ 6) : depAt d (k + 1) = depAt d k := by
  have h1 := h.depthNext hk
  unfold depStep at h1
  rw [if_neg e, if_neg e2] at h1
  injection h1 with h1
  exact h1.symm
theorem lenF_le {p : Pc} (h : POk p) : lenF p ≤ 8 := by
  unfold lenF
  split
  · omega
  · exact h.2.2.1
theorem tailF_le : ∀ (d : List Pc), (∀ p ∈ d, POk p) → tailF d ≤ 8 * d.length
  | [], _ => by simp [tailF]
  | p :: r, h => by
    rw [tailF, List.length_cons]
    split
    · omega
    · have h1 := (h p (by simp)).2.2.1
      have h2 := tailF_le r fun q hq => h q (by simp [hq])
      omega
/-- what holds while groups are measured -/
structure MsOk (d : List Pc) (k : Nat) (m : Ms) : Prop where
  stack : m.stack.length = depAt d k
  width : m.width ≤ 8 * k
  hards : m.hards ≤ k
  each : ∀ s ∈ m.stack, s.at_ < k ∧ s.width ≤ m.width ∧ s.hards ≤ m.hards
  out : ∀ p ∈ m.out, p.1 < k ∧ p.2.width ≤ 8 * k ∧ p.2.tail ≤ 800
theorem lastS_mem {l : List Sg} (h : 0 < l.length) : lastS l ∈ l := by
  unfold lastS
  have : l ≠ [] := by intro e; rw [e] at h; simp at h
  rw [List.getLast?_eq_some_getLast this]
  exact List.getLast_mem this
theorem lastG_mem {l : List Grp} (h : 0 < l.length) : lastG l ∈ l := by
  unfold lastG
  have : l ≠ [] := by intro e; rw [e] at h; simp at h
  rw [List.getLast?_eq_some_getLast this]
  exact List.getLast_mem this
theorem ms_ok {d : List Pc} (h : Ok d) : ∀ (k : Nat), k ≤ d.length → MsOk d k (msAt d k)
  | 0, _ => ⟨rfl, by simp [msAt], by simp [msAt], fun s hs => by simp [msAt] at hs, fun p hp => by simp [msAt] at hp⟩
  | k + 1, hk => by
    have i := ms_ok h k (by omega)
    have hk' : k < d.length := by omega
    have hp := h.pc _ (List.getElem_mem hk')
    have hl := lenF_le hp
    rw [msAt_next hk']
    generalize msAt d k = m at i
    unfold msF
    have he : ∀ s ∈ m.stack, s.at_ < k + 1 ∧ s.width ≤ m.width + lenF d[k] ∧ s.hards ≤ m.hards := fun s hs => by
      obtain ⟨a, b, c⟩ := i.each s hs
      exact ⟨by omega, by omega, c⟩
    have ho : ∀ p ∈ m.out, p.1 < k + 1 ∧ p.2.width ≤ 8 * (k + 1) ∧ p.2.tail ≤ 800 := fun p hp => by
      obtain ⟨a, b, c⟩ := i.out p hp
      exact ⟨by omega, by omega, c⟩
    have hw : m.width + lenF d[k] ≤ 8 * (k + 1) := by have := i.width; omega
    have hh := i.hards
    split
    · rename_i e
      refine ⟨by simp [i.stack, h.open_ hk' e], hw, by simp only; omega, fun s hs => ?_, ho⟩
      rcases List.mem_append.1 hs with hs | hs
      · exact he s hs
      · simp at hs
        subst hs
        exact ⟨by simp, by simp, Nat.le_refl _⟩
    · split
      · rename_i e5 e
        have hc := h.close hk' e
        have hm := lastS_mem (l := m.stack) (by rw [i.stack]; omega)
        refine ⟨by simp [i.stack, hc], hw, by simp only; omega, fun s hs => he s (List.dropLast_subset _ hs), fun p hp => ?_⟩
        rcases mem_put hp with rfl | hp
        · have h1 := i.each _ hm
          have h2 := i.width
          refine ⟨by simp only; omega, by simp only; omega, ?_⟩
          have h3 := tailF_le (d.drop (k + 1)) fun q hq => h.pc q (List.mem_of_mem_drop hq)
          have h4 := h.len
          simp only [List.length_drop] at h3
          simp only
          omega
        · exact ho p hp
      · split
        · rename_i e5 e6 e
          exact ⟨by rw [h.other hk' e5 e6]; exact i.stack, hw, by simp only; omega, fun s hs => by have := he s hs; exact ⟨this.1, this.2.1, by simp only; omega⟩, ho⟩
        · rename_i e5 e6 e
          exact ⟨by rw [h.other hk' e5 e6]; exact i.stack, hw, by simp only; omega, he, ho⟩
/-- what holds while a document is laid -/
structure LsOk (d : List Pc) (k : Nat) (l : Ls) : Prop where
  stack : l.stack.length = depAt d k + 1
  col : l.col ≤ 11 * k
  each : ∀ g ∈ l.stack, g.indent ≤ 3 * k ∧ g.width ≤ 800 ∧ g.tail ≤ 800
  out : l.out.length ≤ 301 * k
theorem ls_ok {d : List Pc} (h : Ok d) {G : List (Nat × Grp)} {width : Nat} (hG : ∀ p ∈ G, p.2.width ≤ 800 ∧ p.2.tail ≤ 800) : ∀ (k : Nat), k ≤ d.length → LsOk d k (lsAt G width d k)
  | 0, _ => ⟨rfl, by simp [lsAt], fun g hg => by
      have : g = topG := by simpa [lsAt] using hg
      subst this; exact ⟨by simp [topG], by simp [topG], by simp [topG]⟩, by simp [lsAt]⟩
  | k + 1, hk => by
    have i := ls_ok h hG (width := width) k (by omega)
    have hk' : k < d.length := by omega
    have hp := h.pc _ (List.getElem_mem hk')
    have hd := h.len
    rw [lsAt_next hk']
    generalize lsAt G width d k = l at i
    unfold lsF
    have hm := i.each _ (lastG_mem (l := l.stack) (by rw [i.stack]; omega))
    have he : ∀ g ∈ l.stack, g.indent ≤ 3 * (k + 1) ∧ g.width ≤ 800 ∧ g.tail ≤ 800 := fun g hg => by
      obtain ⟨a, b⟩ := i.each g hg
      exact ⟨by omega, b⟩
    have hc := i.col
    have ho := i.out
    split
    · rename_i e
      refine ⟨by simp [i.stack, h.open_ hk' e], by simp only; omega, fun g hg => ?_, by simp only; omega⟩
      rcases List.mem_append.1 hg with hg | hg
      · exact he g hg
      · simp at hg
        subst hg
        have hz : ((mget G k).getD zeroG).width ≤ 800 ∧ ((mget G k).getD zeroG).tail ≤ 800 := by
          cases hg : mget G k with
          | none => exact ⟨by simp [zeroG], by simp [zeroG]⟩
          | some g => exact hG _ (mget_mem hg)
        exact ⟨by simp only [openG]; have := hp.2.1; omega, hz.1, hz.2⟩
    · split
      · rename_i e5 e
        have hc' := h.close hk' e
        exact ⟨by simp [i.stack, hc'], by simp only; omega, fun g hg => he g (List.dropLast_subset _ hg), by simp only; omega⟩
      · rename_i e5 e6
        have hs : l.stack.length = depAt d (k + 1) + 1 := by rw [h.other hk' e5 e6]; exact i.stack
        split
        · exact ⟨hs, by simp only; omega, he, by simp; omega⟩
        · split
          · exact ⟨hs, by simp only; omega, he, by simp; omega⟩
          · exact ⟨hs, by simp only; have := hp.2.2.1; omega, he, by simp; have := hp.2.2.1; omega⟩

/-! ### the texts stand there -/
def bareF (s : List UInt8) : List UInt8 := s.filter fun b => !(b == 32 || b == 10)
def textsF (d : List Pc) : List UInt8 := (d.map (·.s)).flatten
theorem bare_app (a b : List UInt8) : bareF (a ++ b) = bareF a ++ bareF b := by simp [bareF]
theorem bare_text {p : Pc} (h : POk p) : bareF p.s = p.s := by
  unfold bareF
  rw [List.filter_eq_self]
  intro b hb
  have h1 := h.2.2.2.2.2 b hb
  have n1 : b ≠ 32 := fun e => by rw [e] at h1; simp at h1
  have n2 : b ≠ 10 := fun e => by rw [e] at h1; simp at h1
  simp [n1, n2]
theorem bare_spaces (k : Nat) : bareF (10 :: List.replicate k 32) = [] := by
  unfold bareF
  rw [List.filter_eq_nil_iff]
  intro b hb
  rcases List.mem_cons.1 hb with rfl | hb
  · simp
  · rw [(List.mem_replicate.1 hb).2]; simp
theorem words_at {d : List Pc} (h : Ok d) (G : List (Nat × Grp)) (width : Nat) : ∀ (k : Nat), k ≤ d.length → bareF (lsAt G width d k).out = textsF (d.take k)
  | 0, _ => rfl
  | k + 1, hk => by
    have hk' : k < d.length := by omega
    have i := words_at h G width k (by omega)
    have hp := h.pc _ (List.getElem_mem hk')
    have e1 : textsF (d.take (k + 1)) = textsF (d.take k) ++ d[k].s := by
      rw [List.take_succ_eq_append_getElem hk']
      unfold textsF
      rw [List.map_append, List.flatten_append]
      simp only [List.map_cons, List.map_nil, List.flatten_cons, List.flatten_nil, List.append_nil]
    rw [lsAt_next hk', e1, ← i]
    generalize lsAt G width d k = l at i
    have hn : d[k].kind ≠ 1 → d[k].s = [] := hp.2.2.2.1
    unfold lsF
    split
    · rename_i e; rw [hn (by omega)]; simp
    · split
      · rename_i e; rw [hn (by omega)]; simp
      · split
        · rename_i e
          rw [hn (by rcases e with e | e <;> omega), bare_app, bare_spaces]
        · split
          · rename_i e
            rw [hn (by omega), bare_app]
            rfl
          · rw [bare_app, bare_text hp]
/-- LayoutWords' law -/
theorem words {d : List Pc} (h : Ok d) (width : Nat) : bareF (layF d width) = textsF d := by
  have := words_at h (msAt d d.length).out width d.length (Nat.le_refl _)
  rw [List.take_length] at this
  exact this

/-! ### pieces of raw numbers -/
def rst (n many : Int) : Nat := (if n < 0 then (-(n + 1)) % many else n % many).toNat
theorem rst_lt (n : Int) (m : Nat) (h : 0 < m) : rst n m < m := by
  unfold rst
  split
  · have := Int.emod_nonneg (-(n + 1)) (show (m : Int) ≠ 0 by omega)
    have := Int.emod_lt_of_pos (-(n + 1)) (show (0 : Int) < m by omega)
    omega
  · have := Int.emod_nonneg n (show (m : Int) ≠ 0 by omega)
    have := Int.emod_lt_of_pos n (show (0 : Int) < m by omega)
    omega
def closeP : Pc := ⟨6, 0, []⟩
def textP (n : Int) : Pc := ⟨1, 0, List.replicate (1 + rst (n.tdiv 9) 8) (UInt8.ofNat (97 + rst n 9))⟩
def pieceF (n : Int) (deep : Nat) : List Pc × Nat :=
  if rst n 9 < 3 then ([textP n], deep)
  else if rst n 9 < 5 then ([⟨2, 0, []⟩], deep)
  else if rst n 9 = 5 then ([⟨3, 0, []⟩], deep)
  else if rst n 9 = 6 then ([⟨5, rst (n.tdiv 9) 4, []⟩], deep + 1)
  else if rst n 9 = 7 ∧ 0 < deep then ([closeP], deep - 1)
  else if rst n 9 = 8 ∧ n.tmod 5 = 0 then ([⟨4, 0, []⟩], deep)
  else ([], deep)
def pcsAt (l : List Int) : Nat → List Pc × Nat
  | 0 => ([], 0)
  | k + 1 => match l[k]? with
    | some n => ((pcsAt l k).1 ++ (pieceF n (pcsAt l k).2).1, (pieceF n (pcsAt l k).2).2)
    | none => pcsAt l k
theorem pcsAt_next {l : List Int} {k : Nat} (h : k < l.length) : pcsAt l (k + 1) = ((pcsAt l k).1 ++ (pieceF l[k] (pcsAt l k).2).1, (pieceF l[k] (pcsAt l k).2).2) := by
  rw [pcsAt, List.getElem?_eq_getElem h]
def piecesF (l : List Int) : List Pc := (pcsAt l (min 40 l.length)).1 ++ List.replicate (pcsAt l (min 40 l.length)).2 closeP
theorem closeP_ok : POk closeP := ⟨by decide, by decide, by decide, fun _ => rfl, fun _ => rfl, fun b hb => by simp [closeP] at hb⟩
theorem piece_ok (n : Int) (deep : Nat) : (∀ p ∈ (pieceF n deep).1, POk p) ∧ (pieceF n deep).1.length ≤ 1 ∧ (pieceF n deep).2 ≤ deep + 1 ∧ dep deep (pieceF n deep).1 = some (pieceF n deep).2 := by
  have h9 : rst n 9 < 9 := rst_lt n 9 (by omega)
  have h8 : rst (n.tdiv 9) 8 < 8 := rst_lt (n.tdiv 9) 8 (by omega)
  have h4 : rst (n.tdiv 9) 4 < 4 := rst_lt (n.tdiv 9) 4 (by omega)
  unfold pieceF
  split
  · rename_i h3
    refine ⟨fun p hp => ?_, by simp, by simp, by simp [dep, depStep, textP]⟩
    simp only [List.mem_singleton] at hp
    subst hp
    refine ⟨⟨by simp [textP], by simp [textP]⟩, by simp [textP], by simp [textP]; omega, fun e => absurd rfl e, fun _ => rfl, fun b hb => ?_⟩
    have := (List.mem_replicate.1 hb).2
    subst this
    simp only [UInt8.toNat_ofNat']
    omega
  · split
    · exact ⟨fun p hp => by simp at hp; subst hp; exact ⟨by decide, by decide, by decide, fun _ => rfl, fun _ => rfl, fun b hb => by simp at hb⟩, by simp, by simp, by simp [dep, depStep]⟩
    · split
      · exact ⟨fun p hp => by simp at hp; subst hp; exact ⟨by decide, by decide, by decide, fun _ => rfl, fun _ => rfl, fun b hb => by simp at hb⟩, by simp, by simp, by simp [dep, depStep]⟩
      · split
        · refine ⟨fun p hp => ?_, by simp, by simp, by simp [dep, depStep]⟩
          simp at hp
          subst hp
          exact ⟨⟨by simp, by simp⟩, by simp only; omega, by simp, fun _ => rfl, fun e => absurd rfl e, fun b hb => by simp at hb⟩
        · split
          · rename_i hd
            refine ⟨fun p hp => by simp at hp; subst hp; exact closeP_ok, by simp, by simp only; omega, ?_⟩
            obtain ⟨m, rfl⟩ : ∃ m, deep = m + 1 := ⟨deep - 1, by omega⟩
            simp [dep, depStep, closeP]
          · split
            · exact ⟨fun p hp => by simp at hp; subst hp; exact ⟨by decide, by decide, by decide, fun _ => rfl, fun _ => rfl, fun b hb => by simp at hb⟩, by simp, by simp, by simp [dep, depStep]⟩
            · exact ⟨fun p hp => by simp at hp, by simp, by simp, rfl⟩
theorem pcs_ok (l : List Int) : ∀ (k : Nat), k ≤ l.length → (∀ p ∈ (pcsAt l k).1, POk p) ∧ (pcsAt l k).1.length ≤ k ∧ (pcsAt l k).2 ≤ k ∧ dep 0 (pcsAt l k).1 = some (pcsAt l k).2
  | 0, _ => ⟨fun p hp => by simp [pcsAt] at hp, by simp [pcsAt], by simp [pcsAt], rfl⟩
  | k + 1, hk => by
    obtain ⟨h1, h2, h3, h4⟩ := pcs_ok l k (by omega)
    have hk' : k < l.length := by omega
    rw [pcsAt_next hk']
    obtain ⟨g1, g2, g3, g4⟩ := piece_ok l[k] (pcsAt l k).2
    refine ⟨fun p hp => ?_, by simp only [List.length_append]; omega, by simp only; omega, ?_⟩
    · rcases List.mem_append.1 hp with hp | hp
      · exact h1 p hp
      · exact g1 p hp
    · simp only
      rw [dep_app, h4]
      exact g4
theorem dep_closes : ∀ (m : Nat), dep m (List.replicate m closeP) = some 0
  | 0 => rfl
  | m + 1 => by
    rw [List.replicate_succ]
    exact dep_closes m
theorem pieces_ok (l : List Int) : Ok (piecesF l) ∧ (piecesF l).length ≤ 80 := by
  obtain ⟨h1, h2, h3, h4⟩ := pcs_ok l (min 40 l.length) (by omega)
  have hl : (piecesF l).length ≤ 80 := by
    unfold piecesF
    rw [List.length_append, List.length_replicate]
    omega
  refine ⟨⟨by omega, fun p hp => ?_, ?_⟩, hl⟩
  · rcases List.mem_append.1 hp with hp | hp
    · exact h1 p hp
    · rw [(List.mem_replicate.1 hp).2]
      exact closeP_ok
  · unfold piecesF
    rw [dep_app, h4]
    exact dep_closes _
end Go.Ly
