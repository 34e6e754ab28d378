/- Plain laws of a shelf of pieces: putting, keeping, freeing; what it holds. No program in sight. -/
import Derived.Test.YteojmmjanjilaaaPart3
import Derived.Test.YteojmmjanjilaaaMap
set_option linter.unusedVariables false
namespace Go.Chunk
open Go.Mem
abbrev Bs := List UInt8
structure Shf where
  ps : List (Nat × (Bs × Nat))
  ns : List (Bs × Nat)

theorem sub_len : ∀ (a b : List Nat), a.Nodup → (∀ x ∈ a, x ∈ b) → a.length ≤ b.length
  | [], b, _, _ => Nat.zero_le _
  | x :: r, b, hn, h => by
    rw [List.nodup_cons] at hn
    have hx : x ∈ b := h x (by simp)
    have h2 := sub_len r (b.erase x) hn.2 fun y hy => by
      have : y ≠ x := fun e => hn.1 (e ▸ hy)
      exact (List.mem_erase_of_ne this).2 (h y (by simp [hy]))
    rw [List.length_erase_of_mem hx] at h2
    have : 0 < b.length := List.length_pos_of_mem hx
    simp
    omega
theorem mget_isSome_mem {α β : Type} [DecidableEq α] {l : List (α × β)} {a : α} {v : β} (h : mget l a = some v) : a ∈ l.map (·.1) := List.mem_map.2 ⟨_, mget_mem h, rfl⟩
/-- numbers from 1 to n - 1 that are all in use -/
theorem used_le_len (ps : List (Nat × (Bs × Nat))) (n : Nat) (h : ∀ i, 1 ≤ i → i < n → (mget ps i).isSome) : n ≤ ps.length + 1 := by
  have := sub_len ((List.range (n - 1)).map (· + 1)) (ps.map (·.1)) (by
    rw [List.nodup_iff_pairwise_ne, List.pairwise_map]
    exact List.nodup_range.imp (fun h => by omega)) (fun x hx => by
    obtain ⟨i, hi, rfl⟩ := List.mem_map.1 hx
    have := List.mem_range.1 hi
    obtain ⟨v, hv⟩ := Option.isSome_iff_exists.1 (h (i + 1) (by omega) (by omega))
    exact mget_isSome_mem hv)
  simp at this
  omega

/-- the shelf holds H -/
structure Shf.Ok (s : Shf) (H : Bs → Nat) : Prop where
  kp : (s.ps.map (·.1)).Nodup
  kn : (s.ns.map (·.1)).Nodup
  num : ∀ b n, mget s.ns b = some n → 0 < n ∧ ∃ h, mget s.ps n = some (b, h)
  pc : ∀ n b h, mget s.ps n = some (b, h) → mget s.ns b = some n ∧ h = H b ∧ 0 < h
  hold : ∀ b, 0 < H b → ∃ n, mget s.ns b = some n
/-- a reference to b, with number n -/
structure PutRel (s : Shf) (b : Bs) (n : Nat) (s' : Shf) : Prop where
  ps : s'.ps = mput s.ps n (b, ((mget s.ps n).map (·.2)).getD 0 + 1)
  ns : s'.ns = mput s.ns b n
  at_ : mget s.ns b = some n ∨ (mget s.ns b = none ∧ mget s.ps n = none ∧ 0 < n)
def plus (H : Bs → Nat) (b : Bs) : Bs → Nat := fun x => if x = b then H x + 1 else H x
theorem nodup_put {α β : Type} [DecidableEq α] (l : List (α × β)) (a : α) (v : β) (h : (l.map (·.1)).Nodup) : ((mput l a v).map (·.1)).Nodup := by
  unfold mput
  split
  · have : (l.map fun p => if p.1 = a then (a, v) else p).map (·.1) = l.map (·.1) := by
      rw [List.map_map]
      apply List.map_congr_left
      intro p _
      simp only [Function.comp_apply]
      split
      · rename_i e; exact e.symm
      · rfl
    rw [this]
    exact h
  · rename_i hn
    rw [List.map_append]
    refine List.nodup_append.2 ⟨h, by simp, ?_⟩
    intro x hx y hy
    obtain rfl : y = a := by simpa using hy
    obtain ⟨p, hp, rfl⟩ := List.mem_map.1 hx
    have h0 : mget l y = none := by simpa using hn
    simpa using mget_none.1 h0 p hp
theorem nodup_del {α β : Type} [DecidableEq α] (l : List (α × β)) (a : α) (h : (l.map (·.1)).Nodup) : ((mdel l a).map (·.1)).Nodup := by
  unfold mdel
  exact (List.filter_sublist.map _).nodup h
theorem len_put {α β : Type} [DecidableEq α] (l : List (α × β)) (a : α) (v : β) : (mput l a v).length = if (mget l a).isSome then l.length else l.length + 1 := by
  unfold mput
  split <;> simp
theorem Shf.Ok.put {s s' : Shf} {H : Bs → Nat} {b : Bs} {n : Nat} (h : s.Ok H) (r : PutRel s b n s') : s'.Ok (plus H b) ∧ mget s'.ns b = some n ∧ (∀ c k, mget s.ns c = some k → mget s'.ns c = some k) ∧ s'.ps.length ≤ s.ps.length + 1 ∧
    ((mget s.ns b).isSome → s'.ps.length = s.ps.length ∧ s'.ps.map (fun p => (p.1, p.2.1)) = s.ps.map fun p => (p.1, p.2.1)) := by
  obtain ⟨r1, r2, r3⟩ := r
  have hb : ∀ c k, mget s'.ns c = some k ↔ (c = b ∧ k = n) ∨ (c ≠ b ∧ mget s.ns c = some k) := by
    intro c k
    rw [r2, mget_put]
    by_cases e : c = b
    · simp [e, eq_comm]
    · simp [e]
  have hp : ∀ k c x, mget s'.ps k = some (c, x) ↔ (k = n ∧ c = b ∧ x = ((mget s.ps n).map (·.2)).getD 0 + 1) ∨ (k ≠ n ∧ mget s.ps k = some (c, x)) := by
    intro k c x
    rw [r1, mget_put]
    by_cases e : k = n
    · simp [e, eq_comm]
    · simp [e]
  -- the holds of n
  have hx : ((mget s.ps n).map (·.2)).getD 0 = H b := by
    rcases r3 with r3 | ⟨r3, r4, _⟩
    · obtain ⟨_, x, hx⟩ := h.num b n r3
      rw [hx]
      exact (h.pc n b x hx).2.1
    · rw [r4]
      rcases Nat.eq_zero_or_pos (H b) with h0 | h0
      · simp [h0]
      · obtain ⟨k, hk⟩ := h.hold b h0
        rw [r3] at hk
        cases hk
  rw [hx] at hp
  have hother : ∀ k c x, k ≠ n → mget s.ps k = some (c, x) → c ≠ b := by
    rintro k c x hk hkc rfl
    have h1 := (h.pc k c x hkc).1
    rcases r3 with r3 | ⟨r3, _⟩
    · rw [h1] at r3; injection r3 with e; exact hk e
    · rw [h1] at r3; cases r3
  have hn0 : 0 < n := by
    rcases r3 with r3 | ⟨_, _, r3⟩
    · exact (h.num b n r3).1
    · exact r3
  refine ⟨⟨?_, ?_, ?_, ?_, ?_⟩, (hb b n).2 (.inl ⟨rfl, rfl⟩), ?_, ?_, ?_⟩
  · rw [r1]; exact nodup_put _ _ _ h.kp
  · rw [r2]; exact nodup_put _ _ _ h.kn
  · intro c k hck
    rcases (hb c k).1 hck with ⟨rfl, rfl⟩ | ⟨hc, hck⟩
    · exact ⟨hn0, _, (hp k c _).2 (.inl ⟨rfl, rfl, rfl⟩)⟩
    · obtain ⟨h1, x, h2⟩ := h.num c k hck
      refine ⟨h1, x, (hp k c x).2 (.inr ⟨?_, h2⟩)⟩
      rintro rfl
      rcases r3 with r3 | ⟨_, r4, _⟩
      · obtain ⟨_, y, h3⟩ := h.num b k r3
        rw [h2] at h3
        injection h3 with h3
        injection h3 with h3 _
        exact hc h3
      · rw [r4] at h2; cases h2
  · intro k c x hk
    rcases (hp k c x).1 hk with ⟨rfl, rfl, rfl⟩ | ⟨hk, h2⟩
    · exact ⟨(hb c k).2 (.inl ⟨rfl, rfl⟩), by simp [plus], by omega⟩
    · have hcb := hother k c x hk h2
      obtain ⟨h3, h4, h5⟩ := h.pc k c x h2
      exact ⟨(hb c k).2 (.inr ⟨hcb, h3⟩), by simp [plus, hcb, h4], h5⟩
  · intro c hc
    by_cases e : c = b
    · subst e; exact ⟨n, (hb c n).2 (.inl ⟨rfl, rfl⟩)⟩
    · have : 0 < H c := by simpa [plus, e] using hc
      obtain ⟨k, hk⟩ := h.hold c this
      exact ⟨k, (hb c k).2 (.inr ⟨e, hk⟩)⟩
  · intro c k hck
    by_cases e : c = b
    · subst e
      rcases r3 with r3 | ⟨r3, _⟩
      · rw [hck] at r3; injection r3 with r3; exact (hb c k).2 (.inl ⟨rfl, r3⟩)
      · rw [hck] at r3; cases r3
    · exact (hb c k).2 (.inr ⟨e, hck⟩)
  · rw [r1, len_put]
    split <;> omega
  · intro hs
    rcases r3 with r3 | ⟨r3, _⟩
    · obtain ⟨_, x, hx⟩ := h.num b n r3
      rw [r1]
      refine ⟨by rw [len_put, hx]; simp, ?_⟩
      unfold mput
      rw [if_pos (by rw [hx]; rfl), List.map_map]
      apply List.map_congr_left
      intro p hp
      simp only [Function.comp_apply]
      split
      · rename_i e
        have : mget s.ps p.1 = some p.2 := mget_at h.kp hp
        rw [e, hx] at this
        injection this with this
        rw [e, ← this]
      · rfl
    · rw [r3] at hs; cases hs

/-- pieces are kept, one behind the other -/
inductive KeepRel : Shf → List Bs → List Nat → Shf → Prop
  | nil (s : Shf) : KeepRel s [] [] s
  | snoc {s s1 s2 : Shf} {l : List Bs} {out : List Nat} {p : Bs} {n : Nat} : KeepRel s l out s1 → PutRel s1 p n s2 → KeepRel s (l ++ [p]) (out ++ [n]) s2
def pluss (H : Bs → Nat) (l : List Bs) : Bs → Nat := fun x => H x + l.count x
theorem pluss_snoc (H : Bs → Nat) (l : List Bs) (p : Bs) : plus (pluss H l) p = pluss H (l ++ [p]) := by
  funext x
  unfold plus pluss
  rw [List.count_append, List.count_singleton]
  by_cases e : x = p
  · subst e; simp; omega
  · have : ¬ (p == x) = true := by simp; exact fun h => e h.symm
    simp [e, this]
/-- the numbers of pieces -/
def Nums (s : Shf) (l : List Bs) (out : List Nat) : Prop := All2 (fun b n => mget s.ns b = some n) l out
theorem KeepRel.ok {s s' : Shf} {l : List Bs} {out : List Nat} {H : Bs → Nat} (r : KeepRel s l out s') (h : s.Ok H) :
    s'.Ok (pluss H l) ∧ Nums s' l out ∧ (∀ c k, mget s.ns c = some k → mget s'.ns c = some k) ∧ s'.ps.length ≤ s.ps.length + l.length ∧
      ((∀ b ∈ l, (mget s.ns b).isSome) → s'.ps.length = s.ps.length ∧ s'.ps.map (fun p => (p.1, p.2.1)) = s.ps.map fun p => (p.1, p.2.1)) := by
  induction r with
  | nil => exact ⟨by have : pluss H [] = H := by { funext x; simp [pluss] }; rw [this]; exact h, All2.nil, fun _ _ h => h, by simp, fun _ => ⟨rfl, rfl⟩⟩
  | snoc r p ih =>
    obtain ⟨h1, h2, h3, h4, h5⟩ := ih
    obtain ⟨k1, k2, k3, k4, k5⟩ := h1.put p
    rw [pluss_snoc] at k1
    refine ⟨k1, (h2.imp fun x y hxy => k3 x y hxy).snoc k2, fun c k hc => k3 _ _ (h3 _ _ hc), by simp; omega, fun hs => ?_⟩
    obtain ⟨e1, e2⟩ := h5 fun b hb => hs b (by simp [hb])
    have hp := hs _ (List.mem_append_right _ (List.mem_singleton.2 rfl))
    obtain ⟨k, hk⟩ := Option.isSome_iff_exists.1 hp
    obtain ⟨e3, e4⟩ := k5 (by rw [h3 _ _ hk]; rfl)
    exact ⟨e3.trans e1, e4.trans e2⟩
/-- what Load gives -/
theorem Shf.Ok.bytes {s : Shf} {H : Bs → Nat} (h : s.Ok H) {b : Bs} {n : Nat} (hn : mget s.ns b = some n) : ∃ x, mget s.ps n = some (b, x) ∧ x = H b ∧ 0 < x := by
  obtain ⟨_, x, hx⟩ := h.num b n hn
  exact ⟨x, hx, (h.pc n b x hx).2⟩

/-- a reference is taken away -/
def dropF (s : Shf) (n : Nat) : Shf := match mget s.ps n with
  | none => s
  | some (b, h) => if 1 < h then ⟨mput s.ps n (b, h - 1), s.ns⟩ else ⟨mdel s.ps n, mdel s.ns b⟩
def minus (H : Bs → Nat) (b : Bs) : Bs → Nat := fun x => if x = b then H x - 1 else H x
theorem Shf.Ok.drop {s : Shf} {H : Bs → Nat} (h : s.Ok H) {b : Bs} {n : Nat} (hn : mget s.ns b = some n) :
    (dropF s n).Ok (minus H b) ∧ (∀ c k, mget s.ns c = some k → 0 < minus H b c → mget (dropF s n).ns c = some k) ∧ (dropF s n).ps.length ≤ s.ps.length := by
  obtain ⟨x, hx, hxH, hx0⟩ := h.bytes hn
  unfold dropF
  rw [hx]
  simp only
  have hother : ∀ k c y, k ≠ n → mget s.ps k = some (c, y) → c ≠ b := by
    rintro k c y hk hkc rfl
    have h1 := (h.pc k c y hkc).1
    rw [hn] at h1
    injection h1 with e
    exact hk e.symm
  by_cases h1 : 1 < x
  · rw [if_pos h1]
    have hp : ∀ k c y, mget (mput s.ps n (b, x - 1)) k = some (c, y) ↔ (k = n ∧ c = b ∧ y = x - 1) ∨ (k ≠ n ∧ mget s.ps k = some (c, y)) := by
      intro k c y
      rw [mget_put]
      by_cases e : k = n
      · simp [e, eq_comm]
      · simp [e]
    refine ⟨⟨nodup_put _ _ _ h.kp, h.kn, fun c k hck => ?_, fun k c y hk => ?_, fun c hc => ?_⟩, fun c k hck _ => hck, by rw [len_put, hx]; simp⟩
    · obtain ⟨h2, y, h3⟩ := h.num c k hck
      by_cases e : k = n
      · subst e
        rw [hx] at h3
        injection h3 with h3
        injection h3 with h3 _
        exact ⟨h2, x - 1, (hp k c _).2 (.inl ⟨rfl, h3.symm, rfl⟩)⟩
      · exact ⟨h2, y, (hp k c y).2 (.inr ⟨e, h3⟩)⟩
    · rcases (hp k c y).1 hk with ⟨rfl, rfl, rfl⟩ | ⟨hk, h2⟩
      · exact ⟨hn, by simp [minus, hxH], by omega⟩
      · obtain ⟨h3, h4, h5⟩ := h.pc k c y h2
        exact ⟨h3, by simp [minus, hother k c y hk h2, h4], h5⟩
    · by_cases e : c = b
      · subst e; exact ⟨n, hn⟩
      · exact h.hold c (by simpa [minus, e] using hc)
  · rw [if_neg h1]
    have hx1 : x = 1 := by omega
    have hp : ∀ k c y, mget (mdel s.ps n) k = some (c, y) ↔ k ≠ n ∧ mget s.ps k = some (c, y) := by
      intro k c y
      rw [mget_del]
      by_cases e : k = n <;> simp [e]
    have hb : ∀ c k, mget (mdel s.ns b) c = some k ↔ c ≠ b ∧ mget s.ns c = some k := by
      intro c k
      rw [mget_del]
      by_cases e : c = b <;> simp [e]
    refine ⟨⟨nodup_del _ _ h.kp, nodup_del _ _ h.kn, fun c k hck => ?_, fun k c y hk => ?_, fun c hc => ?_⟩, fun c k hck hc => ?_, List.length_filter_le _ _⟩
    · obtain ⟨hc, hck⟩ := (hb c k).1 hck
      obtain ⟨h2, y, h3⟩ := h.num c k hck
      refine ⟨h2, y, (hp k c y).2 ⟨?_, h3⟩⟩
      rintro rfl
      rw [hx] at h3
      injection h3 with h3
      injection h3 with h3 _
      exact hc h3.symm
    · obtain ⟨hk, h2⟩ := (hp k c y).1 hk
      obtain ⟨h3, h4, h5⟩ := h.pc k c y h2
      have hcb := hother k c y hk h2
      exact ⟨(hb c k).2 ⟨hcb, h3⟩, by simp [minus, hcb, h4], h5⟩
    · by_cases e : c = b
      · subst e
        simp [minus] at hc
        omega
      · obtain ⟨k, hk⟩ := h.hold c (by simpa [minus, e] using hc)
        exact ⟨k, (hb c k).2 ⟨e, hk⟩⟩
    · refine (hb c k).2 ⟨?_, hck⟩
      rintro rfl
      simp [minus] at hc
      omega
/-- references are taken away -/
def freeL (s : Shf) (l : List Nat) : Shf := l.foldl dropF s
def minuss (H : Bs → Nat) (l : List Bs) : Bs → Nat := fun x => H x - l.count x
theorem Shf.Ok.freeL : ∀ {l : List Bs} {out : List Nat} {s : Shf} {H : Bs → Nat}, s.Ok H → Nums s l out → (∀ b, l.count b ≤ H b) →
    (Chunk.freeL s out).Ok (minuss H l) ∧ (∀ c k, mget s.ns c = some k → 0 < minuss H l c → mget (Chunk.freeL s out).ns c = some k)
  | [], [], s, H, h, _, _ => ⟨by have : minuss H [] = H := by { funext x; simp [minuss] }; rw [this]; exact h, fun _ _ h _ => h⟩
  | [], _ :: _, s, H, h, hn, _ => by have := hn.1; simp at this
  | _ :: _, [], s, H, h, hn, _ => by have := hn.1; simp at this
  | b :: l, n :: out, s, H, h, hn, hc => by
    have hb : mget s.ns b = some n := hn.2 0 b n rfl rfl
    obtain ⟨h1, h2, _⟩ := h.drop hb
    have hcb : ∀ x, l.count x ≤ minus H b x := by
      intro x
      have := hc x
      rw [List.count_cons] at this
      unfold minus
      by_cases e : x = b
      · subst e; simp at this; simp; omega
      · have e2 : ¬ (b == x) = true := by simp; exact fun h => e h.symm
        simp [e2] at this
        simp [e, this]
    have hn2 : Nums (dropF s n) l out := by
      refine ⟨by have := hn.1; simp at this; exact this, fun i x k hx hk => ?_⟩
      have hm : mget s.ns x = some k := hn.2 (i + 1) x k (by simpa using hx) (by simpa using hk)
      refine h2 x k hm ?_
      have : 0 < l.count x := List.count_pos_iff.2 (List.mem_of_getElem? hx)
      have := hcb x
      omega
    obtain ⟨h3, h4⟩ := Shf.Ok.freeL (l := l) (out := out) h1 hn2 hcb
    have em : minuss (minus H b) l = minuss H (b :: l) := by
      funext x
      unfold minuss minus
      rw [List.count_cons]
      by_cases e : x = b
      · subst e; simp; omega
      · have e2 : ¬ (b == x) = true := by simp; exact fun h => e h.symm
        simp [e, e2]
    rw [em] at h3 h4
    refine ⟨h3, fun c k hck h0 => ?_⟩
    refine h4 c k (h2 c k hck ?_) h0
    have : minuss H (b :: l) c ≤ minus H b c := by rw [← em]; unfold minuss; omega
    omega
theorem Shf.Ok.empty {s : Shf} {H : Bs → Nat} (h : s.Ok H) (h0 : ∀ b, H b = 0) : s.ps = [] := by
  cases hp : s.ps with
  | nil => rfl
  | cons p r =>
    have : mget s.ps p.1 = some (p.2.1, p.2.2) := mget_at h.kp (by rw [hp]; simp)
    have h2 := h.pc _ _ _ this
    rw [h0] at h2
    omega
/-- how often a number occurs -/
theorem nums_count {s : Shf} {H : Bs → Nat} (h : s.Ok H) : ∀ {l : List Bs} {out : List Nat}, Nums s l out → ∀ b n, mget s.ns b = some n → out.count n = l.count b
  | [], [], _, _, _, _ => rfl
  | [], _ :: _, hn, _, _, _ => by have := hn.1; simp at this
  | _ :: _, [], hn, _, _, _ => by have := hn.1; simp at this
  | x :: l, k :: out, hn, b, n, hb => by
    have hx : mget s.ns x = some k := hn.2 0 x k rfl rfl
    have hn2 : Nums s l out := ⟨by have := hn.1; simp at this; exact this, fun i y j hy hj => hn.2 (i + 1) y j (by simpa using hy) (by simpa using hj)⟩
    rw [List.count_cons, List.count_cons, nums_count h hn2 b n hb]
    congr 1
    by_cases e : x = b
    · subst e
      rw [hx] at hb
      injection hb with hb
      simp [hb]
    · have : k ≠ n := by
        rintro rfl
        obtain ⟨_, y, h1⟩ := h.num x k hx
        obtain ⟨_, z, h2⟩ := h.num b k hb
        rw [h1] at h2
        injection h2 with h2
        injection h2 with h2 _
        exact e h2
      simp [e, this]
theorem Nums.fn {s s' : Shf} {l : List Bs} {a b : List Nat} (h : Nums s l a) (hk : ∀ c k, mget s.ns c = some k → mget s'.ns c = some k) (h' : Nums s' l b) : a = b := by
  have h1 := h.1
  have h2 := h'.1
  apply List.ext_getElem?
  intro i
  by_cases hi : i < l.length
  · have e1 := hk _ _ (h.2 i l[i] (a[i]'(by omega)) (List.getElem?_eq_getElem hi) (List.getElem?_eq_getElem (by omega)))
    have e2 : mget s'.ns l[i] = some b[i] := h'.2 i l[i] (b[i]'(by omega)) (List.getElem?_eq_getElem hi) (List.getElem?_eq_getElem (by omega))
    rw [e1] at e2
    injection e2 with e2
    rw [List.getElem?_eq_getElem (by omega), List.getElem?_eq_getElem (by omega), e2]
  · rw [List.getElem?_eq_none (by omega), List.getElem?_eq_none (by omega)]
def sizeB (ps : List (Nat × (Bs × Nat))) : Nat := (ps.map fun p => p.2.1.length).sum
theorem sizeB_of {a b : List (Nat × (Bs × Nat))} (h : a.map (fun p => (p.1, p.2.1)) = b.map fun p => (p.1, p.2.1)) : sizeB a = sizeB b := by
  have : ∀ l : List (Nat × (Bs × Nat)), (l.map fun p => p.2.1.length) = (l.map fun p => (p.1, p.2.1)).map fun q => q.2.length := fun l => by rw [List.map_map]; rfl
  unfold sizeB
  rw [this, this, h]
end Go.Chunk
