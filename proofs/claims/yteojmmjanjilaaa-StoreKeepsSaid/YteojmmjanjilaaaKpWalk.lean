/- StoreKeeps: what its walk carries, and its calls' contracts in that form. -/
import Derived.Test.YteojmmjanjilaaaPart41
import Derived.Test.YteojmmjanjilaaaPart47
import Derived.Test.YteojmmjanjilaaaPart49
set_option linter.unusedVariables false
namespace Go.Proofs.Yteojmmjanjilaaa
open Go.RowKit Go.Mem Go.Val Go.Chunk Go.Maps
/-- what is known of two snapshots and their pieces -/
structure KpF (a b : Snp) (la lb : List Bs) : Prop where
  na : NiceSn a
  nb : NiceSn b
  ea : (snapE 41 a).length ≤ 8000
  eb : (snapE 41 b).length ≤ 8000
  eqa : la = Chunk.cutF (snapE 41 a).length (snapE 41 a)
  eqb : lb = Chunk.cutF (snapE 41 b).length (snapE 41 b)
  few : ∀ Q : List Bs, Q.Nodup → (∀ x ∈ Q, x ∈ la ++ lb) → Q.length < 500
theorem cut_ne (s : Snp) : Chunk.cutF (snapE 41 s).length (snapE 41 s) ≠ [] := fun h => by
  have h2 := Chunk.cutF_flat _ (snapE 41 s) (Nat.le_refl _)
  rw [h] at h2
  simp [snapE] at h2
section
variable {a b : Snp} {la lb : List Bs}
theorem KpF.fa (h : KpF a b la lb) : la.flatten = snapE 41 a := by rw [h.eqa]; exact Chunk.cutF_flat _ _ (Nat.le_refl _)
theorem KpF.fb (h : KpF a b la lb) : lb.flatten = snapE 41 b := by rw [h.eqb]; exact Chunk.cutF_flat _ _ (Nat.le_refl _)
theorem KpF.nla (h : KpF a b la lb) : la ≠ [] := by rw [h.eqa]; exact cut_ne a
theorem KpF.nlb (h : KpF a b la lb) : lb ≠ [] := by rw [h.eqb]; exact cut_ne b
theorem KpF.ka (h : KpF a b la lb) : la.length ≤ 8000 := by rw [h.eqa]; exact Nat.le_trans (Chunk.cutF_len _ _) h.ea
theorem KpF.kb (h : KpF a b la lb) : lb.length ≤ 8000 := by rw [h.eqb]; exact Nat.le_trans (Chunk.cutF_len _ _) h.eb
theorem KpF.pa (h : KpF a b la lb) : ∀ x ∈ la, x.length ≤ 65536 := fun x hx => by rw [h.eqa] at hx; have := Chunk.cutF_32 _ _ (Nat.le_refl _) x hx; omega
theorem KpF.pb (h : KpF a b la lb) : ∀ x ∈ lb, x.length ≤ 65536 := fun x hx => by rw [h.eqb] at hx; have := Chunk.cutF_32 _ _ (Nat.le_refl _) x hx; omega
end
theorem kpF {n0 m0 : Int} {l1 l2 : List Raw} (hl1 : l1.length ≤ 4) (hl2 : l2.length ≤ 2) (hsub : ∀ r ∈ l2, r ∈ l1) (h1 : NiceSn (snF l1 n0)) (h2 : NiceSn (snF l2 m0)) :
    KpF (snF l1 n0) (snF l2 m0) (Chunk.cutF (snapE 41 (snF l1 n0)).length (snapE 41 (snF l1 n0))) (Chunk.cutF (snapE 41 (snF l2 m0)).length (snapE 41 (snF l2 m0))) :=
  ⟨h1, h2, snap_short l1 hl1 41 n0, snap_short l2 (by omega) 41 m0, rfl, rfl, few l1 l2 hl1 hl2 hsub 41 n0 m0⟩
theorem pieces_32 {s : Shf} {H : Bs → Nat} (h : s.Ok H) {w : World} {S P N : Nat} (hs : ShelfAt w S P N s) : ∀ p ∈ s.ps, p.2.1.length ≤ 65536 := by
  intro p hp
  have h1 := h.pc p.1 p.2.1 p.2.2 (mget_at h.kp hp)
  obtain ⟨es, clock, _, _, _, hk⟩ := hs.ns
  exact hk (p.2.1, encN p.1) (List.mem_map.2 ⟨_, mget_mem h1.1, rfl⟩)
/-- what changes blocks of a part alone -/
theorem below_of_in {own : Nat → Prop} {B : Nat} {w w' : World} (h : GrownIn own w w') (ho : ∀ b, own b → B ≤ b) (hB : B ≤ w.heap.size) : Below B w w' :=
  ⟨h.os, h.tape, h.output, h.size, fun k hk => h.block k (by omega) fun e => by have := ho k e; omega⟩
/-- two snapshots in cells F and G -/
def TwoSn (w wc : World) (F G : Nat) (a b : Snp) : Prop :=
  ∃ cs ds, Blk wc F 26 cs ∧ Blk wc G 26 ds ∧ SnCells 41 wc Any cs a ∧ SnCells 41 wc Any ds b ∧ Below w.heap.size w wc
/-- a snapshot in memory, as the walk wants it -/
def SnSeen (w : World) (X : Nat) (x : Snp) : Prop :=
  ∃ P1 p1 P2 p2, w.cell? ⟨X, 0, none⟩ = some (.int .i64 x.time) ∧ w.cell? ⟨X, 1, none⟩ = some (.slice P1 x.parcels.length p1) ∧ w.cell? ⟨X, 2, none⟩ = some (.slice P2 x.ways.length p2) ∧ X < w.heap.size ∧ SnCells 41 w Any [.int .i64 x.time, .slice P1 x.parcels.length p1, .slice P2 x.ways.length p2] x
theorem snSeen {w : World} {X : Nat} {x : Snp} {t : TypeId} {cs : List Value} (hb : Blk w X t cs) (hv : SnCells 41 w Any cs x) : SnSeen w X x := by
  obtain ⟨P1, p1, P2, p2, rfl⟩ := SnCells.out hv
  exact ⟨P1, p1, P2, p2, hb.cell 0, hb.cell 1, hb.cell 2, hb.lt, hv⟩
theorem TwoSn.seen {w wc w' : World} {F G : Nat} {a b : Snp} (h : TwoSn w wc F G a b) (hb : Below wc.heap.size wc w') : SnSeen w' F a ∧ SnSeen w' G b := by
  obtain ⟨cs, ds, h1, h2, h3, h4, _⟩ := h
  exact ⟨snSeen (h1.below hb h1.lt) ((SnCells.stable 41).keep h3 (Same.any hb)), snSeen (h2.below hb h2.lt) ((SnCells.stable 41).keep h4 (Same.any hb))⟩
def NoMPN (M P N : Nat) (q : Nat) : Prop := q ≠ M ∧ q ≠ P ∧ q ≠ N
theorem same_in {M P N : Nat} {w w' : World} {D : Nat → Prop} (h : GrownIn (OwnMPN M P N) w w') (hD : ∀ q, D q → NoMPN M P N q) : Same D w w' :=
  Same.of_in h fun b hb _ => by have := hD b hb; unfold NoMPN at this; unfold OwnMPN; omega
/-- the store as the walk carries it -/
structure Kw (wc w : World) (T M S P N : Nat) (s : Shf) (m : List (Nat × Value)) : Prop where
  bel : Below wc.heap.size wc w
  own : wc.heap.size ≤ M ∧ wc.heap.size ≤ P ∧ wc.heap.size ≤ N
  at_ : StoreAt w T M S P N s m
section
variable {wc w w' : World} {T M S P N : Nat} {s s' : Shf} {m m' : List (Nat × Value)}
theorem Kw.step (h : Kw wc w T M S P N s m) (hs : StoreAt w' T M S P N s' m') (hg : GrownIn (OwnMPN M P N) w w') : Kw wc w' T M S P N s' m' :=
  ⟨h.bel.trans (below_of_in hg (fun b hb => by have := h.own; unfold OwnMPN at hb; omega) h.bel.size), h.own, hs⟩
theorem Kw.below (h : Kw wc w T M S P N s m) (hb : Below w.heap.size w w') : Kw wc w' T M S P N s m :=
  ⟨h.bel.trans (hb.mono h.bel.size), h.own, h.at_.below hb⟩
theorem Kw.lt (h : Kw wc w T M S P N s m) : T < w.heap.size ∧ M < w.heap.size ∧ S < w.heap.size ∧ P < w.heap.size ∧ N < w.heap.size := h.at_.lt
theorem StoreAt.same (h : StoreAt w T M S P N s m) (hs : ∀ b, b = T ∨ b = M ∨ b = S ∨ b = P ∨ b = N → w'.heap[b]? = w.heap[b]?) : StoreAt w' T M S P N s m :=
  ⟨(hs T (.inl rfl)).trans h.blk, h.sh.same fun b hb => hs b (by omega), h.mp.same (hs M (.inr (.inl rfl))), h.ne⟩
end
theorem rows0 : RowsTo [] 0 := ⟨rfl, fun i h1 h2 => by omega, rfl⟩
theorem rows1 (a : Addr) (n c : Nat) : RowsTo [(1, .slice (some a) n c)] 1 := by
  refine ⟨rfl, fun i h1 h2 => ?_, rfl⟩
  obtain rfl : i = 1 := by omega
  exact ⟨_, _, _, rfl⟩
theorem rows2 (a : Addr) (n c : Nat) (a' : Addr) (n' c' : Nat) : RowsTo [(1, .slice (some a) n c), (2, .slice (some a') n' c')] 2 := by
  refine ⟨rfl, fun i h1 h2 => ?_, rfl⟩
  rcases (show i = 1 ∨ i = 2 by omega) with rfl | rfl
  · exact ⟨_, _, _, rfl⟩
  · exact ⟨_, _, _, rfl⟩
def KPost (wc w : World) (T M S P N : Nat) (s : Shf) (m : List (Nat × Value)) (l : List Bs) (j : Nat) (z : Int) (e : Ending) (w' : World) : Prop :=
  ∃ (a : Addr) (c : Nat) (out : List Nat) (s' : Shf), e = .returned (.tuple #[.int .i64 z, .int .i64 0]) ∧ KeepRel s l out s' ∧ Kw wc w' T M S P N s' (m ++ [(j, .slice (some a) out.length c)]) ∧ GrownIn (OwnMPN M P N) w w' ∧ Reads w' (NoMPN M P N) 1 (some a) out.length (nums (nat64 out))
theorem keepK {wc w : World} {T M S P N : Nat} {s : Shf} {m : List (Nat × Value)} {H : Bs → Nat} {x : Snp} {l PP : List Bs} {cs : List Value} (z : Int) (j k : Nat) (hz : z = (j : Nat)) (hj : j = k + 1) (hfew : ∀ Q : List Bs, Q.Nodup → (∀ x ∈ Q, x ∈ PP) → Q.length < 500)
    (h : Kw wc w T M S P N s m) (hk : s.Ok H) (hv : SnCells 41 w Any cs x) (hg : NiceSn x) (hx : (snapE 41 x).length ≤ 8000) (hl : l = Chunk.cutF (snapE 41 x).length (snapE 41 x)) (hm : RowsTo m k) (hk20 : k < 20)
    (hHP : ∀ b, 0 < H b → b ∈ PP) (hlP : ∀ b ∈ l, b ∈ PP) (hH : ∀ b, H b ≤ 20000) :
    Calls Try.prog 6 #[.pointer (some ⟨T, 0, none⟩), .agg cs.toArray] w (KPost wc w T M S P N s m l j z) := by
  subst hz
  refine (skeep_any x cs w T M S P N s H m k h.at_ hk hv hg (by omega) hm hk20 (fun i out s1 hr => ?_) (fun b => by have := hH b; omega)).mono ?_
  · rw [← hl] at hr
    exact room hfew hk hHP hlP hr
  rintro e w' ⟨A, c, out, s', rfl, h1, h2, hrel, hst, hgr, hr, h9⟩
  rw [← hl] at hrel
  have hne : l ≠ [] := by rw [hl]; exact cut_ne x
  have hlen : 0 < out.length := by rw [hrel.len]; exact List.length_pos_iff.2 hne
  obtain ⟨b, off, u, rfl, _⟩ := hr.at_ hlen
  have hlt := h.lt
  have hput : ∀ v : Value, mput m (k + 1) v = m ++ [(j, v)] := fun v => by
    unfold mput
    rw [hm.2.2, hj]
    rfl
  rw [hput] at hst
  subst hj
  exact ⟨_, c, out, s', rfl, hrel, h.step hst hgr, hgr, hr.imp (by omega) fun q hq _ => by unfold NoMPN; omega⟩
def LPost (wc w : World) (T M S P N : Nat) (s : Shf) (m : List (Nat × Value)) (x : Snp) (e : Ending) (w' : World) : Prop :=
  ∃ P1 p1 P2 p2, e = .returned (.tuple #[.agg #[.int .i64 x.time, .slice P1 x.parcels.length p1, .slice P2 x.ways.length p2], .int .i64 0]) ∧ SnCells 41 w' (fun b => w.heap.size ≤ b) [.int .i64 x.time, .slice P1 x.parcels.length p1, .slice P2 x.ways.length p2] x ∧ Kw wc w' T M S P N s m ∧ Below w.heap.size w w'
theorem loadK {wc w : World} {T M S P N : Nat} {s : Shf} {m : List (Nat × Value)} {H : Bs → Nat} {x : Snp} {l : List Bs} {out : List Nat} {A : Option Addr} {c : Nat} {D : Nat → Prop} (z : Int) (j : Nat) (hz : z = (j : Nat)) (hj9 : j ≤ 1000) (h : Kw wc w T M S P N s m) (hget : mget m j = some (.slice A out.length c)) (hk : s.Ok H) (hnum : Nums s l out) (hr : Reads w D 1 A out.length (nums (nat64 out))) (hn6 : l.length ≤ 8000) (hx : (snapE 41 x).length ≤ 8000) (hfl : l.flatten = snapE 41 x) (hg : NiceSn x) :
    Calls Try.prog 8 #[.pointer (some ⟨T, 0, none⟩), .int .i64 z] w (LPost wc w T M S P N s m x) := by
  subst hz
  refine (sload_any x w T M S P N s H m j A out.length c l out h.at_ hj9 hget hk hnum (hr.imp (by omega) fun _ _ _ => trivial) rfl (by have := hnum.1; omega) (by omega) hfl hg).mono ?_
  rintro e w' ⟨cs, rfl, hv, hb⟩
  obtain ⟨P1, p1, P2, p2, rfl⟩ := SnCells.out hv
  exact ⟨P1, p1, P2, p2, rfl, hv, h.below hb, hb⟩
def DPost (wc w : World) (T M S P N : Nat) (s : Shf) (m : List (Nat × Value)) (out : List Nat) (m' : List (Nat × Value)) (e : Ending) (w' : World) : Prop :=
  e = .returned (.int .i64 0) ∧ Kw wc w' T M S P N (freeL s out) m' ∧ GrownIn (OwnMPN M P N) w w'
theorem dropK {wc w : World} {T M S P N : Nat} {s : Shf} {m m' : List (Nat × Value)} {H : Bs → Nat} {l : List Bs} {out : List Nat} {A : Option Addr} {c : Nat} {D : Nat → Prop} (z : Int) (j : Nat) (hz : z = (j : Nat)) (hj9 : j ≤ 1000) (h : Kw wc w T M S P N s m) (hget : mget m j = some (.slice A out.length c)) (hm' : mdel m j = m') (hk : s.Ok H) (hnum : Nums s l out) (hcnt : ∀ b, l.count b ≤ H b) (h32 : ∀ b ∈ l, b.length ≤ 65536) (hH6 : ∀ b, H b ≤ 1000000)
    (hr : Reads w D 1 A out.length (nums (nat64 out))) (hD : ∀ q, D q → NoMPN M P N q) (hn6 : l.length ≤ 8000) :
    Calls Try.prog 10 #[.pointer (some ⟨T, 0, none⟩), .int .i64 z] w (DPost wc w T M S P N s m out m') := by
  subst hz
  subst hm'
  refine (sdrop_any w T M S P N s H m j A out.length c l out h.at_ hj9 hget hk hnum hcnt h32 hH6 (hr.imp (by omega) fun q hq _ => hD q hq) rfl (by have := hnum.1; omega)).mono ?_
  rintro e w' ⟨rfl, hst, hg⟩
  exact ⟨rfl, h.step hst hg, hg⟩
/-- a snapshot in the block X that the walk has made -/
def SnAt (wc w : World) (T M S P N X : Nat) (D : Nat → Prop) (x : Snp) : Prop :=
  ∃ cs, Blk w X 26 cs ∧ SnCells 41 w D cs x ∧ wc.heap.size ≤ X ∧ X ≠ T ∧ X ≠ M ∧ X ≠ S ∧ X ≠ P ∧ X ≠ N
theorem SnAt.lt {wc w : World} {T M S P N X : Nat} {D : Nat → Prop} {x : Snp} (h : SnAt wc w T M S P N X D x) : X < w.heap.size := by
  obtain ⟨cs, h1, _⟩ := h
  exact h1.lt
theorem SnAt.seen {wc w : World} {T M S P N X : Nat} {D : Nat → Prop} {x : Snp} (h : SnAt wc w T M S P N X D x) : SnSeen w X x := by
  obtain ⟨cs, h1, h2, _⟩ := h
  exact snSeen h1 ((SnCells.stable 41).imp h2 fun _ _ _ => trivial)
theorem SnAt.keep {wc w w' : World} {T M S P N X : Nat} {D : Nat → Prop} {x : Snp} (h : SnAt wc w T M S P N X D x) (hg : GrownIn (OwnMPN M P N) w w') (hD : ∀ q, D q → NoMPN M P N q) : SnAt wc w' T M S P N X D x := by
  obtain ⟨cs, h1, h2, h3, h4, h5, h6, h7, h8⟩ := h
  exact ⟨cs, (hg.block X h1.lt (by unfold OwnMPN; omega)).trans h1, (SnCells.stable 41).imp ((SnCells.stable 41).keep h2 (same_in hg hD)) fun _ hq _ => hq, h3, h4, h5, h6, h7, h8⟩
theorem SnAt.new {wc w w' : World} {T M S P N : Nat} {s : Shf} {m : List (Nat × Value)} {x : Snp} {cs : List Value} {B : Nat} (hv : SnCells 41 w (fun b => B ≤ b) cs x) (h : Kw wc w T M S P N s m) (hB : T < B ∧ M < B ∧ S < B ∧ P < B ∧ N < B) (hw : w' = w.alloc (.cells cs.toArray 26)) :
    SnAt wc w' T M S P N w.heap.size (NoMPN M P N) x ∧ Kw wc w' T M S P N s m ∧ Below w.heap.size w w' := by
  have hb : Below w.heap.size w w' := by rw [hw]; exact (Below.refl _ _).alloc (Nat.le_refl _) _
  obtain ⟨l1, l2, l3, l4, l5⟩ := h.lt
  exact ⟨⟨cs, by rw [hw]; exact Blk.new w _ _, (SnCells.stable 41).imp ((SnCells.stable 41).keep hv (Same.of_in (GrownIn.of_below (own := fun _ => False) hb) fun _ _ _ h => h)) fun q hq _ => by unfold NoMPN; omega, h.bel.size, by omega, by omega, by omega, by omega, by omega⟩, h.below hb, hb⟩
/-- .. and is written over -/
theorem SnAt.over {wc w : World} {T M S P N X : Nat} {D : Nat → Prop} {s : Shf} {m : List (Nat × Value)} {x y : Snp} {cs : List Value} {B : Nat} (h : SnAt wc w T M S P N X D y) (hk : Kw wc w T M S P N s m) (hv : SnCells 41 w (fun b => B ≤ b) cs x) (hB : X < B ∧ T < B ∧ M < B ∧ S < B ∧ P < B ∧ N < B) :
    SnAt wc (setRow w X 0 cs) T M S P N X (NoMPN M P N) x ∧ Kw wc (setRow w X 0 cs) T M S P N s m := by
  obtain ⟨cs0, h1, h2, h3, h4, h5, h6, h7, h8⟩ := h
  refine ⟨⟨cs, setRow_blk h1 cs ((SnCells.stable 41).len h2 |>.trans ((SnCells.stable 41).len hv).symm), (SnCells.stable 41).imp ((SnCells.stable 41).keep hv (setRow_same (by omega) cs w 0)) fun q hq _ => by unfold NoMPN; omega, h3, h4, h5, h6, h7, h8⟩, setRow_below h3 cs w 0 hk.bel, hk.own, hk.at_.same fun b hb => Go.Mem.setRow_heap (by omega) cs w 0⟩
theorem noneK {wc w : World} {T M S P N : Nat} {s : Shf} {m : List (Nat × Value)} (z : Int) (j : Nat) (hz : z = (j : Nat)) (hj9 : j ≤ 1000) (h : Kw wc w T M S P N s m) (hget : mget m j = none) :
    Calls Try.prog 10 #[.pointer (some ⟨T, 0, none⟩), .int .i64 z] w fun e w' => e = .returned (.int .i64 4) ∧ w = w' := by
  subst hz
  exact sdrop_none w T M S P N s m j h.at_ hj9 hget
theorem sizeK {wc w : World} {T M S P N : Nat} {s : Shf} {m : List (Nat × Value)} {H : Bs → Nat} (zm zk zz : Int) (h : Kw wc w T M S P N s m) (hk : s.Ok H) (hl : s.ps.length < 500) (hm : zm = (m.length : Nat)) (hm9 : zm ≤ 1000) (h1 : zk = (s.ps.length : Nat)) (h2 : zz = (sizeB s.ps : Nat)) :
    Calls Try.prog 7 #[.pointer (some ⟨T, 0, none⟩)] w fun e w' => e = .returned (.tuple #[.int .i64 zm, .int .i64 zk, .int .i64 zz]) ∧ Kw wc w' T M S P N s m ∧ Below w.heap.size w w' := by
  subst h1 h2
  refine (ssize_any w T M S P N s m h.at_ (by omega) (pieces_32 hk h.at_.sh) (by omega)).mono ?_
  rintro e w' ⟨rfl, hb⟩
  exact ⟨by rw [hm], h.below hb, hb⟩
/-- kept twice -/
theorem twice {la : List Bs} {s1 s2 : Shf} {o1 o2 : List Nat} (r1 : KeepRel ⟨[], []⟩ la o1 s1) (r2 : KeepRel s1 la o2 s2) : o2 = o1 ∧ s2.ps.length = s1.ps.length ∧ sizeB s2.ps = sizeB s1.ps := by
  obtain ⟨k1, n1, _, _, _⟩ := r1.ok empty_ok
  obtain ⟨k2, n2, m2, _, e2⟩ := r2.ok k1
  obtain ⟨e3, e4⟩ := e2 n1.some
  exact ⟨(n1.fn m2 n2).symm, e3, sizeB_of e4⟩
theorem roomed {P l : List Bs} {s s1 : Shf} {H : Bs → Nat} {out : List Nat} (hfew : ∀ Q : List Bs, Q.Nodup → (∀ x ∈ Q, x ∈ P) → Q.length < 500) (h : s.Ok H) (hH : ∀ b, 0 < H b → b ∈ P) (hl : ∀ b ∈ l, b ∈ P) (r : KeepRel s l out s1) : s1.ps.length < 500 :=
  room (j := l.length) hfew h hH hl (by rw [List.take_length]; exact r)
theorem SnAt.cells {wc w : World} {T M S P N X : Nat} {D : Nat → Prop} {x : Snp} (h : SnAt wc w T M S P N X D x) : ∃ u0 u1 u2, w.cell? ⟨X, 0, none⟩ = some u0 ∧ w.cell? ⟨X, 1, none⟩ = some u1 ∧ w.cell? ⟨X, 2, none⟩ = some u2 ∧ w.frozen? ⟨X, 0, none⟩ = false ∧ w.frozen? ⟨X, 1, none⟩ = false ∧ w.frozen? ⟨X, 2, none⟩ = false ∧ X < w.heap.size := by
  obtain ⟨cs, h1, h2, _⟩ := h
  obtain ⟨P1, p1, P2, p2, rfl⟩ := SnCells.out h2
  exact ⟨_, _, _, h1.cell 0, h1.cell 1, h1.cell 2, h1.frozen 0, h1.frozen 1, h1.frozen 2, h1.lt⟩
end Go.Proofs.Yteojmmjanjilaaa
