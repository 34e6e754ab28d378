/- Plain laws of a shelf that keeps the same twice, and something else: what it holds, step by step; and that it has room. (Story: lines of XLawChunkShares.) · Only blocks of one part have changed: over any program. No condition. · A shelf in memory; contracts of chunk.New, (*Shelf).free, Put, Drop. -/
import Derived.Test.YteojmmjanjilaaaKpWtS
import Derived.Test.YteojmmjanjilaaaShelfLaw
import Derived.Test.YteojmmjanjilaaaMem
import Derived.Test.YteojmmjanjilaaaPart5
import Derived.Deep.QuietTactic
import Derived.BigQuiet
import Derived.StringKeys
import Derived.StillTailTactics
set_option linter.unusedVariables false
namespace Go.Chunk
open Go.Mem
theorem Nums.mono {s s' : Shf} {l : List Bs} {a : List Nat} (h : Nums s l a) (k : ∀ c n, mget s.ns c = some n → mget s'.ns c = some n) : Nums s' l a := h.imp fun x y hxy => k x y hxy
theorem Nums.mono2 {s s' : Shf} {l : List Bs} {a : List Nat} (h : Nums s l a) (k : ∀ c n, c ∈ l → mget s.ns c = some n → mget s'.ns c = some n) : Nums s' l a :=
  ⟨h.1, fun i x y hx hy => k x y (List.mem_of_getElem? hx) (h.2 i x y hx hy)⟩
theorem Nums.some {s : Shf} {l : List Bs} {a : List Nat} (h : Nums s l a) : ∀ b ∈ l, (mget s.ns b).isSome := by
  intro b hb
  obtain ⟨i, hi, rfl⟩ := List.mem_iff_getElem.1 hb
  have h2 : i < a.length := by rw [← h.1]; exact hi
  rw [h.2 i _ _ (List.getElem?_eq_getElem hi) (List.getElem?_eq_getElem h2)]
  rfl
theorem empty_ok : (Shf.mk [] []).Ok (fun _ => 0) := ⟨List.nodup_nil, List.nodup_nil, fun b n h => by simp [mget] at h, fun n b h k => by simp [mget] at k, fun b h => by simp at h⟩
theorem pluss_zero (l : List Bs) (b : Bs) : pluss (fun _ => 0) l b = l.count b := by simp [pluss]
theorem plus3 (a b : List Bs) (x : Bs) : pluss (pluss (pluss (fun _ => 0) a) a) b x = 2 * a.count x + b.count x := by simp [pluss]; omega
/-- all that the law tells of the shelf, step by step -/
structure Story (a b : Bs) (la lb : List Bs) (s1 s2 s3 : Shf) (o1 o2 o3 : List Nat) (H3 : Bs → Nat) : Prop where
  n1 : Nums s1 la o1
  eq : o2 = o1
  l12 : s2.ps.length = s1.ps.length
  z12 : sizeB s2.ps = sizeB s1.ps
  ne : s1.ps.length ≠ 0
  ok3 : s3.Ok H3
  na : Nums s3 la o1
  nb : Nums s3 lb o3
  ca : ∀ x, la.count x ≤ H3 x
  h6 : ∀ x, H3 x ≤ 1000000
  ok4 : (freeL s3 o1).Ok (minuss H3 la)
  nb4 : Nums (freeL s3 o1) lb o3
  cb : ∀ x, lb.count x ≤ minuss H3 la x
  ok5 : (freeL (freeL s3 o1) o3).Ok (minuss (minuss H3 la) lb)
  na5 : Nums (freeL (freeL s3 o1) o3) la o1
  ca5 : ∀ x, la.count x ≤ minuss (minuss H3 la) lb x
  em : (freeL (freeL (freeL s3 o1) o3) o1).ps = []
theorem story {a b : Bs} {la lb : List Bs} {s1 s2 s3 : Shf} {o1 o2 o3 : List Nat} (hla : la ≠ []) (r1 : KeepRel ⟨[], []⟩ la o1 s1) (r2 : KeepRel s1 la o2 s2) (r3 : KeepRel s2 lb o3 s3) (hl : la.length ≤ 100000 ∧ lb.length ≤ 100000) :
    Story a b la lb s1 s2 s3 o1 o2 o3 (pluss (pluss (pluss (fun _ => 0) la) la) lb) := by
  obtain ⟨k1, n1, _, _, _⟩ := r1.ok empty_ok
  obtain ⟨k2, n2, m2, _, e2⟩ := r2.ok k1
  obtain ⟨k3, n3, m3, _, _⟩ := r3.ok k2
  obtain ⟨e3, e4⟩ := e2 n1.some
  have eo : o2 = o1 := (n1.fn m2 n2).symm
  have hne : s1.ps.length ≠ 0 := by
    obtain ⟨x, r, rfl⟩ : ∃ x r, la = x :: r := by cases la with | nil => exact absurd rfl hla | cons x r => exact ⟨x, r, rfl⟩
    obtain ⟨n, hn⟩ := Option.isSome_iff_exists.1 (n1.some x (by simp))
    obtain ⟨_, h, hp⟩ := k1.num x n hn
    intro h0
    rw [List.eq_nil_of_length_eq_zero h0] at hp
    simp [mget] at hp
  have na : Nums s3 la o1 := (n1.mono m2).mono m3
  have cnt := plus3 la lb
  have ca : ∀ x, la.count x ≤ pluss (pluss (pluss (fun _ => 0) la) la) lb x := fun x => by rw [cnt]; omega
  have h6 : ∀ x, pluss (pluss (pluss (fun _ => 0) la) la) lb x ≤ 1000000 := fun x => by
    rw [cnt]
    have := List.count_le_length (a := x) (l := la)
    have := List.count_le_length (a := x) (l := lb)
    omega
  obtain ⟨ok4, m4⟩ := k3.freeL na ca
  have hm4 : ∀ x, minuss (pluss (pluss (pluss (fun _ => 0) la) la) lb) la x = la.count x + lb.count x := fun x => by unfold minuss; rw [cnt]; omega
  have nb4 : Nums (freeL s3 o1) lb o3 := n3.mono2 fun c n hc hn => m4 c n hn (by rw [hm4]; have := List.count_pos_iff.2 hc; omega)
  have na4 : Nums (freeL s3 o1) la o1 := na.mono2 fun c n hc hn => m4 c n hn (by rw [hm4]; have := List.count_pos_iff.2 hc; omega)
  have cb : ∀ x, lb.count x ≤ minuss (pluss (pluss (pluss (fun _ => 0) la) la) lb) la x := fun x => by rw [hm4]; omega
  obtain ⟨ok5, m5⟩ := ok4.freeL nb4 cb
  have hm5 : ∀ x, minuss (minuss (pluss (pluss (pluss (fun _ => 0) la) la) lb) la) lb x = la.count x := fun x => by
    have := hm4 x
    unfold minuss at this ⊢
    omega
  have na5 : Nums (freeL (freeL s3 o1) o3) la o1 := na4.mono2 fun c n hc hn => m5 c n hn (by rw [hm5]; exact List.count_pos_iff.2 hc)
  have ca5 : ∀ x, la.count x ≤ minuss (minuss (pluss (pluss (pluss (fun _ => 0) la) la) lb) la) lb x := fun x => by rw [hm5]; omega
  obtain ⟨ok6, _⟩ := ok5.freeL na5 ca5
  refine ⟨n1, eo, e3, sizeB_of e4, hne, k3, na, n3, ca, h6, ok4, nb4, cb, ok5, na5, ca5, ok6.empty fun x => ?_⟩
  have := hm5 x
  unfold minuss at this ⊢
  omega
/-- the pieces of a shelf differ -/
theorem Shf.Ok.pieces {s : Shf} {H : Bs → Nat} (h : s.Ok H) (P : List Bs) (hH : ∀ b, 0 < H b → b ∈ P) : (s.ps.map fun p => p.2.1).Nodup ∧ (∀ x ∈ s.ps.map fun p => p.2.1, x ∈ P) ∧ (s.ps.map fun p => p.2.1).length = s.ps.length := by
  have hat : ∀ p ∈ s.ps, mget s.ns p.2.1 = some p.1 ∧ 0 < H p.2.1 := fun p hp => by
    have h1 := h.pc p.1 p.2.1 p.2.2 (mget_at h.kp hp)
    exact ⟨h1.1, by have := h1.2; omega⟩
  refine ⟨?_, fun x hx => ?_, by simp⟩
  · have hk := h.kp
    rw [List.nodup_iff_pairwise_ne, List.pairwise_map] at hk ⊢
    refine List.Pairwise.imp_of_mem ?_ hk
    intro a b ha hb hab e
    have h1 := (hat a ha).1
    rw [e, (hat b hb).1] at h1
    injection h1 with h1
    exact hab h1.symm
  · obtain ⟨p, hp, rfl⟩ := List.mem_map.1 hx
    exact hH _ (hat p hp).2
/-- there is room for what comes of two snapshots -/
theorem room {s s1 : Shf} {H : Bs → Nat} {l P : List Bs} {j : Nat} {out : List Nat} (hfew : ∀ Q : List Bs, Q.Nodup → (∀ x ∈ Q, x ∈ P) → Q.length < 500) (h : s.Ok H) (hH : ∀ b, 0 < H b → b ∈ P) (hl : ∀ b ∈ l, b ∈ P) (r : KeepRel s (l.take j) out s1) : s1.ps.length < 500 := by
  obtain ⟨h1, h2, h3⟩ := (r.ok h).1.pieces P fun b hb => by
    have hb : 0 < H b + (l.take j).count b := hb
    by_cases e : 0 < H b
    · exact hH b e
    · have h0 : 0 < (l.take j).count b := Nat.pos_of_ne_zero fun h0 => by rw [h0] at hb; omega
      exact hl b (List.mem_of_mem_take (List.count_pos_iff.1 h0))
  rw [← h3]
  exact hfew _ h1 h2
end Go.Chunk
set_option linter.unusedVariables false
namespace Go.Mem
open Go.RowKit
structure GrownIn (own : Nat → Prop) (w w' : World) : Prop where
  os : w'.os = w.os
  tape : w'.tape = w.tape
  output : w'.output = w.output
  size : w.heap.size ≤ w'.heap.size
  block : ∀ k, k < w.heap.size → ¬ own k → w'.heap[k]? = w.heap[k]?
theorem GrownIn.refl (own : Nat → Prop) (w : World) : GrownIn own w w := ⟨rfl, rfl, rfl, Nat.le_refl _, fun _ _ _ => rfl⟩
theorem GrownIn.of_grown {own : Nat → Prop} {w w' : World} {row : Option Nat} (h : w.grownBy w' row) (hr : ∀ k, row = some k → own k) : GrownIn own w w' :=
  ⟨h.os, h.tape, h.output, h.size, fun k hk hn => h.block k hk (fun e => hn (hr k e.symm))⟩
theorem GrownIn.of_below {own : Nat → Prop} {w w' : World} (h : Below w.heap.size w w') : GrownIn own w w' := ⟨h.os, h.tape, h.output, h.size, fun k hk _ => h.block k hk⟩
theorem GrownIn.drew {own : Nat → Prop} {w w' : World} (h : GrownIn own w w') : GrownIn own w w'.drew := ⟨h.os, h.tape, h.output, h.size, h.block⟩
theorem GrownIn.alloc {own : Nat → Prop} {w w' : World} (h : GrownIn own w w') (o : Obj) : GrownIn own w (w'.alloc o) :=
  ⟨h.os, h.tape, h.output, Nat.le_trans h.size (by simp), fun k hk hn => (Below.heap_alloc w' o k (Nat.lt_of_lt_of_le hk h.size)).trans (h.block k hk hn)⟩
theorem GrownIn.set {own : Nat → Prop} {w w' : World} (h : GrownIn own w w') {p : Addr} (hp : own p.block) (u : Value) : GrownIn own w (w'.setCell p u) :=
  ⟨h.os, h.tape, h.output, by simpa [World.setCell] using h.size, fun k hk hn => (Below.heap_setCell w' p u k (fun e => hn (e ▸ hp))).trans (h.block k hk hn)⟩
theorem GrownIn.trans {own own' : Nat → Prop} {w w' w'' : World} (h : GrownIn own w w') (k : GrownIn own' w' w'') (ho : ∀ b, own' b → own b ∨ w.heap.size ≤ b) : GrownIn own w w'' :=
  ⟨k.os.trans h.os, k.tape.trans h.tape, k.output.trans h.output, Nat.le_trans h.size k.size, fun i hi hn => (k.block i (Nat.lt_of_lt_of_le hi h.size) (fun e => (ho i e).elim hn (fun e => by omega))).trans (h.block i hi hn)⟩
theorem Below.of_in {own : Nat → Prop} {a w w' : World} {B : Nat} (h : Below B a w) (k : GrownIn own w w') (ho : ∀ b, own b → B ≤ b) (hB : B ≤ w.heap.size) : Below B a w' :=
  h.trans ⟨k.os, k.tape, k.output, k.size, fun i hi => k.block i (by omega) (fun e => by have := ho i e; omega)⟩
theorem Same.of_in {own D : Nat → Prop} {w w' : World} (k : GrownIn own w w') (hD : ∀ b, D b → b < w.heap.size → ¬ own b) : Same D w w' := fun b hb hl => k.block b hl (hD b hb hl)

theorem GrownIn.wide {own own' : Nat → Prop} {w w' : World} (h : GrownIn own w w') (k : ∀ b, own b → own' b) : GrownIn own' w w' := ⟨h.os, h.tape, h.output, h.size, fun i hi hn => h.block i hi fun e => hn (k i e)⟩
end Go.Mem
set_option linter.unusedVariables false
namespace Go.Mem
section
variable {α : Type} [DecidableEq α] {β γ : Type}
theorem mget_mapv (l : List (α × β)) (f : β → γ) (a : α) : mget (l.map fun p => (p.1, f p.2)) a = (mget l a).map f := by
  induction l with
  | nil => rfl
  | cons p r ih =>
    rw [List.map_cons, mget_cons, ih, mget_cons]
    by_cases h : p.1 = a <;> simp [h]
theorem del_map (l : List (α × β)) (f : β → γ) (a : α) : (mdel l a).map (fun p => (p.1, f p.2)) = mdel (l.map fun p => (p.1, f p.2)) a := by
  unfold mdel
  rw [List.filter_map]
  rfl
end
end Go.Mem
namespace Go.Proofs.Yteojmmjanjilaaa
open Go.RowKit Go.Mem Go.Chunk Go.Maps

def encN (n : Nat) : Value := .int .i64 n
def okN (n : Nat) : Prop := n ≤ 1000000000
def encB (b : Bs) : Value := .string ⟨b.toArray⟩
def okB (b : Bs) : Prop := b.length ≤ 65536
def pv (p : Bs × Nat) : Value := .agg #[.string ⟨p.1.toArray⟩, .int .i64 p.2]
theorem enc_N : Enc Try.prog 3 encN okN where
  keyed := int_keyed Try.underlying3
  inj := fun a b h => by unfold encN at h; injection h with _ h; omega
  key := fun a h => ⟨_, keyOf_int_mk Try.underlying3 (by unfold okN at h; exact WalkArith.wf_i64 (by omega))⟩
theorem enc_B : Enc Try.prog 9 encB okB where
  keyed := string_keyed Try.underlying9
  inj := fun a b h => by
    unfold encB at h
    injection h with h
    injection h with h
    have := congrArg Array.toList h
    simpa using this
  key := fun a h => ⟨_, Go.WideMaps.keyOf_string_mk Try.underlying9 (by
    unfold okB at h
    have : (ByteArray.mk a.toArray).size = a.length := by simp [ByteArray.size]
    rw [this]
    unfold maxLen
    omega)⟩
theorem zero_pc : ∀ w : World, (zeroValue 98).run Try.prog w = .ok (.agg #[.string ⟨#[]⟩, .int .i64 0]) w := fun _ => by kernel_rfl
theorem zero_in : ∀ w : World, (zeroValue 3).run Try.prog w = .ok (.int .i64 0) w := fun _ => by kernel_rfl

/-- a shelf in blocks S, P, N -/
structure ShelfAt (w : World) (S P N : Nat) (s : Shf) : Prop where
  blk : Blk w S 88 [.map (some P), .map (some N)]
  ps : MapOf encN okN w P (s.ps.map fun p => (p.1, pv p.2))
  ns : MapOf encB okB w N (s.ns.map fun p => (p.1, encN p.2))
  sp : S ≠ P
  sn : S ≠ N
  pn : P ≠ N
def OwnPN (P N : Nat) (b : Nat) : Prop := b = P ∨ b = N
section
variable {w w' : World} {S P N : Nat} {s s' : Shf}
theorem ShelfAt.same (h : ShelfAt w S P N s) (k : ∀ b, b = S ∨ b = P ∨ b = N → w'.heap[b]? = w.heap[b]?) : ShelfAt w' S P N s :=
  ⟨(k S (by simp)).trans h.blk, h.ps.same (k P (by simp)), h.ns.same (k N (by simp)), h.sp, h.sn, h.pn⟩
theorem ShelfAt.lt (h : ShelfAt w S P N s) : S < w.heap.size ∧ P < w.heap.size ∧ N < w.heap.size := ⟨h.blk.lt, h.ps.lt, h.ns.lt⟩
theorem ShelfAt.below (h : ShelfAt w S P N s) (hb : Below w.heap.size w w') : ShelfAt w' S P N s := by
  obtain ⟨h1, h2, h3⟩ := h.lt
  exact h.same fun b hbe => hb.block b (by rcases hbe with rfl | rfl | rfl <;> assumption)
theorem ShelfAt.putP (h : ShelfAt w S P N s) {ps' : List (Nat × (Bs × Nat))} (hm : MapOf encN okN w' P (ps'.map fun p => (p.1, pv p.2))) (hg : w.grownBy w' (some P)) : ShelfAt w' S P N ⟨ps', s.ns⟩ :=
  ⟨h.blk.grown hg (by simp [h.sp]), hm, h.ns.grown hg (by simp [h.pn.symm]), h.sp, h.sn, h.pn⟩
theorem ShelfAt.putN (h : ShelfAt w S P N s) {ns' : List (Bs × Nat)} (hm : MapOf encB okB w' N (ns'.map fun p => (p.1, encN p.2))) (hg : w.grownBy w' (some N)) : ShelfAt w' S P N ⟨s.ps, ns'⟩ :=
  ⟨h.blk.grown hg (by simp [h.sn]), h.ps.grown hg (by simp [h.pn]), hm, h.sp, h.sn, h.pn⟩
/-- s.pieces[n], at any world with the same blocks -/
theorem ShelfAt.lookP (h : ShelfAt w S P N s) (n : Nat) (hn : n ≤ 1000000000) (c : Bool) (W : World) (hW : W.heap[P]? = w.heap[P]?) :
    (Instr.lookup 85 (.map (some P)) (.int .i64 (n : Int)) c).run Try.prog W = .ok (if c then .tuple #[pv ((mget s.ps n).getD ([], 0)), .bool (mget s.ps n).isSome] else pv ((mget s.ps n).getD ([], 0))) W := by
  have := (h.ps.same hW).lookup enc_N Try.underlying85 zero_pc (a := n) hn c
  rw [mget_mapv] at this
  have e1 : ((mget s.ps n).map pv).getD (.agg #[.string ⟨#[]⟩, .int .i64 0]) = pv ((mget s.ps n).getD ([], 0)) := by cases mget s.ps n <;> rfl
  have e2 : ((mget s.ps n).map pv).isSome = (mget s.ps n).isSome := by cases mget s.ps n <;> rfl
  rw [e1, e2] at this
  exact this
theorem ShelfAt.lookN (h : ShelfAt w S P N s) (b : Bs) (hb : b.length ≤ 65536) (W : World) (hW : W.heap[N]? = w.heap[N]?) :
    (Instr.lookup 86 (.map (some N)) (.string ⟨b.toArray⟩) true).run Try.prog W = .ok (.tuple #[.int .i64 ((mget s.ns b).getD 0 : Nat), .bool (mget s.ns b).isSome]) W := by
  have := (h.ns.same hW).lookup enc_B Try.underlying86 zero_in (a := b) hb true
  rw [mget_mapv] at this
  have e1 : ((mget s.ns b).map encN).getD (.int .i64 0) = .int .i64 ((mget s.ns b).getD 0 : Nat) := by cases mget s.ns b <;> rfl
  have e2 : ((mget s.ns b).map encN).isSome = (mget s.ns b).isSome := by cases mget s.ns b <;> rfl
  rw [e1, e2, if_pos rfl] at this
  exact this
end

set_option maxRecDepth 100000 in
theorem newshelf_any (w : World) : Calls Try.prog 14 #[] w fun e w' => ∃ S P N, e = .returned (.pointer (some ⟨S, 0, none⟩)) ∧ ShelfAt w' S P N ⟨[], []⟩ ∧ w.heap.size ≤ S ∧ w.heap.size ≤ P ∧ w.heap.size ≤ N ∧ Below w.heap.size w w' := by
  have hm1 := @run_makeMap Try.prog
  go_enter Try.func14, Try.ntmps14
  go_wp2
  go_ret
  have b1 : MapOf encN okN (w.alloc (.map #[] 0)) w.heap.size [] := MapOf.new w
  have b2 : MapOf encB okB ((w.alloc (.map #[] 0)).alloc (.map #[] 0)) (w.alloc (.map #[] 0)).heap.size [] := MapOf.new _
  have b3 := Blk.new ((w.alloc (.map #[] 0)).alloc (.map #[] 0)) 88 [.map (some w.heap.size), .map (some (w.heap.size + 1))]
  simp at b2 b3
  exact ⟨_, _, _, rfl, ⟨b3, (b1.alloc _).alloc _, b2.alloc _, by omega, by omega, by omega⟩, by omega, by omega, by omega, (((Below.refl _ _).alloc (Nat.le_refl _) _).alloc (by simp) _).alloc (by simp; omega) _⟩
end Go.Proofs.Yteojmmjanjilaaa
