/- Contract of (*Shelf).Size. · A store in memory; contracts of store's New, Size and Drop. -/
import Derived.Test.YteojmmjanjilaaaShelfPut
import Derived.Deep.LoopGhost
import Derived.Test.YteojmmjanjilaaaPart44
import Derived.Test.YteojmmjanjilaaaShelfFree
set_option linter.unusedVariables false
namespace Go.Proofs.Yteojmmjanjilaaa
open Go.RowKit Go.Mem Go.Chunk Go.Maps
/-- the length of a piece's value -/
def lenS : Value → Nat
  | .agg a => match a.toList with
    | Value.string s :: _ => s.size
    | _ => 0
  | _ => 0
theorem lenS_pv (p : Bs × Nat) : lenS (pv p) = p.1.length := by simp [lenS, pv, ByteArray.size]
theorem sizeB_lens (ps : List (Nat × (Bs × Nat))) : ((ps.map fun p => (p.1, pv p.2)).map fun q => lenS q.2).sum = sizeB ps := by
  unfold sizeB
  rw [List.map_map]
  congr 1
theorem sizeB_le (ps : List (Nat × (Bs × Nat))) (h : ∀ p ∈ ps, p.2.1.length ≤ 65536) : sizeB ps ≤ 65536 * ps.length := by
  induction ps with
  | nil => simp [sizeB]
  | cons p r ih =>
    have h1 := ih fun q hq => h q (by simp [hq])
    have h2 := h p (by simp)
    simp only [sizeB, List.map_cons, List.sum_cons, List.length_cons] at h1 ⊢
    omega
set_option maxRecDepth 100000 in
set_option maxHeartbeats 2000000 in
theorem size_any (w : World) (S P N : Nat) (s : Shf) (hs : ShelfAt w S P N s) (hl : s.ps.length ≤ 500) (h32 : ∀ p ∈ s.ps, p.2.1.length ≤ 65536) :
    Calls Try.prog 17 #[.pointer (some ⟨S, 0, none⟩)] w fun e w' => e = .returned (.tuple #[.int .i64 (s.ps.length : Nat), .int .i64 (sizeB s.ps : Nat)]) ∧ Below w.heap.size w w' := by
  have c0 := hs.blk.cell 0
  simp only [List.getElem?_cons_zero] at c0
  have lS := hs.blk.lt
  have HS := Lib.hid hs
  have H32 := Lib.hid h32
  obtain ⟨TOT, hT⟩ : ∃ T, T = sizeB s.ps := ⟨_, rfl⟩
  have hTle : TOT ≤ 65536 * 500 := by rw [hT]; exact Nat.le_trans (sizeB_le _ H32.out) (Nat.mul_le_mul_left _ hl)
  rw [← hT]
  obtain ⟨k, hk⟩ : ∃ k, k = s.ps.length := ⟨_, rfl⟩
  rw [← hk] at hl ⊢
  have hlen := fun ty W hW => (HS.out.ps.same (w' := W) hW).len (P := Try.prog) Try.underlying85 ty
  rw [List.length_map, ← hk] at hlen
  have HLen := Lib.hid hlen
  clear hs h32 hk hlen
  go_enter Try.func17, Try.ntmps17
  go_wp2_with (refine wpList_mrange _ rfl (.tmp 10) _ rfl Try.underlying85 rfl (by exact HS.out.ps) ?_; intro w2 hit hb hsz)
  go_frame
  obtain ⟨R, hR⟩ : ∃ R, R = w.heap.size := ⟨_, rfl⟩
  rw [← hR] at hit ⊢
  obtain ⟨L, hL⟩ : ∃ L, L = s.ps.map fun p => (p.1, pv p.2) := ⟨_, rfl⟩
  rw [← hL] at hit
  have hsum : (L.map fun q => lenS q.2).sum = TOT := by rw [hL, hT, sizeB_lens]
  have HI := Lib.hid hit
  have HSum := Lib.hid hsum
  have HL := Lib.hid hL
  have HT := Lib.hid hT
  have HB := Lib.hid hb
  have HRr := Lib.hid hR
  have hPR : P ≠ R := by have := HS.out.lt.2.1; omega
  clear hit hsum hL hT hb hR hsz
  go_loopg [4] L.length (fun g v wr => ∃ left acc, v = .int .i64 ((acc : Nat) : Int) ∧ Hid (left.length = g ∧ IterOf encN okN wr P R L left ∧ (∀ p ∈ left, p ∈ L) ∧ acc + (left.map fun q => lenS q.2).sum = TOT ∧ Below w.heap.size w wr))
  case atStart => exact ⟨L, 0, rfl, rfl, HI.out, fun _ h => h, by rw [Nat.zero_add]; exact HSum.out, HB.out⟩
  case round =>
    obtain ⟨left, acc, rfl, HJ⟩ := hrel
    have hacc : acc ≤ TOT := by have := HJ.out.2.2.2.1; omega
    have hsw : ShelfAt wr S P N s := HS.out.below HJ.out.2.2.2.2
    have cS := hsw.blk.cell 0
    simp only [List.getElem?_cons_zero] at cS
    have lSw := hsw.blk.lt
    have hln := fun ty => HLen.out ty wr (HJ.out.2.2.2.2.block P HS.out.lt.2.1)
    clear hsw
    go_wp2_with (refine wpList_mnext _ rfl (.tmp 11) rfl rfl HJ.out.2.1 hPR (fun h0 => ?_) ?_; rotate_left; intro x v l1 l2 w6 h0 hit6 hg6 hs6 hent; obtain ⟨p9, hp9, hv⟩ : ∃ p ∈ s.ps, v = pv p.2 := (by have h1 := HJ.out.2.2.1 (x, v) (by rw [h0]; simp); rw [HL.out] at h1; obtain ⟨p, hp, e⟩ := List.mem_map.1 h1; injection e with _ e; exact ⟨p, hp, e.symm⟩); obtain ⟨n9, b9, h9⟩ := p9; have hb9 := H32.out _ hp9; subst hv; have hac : acc + b9.length ≤ TOT := (by have h1 := HJ.out.2.2.2.1; rw [h0] at h1; simp only [List.map_append, List.map_cons, List.sum_append, List.sum_cons, lenS_pv] at h1; omega); have hb6 : Below w.heap.size w w6 := (HJ.out.2.2.2.2.grown hg6 HJ.out.2.2.2.2.size (fun q hq => by injection hq with hq; have := HRr.out; omega)); have H6 := Lib.hid hb6; have H0 := Lib.hid h0; have HIT := Lib.hid hit6; simp only [pv] at hent hac hb9; clear h0 hp9 hb6 hit6 hg6 hs6)
    · go_roundg (l1 ++ l2).length
      case measure =>
        have e1 := HJ.out.1
        rw [H0.out] at e1
        simp at e1 ⊢
        omega
      case rel =>
        refine ⟨l1 ++ l2, acc + b9.length, by simp, rfl, HIT.out.same (Below.heap_alloc w6 _ P HIT.out.lt.1) (Below.heap_alloc w6 _ R HIT.out.lt.2), fun p hp => HJ.out.2.2.1 p (by rw [H0.out]; rcases List.mem_append.1 hp with hp | hp; exact List.mem_append_left _ hp; exact List.mem_append_right _ (List.mem_cons_of_mem _ hp)), ?_, H6.out.alloc H6.out.size _⟩
        have e1 := HJ.out.2.2.2.1
        rw [H0.out] at e1
        simp only [List.map_append, List.map_cons, List.sum_append, List.sum_cons, lenS_pv] at e1 ⊢
        omega
    · have hacc2 : acc = TOT := by
        have := HJ.out.2.2.2.1
        rw [h0] at this
        simpa using this
      subst hacc2
      go_ret2
      exact ⟨rfl, HJ.out.2.2.2.2⟩
end Go.Proofs.Yteojmmjanjilaaa
set_option linter.unusedVariables false
namespace Go.Proofs.Yteojmmjanjilaaa
open Go.RowKit Go.Mem Go.Chunk Go.Maps
/-- a store in blocks T, M, its shelf in S, P, N -/
structure StoreAt (w : World) (T M S P N : Nat) (s : Shf) (m : List (Nat × Value)) : Prop where
  blk : Blk w T 61 [.pointer (some ⟨S, 0, none⟩), .map (some M)]
  sh : ShelfAt w S P N s
  mp : MapOf encN okN w M m
  ne : M ≠ S ∧ M ≠ P ∧ M ≠ N ∧ M ≠ T ∧ T ≠ S ∧ T ≠ P ∧ T ≠ N
def OwnMPN (M P N : Nat) (b : Nat) : Prop := b = M ∨ b = P ∨ b = N
section
variable {w w' : World} {T M S P N : Nat} {s s' : Shf} {m m' : List (Nat × Value)}
theorem StoreAt.lt (h : StoreAt w T M S P N s m) : T < w.heap.size ∧ M < w.heap.size ∧ S < w.heap.size ∧ P < w.heap.size ∧ N < w.heap.size := ⟨h.blk.lt, h.mp.lt, h.sh.lt⟩
theorem StoreAt.below (h : StoreAt w T M S P N s m) (hb : Below w.heap.size w w') : StoreAt w' T M S P N s m :=
  ⟨h.blk.below hb h.blk.lt, h.sh.below hb, h.mp.same (hb.block M h.mp.lt), h.ne⟩
theorem StoreAt.shelf (h : StoreAt w T M S P N s m) (hs : ShelfAt w' S P N s') (hg : GrownIn (OwnPN P N) w w') : StoreAt w' T M S P N s' m := by
  obtain ⟨h1, h2, h3, h4, h5, h6, h7⟩ := h.ne
  exact ⟨(hg.block T h.blk.lt (by unfold OwnPN; omega)).trans h.blk, hs, h.mp.same (hg.block M h.mp.lt (by unfold OwnPN; omega)), h.ne⟩
theorem StoreAt.put (h : StoreAt w T M S P N s m) (hm : MapOf encN okN w' M m') (hg : w.grownBy w' (some M)) : StoreAt w' T M S P N s m' := by
  obtain ⟨h1, h2, h3, h4, h5, h6, h7⟩ := h.ne
  obtain ⟨l1, l2, l3⟩ := h.sh.lt
  refine ⟨h.blk.grown hg (by simp; omega), h.sh.same fun b hb => ?_, hm, h.ne⟩
  rcases hb with rfl | rfl | rfl
  · exact hg.block _ l1 (by simp; omega)
  · exact hg.block _ l2 (by simp; omega)
  · exact hg.block _ l3 (by simp; omega)
end
theorem zero_sl : ∀ w : World, (zeroValue 46).run Try.prog w = .ok (.slice none 0 0) w := fun _ => by kernel_rfl
set_option maxRecDepth 100000 in
theorem newstore_any (w : World) : Calls Try.prog 5 #[] w fun e w' => ∃ T M S P N, e = .returned (.pointer (some ⟨T, 0, none⟩)) ∧ StoreAt w' T M S P N ⟨[], []⟩ [] ∧ w.heap.size ≤ T ∧ w.heap.size ≤ M ∧ w.heap.size ≤ S ∧ w.heap.size ≤ P ∧ w.heap.size ≤ N ∧ Below w.heap.size w w' := by
  have hm1 := @run_makeMap Try.prog
  go_enter Try.func5, Try.ntmps5
  go_wp2_with (fail)
  refine (newshelf_any w).mono ?_
  rintro e w1 ⟨S, P, N, rfl, hs, hS, hP, hN, hb⟩
  have HS := Lib.hid (And.intro hs (And.intro hS (And.intro hP (And.intro hN hb))))
  clear hs hS hP hN hb
  go_wp2_with (fail)
  go_ret
  obtain ⟨hs, hS, hP, hN, hb⟩ := HS.out
  obtain ⟨l1, l2, l3⟩ := hs.lt
  have b1 : MapOf encN okN (w1.alloc (.map #[] 0)) w1.heap.size [] := MapOf.new w1
  have b2 := Blk.new (w1.alloc (.map #[] 0)) 61 [.pointer (some ⟨S, 0, none⟩), .map (some w1.heap.size)]
  have hb1 : Below w1.heap.size w1 (w1.alloc (.map #[] 0)) := (Below.refl _ _).alloc (Nat.le_refl _) _
  have hb2 : Below w1.heap.size w1 ((w1.alloc (.map #[] 0)).alloc (.cells #[.pointer (some ⟨S, 0, none⟩), .map (some w1.heap.size)] 61)) := hb1.alloc (by simp) _
  have hz := hb.size
  refine ⟨(w1.alloc (.map #[] 0)).heap.size, w1.heap.size, S, P, N, by simp, ⟨b2, hs.below hb2, b1.alloc _, ?_⟩, by simp; omega, hz, hS, hP, hN, hb.trans (hb2.mono hz)⟩
  simp
  omega
set_option maxRecDepth 100000 in
theorem ssize_any (w : World) (T M S P N : Nat) (s : Shf) (m : List (Nat × Value)) (h : StoreAt w T M S P N s m) (hl : s.ps.length ≤ 500) (h32 : ∀ p ∈ s.ps, p.2.1.length ≤ 65536) (hm : m.length ≤ 1000) :
    Calls Try.prog 7 #[.pointer (some ⟨T, 0, none⟩)] w fun e w' => e = .returned (.tuple #[.int .i64 (m.length : Nat), .int .i64 (s.ps.length : Nat), .int .i64 (sizeB s.ps : Nat)]) ∧ Below w.heap.size w w' := by
  have c0 := h.blk.cell 0
  simp only [List.getElem?_cons_zero] at c0
  have lT := h.blk.lt
  have H := Lib.hid h
  have H32 := Lib.hid h32
  clear h h32
  go_enter Try.func7, Try.ntmps7
  go_wp2_with (fail)
  refine (size_any w S P N s H.out.sh hl H32.out).mono ?_
  rintro e w1 ⟨rfl, hb⟩
  have h1 := H.out.below hb
  have H1 := Lib.hid h1
  have c1 := h1.blk.cell 1
  simp only [List.getElem?_cons_succ, List.getElem?_cons_zero] at c1
  have lT1 := h1.blk.lt
  have HB := Lib.hid hb
  clear hb h1 c0
  have hlen := fun ty W hW => (H1.out.mp.same (w' := W) hW).len (P := Try.prog) Try.underlying59 ty
  have hl0 := fun ty => hlen ty w1 rfl
  clear hlen
  go_wp2_with (fail)
  go_ret3
  exact ⟨rfl, HB.out⟩
section
variable {w w' : World} {T M S P N : Nat} {s s' : Shf} {m m' : List (Nat × Value)}
theorem StoreAt.look0 (h : StoreAt w T M S P N s m) (k : Nat) (hk : k ≤ 1000000000) {v : Value} (hg : (mget m k).getD (.slice none 0 0) = v) (W : World) (hW : W.heap[M]? = w.heap[M]?) :
    (Instr.lookup 59 (.map (some M)) (.int .i64 (k : Nat)) false).run Try.prog W = .ok v W := by
  have := (h.mp.same hW).lookup enc_N Try.underlying59 zero_sl (a := k) hk false
  rw [hg] at this
  exact this
theorem StoreAt.look (h : StoreAt w T M S P N s m) (k : Nat) (hk : k ≤ 1000000000) {v : Value} (hg : (mget m k).getD (.slice none 0 0) = v) {c : Bool} (hc : (mget m k).isSome = c) (W : World) (hW : W.heap[M]? = w.heap[M]?) :
    (Instr.lookup 59 (.map (some M)) (.int .i64 (k : Nat)) true).run Try.prog W = .ok (.tuple #[v, .bool c]) W := by
  have := (h.mp.same hW).lookup enc_N Try.underlying59 zero_sl (a := k) hk true
  rw [hg, hc] at this
  exact this
end
set_option maxRecDepth 100000 in
theorem sdrop_none (w : World) (T M S P N : Nat) (s : Shf) (m : List (Nat × Value)) (k : Nat) (h : StoreAt w T M S P N s m) (hk9 : k ≤ 1000) (hget : mget m k = none) :
    Calls Try.prog 10 #[.pointer (some ⟨T, 0, none⟩), .int .i64 (k : Nat)] w fun e w' => e = .returned (.int .i64 4) ∧ w = w' := by
  have lk := h.look k (by omega) (v := .slice none 0 0) (by rw [hget]; rfl) (c := false) (by rw [hget]; rfl) w rfl
  have c1 := h.blk.cell 1
  simp only [List.getElem?_cons_succ, List.getElem?_cons_zero] at c1
  have lT := h.blk.lt
  clear h hget
  go_enter Try.func10, Try.ntmps10
  go_wp2_with (fail)
  go_ret
  exact ⟨rfl, rfl⟩
set_option maxRecDepth 100000 in
set_option maxHeartbeats 1000000 in
theorem sdrop_any (w : World) (T M S P N : Nat) (s : Shf) (H : Bs → Nat) (m : List (Nat × Value)) (k : Nat) (A : Option Addr) (n c : Nat) (l : List Bs) (out : List Nat) (h : StoreAt w T M S P N s m) (hk9 : k ≤ 1000) (hget : mget m k = some (.slice A n c)) (hk : s.Ok H) (hnum : Nums s l out) (hcnt : ∀ b, l.count b ≤ H b) (h32 : ∀ b ∈ l, b.length ≤ 65536) (hH6 : ∀ b, H b ≤ 1000000)
    (hr : Reads w (fun q => q ≠ M ∧ q ≠ P ∧ q ≠ N) 1 A n (nums (nat64 out))) (hn : n = out.length) (hn6 : n ≤ 1000000) :
    Calls Try.prog 10 #[.pointer (some ⟨T, 0, none⟩), .int .i64 (k : Nat)] w fun e w' => e = .returned (.int .i64 0) ∧ StoreAt w' T M S P N (freeL s out) (mdel m k) ∧ GrownIn (OwnMPN M P N) w w' := by
  have lk := h.look k (by omega) (v := .slice A n c) (by rw [hget]; rfl) (c := true) (by rw [hget]; rfl) w rfl
  have c1 := h.blk.cell 1
  simp only [List.getElem?_cons_succ, List.getElem?_cons_zero] at c1
  have lT := h.blk.lt
  have HF := Lib.hid (fun (W : World) (hs : ShelfAt W S P N s) (hr : Reads W (fun q => q ≠ P ∧ q ≠ N) 1 A n (nums (nat64 out))) => frees_any W S P N s H A n c l out hs hk hnum hcnt h32 hH6 hr hn hn6)
  have HS := Lib.hid h
  have HR := Lib.hid hr
  have HM := h.mp
  clear hk hnum hcnt h32 hH6 hr hn hget h
  go_enter Try.func10, Try.ntmps10
  go_wp2_with (refine wpList_mdelete _ rfl (.tmp 21) (.tmp 22) _ rfl enc_N Try.underlying59 (b := M) (key := k) rfl (by exact HM) rfl (by unfold okN; omega) ?_; intro w2 hm2 hg2; have h2 := HS.out.put hm2 hg2; have c0 := h2.blk.cell 0; simp only [List.getElem?_cons_zero] at c0; have lT2 := h2.blk.lt)
  have hgi : GrownIn (OwnMPN M P N) w w2 := GrownIn.of_grown hg2 (by intro q hq; injection hq with hq; exact .inl hq.symm)
  have hr2 := (HR.out.imp (D' := fun q => q ≠ M ∧ q ≠ P ∧ q ≠ N) (by omega) fun b hb _ => hb).keep (Same.of_in hgi fun b hb _ => by unfold OwnMPN; omega)
  have FF := Lib.hid (HF.out w2 h2.sh (hr2.imp (by omega) fun b hb _ => hb.2))
  have H2 := Lib.hid h2
  have HG := Lib.hid hgi
  clear hm2 hg2 h2 hgi hr2 HM lk HF c1
  refine FF.out.mono ?_
  rintro e w3 ⟨rfl, hs3, hg3⟩
  have h3 := H2.out.shelf hs3 hg3
  have hg4 : GrownIn (OwnMPN M P N) w w3 := HG.out.trans hg3 fun b hb => .inl (.inr hb)
  have H3 := Lib.hid (And.intro h3 hg4)
  clear h3 hg4 hs3 hg3
  go_wp2_with (fail)
  go_ret
  exact ⟨rfl, H3.out.1, H3.out.2⟩
end Go.Proofs.Yteojmmjanjilaaa
