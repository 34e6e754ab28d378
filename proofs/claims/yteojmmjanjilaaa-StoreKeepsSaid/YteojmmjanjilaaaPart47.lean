/- Contract of store.Read at beginnings of a snapshot's encoding. (Printed by storeread.py.) · Contracts of store's Load and Keep. -/
import Derived.Test.YteojmmjanjilaaaStoreDec
import Derived.Test.YteojmmjanjilaaaPart46
import Derived.Laws.Cover3
set_option linter.unusedVariables false
namespace Go.Proofs.Yteojmmjanjilaaa
open Go.RowKit Go.Mem Go.Val Go.Chunk

set_option maxRecDepth 100000 in
theorem bytesEq_any (A B : Option Addr) (n c m d : Nat) (bs : List UInt8) (D E : Nat → Prop) (w : World) (hr : Reads w D 1 A n (u8s bs)) (hs : Reads w E 1 B m (u8s bs)) :
    Calls Try.prog 38 #[.slice A n c, .slice B m d] w fun e w' => e = .returned (.bool true) ∧ w = w' := by
  have k1 := run_convert_reads (P := Try.prog) w 62 9 _ Try.underlying62 (by kernel_rfl) (by kernel_rfl) (c := c) hr
  have k2 := run_convert_reads (P := Try.prog) w 62 9 _ Try.underlying62 (by kernel_rfl) (by kernel_rfl) (c := d) hs
  generalize (⟨bs.toArray⟩ : ByteArray) = S at k1 k2
  clear hr hs
  have hb : (S == S) = true := (MapKept.bytes_beq S S).2 rfl
  go_enter Try.func38, Try.ntmps38
  go_wp2
  go_ret
  exact ⟨rfl, rfl⟩

def RdPost (w : World) (s : Snp) (K : Nat) (e : Ending) (w' : World) : Prop :=
  ((snapE 41 s).length ≤ K ∧ ∃ cs, e = .returned (.tuple #[.agg cs.toArray, .int .i64 0]) ∧ SnCells 41 w' (fun b => w.heap.size ≤ b) cs s ∧ Below w.heap.size w w') ∨
    (K < (snapE 41 s).length ∧ e = .returned (.tuple #[.agg #[.int .i64 0, .slice none 0 0, .slice none 0 0], .int .i64 3]) ∧ Below w.heap.size w w')

set_option maxRecDepth 100000 in
set_option maxHeartbeats 2000000 in
theorem sRead_any (s : Snp) (K : Nat) (A : Option Addr) (n c : Nat) (w : World) (hg : NiceSn s) (hn : n = ((snapE 41 s).take K).length) (hK : K ≤ (snapE 41 s).length) (hnc : n ≤ c) (hcm : c ≤ maxLen) (hr : Reads w Any 1 A n (u8s ((snapE 41 s).take K))) :
    Calls Try.prog 19 #[.slice A n c] w (RdPost w s K) := by
  obtain ⟨W, hW⟩ : ∃ W, W = w.alloc (.cells #[.int .i64 0, .slice none 0 0, .slice none 0 0] 26) := ⟨_, rfl⟩
  have hZ : Blk W w.heap.size 26 [.int .i64 0, .slice none 0 0, .slice none 0 0] := by rw [hW]; exact Blk.new w _ _
  have hbW : Below w.heap.size w W := by rw [hW]; exact (Below.refl _ _).alloc (Nat.le_refl _) _
  have hsW : W.heap.size = w.heap.size + 1 := by rw [hW]; simp
  have HsW := Lib.hid hsW
  have HW := Lib.hid hW
  clear hW hsW
  have DE := Lib.hid (sdec_any s K A n c W hg hn hK hnc hcm (hr.keep (Same.any hbW)))
  have Hg := Lib.hid hg
  have HK := Lib.hid hK
  clear hg hn hK
  go_enter Try.func19, Try.ntmps19
  go_wp2_with (fail)
  rw [← HW.out]
  clear HW
  refine DE.out.mono ?_
  rintro e w1 (⟨hfull, cs, rfl, hv1, hb1⟩ | ⟨hless, rfl, hb1⟩)
  · have hZ1 := hZ.below hb1 hZ.lt
    have hw1 : Below w.heap.size w w1 := hbW.trans (hb1.mono hbW.size)
    obtain ⟨A1, c1, A2, c2, rfl⟩ := SnCells.out hv1
    have SBy := fun (W : World) (cs : List Value) (h : SnCells 41 W Any cs s) => sbytes_any s cs W h Hg.out
    have HSBy := Lib.hid SBy
    have htk : (snapE 41 s).take K = snapE 41 s := List.take_of_length_le hfull
    rw [htk] at hr
    have Hfull := Lib.hid hfull
    clear SBy DE htk hfull hZ
    have hl : n = (snapE 41 s).length := by have := hr.len; rwa [u8s_length] at this
    have Hl := Lib.hid hl
    clear hl
    have HS : Hid (s.parcels.length = s.parcels.length) := rfl
    obtain ⟨W2, hW2⟩ : ∃ W2, W2 = w1.alloc (.cells #[.int .i64 s.time, .slice A1 s.parcels.length c1, .slice A2 s.ways.length c2] 26) := ⟨_, rfl⟩
    have hO2 : Blk W2 w1.heap.size 26 [.int .i64 s.time, .slice A1 s.parcels.length c1, .slice A2 s.ways.length c2] := by rw [hW2]; exact Blk.new w1 _ _
    have hb2 : Below w1.heap.size w1 W2 := by rw [hW2]; exact (Below.refl _ _).alloc (Nat.le_refl _) _
    have hv2 := (SnCells.stable 41).keep hv1 (Same.any (D := fun b => W.heap.size ≤ b) hb2)
    have hZ2 := hZ1.below hb2 hZ1.lt
    have hw2 : Below w.heap.size w W2 := hw1.trans (hb2.mono hw1.size)
    go_wp2_with (fail)
    rw [← hW2]
    clear hW2 hv1 hZ1 hb2
    refine (HSBy.out W2 _ ((SnCells.stable 41).imp hv2 fun _ _ _ => trivial)).mono ?_
    rintro e w3 ⟨A3, c3, rfl, ho3, hb3⟩
    obtain ⟨_, _, hr3⟩ := own_reads (by omega) ho3
    have hO3 := hO2.below hb3 hO2.lt
    have hZ3 := hZ2.below hb3 hZ2.lt
    have hv3 := (SnCells.stable 41).keep hv2 (Same.any (D := fun b => W.heap.size ≤ b) hb3)
    have hw3 : Below w.heap.size w w3 := hw2.trans (hb3.mono hw2.size)
    have BE := Lib.hid (bytesEq_any A3 A (snapE 41 s).length c3 n c (snapE 41 s) _ Any w3 hr3 (hr.keep (Same.any hw3)))
    generalize (snapE 41 s).length = SL at BE ⊢
    clear HSBy hO2 hZ2 hv2 ho3 hr3 hr hb3 hw2 hw1
    have zz0 := hZ3.cell 0
    have zz1 := hZ3.cell 1
    have zz2 := hZ3.cell 2
    have fz0 := hZ3.frozen 0
    have fz1 := hZ3.frozen 1
    have fz2 := hZ3.frozen 2
    simp only [List.getElem?_cons_succ, List.getElem?_cons_zero] at zz0 zz1 zz2
    have oo0 := hO3.cell 0
    have oo1 := hO3.cell 1
    have oo2 := hO3.cell 2
    simp only [List.getElem?_cons_succ, List.getElem?_cons_zero] at oo0 oo1 oo2
    have lz := hZ3.lt
    have lo := hO3.lt
    have hq := setRow_blk hZ3 [.int .i64 s.time, .slice A1 s.parcels.length c1, .slice A2 s.ways.length c2] rfl
    have hbq := setRow_below (Nat.le_refl w.heap.size) [.int .i64 s.time, .slice A1 s.parcels.length c1, .slice A2 s.ways.length c2] w3 0 hw3
    have hvq := (SnCells.stable 41).imp ((SnCells.stable 41).keep hv3 (setRow_same (g := w.heap.size) (by have := HsW.out; omega) [.int .i64 s.time, .slice A1 s.parcels.length c1, .slice A2 s.ways.length c2] w3 0)) (D' := fun b => w.heap.size ≤ b) fun b hb _ => by have := HsW.out; omega
    simp only [setRow, Nat.reduceAdd] at hq hbq hvq
    have Hq := Lib.hid hq
    have Hbq := Lib.hid hbq
    have Hvq := Lib.hid hvq
    clear hq hbq hvq hZ3 hO3 hv3 hw3
    go_wp2_with (go_at_call 38; refine BE.out.mono ?_; rintro e w' ⟨rfl, rfl⟩)
    refine ret_blk_tmp rfl rfl Hq.out Try.underlying26 (by kernel_rfl) rfl ?_
    exact .inl ⟨Hfull.out, _, rfl, Hvq.out, Hbq.out⟩
  · have hZ1 := hZ.below hb1 hZ.lt
    have hw1 : Below w.heap.size w w1 := hbW.trans (hb1.mono hbW.size)
    have Hless := Lib.hid hless
    have zz0 := hZ1.cell 0
    have zz1 := hZ1.cell 1
    have zz2 := hZ1.cell 2
    have fz0 := hZ1.frozen 0
    have fz1 := hZ1.frozen 1
    have fz2 := hZ1.frozen 2
    simp only [List.getElem?_cons_succ, List.getElem?_cons_zero] at zz0 zz1 zz2
    have lz := hZ1.lt
    have hq := (setRow_blk hZ1 [.int .i64 0, .slice none 0 0, .slice none 0 0] rfl).alloc (.cells #[.int .i64 0, .slice none 0 0, .slice none 0 0] 26)
    have hb9 := setRow_below (Nat.le_refl w.heap.size) [.int .i64 0, .slice none 0 0, .slice none 0 0] w1 0 hw1
    have hbq := hb9.alloc hb9.size (.cells #[.int .i64 0, .slice none 0 0, .slice none 0 0] 26)
    simp only [setRow, Nat.reduceAdd] at hq hbq
    have Hq := Lib.hid hq
    have Hbq := Lib.hid hbq
    clear hq hbq hb9 hZ1 hw1 hr hless DE
    go_wp2_with (fail)
    refine ret_blk_tmp rfl rfl Hq.out Try.underlying26 (by kernel_rfl) rfl ?_
    exact .inr ⟨Hless.out, rfl, Hbq.out⟩
end Go.Proofs.Yteojmmjanjilaaa
set_option linter.unusedVariables false
namespace Go.Proofs.Yteojmmjanjilaaa
open Go.RowKit Go.Mem Go.Val Go.Chunk Go.Maps
set_option maxRecDepth 100000 in
set_option maxHeartbeats 1000000 in
theorem sload_any (x : Snp) (w : World) (T M S P N : Nat) (s : Shf) (H : Bs → Nat) (m : List (Nat × Value)) (k : Nat) (A : Option Addr) (n c : Nat) (l : List Bs) (out : List Nat) (h : StoreAt w T M S P N s m) (hk9 : k ≤ 1000) (hget : mget m k = some (.slice A n c)) (hk : s.Ok H) (hnum : Nums s l out) (hr : Reads w Any 1 A n (nums (nat64 out))) (hn : n = out.length) (hn6 : n ≤ 1000000) (hle : (snapE 41 x).length ≤ 1000000) (hfl : l.flatten = snapE 41 x) (hg : NiceSn x) :
    Calls Try.prog 8 #[.pointer (some ⟨T, 0, none⟩), .int .i64 (k : Nat)] w fun e w' => ∃ cs, e = .returned (.tuple #[.agg cs.toArray, .int .i64 0]) ∧ SnCells 41 w' (fun b => w.heap.size ≤ b) cs x ∧ Below w.heap.size w w' := by
  obtain ⟨W, hW⟩ : ∃ W, W = w.alloc (.cells #[.int .i64 0, .slice none 0 0, .slice none 0 0] 26) := ⟨_, rfl⟩
  have hZ : Blk W w.heap.size 26 [.int .i64 0, .slice none 0 0, .slice none 0 0] := by rw [hW]; exact Blk.new w _ _
  have hbW : Below w.heap.size w W := by rw [hW]; exact (Below.refl _ _).alloc (Nat.le_refl _) _
  have hsW : W.heap.size = w.heap.size + 1 := by rw [hW]; simp
  have hx := h.below hbW
  have lk := hx.look k (by omega) (v := .slice A n c) (by rw [hget]; rfl) (c := true) (by rw [hget]; rfl) W rfl
  have LD := Lib.hid (load_any W S P N s H A n c l out hx.sh hk hnum (hr.keep (Same.any hbW)) hn hn6 (by rw [hfl]; exact hle))
  rw [hfl] at LD
  have c0 := hx.blk.cell 0
  have c1 := hx.blk.cell 1
  simp only [List.getElem?_cons_succ, List.getElem?_cons_zero] at c0 c1
  have lT := hx.blk.lt
  rw [hW] at c0 c1 lT lk
  have HsW := Lib.hid hsW
  have HW := Lib.hid hW
  have Hg := Lib.hid hg
  have HB := Lib.hid hbW
  clear hW hsW hx hg hr hn hnum hk hget h hfl hbW
  go_enter Try.func8, Try.ntmps8
  go_wp2_with (fail)
  rw [← HW.out]
  clear HW
  refine LD.out.mono ?_
  rintro e w1 ⟨A1, c1', rfl, hc1, hm1, hr1, hb1⟩
  have hZ1 := hZ.below hb1 hZ.lt
  have hw1 : Below w.heap.size w w1 := HB.out.trans (hb1.mono HB.out.size)
  have htk : (snapE 41 x).take (snapE 41 x).length = snapE 41 x := List.take_of_length_le (Nat.le_refl _)
  have RD := Lib.hid (sRead_any x (snapE 41 x).length A1 (snapE 41 x).length c1' w1 Hg.out (by rw [htk]) (Nat.le_refl _) hc1 hm1 (by rw [htk]; exact hr1.imp (by omega) fun _ _ _ => trivial))
  have HZ1 := Lib.hid hZ1
  have HW1 := Lib.hid hw1
  have hs1 : W.heap.size ≤ w1.heap.size := hb1.size
  obtain ⟨SL, hSL⟩ : ∃ SL, SL = (snapE 41 x).length := ⟨_, rfl⟩
  rw [← hSL] at RD ⊢
  have HSL := Lib.hid hSL
  clear hSL hle LD hZ hZ1 hw1 hb1 hr1 htk lk c0 c1 hc1 hm1
  go_wp2_with (fail)
  refine RD.out.mono ?_
  rintro e w2 (⟨_, cs, rfl, hv2, hb2⟩ | ⟨hlt, _⟩)
  rotate_left
  · have := HSL.out
    omega
  obtain ⟨P1, p1, P2, p2, rfl⟩ := SnCells.out hv2
  have hZ2 := HZ1.out.below hb2 HZ1.out.lt
  have hw2 : Below w.heap.size w w2 := HW1.out.trans (hb2.mono HW1.out.size)
  have zz0 := hZ2.cell 0
  have zz1 := hZ2.cell 1
  have zz2 := hZ2.cell 2
  have fz0 := hZ2.frozen 0
  have fz1 := hZ2.frozen 1
  have fz2 := hZ2.frozen 2
  simp only [List.getElem?_cons_succ, List.getElem?_cons_zero] at zz0 zz1 zz2
  have lz := hZ2.lt
  have hlt1 : w.heap.size < w1.heap.size := by have := HsW.out; omega
  have hq := setRow_blk hZ2 [.int .i64 x.time, .slice P1 x.parcels.length p1, .slice P2 x.ways.length p2] rfl
  have hbq := setRow_below (Nat.le_refl w.heap.size) [.int .i64 x.time, .slice P1 x.parcels.length p1, .slice P2 x.ways.length p2] w2 0 hw2
  have hvq := (SnCells.stable 41).imp ((SnCells.stable 41).keep hv2 (setRow_same (g := w.heap.size) (by omega) [.int .i64 x.time, .slice P1 x.parcels.length p1, .slice P2 x.ways.length p2] w2 0)) (D' := fun b => w.heap.size ≤ b) fun b hb _ => by omega
  simp only [setRow, Nat.reduceAdd] at hq hbq hvq
  have Hq := Lib.hid hq
  have Hbq := Lib.hid hbq
  have Hvq := Lib.hid hvq
  clear hq hbq hvq hZ2 hv2 hw2 hb2 RD HZ1 HW1
  go_wp2_with (fail)
  refine ret_blk_tmp rfl rfl Hq.out Try.underlying26 (by kernel_rfl) rfl ?_
  exact ⟨_, rfl, Hvq.out, Hbq.out⟩
/-- where the first free number is k + 1 -/
def RowsTo (m : List (Nat × Value)) (k : Nat) : Prop := m.length = k ∧ (∀ i, 1 ≤ i → i ≤ k → ∃ a n c, mget m i = some (.slice (some a) n c)) ∧ mget m (k + 1) = none
def SKeepPost (w : World) (T M S P N : Nat) (s : Shf) (m : List (Nat × Value)) (k : Nat) (l : List Bs) (e : Ending) (w' : World) : Prop :=
  ∃ A c out s', e = .returned (.tuple #[.int .i64 (k + 1 : Nat), .int .i64 0]) ∧ out.length ≤ c ∧ c ≤ maxLen ∧ KeepRel s l out s' ∧ StoreAt w' T M S P N s' (mput m (k + 1) (.slice A out.length c)) ∧ GrownIn (OwnMPN M P N) w w' ∧ Reads w' (fun b => w.heap.size ≤ b) 1 A out.length (nums (nat64 out)) ∧ ∀ n ∈ out, n ≤ 1000000000
set_option maxRecDepth 100000 in
set_option maxHeartbeats 2000000 in
theorem skeep_any (x : Snp) (cs : List Value) (w : World) (T M S P N : Nat) (s : Shf) (H : Bs → Nat) (m : List (Nat × Value)) (k : Nat) (h : StoreAt w T M S P N s m) (hk : s.Ok H) (hv : SnCells 41 w Any cs x) (hg : NiceSn x) (hx : (snapE 41 x).length ≤ 60000) (hm : RowsTo m k) (hk20 : k < 20)
    (hl : ∀ (j : Nat) (out : List Nat) (s1 : Shf), KeepRel s ((Chunk.cutF (snapE 41 x).length (snapE 41 x)).take j) out s1 → s1.ps.length < 500) (hH : ∀ b, H b + (snapE 41 x).length < 1000000) :
    Calls Try.prog 6 #[.pointer (some ⟨T, 0, none⟩), .agg cs.toArray] w (SKeepPost w T M S P N s m k (Chunk.cutF (snapE 41 x).length (snapE 41 x))) := by
  obtain ⟨P1, p1, P2, p2, rfl⟩ := SnCells.out hv
  obtain ⟨W, hW⟩ : ∃ W, W = w.alloc (.cells #[.int .i64 x.time, .slice P1 x.parcels.length p1, .slice P2 x.ways.length p2] 26) := ⟨_, rfl⟩
  have hZ : Blk W w.heap.size 26 [.int .i64 x.time, .slice P1 x.parcels.length p1, .slice P2 x.ways.length p2] := by rw [hW]; exact Blk.new w _ _
  have hbW : Below w.heap.size w W := by rw [hW]; exact (Below.refl _ _).alloc (Nat.le_refl _) _
  have hv2 := (SnCells.stable 41).keep hv (Same.any (D := Any) hbW)
  have SB := Lib.hid (sbytes_any x _ W hv2 hg)
  have KG := Lib.hid (fun (W : World) (A : Option Addr) (c : Nat) (hs : ShelfAt W S P N s) (hr : Reads W (fun q => q ≠ P ∧ q ≠ N) 1 A (snapE 41 x).length (u8s (snapE 41 x))) (hc : (snapE 41 x).length ≤ c) (hcm : c ≤ maxLen) => keep_gen W S P N s H A (snapE 41 x).length c (snapE 41 x) hs hk hx hl hH hr hc hcm)
  have h0 := h.below hbW
  have HS0 := Lib.hid h0
  have s0 := hZ.cell 0
  have s1 := hZ.cell 1
  have s2 := hZ.cell 2
  simp only [List.getElem?_cons_succ, List.getElem?_cons_zero] at s0 s1 s2
  have lZ := hZ.lt
  have HW := Lib.hid hW
  have HB := Lib.hid hbW
  obtain ⟨hm1, hm2, hm3⟩ := hm
  have HM := Lib.hid (And.intro hm1 (And.intro hm2 hm3))
  have hlw : P < w.heap.size ∧ N < w.heap.size := ⟨h.lt.2.2.2.1, h.lt.2.2.2.2⟩
  generalize Chunk.cutF (snapE 41 x).length (snapE 41 x) = l at KG ⊢
  clear hk hv hg hW hZ hbW hv2 h h0 hl hH hm1 hm2 hm3
  have nq1 : ∀ (a : Addr) (n c : Nat) (W : World), (binOp .neq 46 (.slice (some a) n c) (.slice none 0 0)).run Try.prog W = .ok (.bool true) W := fun a n c W => run_neq_slice_nil (P := Try.prog) W 46 3 (some a) n c Try.underlying46
  have nq0 : ∀ (n c : Nat) (W : World), (binOp .neq 46 (.slice none n c) (.slice none 0 0)).run Try.prog W = .ok (.bool false) W := fun n c W => run_neq_slice_nil (P := Try.prog) W 46 3 none n c Try.underlying46
  go_enter Try.func6, Try.ntmps6
  go_wp2_with (fail)
  rw [← HW.out]
  clear HW
  go_wp2_with (fail)
  refine SB.out.mono ?_
  rintro e w1 ⟨A1, c1, rfl, ho1, hb1⟩
  obtain ⟨hn1, hcm1, hr1⟩ := own_reads (by omega) ho1
  have h1 := HS0.out.below hb1
  have cc0 := h1.blk.cell 0
  have cc1 := h1.blk.cell 1
  simp only [List.getElem?_cons_succ, List.getElem?_cons_zero] at cc0 cc1
  have lT1 := h1.blk.lt
  have hlen := fun ty => (h1.mp.same (w' := w1) rfl).len (P := Try.prog) Try.underlying59 ty
  rw [HM.out.1] at hlen
  have hk20' : ((k : Int) == 20) = false := by simp; omega
  have hsz : w.heap.size ≤ W.heap.size := HB.out.size
  have KP := Lib.hid (KG.out w1 A1 c1 h1.sh (hr1.imp (by omega) fun b hb _ => by omega) hn1 hcm1)
  have H1 := Lib.hid h1
  have HB1 := Lib.hid (HB.out.trans (hb1.mono HB.out.size))
  generalize (snapE 41 x).length = L at KP hx ⊢
  clear KG SB HS0 s0 s1 s2 lZ ho1 hr1 hb1 h1 hn1 hcm1
  go_wp2_with (fail)
  refine KP.out.mono ?_
  rintro e w2 ⟨A2, c2, out, s', rfl, ho2, hm2, hrel, hs2, hg2, hr2, h9⟩
  have h2 := H1.out.shelf hs2 hg2
  have d1 := h2.blk.cell 1
  simp only [List.getElem?_cons_succ, List.getElem?_cons_zero] at d1
  have lT2 := h2.blk.lt
  have H2 := Lib.hid h2
  have HP2 := Lib.hid (And.intro ho2 (And.intro hm2 (And.intro hrel (And.intro hg2 (And.intro hr2 h9)))))
  obtain ⟨O, hO⟩ : ∃ O, O = out.length := ⟨_, rfl⟩
  rw [← hO]
  have HO := Lib.hid hO
  clear ho2 hm2 hrel hg2 hr2 h9 hO hs2 h2 KP cc0 cc1 hlen hk20'
  go_wp2_with (fail)
  go_loop [9] (fun v => ∃ i : Nat, 1 ≤ i ∧ i ≤ k + 1 ∧ v = .int .i64 (i : Nat)) (fun v => k + 1 - (intOf v).toNat)
  case atStart => exact ⟨1, by omega, by omega, rfl⟩
  case round =>
    obtain ⟨i, hi1, hi2, rfl⟩ := hrel
    by_cases hik : i ≤ k
    · obtain ⟨a, n0, c0, hgi⟩ := HM.out.2.1 i hi1 hik
      have lk := H2.out.look0 i (by omega) (v := .slice (some a) n0 c0) (by rw [hgi]; rfl) w2 rfl
      clear hgi
      go_wp2_with (fail)
      go_round
      case rel => exact ⟨i + 1, by omega, by omega, by go_num⟩
      case measure => simp [intOf]; omega
    · have Hi := Lib.hid (show i = k + 1 by omega)
      have hi9 : i ≤ 1000000000 := by omega
      have lk := H2.out.look0 i (by omega) (v := .slice none 0 0) (by rw [Hi.out, HM.out.2.2]; rfl) w2 rfl
      go_wp2_with (refine wpList_mupdate _ rfl (.tmp 50) (.tmp 51) (.tmp 52) _ rfl enc_N Try.underlying59 (b := M) (key := i) rfl (by exact H2.out.mp) rfl hi9 ?_; intro w3 hm3 hg3; have HM3 := Lib.hid (And.intro hm3 hg3); clear hm3 hg3)
      go_ret2
      obtain ⟨hm3, hg3⟩ := HM3.out
      obtain ⟨ho2, hm2, hrel, hg2, hr2, h9⟩ := HP2.out
      have hO := HO.out
      subst hO
      have h3 := H2.out.put hm3 hg3
      have hlM := H1.out.lt
      have hr3 : Reads w3 (fun b => w1.heap.size ≤ b) 1 A2 out.length (nums (nat64 out)) := hr2.keep fun b hb hb2 => hg3.block b hb2 (by simp; omega)
      have hgg : GrownIn (OwnMPN M P N) w w3 := ((GrownIn.of_below (own := OwnMPN M P N) HB1.out).trans hg2 fun b hb => .inl (.inr hb)).trans (GrownIn.of_grown (own := OwnMPN M P N) hg3 (by intro q hq; injection hq with hq; exact .inl hq.symm)) fun _ hb => .inl hb
      unfold SKeepPost
      rw [← Hi.out]
      exact ⟨A2, c2, out, s', rfl, ho2, hm2, hrel, h3, hgg, hr3.imp (by omega) fun b hb _ => Nat.le_trans HB1.out.size hb, h9⟩
end Go.Proofs.Yteojmmjanjilaaa
