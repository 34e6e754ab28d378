/- A log of snapshots: contracts of bytes.Clone, store.Add, store.Last. -/
import Derived.Test.YtgcpclbkjplipaaPart47
set_option linter.unusedVariables false
namespace Go.Mem
open Go.RowKit
def lenV : Value → Nat
  | .slice _ n _ => n
  | _ => 0
theorem own_base {w : World} {base base' : Nat} {e : TypeId} {size n : Nat} {v : Value} {xs : List Value} (h : w.ownsRow base e size v n xs) (hb : base' ≤ base) : w.ownsRow base' e size v n xs := by
  refine ⟨h.1, ?_⟩
  rcases h.2 with hn | ⟨g, cap, cur, rfl, h1, rest⟩
  · exact .inl hn
  · exact .inr ⟨g, cap, cur, rfl, Nat.le_trans hb h1, rest⟩
theorem ret_blk_tmp3 {P : Program} {fn : Func} {R : Ending → World → Prop} {a : Act} {w : World} {g : Nat} {te ty : TypeId} {p u v x : Tmp} {cs : List Value} {fs : Array Field} (hres : fn.results = #[.cell p ty, .tmp u, .tmp v, .tmp x]) (hp : a.tmps.getD p undef = .pointer (some ⟨g, 0, none⟩)) (h : Blk w g te cs)
    (hu : P.underlying ty = some (.struct fs)) (hsz : (P.info? ty).map (·.size) = some cs.length) (hd : a.defers = []) (hR : R (.returned (.tuple #[.agg cs.toArray, a.tmps.getD u undef, a.tmps.getD v undef, a.tmps.getD x undef])) w) : bodyPost P fn R .ret a w := by
  refine bodyPost_ret (v := .tuple #[.agg cs.toArray, a.tmps.getD u undef, a.tmps.getD v undef, a.tmps.getD x undef]) ?_ hd hR
  have := run_loadVar_blk (P := P) h hu hsz
  have hp' : a.tmps[p]?.getD undef = .pointer (some ⟨g, 0, none⟩) := by simpa using hp
  simp only [results, hres]
  simp [hp', asAddr, this, Result.andThen]
end Go.Mem
namespace Go.Proofs.Ytgcpclbkjplipaa
open Go.RowKit Go.Mem Go.Val Go.Chunk

set_option maxRecDepth 100000 in
set_option maxHeartbeats 400000 in
theorem bclone_any (A : Option Addr) (n c : Nat) (xs : List Value) (D : Nat → Prop) (w : World) (hr : Reads w D 1 A n xs) (h1 : ∀ u ∈ xs, u.oneCell' = true)
    (hn : n ≤ 70368744177664) :
    Calls Try.prog 90 #[.slice A n c] w fun e w' => ∃ A c, e = .returned (.slice A n c) ∧ w'.ownsRow w.heap.size 5 1 (.slice A n c) n xs ∧ Below w.heap.size w w' := by
  have Hn := Lib.hid hn
  clear hn
  have q : ∀ (w : World) (a : Option Addr) (n c : Nat), (binOp .eql 23 (.slice a n c) (.slice none 0 0)).run Try.prog w = .ok (.bool a.isNone) w := fun w a n c => Lib.run_eql_slice_nil w _ _ a n c 0 0 Try.underlying23
  rcases A with _ | ad
  · obtain rfl := hr.nil_len
    go_enter Try.func90, Try.ntmps90
    go_wp2
    go_ret
    have hx : xs = [] := List.eq_nil_of_length_eq_zero (by simpa using hr.1)
    subst hx
    exact ⟨none, 0, rfl, World.ownsRow_nil _ _ _ _, Below.refl _ _⟩
  · go_enter Try.func90, Try.ntmps90
    go_wp2_with (at_builtin; refine app_u8 _ rfl (.tmp 5) (.tmp 6) rfl (World.ownsRow_made w #[] 0 (Nat.le_refl _) (Nat.zero_le _) rfl) rfl (hr.keep (Same.alloc _ _ _)) rfl h1 (by have := Hn.out; omega) (by simp) ?_; intro v1 w1 hown1 hg1 hat1)
    go_ret
    simp only [Nat.zero_add, List.nil_append] at hown1
    obtain ⟨A1, c1, rfl, _⟩ := own_form hown1
    refine ⟨A1, c1, rfl, hown1, ((Below.refl _ _).alloc (Nat.le_refl _) _).grown hg1 (by simp) (by simp [Value.ownBlock])⟩

set_option maxRecDepth 100000 in
set_option maxHeartbeats 1000000 in
theorem add_any (A : Option Addr) (n c : Nat) (bs : List UInt8) (s : Snp) (cs : List Value) (w : World) (hr : Reads w Any 1 A n (u8s bs)) (hn : n ≤ 1000000000) (hv : SnCells 41 w Any cs s) (hg : NiceSn s) :
    Calls Try.prog 45 #[.slice A n c, .agg cs.toArray] w (WrPost w (bs ++ partE (snapE 41 s))) := by
  obtain ⟨P1, p1, P2, p2, rfl⟩ := SnCells.out hv
  have hmax := snapE_max s hg
  have hnl : n = bs.length := by have := hr.len; rwa [u8s_length] at this
  have Hnl := Lib.hid hnl
  clear hnl
  obtain ⟨w2, hw2⟩ : ∃ w2, w2 = w.alloc (.cells #[.int .i64 s.time, .slice P1 s.parcels.length p1, .slice P2 s.ways.length p2] 85) := ⟨_, rfl⟩
  have bS : Blk w2 w.heap.size 85 [.int .i64 s.time, .slice P1 s.parcels.length p1, .slice P2 s.ways.length p2] := by rw [hw2]; exact Blk.new w _ _
  have hb2 : Below w.heap.size w w2 := by rw [hw2]; exact (Below.refl _ _).alloc (Nat.le_refl _) _
  have SB := Lib.hid (sbytes_any s _ w2 ((SnCells.stable 41).keep hv (Same.any hb2)) hg)
  have hr2 := hr.keep (Same.any hb2)
  have lG : w.heap.size < w2.heap.size := bS.lt
  have s0 := bS.cell 0
  have s1 := bS.cell 1
  have s2 := bS.cell 2
  simp only [List.getElem?_cons_succ, List.getElem?_cons_zero] at s0 s1 s2
  have HW := Lib.hid hw2
  generalize snapE 41 s = SE at SB hmax ⊢
  clear hw2 hv hg bS hr
  go_enter Try.func45, Try.ntmps45
  go_wp2_with (fail)
  rw [← HW.out]
  clear HW
  go_wp2_with (fail)
  refine SB.out.mono ?_
  rintro e1 w3 ⟨A3, c3, rfl, ho3, hb3⟩
  obtain ⟨hnc3, hcm3, hr3⟩ := own_reads (by omega) ho3
  have hw3 : Below w.heap.size w w3 := hb2.trans (hb3.mono hb2.size)
  have CL := Lib.hid (bclone_any A n c (u8s bs) Any w3 (hr2.keep (Same.any hb3)) (u8s_one _) (by omega))
  clear SB hr2 s0 s1 s2 lG
  go_wp2_with (fail)
  refine CL.out.mono ?_
  rintro e4 w4 ⟨A4, c4, rfl, ho4, hb4⟩
  have hw4 : Below w.heap.size w w4 := hw3.trans (hb4.mono hw3.size)
  have hlt4 := ho4.lt
  have hr4 : Reads w4 (fun b => (Value.slice A4 n c4).ownBlock ≠ some b) 1 A3 SE.length (u8s SE) := by
    refine ((hr3.imp (D' := fun b => b < w3.heap.size) (by omega) fun b _ hl => hl).keep (Same.any hb4)).imp (by omega) fun b hb _ e => ?_
    have := (hlt4 b e).1
    omega
  have hxl : (u8s bs).length = n := by rw [u8s_length]; exact Hnl.out.symm
  have ho4' : w4.ownsRow w3.heap.size 5 1 (.slice A4 n c4) (u8s bs).length (u8s bs) := by rw [hxl]; exact ho4
  have PT := Lib.hid (part_any (.slice A4 n c4) A3 SE.length c3 SE (u8s bs) w3.heap.size w4 rfl (by omega) ho4' hb4.size (by omega) hr4)
  have Hxl := Lib.hid hxl
  have HL4 := Lib.hid hlt4
  clear hlt4 hr4 hxl ho4 ho4' hr3 ho3 CL
  go_wp2_with (fail)
  refine PT.out.mono ?_
  rintro e5 w5 ⟨A5, c5, rfl, hg5⟩
  rw [Hxl.out] at hg5 ⊢
  go_wp2_with (fail)
  go_ret2
  have e0 : (bs ++ partE SE).length = n + (partE SE).length := by rw [List.length_append]; have := Hnl.out; omega
  have ho5 := hg5.1
  rw [Hxl.out, ← u8s_append] at ho5
  refine ⟨A5, c5, by rw [e0]; rfl, by rw [e0]; exact own_base ho5 hw3.size, ?_⟩
  exact hw4.grown hg5.2.1 hw4.size fun b hb => Nat.le_trans hw3.size (HL4.out b hb).1

/-- how many bytes the first i parts take -/
def usedE (ss : List Snp) (i : Nat) : Nat := (((ss.map (snapE 41)).take i).flatMap partE).length
theorem usedE_zero (ss : List Snp) : usedE ss 0 = 0 := rfl
theorem usedE_next (ss : List Snp) (i : Nat) (h : i < ss.length) : usedE ss (i + 1) = usedE ss i + (4 + (snapE 41 ss[i]).length) := by
  unfold usedE
  exact used_next _ i _ (by simp [h])
/-- the last snapshot that was read -/
def LastIn (w : World) (D : Nat → Prop) (ss : List Snp) (i : Nat) (cs : List Value) : Prop :=
  (i = 0 ∧ cs = [.int .i64 0, .slice none 0 0, .slice none 0 0]) ∨ ∃ s, 0 < i ∧ ss[i - 1]? = some s ∧ SnCells 41 w D cs s
theorem LastIn.form {w : World} {D : Nat → Prop} {ss : List Snp} {i : Nat} {cs : List Value} (h : LastIn w D ss i cs) : ∃ a A n c B m d, cs = [.int .i64 a, .slice A n c, .slice B m d] := by
  rcases h with ⟨_, rfl⟩ | ⟨s, _, _, h⟩
  · exact ⟨_, _, _, _, _, _, _, rfl⟩
  · obtain ⟨A, c, B, d, rfl⟩ := SnCells.out h
    exact ⟨_, _, _, _, _, _, _, rfl⟩
theorem LastIn.keep {w w' : World} {D D' : Nat → Prop} {ss : List Snp} {i : Nat} {cs : List Value} (h : LastIn w D ss i cs) (hk : Same D w w') (hi : ∀ b, D b → D' b) : LastIn w' D' ss i cs := by
  rcases h with h | ⟨s, h1, h2, h3⟩
  · exact .inl h
  · exact .inr ⟨s, h1, h2, (SnCells.stable 41).imp ((SnCells.stable 41).keep h3 hk) fun b hb _ => hi b hb⟩
/-- what Last tells of the first m bytes of a log -/
def LastPost (w : World) (ss : List Snp) (m : Nat) (e : Ending) (w' : World) : Prop :=
  ∃ k, k ≤ ss.length ∧ usedE ss k ≤ m ∧ (k < ss.length → m < usedE ss (k + 1)) ∧ Below w.heap.size w w' ∧
    ((k = 0 ∧ e = .returned (.tuple #[.agg #[.int .i64 0, .slice none 0 0, .slice none 0 0], .int .i64 0, .int .i64 0, .int .i64 4])) ∨
      ∃ s cs, 0 < k ∧ ss[k - 1]? = some s ∧ e = .returned (.tuple #[.agg cs.toArray, .int .i64 k, .int .i64 (usedE ss k), .int .i64 0]) ∧ SnCells 41 w' (fun b => w.heap.size ≤ b) cs s)

set_option maxRecDepth 100000 in
set_option maxHeartbeats 2000000 in
theorem last_any (ss : List Snp) (hss : ∀ s ∈ ss, NiceSn s) (m : Nat) (A : Option Addr) (c : Nat) (w : World) (hm : m ≤ usedE ss ss.length) (hm2 : m ≤ 1000000000) (hl10 : ss.length ≤ 10) (hnc : m ≤ c) (hcm : c ≤ maxLen)
    (hr : Reads w Any 1 A m (u8s (((ss.map (snapE 41)).flatMap partE).take m))) :
    Calls Try.prog 46 #[.slice A m c] w (LastPost w ss m) := by
  have Hm := Lib.hid hm
  have Hss := Lib.hid hss
  clear hm hss
  obtain ⟨w1, hw1⟩ : ∃ w1, w1 = (w.alloc (.cells #[.int .i64 0, .slice none 0 0, .slice none 0 0] 85)).alloc (.cells #[.int .i64 0, .slice none 0 0, .slice none 0 0] 85) := ⟨_, rfl⟩
  obtain ⟨bR, bL, hb1, hsz1⟩ := blks2 w 85 85 [.int .i64 0, .slice none 0 0, .slice none 0 0] [.int .i64 0, .slice none 0 0, .slice none 0 0] w1 hw1
  have hr1 : Reads w1 (fun b => b < w.heap.size) 1 A m (u8s (((ss.map (snapE 41)).flatMap partE).take m)) := (hr.imp (by omega) fun b _ hl => hl).keep (Same.any hb1)
  have hS0 : w.heap.size < w1.heap.size := by omega
  have HW := Lib.hid hw1
  have Hz1 := Lib.hid hsz1
  obtain ⟨B, hB⟩ : ∃ B, B = w.heap.size := ⟨_, rfl⟩
  rw [← hB] at bR bL hr1 hS0
  have HB := Lib.hid hB
  clear hw1 hr hsz1
  go_enter Try.func46, Try.ntmps46
  go_wp2_with (fail)
  rw [← HW.out, ← hB]
  clear HW hB
  go_loopw [7, 8] (fun many rest wr => ∃ (i nr cr : Nat) (Ar : Option Addr) (cs : List Value), many = .int .i64 i ∧ rest = .slice Ar nr cr ∧ nr ≤ cr ∧ cr ≤ 9223372036854775807 ∧ i ≤ 1000000000 ∧ nr ≤ 1000000000 ∧ Hid (i ≤ ss.length ∧ nr + usedE ss i = m) ∧
      Reads wr (fun b => b < B) 1 Ar nr (u8s (leftE (ss.map (snapE 41)) i nr)) ∧ Blk wr (B + 1) 85 cs ∧ Blk wr B 85 [.int .i64 0, .slice none 0 0, .slice none 0 0] ∧ LastIn wr (fun b => B + 2 ≤ b) ss i cs ∧ B + 2 ≤ wr.heap.size ∧ Below B w wr)
    (fun _ rest _ => lenV rest)
  case atStart => exact ⟨0, m, c, A, _, rfl, rfl, hnc, by unfold maxLen at hcm; omega, by omega, hm2, ⟨by omega, by rw [usedE_zero]; rfl⟩, by simpa [leftE] using hr1, bL, bR, .inl ⟨rfl, rfl⟩, by have := Hz1.out; have := HB.out; omega, by rw [HB.out]; exact hb1⟩
  case round =>
    clear hr1 bR bL hb1 hS0 hnc
    obtain ⟨i, nr, cr, Ar, cs, rfl, rfl, hnc, hcm1, hi9, hn9, hu, hr, bL, bR, hla, hsz, hb⟩ := hrel
    go_wp2_with (fail)
    refine (scut_any Ar nr cr _ (fun b => b < B) wr hr hnc (by unfold maxLen; omega) (by omega)).mono ?_
    rintro e2 w2 (⟨x, r, A1, c1, A2, c2, hcut, rfl, ⟨hx1, hx2⟩, ⟨hy1, hy2⟩, hrx, hrr, hb2⟩ | ⟨hcut, rfl, hb2⟩)
    · have hnil : leftE (ss.map (snapE 41)) ss.length nr = [] := by unfold leftE; rw [List.drop_of_length_le (by simp)]; simp
      have hil : i < ss.length := by
        rcases Nat.lt_or_ge i ss.length with h | h
        · exact h
        · have e : i = ss.length := by have := hu.out; omega
          rw [e, hnil] at hcut
          simp [cutF] at hcut
      have hPi : (ss.map (snapE 41))[i]? = some (snapE 41 ss[i]) := by simp [hil]
      have hNi := Hss.out ss[i] (List.getElem_mem hil)
      have hmax := snapE_max ss[i] hNi
      have hun := usedE_next ss i hil
      rw [left_cut _ i nr _ hPi (by omega)] at hcut
      by_cases hfit : 4 + (snapE 41 ss[i]).length ≤ nr
      · rw [if_pos hfit] at hcut
        injection hcut with hcut
        injection hcut with hcx hcr
        subst hcx hcr
        have hrl : (leftE (ss.map (snapE 41)) (i + 1) (nr - (4 + (snapE 41 ss[i]).length))).length = nr - (4 + (snapE 41 ss[i]).length) := by
          have h1 := hrr.len
          have h2 := left_len (ss.map (snapE 41)) (i + 1) (nr - (4 + (snapE 41 ss[i]).length))
          have h3 : (leftE (ss.map (snapE 41)) i nr).length = nr := by have := hr.len; rw [u8s_length] at this; omega
          have h4 : leftE (ss.map (snapE 41)) i nr = partE (snapE 41 ss[i]) ++ leftE (ss.map (snapE 41)) (i + 1) (nr - (4 + (snapE 41 ss[i]).length)) := by
            obtain ⟨hk, ek⟩ := List.getElem?_eq_some_iff.1 hPi
            unfold leftE
            rw [List.drop_eq_getElem_cons hk, ek, List.flatMap_cons, List.take_append, partE_len, List.take_of_length_le (by rw [partE_len]; omega)]
          rw [h4, List.length_append, partE_len] at h3
          omega
        have hrx' : Reads w2 Any 1 A1 ((snapE 41 ss[i]).take (snapE 41 ss[i]).length).length (u8s ((snapE 41 ss[i]).take (snapE 41 ss[i]).length)) := by rw [List.take_of_length_le (Nat.le_refl _)]; exact hrx.imp (by omega) fun _ _ _ => trivial
        have RD := Lib.hid (fun W (h : W = w2) => sRead_any ss[i] (snapE 41 ss[i]).length A1 ((snapE 41 ss[i]).take (snapE 41 ss[i]).length).length c1 W hNi rfl (Nat.le_refl _) (by rw [List.take_of_length_le (Nat.le_refl _)]; exact hx1) hx2 (by rw [h]; exact hrx'))
        rw [List.take_of_length_le (Nat.le_refl _)] at RD
        have hla2 := hla.keep (w' := w2) (D' := fun b => B + 2 ≤ b) (Same.any hb2) fun _ h => h
        have bL2 := bL.below hb2 bL.lt
        have bR2 := bR.below hb2 bR.lt
        have hb02 : Below B w w2 := hb.trans (hb2.mono (by omega))
        have hsz2 := hb2.size
        rw [hrl] at hrr
        have HR := Lib.hid hrr
        have HRL := Lib.hid hrl
        have HU := Lib.hid hun
        generalize hSE : snapE 41 ss[i] = SE at RD HR HRL hfit HU hx1 hy1 ⊢
        rw [HRL.out] at hy1 ⊢
        have HSE := Lib.hid hSE
        clear hrr hrl hun hrx hrx' hPi hnil hr bL bR hla hb2 hb hmax hSE
        go_wp2_with (fail)
        refine (RD.out w2 rfl).mono ?_
        rintro e3 w3 (⟨_, cs3, rfl, hv3, hb3⟩ | ⟨hlt, _⟩)
        · obtain ⟨T1, t1, T2, t2, rfl⟩ := SnCells.out hv3
          have hla3 := hla2.keep (w' := w3) (D' := fun b => B + 2 ≤ b) (Same.any hb3) fun _ h => h
          have bL3 := bL2.below hb3 bL2.lt
          have bR3 := bR2.below hb3 bR2.lt
          have hb03 : Below B w w3 := hb02.trans (hb3.mono (by omega))
          have hsz3 := hb3.size
          have hv3' := (SnCells.stable 41).imp hv3 (D' := fun b => B + 2 ≤ b) fun b hb _ => by omega
          have hgi : ss[i]? = some ss[i] := List.getElem?_eq_getElem hil
          have HRr := Lib.hid (HR.out.keep (w' := w3) (Same.any hb3))
          generalize ss[i] = s at hv3' hgi HU ⊢
          obtain ⟨a0, B1, n1, d1, B2, n2, d2, rfl⟩ := hla3.form
          have HL := Lib.hid bL3
          have HBR := Lib.hid bR3
          have HV := Lib.hid hv3'
          have HG := Lib.hid hgi
          have z0 := bL3.cell 0
          have z1 := bL3.cell 1
          have z2 := bL3.cell 2
          have f0 := bL3.frozen 0
          have f1 := bL3.frozen 1
          have f2 := bL3.frozen 2
          simp only [List.getElem?_cons_succ, List.getElem?_cons_zero] at z0 z1 z2
          have lL := bL3.lt
          clear RD hv3 hv3' hla2 hla3 bL2 bR2 bL3 bR3 hb02 hb3 HR hgi
          go_wp2_with (fail)
          go_roundw
          case rel =>
            have hq := (setRow_blk HL.out [.int .i64 s.time, .slice T1 s.parcels.length t1, .slice T2 s.ways.length t2] rfl).alloc (.cells #[.int .i64 s.time, .slice T1 s.parcels.length t1, .slice T2 s.ways.length t2] 85)
            have hbq := (setRow_below (g := B + 1) (by omega) [.int .i64 s.time, .slice T1 s.parcels.length t1, .slice T2 s.ways.length t2] _ 0 hb03).alloc (by rw [Go.Mem.setRow_size]; omega) (.cells #[.int .i64 s.time, .slice T1 s.parcels.length t1, .slice T2 s.ways.length t2] 85)
            have hsm : ∀ D : Nat → Prop, ¬ D (B + 1) → Same D w3 ((setRow w3 (B + 1) 0 [.int .i64 s.time, .slice T1 s.parcels.length t1, .slice T2 s.ways.length t2]).alloc (.cells #[.int .i64 s.time, .slice T1 s.parcels.length t1, .slice T2 s.ways.length t2] 85)) := fun D hD => (setRow_same hD _ _ 0).trans (by rw [Go.Mem.setRow_size]; omega) (Same.alloc _ _ _)
            refine ⟨i + 1, nr - (4 + SE.length), c2, A2, _, by go_num, rfl, hy1, by unfold maxLen at hy2; omega, by have := hu.out; omega, by omega, ⟨by omega, by have := hu.out; have := HU.out; omega⟩, HRr.out.keep (hsm _ (by omega)), hq, ?_, .inr ⟨s, by omega, HG.out, (SnCells.stable 41).keep HV.out (hsm _ (by omega))⟩, ?_, hbq⟩
            · exact HBR.out.same (hsm (fun b => b ≠ B + 1) (by simp)) (by omega)
            · have : B + 2 ≤ ((setRow w3 (B + 1) 0 [.int .i64 s.time, .slice T1 s.parcels.length t1, .slice T2 s.ways.length t2]).alloc (.cells #[.int .i64 s.time, .slice T1 s.parcels.length t1, .slice T2 s.ways.length t2] 85)).heap.size := by
                simp [Go.Mem.setRow_size]
                omega
              exact this
          case measure => exact Nat.sub_lt (by omega) (by omega)
        · exact absurd hlt (by rw [HSE.out]; omega)
      · rw [if_neg hfit] at hcut
        cases hcut
    · have hend : Hid (i < ss.length → m < usedE ss (i + 1)) := by
        intro hil
        have hPi : (ss.map (snapE 41))[i]? = some (snapE 41 ss[i]) := by simp [hil]
        have hmax := snapE_max ss[i] (Hss.out ss[i] (List.getElem_mem hil))
        have hun := usedE_next ss i hil
        rw [left_cut _ i nr _ hPi (by omega)] at hcut
        by_cases hfit : 4 + (snapE 41 ss[i]).length ≤ nr
        · rw [if_pos hfit] at hcut
          cases hcut
        · have := hu.out
          omega
      have bL2 := bL.below hb2 bL.lt
      have bR2 := bR.below hb2 bR.lt
      have hla2 := hla.keep (w' := w2) (D' := fun b => B + 2 ≤ b) (Same.any hb2) fun _ h => h
      have hb02 : Below B w w2 := hb.trans (hb2.mono (by omega))
      have hsz2 := hb2.size
      obtain ⟨a0, B1, n1, d1, B2, n2, d2, rfl⟩ := hla2.form
      have HL := Lib.hid bL2
      have HBR := Lib.hid bR2
      have HLA := Lib.hid hla2
      have z0 := bL2.cell 0
      have z1 := bL2.cell 1
      have z2 := bL2.cell 2
      have y0 := bR2.cell 0
      have y1 := bR2.cell 1
      have y2 := bR2.cell 2
      have g0 := bR2.frozen 0
      have g1 := bR2.frozen 1
      have g2 := bR2.frozen 2
      simp only [List.getElem?_cons_succ, List.getElem?_cons_zero] at z0 z1 z2 y0 y1 y2
      have lL := bL2.lt
      have lR := bR2.lt
      clear hcut hr bL bR hla hb hb2 bL2 bR2 hla2
      by_cases h0 : i = 0
      · subst h0
        go_wp2_with (fail)
        refine ret_blk_tmp3 rfl rfl (setRow_blk HBR.out [.int .i64 0, .slice none 0 0, .slice none 0 0] rfl) Try.underlying85 (by kernel_rfl) rfl ?_
        refine ⟨0, Nat.zero_le _, by rw [usedE_zero]; omega, hend.out, ?_, .inl ⟨rfl, rfl⟩⟩
        have hbq := setRow_below (g := B) (Nat.le_refl B) [.int .i64 0, .slice none 0 0, .slice none 0 0] _ 0 hb02
        rw [← HB.out]
        exact hbq
      · have h0' : ((i : Int) == 0) = false := by simp; omega
        have hlast : Hid (∃ s, 0 < i ∧ ss[i - 1]? = some s ∧ SnCells 41 w2 (fun b => B + 2 ≤ b) [.int .i64 a0, .slice B1 n1 d1, .slice B2 n2 d2] s) := by
          rcases HLA.out with ⟨e, _⟩ | h
          · exact absurd e h0
          · exact h
        have hnm : nr ≤ m := by have := hu.out; omega
        clear HLA
        go_wp2_with (fail)
        refine ret_blk_tmp3 rfl rfl (setRow_blk HBR.out [.int .i64 a0, .slice B1 n1 d1, .slice B2 n2 d2] rfl) Try.underlying85 (by kernel_rfl) rfl ?_
        obtain ⟨s, h1, h2, h3⟩ := hlast.out
        have hbq := setRow_below (g := B) (Nat.le_refl B) [.int .i64 a0, .slice B1 n1 d1, .slice B2 n2 d2] _ 0 hb02
        refine ⟨i, hu.out.1, by have := hu.out; omega, hend.out, by rw [← HB.out]; exact hbq, .inr ⟨s, _, h1, h2, ?_, (SnCells.stable 41).imp ((SnCells.stable 41).keep h3 (setRow_same (D := fun b => B + 2 ≤ b) (g := B) (show ¬ B + 2 ≤ B by omega) [.int .i64 a0, .slice B1 n1 d1, .slice B2 n2 d2] w2 0)) fun b hb _ => by have := HB.out; omega⟩⟩
        have e1 : (m : Int) - (nr : Int) = (usedE ss i : Nat) := by have := hu.out; omega
        rw [← e1]
        rfl
end Go.Proofs.Ytgcpclbkjplipaa
