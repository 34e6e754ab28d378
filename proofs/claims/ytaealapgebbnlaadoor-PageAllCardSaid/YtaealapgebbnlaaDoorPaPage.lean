/- Contract of page.Page at the laws' module. (Printed by qrpage.py.) -/
import Derived.Test.YtaealapgebbnlaaDoorPaFind
import Derived.Test.YtaealapgebbnlaaDoorPaShelf
import Derived.Test.YtaealapgebbnlaaDoorHeldG
import Derived.Test.YtaealapgebbnlaaDoorQrMod
import Derived.Lib.ItoaMem
import Derived.Lib.AppendIntMem
import Derived.Lib.SmallJoins
set_option linter.unusedVariables false
namespace Go.Md
/-- the lines of a sort -/
def pick (s : Nat) (l : List En) : List Bs := (l.filter fun e => e.in_.isEmpty && e.sort.val == s).map (·.line)
def sortsL : List Nat := [1, 3, 4, 5]
def linesF (ml : Bs) (a b : Nat) : List Bs := ml :: (((sortsL.take a).flatMap fun s => pick s allE) ++ pick (sortsL.getD a 0) (allE.take b))
theorem linesF_next (ml : Bs) (a : Nat) (ha : a < 4) : linesF ml a 11 = linesF ml (a + 1) 0 := by
  have h : ∀ a, a < 4 → ((sortsL.take a).flatMap fun s => pick s allE) ++ pick (sortsL.getD a 0) (allE.take 11) = ((sortsL.take (a + 1)).flatMap fun s => pick s allE) ++ pick (sortsL.getD (a + 1) 0) (allE.take 0) := by decide +kernel
  unfold linesF
  rw [h a ha]
theorem linesF_step (ml : Bs) (a b : Nat) (hb : b < allE.length) : linesF ml a (b + 1) = linesF ml a b ++ (if (allE[b].in_.isEmpty && allE[b].sort.val == sortsL.getD a 0) = true then [allE[b].line] else []) := by
  unfold linesF pick
  generalize sortsL.getD a 0 = s
  rw [List.take_succ_eq_append_getElem hb, List.filter_append, List.map_append]
  simp only [List.cons_append, List.append_assoc]
  congr 3
  by_cases h : (allE[b].in_.isEmpty && allE[b].sort.val == s) = true
  · rw [if_pos h, List.filter_cons_of_pos (p := fun e : En => e.in_.isEmpty && e.sort.val == s) h]
    rfl
  · rw [if_neg h, List.filter_cons_of_neg (p := fun e : En => e.in_.isEmpty && e.sort.val == s) h]
    rfl
theorem linesF_len (ml : Bs) (a b : Nat) (ha : a ≤ 4) (hb : b ≤ 11) : (linesF ml a b).length ≤ 60 := by
  have h : ∀ a, a ≤ 4 → ∀ b, b ≤ 11 → ((((sortsL.take a).flatMap fun s => pick s allE) ++ pick (sortsL.getD a 0) (allE.take b))).length ≤ 50 := by decide +kernel
  unfold linesF
  have := h a ha b hb
  rw [List.length_cons]
  omega
end Go.Md
namespace Go.Proofs.YtaealapgebbnlaaDoor
open Go.RowKit Go.Mem Go.Md
structure Env (w : World) : Prop where
  tab : Lib.TabIs Tryd.prog w "internal/strconv.uint64pow10" .u64 Lib.pow10Tab
theorem tab_keep {P : Program} {w w' : World} {name : String} {k : IntKind} {zs : List Int} (h : Lib.TabIs P w name k zs) (hb : Below w.heap.size w w') : Lib.TabIs P w' name k zs := by
  unfold Lib.TabIs World.var? at h ⊢
  cases e : P.globalNamed name with
  | none => rw [e] at h; simp at h
  | some g =>
    rw [e] at h
    simp only [Option.bind_some] at h ⊢
    cases e2 : w.heap[g]? with
    | none => rw [e2] at h; simp at h
    | some o =>
      have hg : g < w.heap.size := (Array.getElem?_eq_some_iff.1 e2).1
      rw [hb.block g hg]
      exact h
theorem Env.below {w w' : World} (h : Env w) (hb : Below w.heap.size w w') : Env w' := ⟨tab_keep h.tab hb⟩
theorem itoa_one (w : World) (h : Env w) : Calls Tryd.prog 14 #[.int .i64 1] w fun e w' => e = .returned (.string ⟨#[49]⟩) ∧ Below w.heap.size w w' := by
  refine (Tryd.strconv_Itoa 1 (by omega) (by omega) w h.tab).mono ?_
  rintro e w' ⟨rfl, k, os, rfl⟩
  have e1 : Lib.itoa 1 = [49] := by decide +kernel
  rw [e1]
  exact ⟨rfl, Lib.below_grow _ w (Nat.le_refl _) k os⟩
theorem info_str : (Tryd.prog.info? 9).map (fun i => (i.zero, i.size, i.bytes)) = some (some (.string ⟨#[]⟩), 1, 16) := by kernel_rfl
theorem app_stro (w : World) {ops : Array Oper} {rest : List Oper} {o : Oper} {a : Act} {Q : Exit → Act → World → Prop} (hgd : o.guard = none) (s x : Operand)
    (ho : o.op = .call { callee := .builtin .append, args := #[s, x], argTypes := #[32, 32] })
    {base : Nat} {v : Value} {n : Nat} {xs : List Value} (hown : w.ownsRow base 9 1 v n xs) (hs : a.eval s = v)
    {D : Nat → Prop} {A : Option Addr} {m : Nat} {news : List Value} (hr : Reads w D 1 A m news) {c : Nat} (hx : a.eval x = .slice A m c) (h1 : ∀ u ∈ news, u.oneCell' = true)
    (h63 : n + m ≤ 109951162) (hbase : base ≤ w.heap.size)
    (h : ∀ v' w', w'.ownsRow base 9 1 v' (n + m) (xs ++ news) → w.grownBy w' v.ownBlock → (v'.ownBlock = v.ownBlock ∨ v'.ownBlock = some w.heap.size) → wpList Tryd.prog ops Q rest (a.put o.dst v') w') : wpList Tryd.prog ops Q (o :: rest) a w := by
  obtain ⟨i0, hi0, hz0, hz1, hz2⟩ := info_parts info_str
  exact wpList_append_any w hgd s x _ ho base _ i0 _ 1 16 Tryd.underlying32 hi0 hz0 hz1 hz2 rfl (by omega) v n xs hs hown D A m c news hx hr h1 (by simp only [maxLen]; omega) (by omega) hbase h
/-- in the midst of Page: the lines so far in a row of its own; what stays -/
structure PgSt (w9 wr : World) (base N7 N9 : Nat) (A : Option Addr) (n c : Nat) (l : List Bs) : Prop where
  own : wr.ownsRow base 9 1 (.slice A n c) n (l.map bst)
  len : n = l.length
  qb : ∀ q, (Value.slice A n c).ownBlock = some q → q < N7 ∨ N9 ≤ q
  gr : GrownIn (fun b => base ≤ b ∧ (b < N7 ∨ N9 ≤ b)) w9 wr
set_option maxRecDepth 100000 in
set_option maxHeartbeats 8000000 in
theorem page_any (cs : List Value) (fs : List Md.Fn) (z : Bd) (w : World) (hm : ModAt w Any cs fs z) (hv : Env w) :
    Calls Tryd.prog 5 #[.agg cs.toArray] w fun e w' => ∃ A c n ml, e = .returned (.slice A n c) ∧ n = (linesF ml 4 0).length ∧ Reads w' Any 1 A n ((linesF ml 4 0).map bst) ∧ Below w.heap.size w w' := by
  have EN := Lib.hid (fun (V : World) (hV : Below w.heap.size w V) => entries_any cs fs z V (hm.keep (Same.any hV)))
  obtain ⟨⟨AD, cD, AM, cM, AF, cF, AZ, cZ, vss, vs, rfl, _⟩, _⟩ := hm
  obtain ⟨W, hW⟩ : ∃ W, W = World.drew (w.alloc (.cells #[bst [109], .int .i64 1, .slice none 0 0, .slice AD 1 cD, .slice none 0 0, .slice none 0 0, .slice AF 8 cF, .slice AZ 1 cZ] 30)) := ⟨_, rfl⟩
  obtain ⟨PB, hPB⟩ : ∃ b, b = w.heap.size := ⟨_, rfl⟩
  have bW : Below w.heap.size w W := by rw [hW]; exact ((Below.refl _ _).alloc (Nat.le_refl _) _).drew
  have fP : Blk W PB 30 [bst [109], .int .i64 1, .slice none 0 0, .slice AD 1 cD, .slice none 0 0, .slice none 0 0, .slice AF 8 cF, .slice AZ 1 cZ] := by rw [hW, hPB]; exact (Blk.new w _ _).drew
  have IT := Lib.hid (fun (V : World) (hV : Below W.heap.size W V) => itoa_one V (hv.below (below_next hV bW)))
  obtain ⟨MN, hMN⟩ : ∃ N : ByteArray, N = ⟨#[109]⟩ := ⟨_, rfl⟩
  have mk := fun (Y : World) (hY : Below W.heap.size W Y) => (show Y.cell? ⟨PB, 0, none⟩ = some (.string MN) ∧ Y.cell? ⟨PB, 1, none⟩ = some (.int .i64 1) from ⟨by rw [hMN]; exact (fP.below hY fP.lt).cell 0, (fP.below hY fP.lt).cell 1⟩)
  have hms : MN.size = 1 := by rw [hMN]; rfl
  have hS := mk W (Below.refl _ _)
  have MKK := Lib.hid mk
  have HW := Lib.hid (And.intro bW fP)
  have HWW := Lib.hid (And.intro hW hPB)
  obtain ⟨ML, hML⟩ : ∃ N : ByteArray, N = ((ByteArray.mk #[109, 111, 100, 117, 108, 101, 32] ++ MN) ++ ByteArray.mk #[32]) ++ ByteArray.mk #[49] := ⟨_, rfl⟩
  obtain ⟨ml, hml⟩ : ∃ l : Bs, l = ML.data.toList := ⟨_, rfl⟩
  have eml : bst ml = .string ML := by rw [hml]
  have HML := Lib.hid (And.intro hML eml)
  clear hv bW fP hW hPB hMN mk hML hml eml
  go_enter Tryd.func5, Tryd.ntmps5
  go_upto_region 1 with (fail)
  rw [← HWW.out.2]
  go_cut [3] (fun v3 wc => ∃ b, v3 = .slice (some ⟨b, 0, none⟩) 1 1 ∧ Hid (Blk wc b 9 [.string ML] ∧ W.heap.size ≤ b ∧ Below W.heap.size W wc))
  case first =>
    refine wp_region_g (S := fun Y => Y.cell? ⟨PB, 0, none⟩ = some (.string MN) ∧ Y.cell? ⟨PB, 1, none⟩ = some (.int .i64 1)) (m := 10) (by kernel_rfl) ?_
    rw [← HWW.out.1]
    repeat (first | (refine wpAnyG_take (i := 0) (v := .pointer (some ⟨PB, 0, none⟩)) rfl ?_ ?_ ?_ (fun _ _ _ h => h) (Or.inl ⟨by rfl, ?_⟩) hS ?_; (· decide +kernel); (· decide +kernel); (· decide +kernel); (· (intro w' hS'; (try dsimp only at hS'); go_split_ands; go_simp))) | (refine wpAnyG_take (i := 1) (v := .string MN) rfl ?_ ?_ ?_ (fun _ _ _ h => h) (Or.inl ⟨by rfl, ?_⟩) hS ?_; (· decide +kernel); (· decide +kernel); (· decide +kernel); (· (intro w' hS'; (try dsimp only at hS'); go_split_ands; go_simp))) | (refine wpAnyG_take (i := 2) (v := .string (ByteArray.mk #[109, 111, 100, 117, 108, 101, 32] ++ MN)) rfl ?_ ?_ ?_ (fun _ _ _ h => h) (Or.inl ⟨by rfl, ?_⟩) hS ?_; (· decide +kernel); (· decide +kernel); (· decide +kernel); (· (intro w' hS'; (try dsimp only at hS'); go_split_ands; go_simp))) | (refine wpAnyG_take (i := 3) (v := .string ((ByteArray.mk #[109, 111, 100, 117, 108, 101, 32] ++ MN) ++ ByteArray.mk #[32])) rfl ?_ ?_ ?_ (fun _ _ _ h => h) (Or.inl ⟨by rfl, ?_⟩) hS ?_; (· decide +kernel); (· decide +kernel); (· decide +kernel); (· (intro w' hS'; (try dsimp only at hS'); go_split_ands; go_simp))) | (refine wpAnyG_take (i := 4) (v := .pointer (some ⟨PB, 1, none⟩)) rfl ?_ ?_ ?_ (fun _ _ _ h => h) (Or.inl ⟨by rfl, ?_⟩) hS ?_; (· decide +kernel); (· decide +kernel); (· decide +kernel); (· (intro w' hS'; (try dsimp only at hS'); go_split_ands; go_simp))) | (refine wpAnyG_take (i := 5) (v := .int .i64 1) rfl ?_ ?_ ?_ (fun _ _ _ h => h) (Or.inl ⟨by rfl, ?_⟩) hS ?_; (· decide +kernel); (· decide +kernel); (· decide +kernel); (· (intro w' hS'; (try dsimp only at hS'); go_split_ands; go_simp))))
    refine wpAnyG_ready (rs := [6]) (by decide +kernel) (by simp) ?_
    refine AllReadyG.cons rfl (fun K hK => ?_) AllReadyG.nil
    go_simp
    refine (IT.out _ (Below.refl _ _)).mono ?_
    rintro e w2 ⟨rfl, hb2⟩
    try dsimp only
    replace hS := MKK.out w2 hb2
    have B2 := Lib.hid hb2
    clear hb2
    refine hK _ _ (fun _ => hS) ?_
    clear hK K
    repeat (first | (refine wpAnyG_take (i := 7) (v := .string (((ByteArray.mk #[109, 111, 100, 117, 108, 101, 32] ++ MN) ++ ByteArray.mk #[32]) ++ ByteArray.mk #[49])) rfl ?_ ?_ ?_ (fun _ _ _ h => h) (Or.inl ⟨by rfl, ?_⟩) hS ?_; (· decide +kernel); (· decide +kernel); (· decide +kernel); (· (intro w' hS'; (try dsimp only at hS'); go_split_ands; go_simp))))
    rw [← HML.out.1]
    refine wpAnyG_ready (rs := [8]) (by decide +kernel) (by simp) ?_
    refine AllReadyG.cons rfl (fun K hK => ?_) AllReadyG.nil
    go_simp
    have f3 : Blk (w2.alloc (.cells #[.string ML] 9)) w2.heap.size 9 [.string ML] := Blk.new w2 _ _
    have b3 : Below W.heap.size W (w2.alloc (.cells #[.string ML] 9)) := B2.out.alloc B2.out.size _
    have H3 := Lib.hid (And.intro f3 (And.intro B2.out.size b3))
    refine hK _ _ (fun _ => MKK.out _ b3) ?_
    clear hK K f3 b3
    refine wpAnyG_ready (rs := [9]) (by decide +kernel) (by simp) ?_
    refine AllReadyG.cons rfl (fun K hK => ?_) AllReadyG.nil
    go_simp
    refine hK _ _ (fun _ => MKK.out _ H3.out.2.2) ?_
    clear hK K
    refine wpAnyG_done (by decide +kernel) ?_ _
    clear hS
    go_wp2_with (fail)
    go_meet
    exact ⟨_, rfl, H3.out⟩
  case rest =>
    obtain ⟨ob, rfl, HC⟩ := hcut
    have fPc := HW.out.2.below HC.out.2.2 HW.out.2.lt
    have p0 := fPc.cell 0
    have p1 := fPc.cell 1
    have p2 := fPc.cell 2
    have p3 := fPc.cell 3
    have p4 := fPc.cell 4
    have p5 := fPc.cell 5
    have p6 := fPc.cell 6
    have p7 := fPc.cell 7
    simp only [List.getElem?_cons_zero, List.getElem?_cons_succ] at p0 p1 p2 p3 p4 p5 p6 p7
    have lp := lt_of_cell p0
    have HFP := Lib.hid fPc
    have HBC := Lib.hid (below_next HC.out.2.2 HW.out.1)
    clear fPc IT hS MKK
    go_wp2_with (fail)
    go_loopw [3, 26] (fun v3 v wr => v3 = .slice (some ⟨ob, 0, none⟩) 1 1 ∧ v = .int .i64 0 ∧ wc = wr) (fun _ _ _ => 0)
    case atStart => exact ⟨rfl, rfl, rfl⟩
    case round =>
      obtain ⟨rfl, rfl, rfl⟩ := hrel
      go_wp2_with (fail)
      refine (EN.out wc HBC.out).mono ?_
      rintro e w8 ⟨A8, c8, rfl, hnc8, hcm8, hr8, hb8⟩
      obtain ⟨N7, hN7⟩ : ∃ n, n = wc.heap.size := ⟨_, rfl⟩
      obtain ⟨w9, hw9⟩ : ∃ V, V = w8.alloc (.cells #[.int .i64 1, .int .i64 3, .int .i64 4, .int .i64 5] 3) := ⟨_, rfl⟩
      obtain ⟨IB, hIB⟩ : ∃ n, n = w8.heap.size := ⟨_, rfl⟩
      have b89 : Below w8.heap.size w8 w9 := by rw [hw9]; exact (Below.refl _ _).alloc (Nat.le_refl _) _
      have fI : Blk w9 IB 3 [.int .i64 1, .int .i64 3, .int .i64 4, .int .i64 5] := by rw [hw9, hIB]; exact Blk.new w8 _ _
      have own9 : w9.ownsRow W.heap.size 9 1 (.slice (some ⟨ob, 0, none⟩) 1 1) 1 ([ml].map bst) := by
        have f9 : Blk w9 ob 9 [.string ML] := (HC.out.1.below hb8 HC.out.1.lt).below b89 (Nat.lt_of_lt_of_le HC.out.1.lt hb8.size)
        rw [List.map_cons, List.map_nil, HML.out.2]
        exact ⟨rfl, .inr ⟨ob, 1, #[.string ML], rfl, HC.out.2.1, f9, Nat.le_refl _, by unfold maxLen; omega, by simp, by simp⟩⟩
      have hobN : ob < N7 := by rw [hN7]; exact HC.out.1.lt
      have st9 : PgSt w9 w9 W.heap.size N7 w9.heap.size (some ⟨ob, 0, none⟩) 1 1 (linesF ml 0 0) := ⟨own9, rfl, fun q hq => .inl (Nat.lt_of_le_of_lt (Nat.le_of_eq (Option.some.inj hq).symm) hobN), GrownIn.refl _ _⟩
      have hr9 : Reads w9 (fun b => N7 ≤ b ∧ b < w8.heap.size) 4 A8 11 (ensC allE) := (hr8.imp (by omega) fun b hb hl => ⟨by omega, hl⟩).keep (Same.of_below b89 fun b hb _ => hb.2)
      have HST := Lib.hid st9
      have H9 := Lib.hid (And.intro hr9 (And.intro fI (And.intro (show N7 ≤ w8.heap.size from by rw [hN7]; exact hb8.size) (And.intro hIB (And.intro (below_next b89 (below_next hb8 HBC.out)) (show w8.heap.size < w9.heap.size from by rw [← hIB]; exact fI.lt))))))
      have HPW := Lib.hid (show Blk w9 PB 30 [bst [109], .int .i64 1, .slice none 0 0, .slice AD 1 cD, .slice none 0 0, .slice none 0 0, .slice AF 8 cF, .slice AZ 1 cZ] ∧ PB < W.heap.size ∧ W.heap.size ≤ N7 from ⟨(HFP.out.below hb8 HFP.out.lt).below b89 (Nat.lt_of_lt_of_le HFP.out.lt hb8.size), HW.out.2.lt, by rw [hN7]; exact HC.out.2.2.size⟩)
      have HW9 := Lib.hid (And.intro hw9 hIB)
      clear hnc8 hcm8 hr8 hb8 hN7 hw9 hIB b89 fI own9 hobN st9 hr9 p0 p1 p2 p3 p4 p5 p6 p7 lp HFP
      go_wp2_with (fail)
      rw [← HW9.out.1, ← HW9.out.2]
      clear HC HBC
      go_loopw [3, 51] (fun v3 v51 wr => ∃ (a : Nat) (A : Option Addr) (n c : Nat), a ≤ 4 ∧ v51 = .int .i64 (a : Nat) ∧ v3 = .slice A n c ∧ Hid (PgSt w9 wr W.heap.size N7 w9.heap.size A n c (linesF ml a 0))) (fun _ v _ => 4 - (intOf v).toNat)
      case atStart => exact ⟨0, _, 1, 1, by omega, rfl, rfl, HST.out⟩
      case round =>
        obtain ⟨a, A, n, c, ha, rfl, rfl, HS⟩ := hrel
        clear HST
        by_cases hlt : a < 4
        · obtain ⟨si, hsi⟩ : ∃ si : Int, si = ((sortsL.getD a 0 : Nat) : Int) := ⟨_, rfl⟩
          have fIr : Blk wr IB 3 [.int .i64 1, .int .i64 3, .int .i64 4, .int .i64 5] := (HS.out.gr.block IB H9.out.2.1.lt (fun h => by have h1 := H9.out.2.2.2.1; have h2 := H9.out.2.2.1; have h3 := H9.out.2.2.2.2.2; omega)).trans H9.out.2.1
          have ci : wr.cell? ⟨IB, a, none⟩ = some (.int .i64 si) := by
            rw [fIr.cell a, hsi]
            rcases (show a = 0 ∨ a = 1 ∨ a = 2 ∨ a = 3 from by omega) with rfl | rfl | rfl | rfl <;> rfl
          have li := lt_of_cell ci
          have HSI := Lib.hid hsi
          have ha1 : ¬ ((4 : Int) ≤ (a : Int)) := by omega
          clear fIr hsi
          go_wp2_with (fail)
          clear ci li
          go_loopw [3, 57] (fun v3 v57 wr2 => ∃ (b : Nat) (A : Option Addr) (n c : Nat), b ≤ 11 ∧ v57 = .int .i64 (b : Nat) ∧ v3 = .slice A n c ∧ Hid (PgSt w9 wr2 W.heap.size N7 w9.heap.size A n c (linesF ml a b))) (fun _ v _ => 11 - (intOf v).toNat)
          case atStart => exact ⟨0, A, n, c, by omega, rfl, rfl, HS.out⟩
          case round =>
            obtain ⟨b, A, n, c, hb, rfl, rfl, HI⟩ := hrel
            clear HS
            by_cases hlb : b < 11
            · have hbl : b < allE.length := hlb
              have hn60 : n ≤ 60 := by rw [HI.out.len]; exact linesF_len ml a b (by omega) (by omega)
              have rd : Reads wr (fun b => N7 ≤ b ∧ b < w8.heap.size) 4 A8 11 (ensC allE) := H9.out.1.keep (Same.of_in HI.out.gr fun q hq _ h => by have h3 := H9.out.2.2.2.2.2; omega)
              obtain ⟨bx, ox, rfl, _, hc⟩ := rd.2 (by omega)
              have ce : ∀ i, i < 4 → wr.cell? ⟨bx, ox + (b * 4 + i), none⟩ = (encE allE[b])[i]? := fun i hi => by
                have h1 := ensC_at allE b i hbl hi
                have h2 : i < (encE allE[b]).length := hi
                rw [List.getElem?_eq_getElem h2] at h1 ⊢
                exact hc _ _ h1
              have hst := linesF_step ml a b hbl
              have hin : ∀ b (h : b < allE.length), (allE[b]).in_ = [] ∨ (allE[b]).in_ = [68] := by decide +kernel
              have hin1 := hin b hbl
              generalize allE[b] = e at ce hst hin1
              obtain ⟨N, hN⟩ : ∃ N : ByteArray, N = ⟨[e.ch].toArray⟩ := ⟨_, rfl⟩
              obtain ⟨LN, hLN⟩ : ∃ N : ByteArray, N = ⟨(e.line).toArray⟩ := ⟨_, rfl⟩
              obtain ⟨so, hso⟩ : ∃ so : Int, so = (e.sort.val : Nat) := ⟨_, rfl⟩
              have f0 : wr.cell? ⟨bx, ox + b * 4, none⟩ = some (.string N) := by rw [hN]; exact ce 0 (by omega)
              have f1 : wr.cell? ⟨bx, ox + b * 4 + 1, none⟩ = some (.int .i64 so) := by rw [hso]; exact ce 1 (by omega)
              have f2 : wr.cell? ⟨bx, ox + b * 4 + 2, none⟩ = some (bst e.in_) := ce 2 (by omega)
              have f3 : wr.cell? ⟨bx, ox + b * 4 + 3, none⟩ = some (.string LN) := by rw [hLN]; exact ce 3 (by omega)
              have lf := lt_of_cell f0
              have HLN := Lib.hid hLN
              have skip : (e.in_.isEmpty && e.sort.val == sortsL.getD a 0) = false → linesF ml a (b + 1) = linesF ml a b := fun h => by rw [hst, h]; simp
              have HSK := Lib.hid skip
              have HSTE := Lib.hid hst
              have HIN := Lib.hid hin1
              have HSO := Lib.hid hso
              clear ce hc rd hN hLN hso skip hst hin
              have hb1 := fun (o : Obj) => (Below.refl wr.heap.size wr).alloc (Nat.le_refl _) o
              have keep1 := fun (o : Obj) => (show PgSt w9 (wr.alloc o) W.heap.size N7 w9.heap.size A n c (linesF ml a b) from ⟨own_below HI.out.own (hb1 o), HI.out.len, HI.out.qb, HI.out.gr.trans (GrownIn.of_below (own := fun _ => False) (hb1 o)) (fun _ h => h.elim)⟩)
              have HK1 := Lib.hid keep1
              clear hb1 keep1
              rcases hin1 with h0 | h0
              · rw [h0] at f2
                by_cases hss : so = si
                · subst hss
                  have heq : linesF ml a (b + 1) = linesF ml a b ++ [e.line] := by
                    rw [HSTE.out, h0]
                    have : (e.sort.val == sortsL.getD a 0) = true := by
                      have h1 := HSI.out
                      rw [HSO.out] at h1
                      simpa using Int.ofNat_inj.1 h1
                    rw [this]
                    rfl
                  have HEQ := Lib.hid heq
                  have own2 : ((wr.alloc (.cells #[.string N, .int .i64 so, .string ⟨#[]⟩, .string LN] 48)).alloc (.cells #[.string LN] 9)).ownsRow W.heap.size 9 1 (.slice A n c) n ((linesF ml a b).map bst) := own_below (HK1.out _).own ((Below.refl _ _).alloc (Nat.le_refl _) _)
                  have rd2 : Reads ((wr.alloc (.cells #[.string N, .int .i64 so, .string ⟨#[]⟩, .string LN] 48)).alloc (.cells #[.string LN] 9)) Any 1 (some ⟨wr.heap.size + 1, 0, none⟩) 1 [.string LN] := by
                    have := Reads.new (wr.alloc (.cells #[.string N, .int .i64 so, .string ⟨#[]⟩, .string LN] 48)) [.string LN] 1 1 9 Any trivial rfl
                    rw [World.size_alloc] at this
                    exact this
                  have H2 := Lib.hid (And.intro own2 (And.intro rd2 (show W.heap.size ≤ ((wr.alloc (.cells #[.string N, .int .i64 so, .string ⟨#[]⟩, .string LN] 48)).alloc (.cells #[.string LN] 9)).heap.size from by
                    have h1 := HI.out.gr.size
                    have h2 := HPW.out.2.2
                    have h3 := H9.out.2.2.1
                    have h4 := H9.out.2.2.2.2.2
                    rw [World.size_alloc, World.size_alloc]
                    omega)))
                  clear heq own2 rd2 h0
                  go_wp2_with (at_builtin; refine app_stro ((wr.alloc (.cells #[.string N, .int .i64 so, .string ⟨#[]⟩, .string LN] 48)).alloc (.cells #[.string LN] 9)) rfl (.tmp 70) (.tmp 73) rfl H2.out.1 rfl H2.out.2.1 rfl (by intro u hu; simp at hu; subst hu; rfl) (by omega) H2.out.2.2 ?_; intro v9 w10 own9 hg9 hat9; obtain ⟨A9, c9, rfl, _⟩ := own_form own9; have H10 := Lib.hid (And.intro own9 (And.intro hg9 hat9)); clear own9 hg9 hat9)
                  obtain ⟨own9, hg9, hat9⟩ := H10.out
                  refine ⟨⟨b + 1, A9, n + 1, c9, by omega, by go_num, rfl, ?_, ?_, ?_, ?_⟩, by simp [intOf]; omega⟩
                  · rw [HEQ.out, List.map_append]
                    have : [e.line].map bst = [Value.string LN] := by rw [HLN.out]; rfl
                    rw [this]
                    exact own9
                  · rw [HEQ.out, List.length_append, ← HI.out.len]; rfl
                  · intro q hq
                    rcases hat9 with h | h
                    · exact HI.out.qb q (by rw [← hq, ← h])
                    · have h1 : some q = some _ := (show (Value.slice A9 (n + 1) c9).ownBlock = some q from hq).symm.trans h
                      have h2 := Option.some.inj h1
                      have h3 := HI.out.gr.size
                      rw [World.size_alloc, World.size_alloc] at h2
                      exact .inr (by omega)
                  · have g2 := (HK1.out (.cells #[.string N, .int .i64 so, .string ⟨#[]⟩, .string LN] 48)).gr.trans (GrownIn.of_below (own := fun _ => False) ((Below.refl _ _).alloc (Nat.le_refl _) (.cells #[.string LN] 9))) (fun _ h => h.elim)
                    exact g2.trans (GrownIn.of_grown (own := fun b => W.heap.size ≤ b ∧ (b < N7 ∨ w9.heap.size ≤ b)) hg9 (fun q hq => ⟨(H2.out.1.lt q hq).1, HI.out.qb q (by rw [← hq])⟩)) (fun _ h => .inl h)
                · have hse : (so == si) = false := by simpa using hss
                  have e1 := HSK.out (by
                    rw [h0]
                    have : (e.sort.val == sortsL.getD a 0) = false := by
                      rw [beq_eq_false_iff_ne]
                      intro h
                      exact hss (by rw [HSO.out, HSI.out, h])
                    rw [this]
                    rfl)
                  have HE1 := Lib.hid e1
                  clear e1 h0
                  go_wp2_with (fail)
                  exact ⟨⟨b + 1, A, n, c, by omega, by go_num, rfl, by rw [HE1.out]; exact HK1.out _⟩, by simp [intOf]; omega⟩
              · rw [h0] at f2
                have f2' : wr.cell? ⟨bx, ox + b * 4 + 2, none⟩ = some (.string ⟨#[68]⟩) := f2
                have e1 := HSK.out (by rw [h0]; rfl)
                have HE1 := Lib.hid e1
                clear e1 h0 f2
                go_wp2_with (fail)
                exact ⟨⟨b + 1, A, n, c, by omega, by go_num, rfl, by rw [HE1.out]; exact HK1.out _⟩, by simp [intOf]; omega⟩
            · obtain rfl : b = 11 := by omega
              have e1 := linesF_next ml a hlt
              have HI2 := Lib.hid (show PgSt w9 wr W.heap.size N7 w9.heap.size A n c (linesF ml (a + 1) 0) from by rw [← e1]; exact HI.out)
              clear e1 HI
              rw [show ((11 : Nat) : Int) = 11 from rfl]
              go_wp2_with (fail)
              exact ⟨⟨a + 1, A, n, c, by omega, by go_num, rfl, HI2.out⟩, by simp [intOf]; omega⟩
        · obtain rfl : a = 4 := by omega
          rw [show ((4 : Nat) : Int) = 4 from rfl]
          have fPr : Blk wr PB 30 [bst [109], .int .i64 1, .slice none 0 0, .slice AD 1 cD, .slice none 0 0, .slice none 0 0, .slice AF 8 cF, .slice AZ 1 cZ] := (HS.out.gr.block PB HPW.out.1.lt (fun h => by have h1 := HPW.out.2.1; omega)).trans HPW.out.1
          have p5 : wr.cell? ⟨PB, 5, none⟩ = some (.slice none 0 0) := fPr.cell 5
          have lp := lt_of_cell p5
          have hn60 : n ≤ 60 := by rw [HS.out.len]; exact linesF_len ml 4 0 (by omega) (by omega)
          have hbs : W.heap.size ≤ wr.heap.size := by
            have h1 := HS.out.gr.size
            have h2 := HPW.out.2.2
            have h3 := H9.out.2.2.1
            have h4 := H9.out.2.2.2.2.2
            omega
          have HBS := Lib.hid hbs
          have hbw : Below w.heap.size w wr := Below.of_in H9.out.2.2.2.2.1 HS.out.gr (fun b h => Nat.le_trans HW.out.1.size h.1) H9.out.2.2.2.2.1.size
          have HBW := Lib.hid hbw
          clear fPr hbs hbw
          go_wp2_with (fail)
          go_loopw [11, 80] (fun v11 v wr2 => v11 = .slice none 0 0 ∧ v = .int .i64 0 ∧ wr = wr2) (fun _ _ _ => 0)
          case atStart => exact ⟨rfl, rfl, rfl⟩
          case round =>
            obtain ⟨rfl, rfl, rfl⟩ := hrel
            go_wp2_with (fail)
            refine (Tryd.slices_Sort_string_none none 0 wr).mono ?_
            rintro e w' ⟨rfl, rfl⟩
            go_wp2_with (at_builtin; refine app_stro w' rfl (.tmp 97) (.tmp 98) rfl HS.out.own rfl (Reads.empty (D := Any) (A := none)) rfl (by simp) (by omega) HBS.out ?_; intro v9 w10 own9 hg9 hat9; obtain ⟨A9, c9, rfl, _⟩ := own_form own9; have H10 := Lib.hid (And.intro own9 (And.intro hg9 hat9)); clear own9 hg9 hat9)
            go_ret
            obtain ⟨own9, hg9, hat9⟩ := H10.out
            rw [List.append_nil] at own9
            obtain ⟨q1, q2, q3⟩ := own_reads (by omega) own9
            exact ⟨A9, c9, _, ml, rfl, HS.out.len, q3.imp (by omega) (fun _ _ _ => trivial), HBW.out.grown hg9 HBW.out.size (fun q hq => Nat.le_trans HW.out.1.size (HS.out.own.lt q hq).1)⟩
end Go.Proofs.YtaealapgebbnlaaDoor
