/- Contract of the laws' moduleOf. (Printed by qrmod.py.) -/
import Derived.Test.YtaealapgebbnlaaDoorQrCall
import Derived.Test.YtaealapgebbnlaaDoorQrEnt
import Derived.Test.YtaealapgebbnlaaDoorHeldG
import Derived.Test.YtaealapgebbnlaaDoorGrown
import Derived.Test.YtaealapgebbnlaaDoorNumD
set_option linter.unusedVariables false
namespace Go.Proofs.YtaealapgebbnlaaDoor
open Go.RowKit Go.Mem Go.Md
def fnsF (L : List Int) (k : Nat) : List Md.Fn := (List.range k).map fun i => (nmI i, bodyF (L.getD i 0))
theorem fnsF_len (L : List Int) (k : Nat) : (fnsF L k).length = k := by simp [fnsF]
theorem fnsF_succ (L : List Int) (k : Nat) : fnsF L (k + 1) = fnsF L k ++ [(nmI k, bodyF (L.getD k 0))] := by simp [fnsF, List.range_succ]
theorem fnsF_eight (L : List Int) : Eight (fnsF L 8) := ⟨by simp [fnsF], fun i h => by simp [fnsF]⟩
theorem info_fn : (Tryd.prog.info? 42).map (fun i => (i.zero, i.size, i.bytes)) = some (some (.agg #[.string ⟨#[]⟩, .slice none 0 0, .slice none 0 0, .slice none 0 0, .int .i64 0, .string ⟨#[]⟩, .slice none 0 0, .int .i64 0, .int .i64 0, .string ⟨#[]⟩, .slice none 0 0, .slice none 0 0, .slice none 0 0, .slice none 0 0, .int .i64 0]), 15, 272) := by kernel_rfl
theorem step_app_fn (w : World) {ops : Array Oper} {o : Oper} {a : Act} {K : Act → World → Prop} {Q : Exit → Act → World → Prop} {E : Prop} (hgd : o.guard = none) (s x : Operand)
    (ho : o.op = .call { callee := .builtin .append, args := #[s, x], argTypes := #[27, 27] })
    {base : Nat} {v : Value} {n : Nat} {xs : List Value} (hown : w.ownsRow base 42 15 v n xs) (hs : a.eval s = v)
    {D : Nat → Prop} {A : Option Addr} {m : Nat} {news : List Value} (hr : Reads w D 15 A m news) {c : Nat} (hx : a.eval x = .slice A m c) (h1 : ∀ u ∈ news, u.oneCell' = true)
    (h63 : n + m ≤ 109951162) (hbase : base ≤ w.heap.size)
    (h : ∀ v' w', w'.ownsRow base 42 15 v' (n + m) (xs ++ news) → w.grownBy w' v.ownBlock → (v'.ownBlock = v.ownBlock ∨ v'.ownBlock = some w.heap.size) → K (a.put o.dst v') w') :
    if Region.wanted o (yielded ops a.tmps) = true then Oper.wp Tryd.prog o a w K Q else E := by
  obtain ⟨i0, hi0, hz0, hz1, hz2⟩ := info_parts info_fn
  exact step_append_any w hgd s x _ ho base _ i0 _ 15 272 Tryd.underlying27 hi0 hz0 hz1 hz2 rfl (by omega) v n xs hs hown D A m c news hx hr h1 (by simp only [maxLen]; omega) (by omega) hbase h
theorem blk_reads {w : World} {g : Nat} {t : TypeId} {cs : List Value} {D : Nat → Prop} {size : Nat} (h : Blk w g t cs) (hD : D g) (hl : cs.length = 1 * size) : Reads w D size (some ⟨g, 0, none⟩) 1 cs :=
  ⟨hl, fun _ => ⟨g, 0, rfl, hD, fun i u hu => by rw [Nat.zero_add]; exact (h.cell i).trans hu⟩⟩
/-- in the midst of moduleOf: the program in block PB, its functions so far -/
structure MoAt (W wr : World) (PB DB : Nat) (v6 : Value) (fs : List Md.Fn) : Prop where
  blk : Blk wr PB 30 [bst [109], .int .i64 1, .slice none 0 0, .slice (some ⟨DB, 0, none⟩) 1 1, .slice none 0 0, .slice none 0 0, v6, .slice none 0 0]
  fs : OwnList 42 15 FnCells wr W.heap.size v6 fs
  gr : GrownIn (fun b => b = PB) W wr
  lt : PB < W.heap.size
theorem MoAt.below {W wr w' : World} {PB DB : Nat} {v6 : Value} {fs : List Md.Fn} (h : MoAt W wr PB DB v6 fs) (hb : Below wr.heap.size wr w') : MoAt W w' PB DB v6 fs :=
  ⟨h.blk.below hb h.blk.lt, h.fs.keep FnCells.stable (Same.any hb), h.gr.trans (own' := fun _ => False) (GrownIn.of_below hb) (fun b hb => hb.elim), h.lt⟩
/-- behind the append and the store -/
theorem MoAt.push {W X X3 : World} {PB DB : Nat} {v6 v' : Value} {fs : List Md.Fn} {o : Obj} {y : Md.Fn} {cs : List Value} {vss : List (List Value)} (h : MoAt W X PB DB v6 fs) (ha : All2 (FnCells X (fun b => W.heap.size ≤ b ∧ v6.ownBlock ≠ some b)) vss fs) (hlt : ∀ k, v6.ownBlock = some k → W.heap.size ≤ k ∧ k < X.heap.size)
    (hy : FnCells X (fun b => W.heap.size ≤ b ∧ v6.ownBlock ≠ some b) cs y) (hg : (X.alloc o).grownBy X3 v6.ownBlock) (hat : v'.ownBlock = v6.ownBlock ∨ v'.ownBlock = some (X.alloc o).heap.size) (hown : X3.ownsRow W.heap.size 42 15 v' (fs.length + 1) (vss.flatten ++ cs)) :
    Blk X3 PB 30 [bst [109], .int .i64 1, .slice none 0 0, .slice (some ⟨DB, 0, none⟩) 1 1, .slice none 0 0, .slice none 0 0, v6, .slice none 0 0] ∧ MoAt W (X3.setCell ⟨PB, 6, none⟩ v') PB DB v' (fs ++ [y]) := by
  have hl := h.lt
  have b3 : Blk X3 PB 30 [bst [109], .int .i64 1, .slice none 0 0, .slice (some ⟨DB, 0, none⟩) 1 1, .slice none 0 0, .slice none 0 0, v6, .slice none 0 0] := (h.blk.alloc o).grown hg (fun e => by have := (hlt PB e.symm).1; omega)
  have hpush := OwnList.push FnCells.stable ha hy hg hat hown
  refine ⟨b3, b3.put 6 v', ?_, ?_, hl⟩
  · exact hpush.keep FnCells.stable (fun b hb _ => Below.heap_setCell X3 _ _ b (fun e => by dsimp only at e; omega))
  · have g1 : GrownIn (fun b => b = PB) W (X.alloc o) := h.gr.alloc o
    have g2 : GrownIn (fun b => W.heap.size ≤ b) (X.alloc o) X3 := GrownIn.of_grown hg (fun k hk => (hlt k hk).1)
    exact (g1.trans (own' := fun b => W.heap.size ≤ b) g2 (fun b hb => .inr hb)).set (p := ⟨PB, 6, none⟩) rfl v'

set_option maxRecDepth 100000 in
set_option maxHeartbeats 8000000 in
theorem module_any (A0 : Option Addr) (n0 c0 : Nat) (L : List Int) (w : World) (hr : Reads w Any 1 A0 n0 (nums L)) (hn0 : n0 = L.length) (hm0 : n0 ≤ maxLen) (hL : ∀ x ∈ L, I64 x) :
    Calls Tryd.prog 4 #[.slice A0 n0 c0] w fun e w' => ∃ cs : List Value, e = .returned (.agg cs.toArray) ∧ ModAt w' (fun b => w.heap.size ≤ b) cs (fnsF L 8) (bodyF L.length) ∧ Below w.heap.size w w' := by
  obtain ⟨W, hW⟩ : ∃ W, W = (((w.alloc (.cells #[.string ⟨#[]⟩, .int .i64 0, .slice none 0 0, .slice none 0 0, .slice none 0 0, .slice none 0 0, .slice none 0 0, .slice none 0 0] 30)).alloc (.cells #[.string ⟨#[75]⟩, .slice none 0 0] 56)).alloc (.cells #[.string ⟨#[68]⟩, .slice none 0 0, .slice (some ⟨w.heap.size + 1, 0, none⟩) 1 1] 59)).alloc (.cells #[.string ⟨#[109]⟩, .int .i64 1, .slice none 0 0, .slice (some ⟨w.heap.size + 2, 0, none⟩) 1 1, .slice none 0 0, .slice none 0 0, .slice none 0 0, .slice none 0 0] 30) := ⟨_, rfl⟩
  go_enter Tryd.func4, Tryd.ntmps4
  go_upto_region 2 with (fail)
  rw [← hW]
  obtain ⟨R, hR⟩ : ∃ R, R = w.heap.size := ⟨_, rfl⟩
  obtain ⟨MB, hMB⟩ : ∃ R, R = w.heap.size + 1 := ⟨_, rfl⟩
  obtain ⟨DB, hDB⟩ : ∃ R, R = w.heap.size + 2 := ⟨_, rfl⟩
  obtain ⟨PB, hPB⟩ : ∃ R, R = w.heap.size + 3 := ⟨_, rfl⟩
  have fR : Blk W R 30 [.string ⟨#[]⟩, .int .i64 0, .slice none 0 0, .slice none 0 0, .slice none 0 0, .slice none 0 0, .slice none 0 0, .slice none 0 0] := by rw [hW, hR]; exact (((Blk.new w _ _).alloc _).alloc _).alloc _
  have fM : Blk W MB 56 [.string ⟨#[75]⟩, .slice none 0 0] := by
    rw [hW, hMB]
    have := ((Blk.new (w.alloc (.cells #[.string ⟨#[]⟩, .int .i64 0, .slice none 0 0, .slice none 0 0, .slice none 0 0, .slice none 0 0, .slice none 0 0, .slice none 0 0] 30)) 56 [.string ⟨#[75]⟩, .slice none 0 0]).alloc (.cells #[.string ⟨#[68]⟩, .slice none 0 0, .slice (some ⟨w.heap.size + 1, 0, none⟩) 1 1] 59)).alloc (.cells #[.string ⟨#[109]⟩, .int .i64 1, .slice none 0 0, .slice (some ⟨w.heap.size + 2, 0, none⟩) 1 1, .slice none 0 0, .slice none 0 0, .slice none 0 0, .slice none 0 0] 30)
    simpa using this
  have fD : Blk W DB 59 [.string ⟨#[68]⟩, .slice none 0 0, .slice (some ⟨MB, 0, none⟩) 1 1] := by
    rw [hW, hDB, hMB]
    have := (Blk.new ((w.alloc (.cells #[.string ⟨#[]⟩, .int .i64 0, .slice none 0 0, .slice none 0 0, .slice none 0 0, .slice none 0 0, .slice none 0 0, .slice none 0 0] 30)).alloc (.cells #[.string ⟨#[75]⟩, .slice none 0 0] 56)) 59 [.string ⟨#[68]⟩, .slice none 0 0, .slice (some ⟨w.heap.size + 1, 0, none⟩) 1 1]).alloc (.cells #[.string ⟨#[109]⟩, .int .i64 1, .slice none 0 0, .slice (some ⟨w.heap.size + 2, 0, none⟩) 1 1, .slice none 0 0, .slice none 0 0, .slice none 0 0, .slice none 0 0] 30)
    simpa using this
  have fP : Blk W PB 30 [bst [109], .int .i64 1, .slice none 0 0, .slice (some ⟨DB, 0, none⟩) 1 1, .slice none 0 0, .slice none 0 0, .slice none 0 0, .slice none 0 0] := by
    rw [hW, hPB, hDB]
    have := Blk.new (((w.alloc (.cells #[.string ⟨#[]⟩, .int .i64 0, .slice none 0 0, .slice none 0 0, .slice none 0 0, .slice none 0 0, .slice none 0 0, .slice none 0 0] 30)).alloc (.cells #[.string ⟨#[75]⟩, .slice none 0 0] 56)).alloc (.cells #[.string ⟨#[68]⟩, .slice none 0 0, .slice (some ⟨w.heap.size + 1, 0, none⟩) 1 1] 59)) 30 [.string ⟨#[109]⟩, .int .i64 1, .slice none 0 0, .slice (some ⟨w.heap.size + 2, 0, none⟩) 1 1, .slice none 0 0, .slice none 0 0, .slice none 0 0, .slice none 0 0]
    simpa using this
  have hbW : Below w.heap.size w W := by
    rw [hW]
    exact ((((Below.refl _ _).alloc (Nat.le_refl _) _).alloc (by simp) _).alloc (by simp; omega) _).alloc (by simp; omega) _
  have hsz : W.heap.size = w.heap.size + 4 := by rw [hW]; simp
  rw [← hR]
  rw [show R + 1 + 1 + 1 = PB by omega]
  have HW := Lib.hid (show Blk W R 30 [.string ⟨#[]⟩, .int .i64 0, .slice none 0 0, .slice none 0 0, .slice none 0 0, .slice none 0 0, .slice none 0 0, .slice none 0 0] ∧ Blk W MB 56 [.string ⟨#[75]⟩, .slice none 0 0] ∧ Blk W DB 59 [.string ⟨#[68]⟩, .slice none 0 0, .slice (some ⟨MB, 0, none⟩) 1 1] ∧ Below w.heap.size w W ∧ (R = w.heap.size ∧ MB = w.heap.size + 1 ∧ DB = w.heap.size + 2 ∧ PB = w.heap.size + 3 ∧ W.heap.size = w.heap.size + 4) from ⟨fR, fM, fD, hbW, hR, hMB, hDB, hPB, hsz⟩)
  have HM0 := Lib.hid (show MoAt W W PB DB (.slice none 0 0) (fnsF L 0) from ⟨fP, OwnList.nil _ _ _ _, GrownIn.refl _ _, by omega⟩)
  have HR := Lib.hid (fun (V : World) (hV : Below w.heap.size w V) => hr.keep (Same.any hV))
  have HL := Lib.hid (And.intro hL hn0)
  clear hW hR hMB hDB hPB hsz fR fM fD fP hbW hr hL hn0
  have hmx : (n0 : Int) ≤ 9223372036854775807 := by unfold maxLen at hm0; omega
  go_wp2_with (fail)
  go_loopg [5, 6, 12] 8 (fun g _ _ v wr => ∃ (k : Nat) (v6 : Value), k + g = 8 ∧ v = .int .i64 (k : Nat) ∧ Hid (MoAt W wr PB DB v6 (fnsF L k)))
  case atStart => exact ⟨0, .slice none 0 0, rfl, rfl, HM0.out⟩
  case round =>
    obtain ⟨k, v6, hg, rfl, HM⟩ := hrel
    clear HM0
    by_cases hlt : k < 8
    · obtain ⟨q, hq⟩ : ∃ q, q = L.getD k 0 := ⟨_, rfl⟩
      have HQ := Lib.hid hq
      have IQ := Lib.hid (show I64 q from by
        rw [hq, List.getD_eq_getElem?_getD]
        by_cases h : k < L.length
        · rw [List.getElem?_eq_getElem h]
          exact HL.out.1 _ (List.getElem_mem h)
        · rw [List.getElem?_eq_none (by omega)]
          exact ⟨by simp, by simp⟩)
      have HRW := Lib.hid (HR.out wr (Below.of_in HW.out.2.2.2.1 HM.out.gr (fun b hb => by have := HW.out.2.2.2.2; omega) HW.out.2.2.2.1.size))
      clear hq
      go_upto_if 18 with (fail)
      go_cut [5, 6, 12] (fun a5 a6 a12 wc => a5 = .int .i64 (k : Nat) ∧ a6 = .int .i64 q ∧ a12 = .int .i64 (k : Nat) ∧ wc = wr)
      case first =>
        by_cases hin : k < n0
        · obtain ⟨b1, o1, u, rfl, _, hu, p0⟩ := HRW.out.at_ hin
          have hu2 : u = .int .i64 q := by
            have hkl : k < L.length := by rw [← HL.out.2]; exact hin
            rw [HQ.out, List.getD_eq_getElem?_getD, List.getElem?_eq_getElem hkl]
            unfold nums at hu
            rw [List.getElem?_map, List.getElem?_eq_getElem hkl] at hu
            simpa using hu.symm
          subst hu2
          have l1 := lt_of_cell p0
          go_wp2_with (fail)
          go_meet
          exact ⟨rfl, rfl, rfl, rfl⟩
        · have hq0 : q = 0 := by
            rw [HQ.out, List.getD_eq_getElem?_getD, List.getElem?_eq_none (by rw [← HL.out.2]; omega)]
            rfl
          subst hq0
          go_wp2_with (fail)
          go_meet
          exact ⟨rfl, rfl, rfl, rfl⟩
      case rest =>
        obtain ⟨rfl, rfl, rfl, rfl⟩ := hcut
        clear HRW
        go_upto_region 9 with (fail)
        obtain ⟨V, hV⟩ : ∃ V, V = World.drew wc := ⟨_, rfl⟩
        have bV : Below wc.heap.size wc V := by rw [hV]; exact (Below.refl _ _).drew
        have HMV := Lib.hid (HM.out.below bV)
        have SV : ∀ Y : World, Below V.heap.size V Y → Y.cell? ⟨PB, 6, none⟩ = some v6 := fun Y hY => by
          have := (HMV.out.blk.below hY HMV.out.blk.lt).cell 6
          simpa using this
        have CA := Lib.hid (fun (Y : World) => call_any q IQ.out Y)
        obtain ⟨N, hN⟩ : ∃ N : ByteArray, N = ⟨(nmI k).toArray⟩ := ⟨_, rfl⟩
        have HN := Lib.hid hN
        have hk8 : (97 + (k : Int)) = ((UInt8.ofNat (97 + k)).toNat : Int) := by
          rw [UInt8.toNat_ofNat']
          have : (97 + k) % 2 ^ 8 = 97 + k := Nat.mod_eq_of_lt (by omega)
          rw [this]
          omega
        have CV : Hid (∀ (Y : World) (b : Nat), Blk Y b 5 [.int .u8 (97 + (k : Int))] → (convert 61 9 (.slice (some ⟨b, 0, none⟩) 1 1)).run Tryd.prog Y = .ok (.string N) Y) := fun Y b h => by
          rw [hN]
          exact cv_one Y b (UInt8.ofNat (97 + k)) _ hk8 (h.cell 0)
        clear hk8
        have w1 : IntKind.i64.wrap (97 + (k : Int)) = 97 + (k : Int) := IntWalk.i64_in _ (by omega)
        have w2 : IntKind.u8.wrap (97 + (k : Int)) = 97 + (k : Int) := IntWalk.u8_in _ (by omega)
        have hb : Below V.heap.size V V := Below.refl _ _
        have hS := SV V hb
        refine wp_region_g (S := fun w' => w'.cell? ⟨PB, 6, none⟩ = some v6) (m := 15) (by kernel_rfl) ?_
        rw [← hV]
        clear hV bV HM hN
        repeat (first | (refine wpAnyG_take (i := 0) (v := .pointer (some ⟨PB, 6, none⟩)) rfl ?_ ?_ ?_ (fun _ _ _ h => h) (Or.inl ⟨by rfl, ?_⟩) hS ?_; (· decide +kernel); (· decide +kernel); (· decide +kernel); (· (intro w' hS'; go_simp))) | (refine wpAnyG_take (i := 1) (v := v6) rfl ?_ ?_ ?_ (fun _ _ _ h => h) (Or.inl ⟨by rfl, ?_⟩) hS ?_; (· decide +kernel); (· decide +kernel); (· decide +kernel); (· (intro w' hS'; go_simp))) | (refine wpAnyG_take (i := 2) (v := .int .i64 (k : Nat)) rfl ?_ ?_ ?_ (fun _ _ _ h => h) (Or.inl ⟨by rfl, ?_⟩) hS ?_; (· decide +kernel); (· decide +kernel); (· decide +kernel); (· (intro w' hS'; go_simp))) | (refine wpAnyG_take (i := 3) (v := .int .i64 (97 + (k : Int))) rfl ?_ ?_ ?_ (fun _ _ _ h => h) (Or.inl ⟨by rfl, ?_⟩) hS ?_; (· decide +kernel); (· decide +kernel); (· decide +kernel); (· (intro w' hS'; go_simp))) | (refine wpAnyG_take (i := 4) (v := .int .u8 (97 + (k : Int))) rfl ?_ ?_ ?_ (fun _ _ _ h => h) (Or.inl ⟨by rfl, ?_⟩) hS ?_; (· decide +kernel); (· decide +kernel); (· decide +kernel); (· (intro w' hS'; go_simp))) | (refine wpAnyG_take (i := 7) (v := .agg #[.int .i64 1, .string ⟨#[]⟩, .slice none 0 0]) rfl ?_ ?_ ?_ (fun _ _ _ h => h) (Or.inl ⟨by rfl, ?_⟩) hS ?_; (· decide +kernel); (· decide +kernel); (· decide +kernel); (· (intro w' hS'; go_simp))) | (refine wpAnyG_take (i := 8) (v := .func (.func 12) #[] #[]) rfl ?_ ?_ ?_ (fun _ _ _ h => h) (Or.inl ⟨by rfl, ?_⟩) hS ?_; (· decide +kernel); (· decide +kernel); (· decide +kernel); (· (intro w' hS'; go_simp))) | (refine wpAnyG_take (i := 9) (v := .int .i64 q) rfl ?_ ?_ ?_ (fun _ _ _ h => h) (Or.inl ⟨by rfl, ?_⟩) hS ?_; (· decide +kernel); (· decide +kernel); (· decide +kernel); (· (intro w' hS'; go_simp))) | (refine wpAnyG_take (i := 14) (v := .pointer (some ⟨PB, 6, none⟩)) rfl ?_ ?_ ?_ (fun _ _ _ h => h) (Or.inl ⟨by rfl, ?_⟩) hS ?_; (· decide +kernel); (· decide +kernel); (· decide +kernel); (· (intro w' hS'; go_simp))))
        refine wpAnyG_ready (rs := [5, 10]) (by decide +kernel) (by simp) ?_
        refine AllReadyG.cons rfl (fun K hK => ?_) (AllReadyG.cons rfl (fun K hK => ?_) AllReadyG.nil)
        · skip
          go_simp
          obtain ⟨X1, hX1⟩ : ∃ Y, Y = V.alloc (.cells #[.int .u8 (97 + (k : Int))] 5) := ⟨_, rfl⟩
          obtain ⟨B1, hB1⟩ : ∃ B, B = V.heap.size := ⟨_, rfl⟩
          rw [← hX1, ← hB1]
          have fB : Blk X1 B1 5 [.int .u8 (97 + (k : Int))] := by rw [hX1, hB1]; exact Blk.new V _ _
          replace hb : Below V.heap.size V X1 := by rw [hX1]; exact hb.alloc hb.size _
          replace hS := SV X1 hb
          clear hX1 hB1
          refine hK _ _ (fun _ => hS) ?_
          clear hK K
          refine wpAnyG_ready (rs := [6, 10]) (by decide +kernel) (by simp) ?_
          refine AllReadyG.cons rfl (fun K hK => ?_) (AllReadyG.cons rfl (fun K hK => ?_) AllReadyG.nil)
          · skip
            have cv := CV.out X1 B1 fB
            go_simp
            clear cv
            refine hK _ _ (fun _ => hS) ?_
            clear hK K
            refine wpAnyG_ready (rs := [10]) (by decide +kernel) (by simp) ?_
            refine AllReadyG.cons rfl (fun K hK => ?_) AllReadyG.nil
            go_simp
            refine (CA.out X1).mono ?_
            rintro e X ⟨cs, rfl, hbd, hbx⟩
            obtain ⟨kk, tx, A, m, c, rfl⟩ := hbd.shape
            replace hbd := Lib.hid (BdCells.stable.imp hbd (fun b h _ => (show V.heap.size ≤ b from Nat.le_trans hb.size h)))
            replace fB := fB.below hbx fB.lt
            replace hb := below_next hbx hb
            clear hbx
            try dsimp only
            replace hS := SV X hb
            refine hK _ _ (fun _ => hS) ?_
            clear hK K
            repeat (first | (refine wpAnyG_take (i := 11) (v := .agg #[.string N, .slice none 0 0, .slice none 0 0, .slice none 0 0, .int .i64 1, .string ⟨#[]⟩, .slice none 0 0, .int .i64 kk, .int .i64 0, .string tx, .slice none 0 0, .slice none 0 0, .slice A m c, .slice none 0 0, .int .i64 0]) rfl ?_ ?_ ?_ (fun _ _ _ h => h) (Or.inl ⟨by rfl, ?_⟩) hS ?_; (· decide +kernel); (· decide +kernel); (· decide +kernel); (· (intro w' hS'; go_simp))) | (refine wpAnyG_take (i := 14) (v := .pointer (some ⟨PB, 6, none⟩)) rfl ?_ ?_ ?_ (fun _ _ _ h => h) (Or.inl ⟨by rfl, ?_⟩) hS ?_; (· decide +kernel); (· decide +kernel); (· decide +kernel); (· (intro w' hS'; go_simp))))
            refine wpAnyG_ready (rs := [12]) (by decide +kernel) (by simp) ?_
            refine AllReadyG.cons rfl (fun K hK => ?_) AllReadyG.nil
            go_simp
            obtain ⟨X2, hX2⟩ : ∃ Y, Y = X.alloc (.cells #[.string N, .slice none 0 0, .slice none 0 0, .slice none 0 0, .int .i64 1, .string ⟨#[]⟩, .slice none 0 0, .int .i64 kk, .int .i64 0, .string tx, .slice none 0 0, .slice none 0 0, .slice A m c, .slice none 0 0, .int .i64 0] 42) := ⟨_, rfl⟩
            obtain ⟨B2, hB2⟩ : ∃ B, B = X.heap.size := ⟨_, rfl⟩
            rw [← hX2, ← hB2]
            have hb2 : Below V.heap.size V X2 := by rw [hX2]; exact hb.alloc hb.size _
            have hS2 := SV X2 hb2
            have rd2 : Reads X2 Any 15 (some ⟨B2, 0, none⟩) 1 [.string N, .slice none 0 0, .slice none 0 0, .slice none 0 0, .int .i64 1, .string ⟨#[]⟩, .slice none 0 0, .int .i64 kk, .int .i64 0, .string tx, .slice none 0 0, .slice none 0 0, .slice A m c, .slice none 0 0, .int .i64 0] := by rw [hX2, hB2]; exact Reads.new X _ 15 1 _ Any trivial rfl
            have HMX := HMV.out.below hb
            obtain ⟨vss, hown, hall⟩ := HMX.fs
            have hlt2 : ∀ k, v6.ownBlock = some k → W.heap.size ≤ k ∧ k < V.heap.size := HMV.out.fs.lt
            have hy : FnCells X (fun b => W.heap.size ≤ b ∧ v6.ownBlock ≠ some b) [.string N, .slice none 0 0, .slice none 0 0, .slice none 0 0, .int .i64 1, .string ⟨#[]⟩, .slice none 0 0, .int .i64 kk, .int .i64 0, .string tx, .slice none 0 0, .slice none 0 0, .slice A m c, .slice none 0 0, .int .i64 0] (nmI k, bodyF q) := ⟨_, by rw [HN.out]; rfl, BdCells.stable.imp hbd.out (fun b h _ => ⟨Nat.le_trans HMV.out.gr.size h, fun e => by have := (hlt2 b e).2; omega⟩)⟩
            have PK := Lib.hid (fun (X3 : World) (v' : Value) (hg : (X.alloc (.cells #[.string N, .slice none 0 0, .slice none 0 0, .slice none 0 0, .int .i64 1, .string ⟨#[]⟩, .slice none 0 0, .int .i64 kk, .int .i64 0, .string tx, .slice none 0 0, .slice none 0 0, .slice A m c, .slice none 0 0, .int .i64 0] 42)).grownBy X3 v6.ownBlock) hat hown => HMX.push (o := .cells #[.string N, .slice none 0 0, .slice none 0 0, .slice none 0 0, .int .i64 1, .string ⟨#[]⟩, .slice none 0 0, .int .i64 kk, .int .i64 0, .string tx, .slice none 0 0, .slice none 0 0, .slice A m c, .slice none 0 0, .int .i64 0] 42) (v' := v') hall (fun k hk => HMX.fs.lt k hk) hy hg hat hown)
            have OW := Lib.hid (show X2.ownsRow W.heap.size 42 15 v6 k vss.flatten from by have := hown.alloc (.cells #[.string N, .slice none 0 0, .slice none 0 0, .slice none 0 0, .int .i64 1, .string ⟨#[]⟩, .slice none 0 0, .int .i64 kk, .int .i64 0, .string tx, .slice none 0 0, .slice none 0 0, .slice A m c, .slice none 0 0, .int .i64 0] 42); rw [← hX2] at this; rw [fnsF_len] at this; exact this)
            rw [← hX2] at PK
            have LW : W.heap.size ≤ X2.heap.size := Nat.le_trans HMV.out.gr.size hb2.size
            clear hown hall hy hX2 hB2 HMX hlt2 hbd
            refine hK _ _ (fun _ => hS2) ?_
            clear hK K
            refine wpAnyG_ready (rs := [13]) (by decide +kernel) (by simp) ?_
            refine AllReadyG.cons rfl (fun K hK => ?_) AllReadyG.nil
            refine step_app_fn X2 rfl (.tmp 24) (.tmp 35) rfl OW.out rfl rd2 rfl (by intro u hu; simp at hu; rcases hu with rfl | rfl | rfl | rfl | rfl | rfl | rfl | rfl | rfl | rfl | rfl | rfl | rfl | rfl | rfl <;> rfl) (by omega) LW ?_
            intro v' X3 hown' hg' hat'
            obtain ⟨A5, c5, rfl, hlc, hcm⟩ := own_form hown'
            have FIN := Lib.hid (PK.out X3 _ hg' hat' (by rw [fnsF_len]; exact hown'))
            have p6 : X3.cell? ⟨PB, 6, none⟩ = some v6 := by have := FIN.out.1.cell 6; simpa using this
            have p6f := FIN.out.1.frozen 6
            have lP := FIN.out.1.lt
            clear hown' hg' hat' PK OW rd2 LW hlc hcm hS hS2 hb hb2
            refine hK _ _ (fun _ => p6) ?_
            clear hK K
            have hS := p6
            repeat (first | (refine wpAnyG_take (i := 14) (v := .pointer (some ⟨PB, 6, none⟩)) rfl ?_ ?_ ?_ (fun _ _ _ h => h) (Or.inl ⟨by rfl, ?_⟩) hS ?_; (· decide +kernel); (· decide +kernel); (· decide +kernel); (· (intro w' hS'; go_simp))))
            refine wpAnyG_ready (rs := [15]) (by decide +kernel) (by simp) ?_
            refine AllReadyG.cons rfl (fun K hK => ?_) AllReadyG.nil
            go_simp
            refine hK _ _ (fun h => absurd h (by omega)) ?_
            clear hK K
            refine wpAnyG_done (by decide +kernel) ?_ _
            go_wp2_with (fail)
            go_roundg (8 - (k + 1))
            case rel =>
              refine ⟨k + 1, .slice A5 (k + 1) c5, by omega, by go_num, ?_⟩
              rw [fnsF_succ, ← HQ.out]
              exact FIN.out.2
            case measure => omega
          · skip
            go_simp
            refine (CA.out X1).mono ?_
            rintro e X ⟨cs, rfl, hbd, hbx⟩
            obtain ⟨kk, tx, A, m, c, rfl⟩ := hbd.shape
            replace hbd := Lib.hid (BdCells.stable.imp hbd (fun b h _ => (show V.heap.size ≤ b from Nat.le_trans hb.size h)))
            replace fB := fB.below hbx fB.lt
            replace hb := below_next hbx hb
            clear hbx
            try dsimp only
            replace hS := SV X hb
            refine hK _ _ (fun _ => hS) ?_
            clear hK K
            refine wpAnyG_ready (rs := [6]) (by decide +kernel) (by simp) ?_
            refine AllReadyG.cons rfl (fun K hK => ?_) AllReadyG.nil
            have cv := CV.out X B1 fB
            go_simp
            clear cv
            refine hK _ _ (fun _ => hS) ?_
            clear hK K
            repeat (first | (refine wpAnyG_take (i := 11) (v := .agg #[.string N, .slice none 0 0, .slice none 0 0, .slice none 0 0, .int .i64 1, .string ⟨#[]⟩, .slice none 0 0, .int .i64 kk, .int .i64 0, .string tx, .slice none 0 0, .slice none 0 0, .slice A m c, .slice none 0 0, .int .i64 0]) rfl ?_ ?_ ?_ (fun _ _ _ h => h) (Or.inl ⟨by rfl, ?_⟩) hS ?_; (· decide +kernel); (· decide +kernel); (· decide +kernel); (· (intro w' hS'; go_simp))) | (refine wpAnyG_take (i := 14) (v := .pointer (some ⟨PB, 6, none⟩)) rfl ?_ ?_ ?_ (fun _ _ _ h => h) (Or.inl ⟨by rfl, ?_⟩) hS ?_; (· decide +kernel); (· decide +kernel); (· decide +kernel); (· (intro w' hS'; go_simp))))
            refine wpAnyG_ready (rs := [12]) (by decide +kernel) (by simp) ?_
            refine AllReadyG.cons rfl (fun K hK => ?_) AllReadyG.nil
            go_simp
            obtain ⟨X2, hX2⟩ : ∃ Y, Y = X.alloc (.cells #[.string N, .slice none 0 0, .slice none 0 0, .slice none 0 0, .int .i64 1, .string ⟨#[]⟩, .slice none 0 0, .int .i64 kk, .int .i64 0, .string tx, .slice none 0 0, .slice none 0 0, .slice A m c, .slice none 0 0, .int .i64 0] 42) := ⟨_, rfl⟩
            obtain ⟨B2, hB2⟩ : ∃ B, B = X.heap.size := ⟨_, rfl⟩
            rw [← hX2, ← hB2]
            have hb2 : Below V.heap.size V X2 := by rw [hX2]; exact hb.alloc hb.size _
            have hS2 := SV X2 hb2
            have rd2 : Reads X2 Any 15 (some ⟨B2, 0, none⟩) 1 [.string N, .slice none 0 0, .slice none 0 0, .slice none 0 0, .int .i64 1, .string ⟨#[]⟩, .slice none 0 0, .int .i64 kk, .int .i64 0, .string tx, .slice none 0 0, .slice none 0 0, .slice A m c, .slice none 0 0, .int .i64 0] := by rw [hX2, hB2]; exact Reads.new X _ 15 1 _ Any trivial rfl
            have HMX := HMV.out.below hb
            obtain ⟨vss, hown, hall⟩ := HMX.fs
            have hlt2 : ∀ k, v6.ownBlock = some k → W.heap.size ≤ k ∧ k < V.heap.size := HMV.out.fs.lt
            have hy : FnCells X (fun b => W.heap.size ≤ b ∧ v6.ownBlock ≠ some b) [.string N, .slice none 0 0, .slice none 0 0, .slice none 0 0, .int .i64 1, .string ⟨#[]⟩, .slice none 0 0, .int .i64 kk, .int .i64 0, .string tx, .slice none 0 0, .slice none 0 0, .slice A m c, .slice none 0 0, .int .i64 0] (nmI k, bodyF q) := ⟨_, by rw [HN.out]; rfl, BdCells.stable.imp hbd.out (fun b h _ => ⟨Nat.le_trans HMV.out.gr.size h, fun e => by have := (hlt2 b e).2; omega⟩)⟩
            have PK := Lib.hid (fun (X3 : World) (v' : Value) (hg : (X.alloc (.cells #[.string N, .slice none 0 0, .slice none 0 0, .slice none 0 0, .int .i64 1, .string ⟨#[]⟩, .slice none 0 0, .int .i64 kk, .int .i64 0, .string tx, .slice none 0 0, .slice none 0 0, .slice A m c, .slice none 0 0, .int .i64 0] 42)).grownBy X3 v6.ownBlock) hat hown => HMX.push (o := .cells #[.string N, .slice none 0 0, .slice none 0 0, .slice none 0 0, .int .i64 1, .string ⟨#[]⟩, .slice none 0 0, .int .i64 kk, .int .i64 0, .string tx, .slice none 0 0, .slice none 0 0, .slice A m c, .slice none 0 0, .int .i64 0] 42) (v' := v') hall (fun k hk => HMX.fs.lt k hk) hy hg hat hown)
            have OW := Lib.hid (show X2.ownsRow W.heap.size 42 15 v6 k vss.flatten from by have := hown.alloc (.cells #[.string N, .slice none 0 0, .slice none 0 0, .slice none 0 0, .int .i64 1, .string ⟨#[]⟩, .slice none 0 0, .int .i64 kk, .int .i64 0, .string tx, .slice none 0 0, .slice none 0 0, .slice A m c, .slice none 0 0, .int .i64 0] 42); rw [← hX2] at this; rw [fnsF_len] at this; exact this)
            rw [← hX2] at PK
            have LW : W.heap.size ≤ X2.heap.size := Nat.le_trans HMV.out.gr.size hb2.size
            clear hown hall hy hX2 hB2 HMX hlt2 hbd
            refine hK _ _ (fun _ => hS2) ?_
            clear hK K
            refine wpAnyG_ready (rs := [13]) (by decide +kernel) (by simp) ?_
            refine AllReadyG.cons rfl (fun K hK => ?_) AllReadyG.nil
            refine step_app_fn X2 rfl (.tmp 24) (.tmp 35) rfl OW.out rfl rd2 rfl (by intro u hu; simp at hu; rcases hu with rfl | rfl | rfl | rfl | rfl | rfl | rfl | rfl | rfl | rfl | rfl | rfl | rfl | rfl | rfl <;> rfl) (by omega) LW ?_
            intro v' X3 hown' hg' hat'
            obtain ⟨A5, c5, rfl, hlc, hcm⟩ := own_form hown'
            have FIN := Lib.hid (PK.out X3 _ hg' hat' (by rw [fnsF_len]; exact hown'))
            have p6 : X3.cell? ⟨PB, 6, none⟩ = some v6 := by have := FIN.out.1.cell 6; simpa using this
            have p6f := FIN.out.1.frozen 6
            have lP := FIN.out.1.lt
            clear hown' hg' hat' PK OW rd2 LW hlc hcm hS hS2 hb hb2
            refine hK _ _ (fun _ => p6) ?_
            clear hK K
            have hS := p6
            repeat (first | (refine wpAnyG_take (i := 14) (v := .pointer (some ⟨PB, 6, none⟩)) rfl ?_ ?_ ?_ (fun _ _ _ h => h) (Or.inl ⟨by rfl, ?_⟩) hS ?_; (· decide +kernel); (· decide +kernel); (· decide +kernel); (· (intro w' hS'; go_simp))))
            refine wpAnyG_ready (rs := [15]) (by decide +kernel) (by simp) ?_
            refine AllReadyG.cons rfl (fun K hK => ?_) AllReadyG.nil
            go_simp
            refine hK _ _ (fun h => absurd h (by omega)) ?_
            clear hK K
            refine wpAnyG_done (by decide +kernel) ?_ _
            go_wp2_with (fail)
            go_roundg (8 - (k + 1))
            case rel =>
              refine ⟨k + 1, .slice A5 (k + 1) c5, by omega, by go_num, ?_⟩
              rw [fnsF_succ, ← HQ.out]
              exact FIN.out.2
            case measure => omega
        · skip
          go_simp
          refine (CA.out V).mono ?_
          rintro e X1 ⟨cs, rfl, hbd, hbx⟩
          obtain ⟨kk, tx, A, m, c, rfl⟩ := hbd.shape
          replace hbd := Lib.hid (BdCells.stable.imp hbd (fun b h _ => (show V.heap.size ≤ b from Nat.le_trans hb.size h)))
          replace hb := below_next hbx hb
          clear hbx
          try dsimp only
          replace hS := SV X1 hb
          refine hK _ _ (fun _ => hS) ?_
          clear hK K
          refine wpAnyG_ready (rs := [5]) (by decide +kernel) (by simp) ?_
          refine AllReadyG.cons rfl (fun K hK => ?_) AllReadyG.nil
          go_simp
          obtain ⟨X, hX⟩ : ∃ Y, Y = X1.alloc (.cells #[.int .u8 (97 + (k : Int))] 5) := ⟨_, rfl⟩
          obtain ⟨B1, hB1⟩ : ∃ B, B = X1.heap.size := ⟨_, rfl⟩
          rw [← hX, ← hB1]
          have fB : Blk X B1 5 [.int .u8 (97 + (k : Int))] := by rw [hX, hB1]; exact Blk.new X1 _ _
          replace hb : Below V.heap.size V X := by rw [hX]; exact hb.alloc hb.size _
          replace hbd := Lib.hid (show BdCells X _ _ _ from by rw [hX]; exact BdCells.stable.keep hbd.out (Same.alloc _ _ _))
          replace hS := SV X hb
          clear hX hB1
          refine hK _ _ (fun _ => hS) ?_
          clear hK K
          refine wpAnyG_ready (rs := [6]) (by decide +kernel) (by simp) ?_
          refine AllReadyG.cons rfl (fun K hK => ?_) AllReadyG.nil
          have cv := CV.out X B1 fB
          go_simp
          clear cv
          refine hK _ _ (fun _ => hS) ?_
          clear hK K
          repeat (first | (refine wpAnyG_take (i := 11) (v := .agg #[.string N, .slice none 0 0, .slice none 0 0, .slice none 0 0, .int .i64 1, .string ⟨#[]⟩, .slice none 0 0, .int .i64 kk, .int .i64 0, .string tx, .slice none 0 0, .slice none 0 0, .slice A m c, .slice none 0 0, .int .i64 0]) rfl ?_ ?_ ?_ (fun _ _ _ h => h) (Or.inl ⟨by rfl, ?_⟩) hS ?_; (· decide +kernel); (· decide +kernel); (· decide +kernel); (· (intro w' hS'; go_simp))) | (refine wpAnyG_take (i := 14) (v := .pointer (some ⟨PB, 6, none⟩)) rfl ?_ ?_ ?_ (fun _ _ _ h => h) (Or.inl ⟨by rfl, ?_⟩) hS ?_; (· decide +kernel); (· decide +kernel); (· decide +kernel); (· (intro w' hS'; go_simp))))
          refine wpAnyG_ready (rs := [12]) (by decide +kernel) (by simp) ?_
          refine AllReadyG.cons rfl (fun K hK => ?_) AllReadyG.nil
          go_simp
          obtain ⟨X2, hX2⟩ : ∃ Y, Y = X.alloc (.cells #[.string N, .slice none 0 0, .slice none 0 0, .slice none 0 0, .int .i64 1, .string ⟨#[]⟩, .slice none 0 0, .int .i64 kk, .int .i64 0, .string tx, .slice none 0 0, .slice none 0 0, .slice A m c, .slice none 0 0, .int .i64 0] 42) := ⟨_, rfl⟩
          obtain ⟨B2, hB2⟩ : ∃ B, B = X.heap.size := ⟨_, rfl⟩
          rw [← hX2, ← hB2]
          have hb2 : Below V.heap.size V X2 := by rw [hX2]; exact hb.alloc hb.size _
          have hS2 := SV X2 hb2
          have rd2 : Reads X2 Any 15 (some ⟨B2, 0, none⟩) 1 [.string N, .slice none 0 0, .slice none 0 0, .slice none 0 0, .int .i64 1, .string ⟨#[]⟩, .slice none 0 0, .int .i64 kk, .int .i64 0, .string tx, .slice none 0 0, .slice none 0 0, .slice A m c, .slice none 0 0, .int .i64 0] := by rw [hX2, hB2]; exact Reads.new X _ 15 1 _ Any trivial rfl
          have HMX := HMV.out.below hb
          obtain ⟨vss, hown, hall⟩ := HMX.fs
          have hlt2 : ∀ k, v6.ownBlock = some k → W.heap.size ≤ k ∧ k < V.heap.size := HMV.out.fs.lt
          have hy : FnCells X (fun b => W.heap.size ≤ b ∧ v6.ownBlock ≠ some b) [.string N, .slice none 0 0, .slice none 0 0, .slice none 0 0, .int .i64 1, .string ⟨#[]⟩, .slice none 0 0, .int .i64 kk, .int .i64 0, .string tx, .slice none 0 0, .slice none 0 0, .slice A m c, .slice none 0 0, .int .i64 0] (nmI k, bodyF q) := ⟨_, by rw [HN.out]; rfl, BdCells.stable.imp hbd.out (fun b h _ => ⟨Nat.le_trans HMV.out.gr.size h, fun e => by have := (hlt2 b e).2; omega⟩)⟩
          have PK := Lib.hid (fun (X3 : World) (v' : Value) (hg : (X.alloc (.cells #[.string N, .slice none 0 0, .slice none 0 0, .slice none 0 0, .int .i64 1, .string ⟨#[]⟩, .slice none 0 0, .int .i64 kk, .int .i64 0, .string tx, .slice none 0 0, .slice none 0 0, .slice A m c, .slice none 0 0, .int .i64 0] 42)).grownBy X3 v6.ownBlock) hat hown => HMX.push (o := .cells #[.string N, .slice none 0 0, .slice none 0 0, .slice none 0 0, .int .i64 1, .string ⟨#[]⟩, .slice none 0 0, .int .i64 kk, .int .i64 0, .string tx, .slice none 0 0, .slice none 0 0, .slice A m c, .slice none 0 0, .int .i64 0] 42) (v' := v') hall (fun k hk => HMX.fs.lt k hk) hy hg hat hown)
          have OW := Lib.hid (show X2.ownsRow W.heap.size 42 15 v6 k vss.flatten from by have := hown.alloc (.cells #[.string N, .slice none 0 0, .slice none 0 0, .slice none 0 0, .int .i64 1, .string ⟨#[]⟩, .slice none 0 0, .int .i64 kk, .int .i64 0, .string tx, .slice none 0 0, .slice none 0 0, .slice A m c, .slice none 0 0, .int .i64 0] 42); rw [← hX2] at this; rw [fnsF_len] at this; exact this)
          rw [← hX2] at PK
          have LW : W.heap.size ≤ X2.heap.size := Nat.le_trans HMV.out.gr.size hb2.size
          clear hown hall hy hX2 hB2 HMX hlt2 hbd
          refine hK _ _ (fun _ => hS2) ?_
          clear hK K
          refine wpAnyG_ready (rs := [13]) (by decide +kernel) (by simp) ?_
          refine AllReadyG.cons rfl (fun K hK => ?_) AllReadyG.nil
          refine step_app_fn X2 rfl (.tmp 24) (.tmp 35) rfl OW.out rfl rd2 rfl (by intro u hu; simp at hu; rcases hu with rfl | rfl | rfl | rfl | rfl | rfl | rfl | rfl | rfl | rfl | rfl | rfl | rfl | rfl | rfl <;> rfl) (by omega) LW ?_
          intro v' X3 hown' hg' hat'
          obtain ⟨A5, c5, rfl, hlc, hcm⟩ := own_form hown'
          have FIN := Lib.hid (PK.out X3 _ hg' hat' (by rw [fnsF_len]; exact hown'))
          have p6 : X3.cell? ⟨PB, 6, none⟩ = some v6 := by have := FIN.out.1.cell 6; simpa using this
          have p6f := FIN.out.1.frozen 6
          have lP := FIN.out.1.lt
          clear hown' hg' hat' PK OW rd2 LW hlc hcm hS hS2 hb hb2
          refine hK _ _ (fun _ => p6) ?_
          clear hK K
          have hS := p6
          repeat (first | (refine wpAnyG_take (i := 14) (v := .pointer (some ⟨PB, 6, none⟩)) rfl ?_ ?_ ?_ (fun _ _ _ h => h) (Or.inl ⟨by rfl, ?_⟩) hS ?_; (· decide +kernel); (· decide +kernel); (· decide +kernel); (· (intro w' hS'; go_simp))))
          refine wpAnyG_ready (rs := [15]) (by decide +kernel) (by simp) ?_
          refine AllReadyG.cons rfl (fun K hK => ?_) AllReadyG.nil
          go_simp
          refine hK _ _ (fun h => absurd h (by omega)) ?_
          clear hK K
          refine wpAnyG_done (by decide +kernel) ?_ _
          go_wp2_with (fail)
          go_roundg (8 - (k + 1))
          case rel =>
            refine ⟨k + 1, .slice A5 (k + 1) c5, by omega, by go_num, ?_⟩
            rw [fnsF_succ, ← HQ.out]
            exact FIN.out.2
          case measure => omega
    · obtain rfl : k = 8 := by omega
      rw [show ((8 : Nat) : Int) = 8 from rfl]
      obtain ⟨A6, c6, rfl, hc6, hm6⟩ := HM.out.fs.form
      rw [fnsF_len] at *
      have CA := Lib.hid (fun (Y : World) => call_any (L.length : Nat) (show I64 _ from by rw [← HL.out.2]; exact ⟨by omega, hmx⟩) Y)
      have HC6 := Lib.hid (And.intro hc6 hm6)
      have HLN := HL.out.2
      subst HLN
      clear hc6 hm6 HR hlt
      go_upto_region 11 with (fail)
      go_wp2_with (fail)
      refine (CA.out _).mono ?_
      rintro e X ⟨cs, rfl, hbd, hbx⟩
      obtain ⟨kk, tx, A, m, c, rfl⟩ := hbd.shape
      have HBD := Lib.hid hbd
      have HMX := Lib.hid (HM.out.below hbx)
      have HS := Lib.hid hbx.size
      have HM6 := Lib.hid HM.out.gr.size
      clear hbd hbx HM
      obtain ⟨X2, hX2⟩ : ∃ Y, Y = X.alloc (.cells #[.string ⟨#[90]⟩, .slice none 0 0, .slice none 0 0, .int .i64 1, .string ⟨#[]⟩, .slice none 0 0, .int .i64 kk, .int .i64 0, .string tx, .slice none 0 0, .slice none 0 0, .slice A m c, .slice none 0 0, .int .i64 0] 64) := ⟨_, rfl⟩
      obtain ⟨ZB, hZB⟩ : ∃ B, B = X.heap.size := ⟨_, rfl⟩
      have fZ : Blk X2 ZB 64 [.string ⟨#[90]⟩, .slice none 0 0, .slice none 0 0, .int .i64 1, .string ⟨#[]⟩, .slice none 0 0, .int .i64 kk, .int .i64 0, .string tx, .slice none 0 0, .slice none 0 0, .slice A m c, .slice none 0 0, .int .i64 0] := by rw [hX2, hZB]; exact Blk.new X _ _
      have bX2 : Below X.heap.size X X2 := by rw [hX2]; exact (Below.refl _ _).alloc (Nat.le_refl _) _
      have HMY := Lib.hid (HMX.out.below bX2)
      have HZ := Lib.hid (And.intro fZ (And.intro bX2 hZB))
      have HX2 := Lib.hid (And.intro hX2 hZB)
      clear fZ bX2 hX2 hZB
      have fR2 := (HW.out.1.same (Same.of_in HMX.out.gr (D := fun b => b ≠ PB) (fun b hb _ => hb)) (by have := HW.out.2.2.2.2; omega))
      have fP2 := HMX.out.blk
      have hRP : R ≠ PB := by have := HW.out.2.2.2.2; omega
      have hZP : PB ≠ ZB ∧ R ≠ ZB := by
        have h0 := HX2.out.2
        have h1 := HMX.out.blk.lt
        have h2 := HMX.out.gr.size
        have h3 := HW.out.2.2.2.2
        omega
      have HF3 := Lib.hid fR2
      have HQQ := Lib.hid (And.intro (fR2.below HZ.out.2.1 fR2.lt) (And.intro HMY.out.blk (And.intro hRP hZP)))
      have s0 := fR2.cell 0
      have p0 := fP2.cell 0
      have k0 := fR2.frozen 0
      have s1 := fR2.cell 1
      have p1 := fP2.cell 1
      have k1 := fR2.frozen 1
      have s2 := fR2.cell 2
      have p2 := fP2.cell 2
      have k2 := fR2.frozen 2
      have s3 := fR2.cell 3
      have p3 := fP2.cell 3
      have k3 := fR2.frozen 3
      have s4 := fR2.cell 4
      have p4 := fP2.cell 4
      have k4 := fR2.frozen 4
      have s5 := fR2.cell 5
      have p5 := fP2.cell 5
      have k5 := fR2.frozen 5
      have s6 := fR2.cell 6
      have p6 := fP2.cell 6
      have k6 := fR2.frozen 6
      have s7 := fR2.cell 7
      have p7 := fP2.cell 7
      have k7 := fR2.frozen 7
      have m7 := fP2.frozen 7
      simp only [List.getElem?_cons_zero, List.getElem?_cons_succ] at s0 p0 s1 p1 s2 p2 s3 p3 s4 p4 s5 p5 s6 p6 s7 p7
      have lR := fR2.lt
      have lP := fP2.lt
      clear fR2 fP2 hZP
      try dsimp only
      go_wp2_with (fail)
      have hn := HW.out.2.2.2.2
      have hsz := HMX.out.gr.size
      have hRP := HQQ.out.2.2.1
      obtain ⟨V, hV⟩ : ∃ V, V = ((((((((X.setCell ⟨PB, 7, none⟩ (.slice (some ⟨X.heap.size, 0, none⟩) 1 1)).setCell ⟨R, 0, none⟩ (.string ⟨#[109]⟩)).setCell ⟨R, 1, none⟩ (.int .i64 1)).setCell ⟨R, 2, none⟩ (.slice none 0 0)).setCell ⟨R, 3, none⟩ (.slice (some ⟨DB, 0, none⟩) 1 1)).setCell ⟨R, 4, none⟩ (.slice none 0 0)).setCell ⟨R, 5, none⟩ (.slice none 0 0)).setCell ⟨R, 6, none⟩ (.slice A6 8 c6)).setCell ⟨R, 7, none⟩ (.slice (some ⟨X.heap.size, 0, none⟩) 1 1) := ⟨_, rfl⟩
      have gV : GrownIn (fun b => b = PB ∨ b = R) X V := by
        rw [hV]
        exact (((((((((GrownIn.refl _ X).set (p := ⟨PB, 7, none⟩) (.inl rfl) (.slice (some ⟨X.heap.size, 0, none⟩) 1 1)).set (p := ⟨R, 0, none⟩) (.inr rfl) (.string ⟨#[109]⟩)).set (p := ⟨R, 1, none⟩) (.inr rfl) (.int .i64 1)).set (p := ⟨R, 2, none⟩) (.inr rfl) (.slice none 0 0)).set (p := ⟨R, 3, none⟩) (.inr rfl) (.slice (some ⟨DB, 0, none⟩) 1 1)).set (p := ⟨R, 4, none⟩) (.inr rfl) (.slice none 0 0)).set (p := ⟨R, 5, none⟩) (.inr rfl) (.slice none 0 0)).set (p := ⟨R, 6, none⟩) (.inr rfl) (.slice A6 8 c6)).set (p := ⟨R, 7, none⟩) (.inr rfl) (.slice (some ⟨X.heap.size, 0, none⟩) 1 1)
      have sV : V.heap.size = X.heap.size := by rw [hV]; simp [World.setCell]
      have fRV : Blk V R 30 [.string ⟨#[109]⟩, .int .i64 1, .slice none 0 0, .slice (some ⟨DB, 0, none⟩) 1 1, .slice none 0 0, .slice none 0 0, .slice A6 8 c6, .slice (some ⟨X.heap.size, 0, none⟩) 1 1] := by
        rw [hV]
        have fR3 := HF3.out
        exact ((((((((fR3.far (p := ⟨PB, 7, none⟩) hRP (.slice (some ⟨X.heap.size, 0, none⟩) 1 1)).put 0 (.string ⟨#[109]⟩)).put 1 (.int .i64 1)).put 2 (.slice none 0 0)).put 3 (.slice (some ⟨DB, 0, none⟩) 1 1)).put 4 (.slice none 0 0)).put 5 (.slice none 0 0)).put 6 (.slice A6 8 c6)).put 7 (.slice (some ⟨X.heap.size, 0, none⟩) 1 1)
      rw [← hV]
      clear hV
      obtain ⟨Y, hY⟩ : ∃ Y, Y = V.alloc (.cells #[.string ⟨#[90]⟩, .slice none 0 0, .slice none 0 0, .int .i64 1, .string ⟨#[]⟩, .slice none 0 0, .int .i64 kk, .int .i64 0, .string tx, .slice none 0 0, .slice none 0 0, .slice A m c, .slice none 0 0, .int .i64 0] 64) := ⟨_, rfl⟩
      have fZY : Blk Y X.heap.size 64 [.string ⟨#[90]⟩, .slice none 0 0, .slice none 0 0, .int .i64 1, .string ⟨#[]⟩, .slice none 0 0, .int .i64 kk, .int .i64 0, .string tx, .slice none 0 0, .slice none 0 0, .slice A m c, .slice none 0 0, .int .i64 0] := by
        rw [hY, ← sV]
        exact Blk.new V _ _
      have fRY : Blk Y R 30 [.string ⟨#[109]⟩, .int .i64 1, .slice none 0 0, .slice (some ⟨DB, 0, none⟩) 1 1, .slice none 0 0, .slice none 0 0, .slice A6 8 c6, .slice (some ⟨X.heap.size, 0, none⟩) 1 1] := by rw [hY]; exact fRV.alloc _
      have gY : GrownIn (fun b => b = PB ∨ b = R) X Y := by rw [hY]; exact gV.alloc _
      rw [← hY]
      clear hY
      have bX : Below w.heap.size w X := Below.of_in HW.out.2.2.2.1 HMX.out.gr (fun b hb => by omega) HW.out.2.2.2.1.size
      have bY : Below w.heap.size w Y := Below.of_in bX gY (fun b hb => by omega) bX.size
      have sXY : Same (fun b => b ≠ PB ∧ b ≠ R) X Y := Same.of_in gY fun b hb _ e => e.elim hb.1 hb.2
      have sWX : Same (fun b => b ≠ PB) W X := Same.of_in HMX.out.gr fun b hb _ => hb
      have fMY := (HW.out.2.1.same sWX (by omega)).same sXY (by omega)
      have fDY := (HW.out.2.2.1.same sWX (by omega)).same sXY (by omega)
      obtain ⟨vss, _, hc1, hc2, rF, aF⟩ := (HMX.out.fs.keep FnCells.stable (fun b hb hl => sXY b (by omega) hl)).reads FnCells.stable (by omega)
      have bd := BdCells.stable.keep HBD.out (fun b hb hl => sXY b (by have := HM6.out; omega) hl)
      refine ret_blk rfl rfl fRY Tryd.underlying30 (by kernel_rfl) rfl ?_
      refine ⟨_, rfl, ⟨⟨some ⟨DB, 0, none⟩, 1, some ⟨MB, 0, none⟩, 1, A6, c6, some ⟨X.heap.size, 0, none⟩, 1, vss, [.string ⟨#[90]⟩, .slice none 0 0, .slice none 0 0, .int .i64 1, .string ⟨#[]⟩, .slice none 0 0, .int .i64 kk, .int .i64 0, .string tx, .slice none 0 0, .slice none 0 0, .slice A m c, .slice none 0 0, .int .i64 0], rfl, ⟨by omega, by unfold maxLen; omega⟩, ⟨by omega, by unfold maxLen; omega⟩, ⟨HC6.out.1, HC6.out.2⟩, ⟨by omega, by unfold maxLen; omega⟩, ?_, ?_, ?_, ?_, ?_, ?_⟩, fnsF_eight L⟩, bY⟩
      · exact blk_reads fDY (by omega) rfl
      · exact blk_reads fMY (by omega) rfl
      · exact rF.imp (by omega) fun b hb _ => by omega
      · exact aF.imp fun _ _ h => FnCells.stable.imp h fun b hb _ => by omega
      · exact blk_reads fZY (by omega) rfl
      · exact ⟨_, rfl, BdCells.stable.imp bd fun b hb _ => by have := HM6.out; omega⟩
end Go.Proofs.YtaealapgebbnlaaDoor
