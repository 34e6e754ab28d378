/- Contract of replay.Read at the text of a list of choices. -/
import Derived.Test.YtlpkgheggbcidaaDoorRaText
set_option linter.unusedVariables false
namespace Go.Proofs.YtlpkgheggbcidaaDoor
open Go.RowKit Go.Mem Go.Rp Go.Maps
def ReadPost (w : World) (l : List Ch) (e : Ending) (w' : World) : Prop := ∃ A c, e = .returned (.tuple #[.slice A l.length c, .int .i64 0]) ∧ l.length ≤ c ∧ c ≤ maxLen ∧ Reads w' (fun b => w.heap.size ≤ b) 3 A l.length (cat chC l) ∧ Below w.heap.size w w'
theorem part_bytes (x : UInt8) (R : Bs) (PB : ByteArray) (h : PB = ⟨(x :: R).toArray⟩) : PB.size = R.length + 1 ∧ (∀ (h : 0 < PB.size), PB[0]'h = x) ∧ PB.extract 1 PB.size = ⟨R.toArray⟩ ∧ PB.toList.isEmpty = false := by
  subst h
  refine ⟨by simp [ByteArray.size], fun _ => rfl, ?_, by rw [ByteArray.toList_mk]; rfl⟩
  apply ByteArray.ext
  simp [ByteArray.size]
/-- a store into a block of the call's own that is not the row's -/
theorem RowAt.store {α : Type} {e : TypeId} {size : Nat} {f : α → List Value} {w wr w2 : World} {v u : Value} {l : List α} {p : Addr} (h : RowAt e size f w wr v l) (h2 : w2 = wr.setCell p u) (hp : w.heap.size ≤ p.block) (hn : ∀ b, v.ownBlock = some b → b ≠ p.block) : RowAt e size f w w2 v l := by
  subst h2
  exact ⟨h.1.keep fun b hb => Below.heap_setCell wr p u b (hn b hb), h.2.1, h.2.2.setCell hp u⟩
set_option maxRecDepth 100000 in
set_option maxHeartbeats 8000000 in
theorem read_any (l : List Ch) (w : World) (hv : Env w) (h : ∀ x ∈ l, Okc x) (h50 : l.length ≤ 200) :
    Calls Tryd.prog 7 #[.string ⟨(textC l).toArray⟩] w (ReadPost w l) := by
  cases hl : l with
  | nil =>
    have ht : (textC []).toArray = #[] := rfl
    rw [ht]
    clear ht h hl hv
    go_enter Tryd.func7, Tryd.ntmps7
    go_wp2_with (fail)
    go_ret2
    exact ⟨none, 0, rfl, Nat.le_refl _, Nat.zero_le _, ⟨rfl, fun h => absurd h (by decide)⟩, Below.refl _ _⟩
  | cons r0 l0 =>
    rw [← hl]
    have hbd := join_len l h
    have hne : textC l ≠ [] := by rw [hl]; exact textC_ne _ _
    have CS := Lib.hid (by have := split_any r0 l0 w hv (by rw [← hl]; omega); rw [← hl] at this; exact this)
    have HV := Lib.hid hv
    have HL := Lib.hid h
    obtain ⟨n, hn⟩ : ∃ n, n = l.length := ⟨_, rfl⟩
    rw [← hn] at CS h50
    have HN := Lib.hid hn
    have hsz : (ByteArray.mk (textC l).toArray).size = (textC l).length := bsz _
    have hpos : 0 < (textC l).length := List.length_pos_iff.2 hne
    have HNE := Lib.hid hne
    have hie : (textC l).isEmpty = false := by
      cases e : textC l with
      | nil => exact absurd e hne
      | cons x y => rfl
    have CT := Lib.hid (fun (V : World) (hV : Env V) (A2 : Option Addr) (c2 : Nat) (hr : Reads V Any 3 A2 n (cat chC l)) => text_any A2 n c2 l V hV hr hn h h50)
    have HSC := Lib.hid (fun k (hk : k < l.length) => (show ((l.map partC).map bst)[k]? = some (.string ⟨(partC l[k]).toArray⟩) from by simp [hk, bst]))
    generalize textC l = T at CS CT hsz hpos hie ⊢
    clear hl hne h hv hn hbd HNE
    go_enter Tryd.func7, Tryd.ntmps7
    go_wp2_with (fail)
    refine CS.out.mono ?_
    rintro e w1 ⟨rfl, hw1⟩
    have H1 := Lib.hid hw1
    clear hw1
    go_wp2_with (fail)
    obtain ⟨SB, hSB⟩ : ∃ SB, SB = w.heap.size := ⟨_, rfl⟩
    rw [← hSB]
    have fS : Blk w1 SB 9 ((l.map partC).map bst) := by rw [H1.out, hSB]; exact Blk.new w _ _
    have hb1 : Below w.heap.size w w1 := by rw [H1.out]; exact (Below.refl _ _).alloc (Nat.le_refl _) _
    have HS := Lib.hid (And.intro fS hb1)
    clear fS hb1 hSB CS H1
    go_loopw [4, 20] (fun v i wr => ∃ k : Nat, k ≤ n ∧ i = .int .i64 k ∧ Hid (RowAt 36 3 chC w1 wr v (l.take k))) (fun _ i _ => n - (intOf i).toNat)
    case atStart => exact ⟨0, Nat.zero_le _, rfl, Lib.hid (RowAt.nil w1)⟩
    case round =>
      obtain ⟨k, hk, rfl, HP⟩ := hrel
      have HVr := Lib.hid ((HV.out.below HS.out.2).below HP.out.2.2)
      by_cases hlt : k < n
      · have hkl : k < l.length := by have := HN.out; omega
        have hox := HL.out _ (List.getElem_mem hkl)
        have gS := (HP.out.2.2.cell (p := ⟨SB, k, none⟩) HS.out.1.lt).trans ((HS.out.1.cell k).trans (HSC.out k hkl))
        have lS : SB < wr.heap.size := by have := HS.out.1.lt; have := HP.out.2.2.size; omega
        have NX := Lib.hid (show l.take (k + 1) = l.take k ++ [l[k]] from List.take_succ_eq_append_getElem hkl)
        have HLn := Lib.hid (show (l.take k).length = k by rw [List.length_take]; omega)
        obtain ⟨A3, c3, rfl⟩ := HP.out.form
        rw [HLn.out] at HP ⊢
        generalize l[k] = x at hox gS NX
        have CI := Lib.hid (fun V => indexByte_any x hox V)
        have CC := Lib.hid (fun V hV => cut_any x hox V hV)
        obtain ⟨PB, hPB⟩ : ∃ PB : ByteArray, PB = ⟨(partC x).toArray⟩ := ⟨_, rfl⟩
        rw [← hPB] at gS
        obtain ⟨p1, p2, p3, p4⟩ := part_bytes (letterC x.k) (restC x) PB hPB
        have CA := Lib.hid (fun V => atoi_any x.a hox.a0 hox.a9 V)
        have CB := Lib.hid (fun V => atoi_any x.b hox.b0 hox.b9 V)
        have r5 := hox.nb
        obtain ⟨xk, a, b⟩ := x
        have r0 := hox.k
        simp only at r0 r5 CI CC CA CB
        generalize (ByteArray.mk (restC ⟨xk, a, b⟩).toArray) = RB at p3 CC
        have k1 : (k : Int) < (n : Int) := by omega
        have k0 : (0 : Int) ≤ (k : Int) := by omega
        have p0 : 0 < PB.size := by omega
        have p5 := p2 p0
        have p7 : ((0 : Int) < (PB.size : Int)) := by omega
        have p8 : (1 : Int) ≤ (PB.size : Int) := by omega
        clear hPB p2 hox p1
        rcases r0 with rfl | rfl | rfl
        · obtain rfl : b = 0 := r5 (by decide)
          clear CB
          have eL : letterC 1 = 103 := by decide
          have eL2 : ((103 : UInt8).toNat : Int) = 103 := by decide
          rw [eL] at p5 CI
          rw [eL2] at CI
          simp only [if_neg (show ¬ ((1 : Int) = 2) by decide), decide_eq_false (show ¬ ((1 : Int) = 2) by decide)] at CC
          obtain ⟨DA, hDA⟩ : ∃ DA : ByteArray, DA = ⟨(Lib.decDigits a.toNat).toArray⟩ := ⟨_, rfl⟩
          rw [← hDA] at CC CA
          clear hDA eL eL2 r5
          go_wp2_with (fail)
          refine (CI.out wr).mono ?_
          rintro e w2 ⟨rfl, rfl⟩
          dsimp only
          obtain ⟨W, hW⟩ : ∃ W, W = w2.alloc (.cells #[.int .i64 1, .int .i64 0, .int .i64 0] 36) := ⟨_, rfl⟩
          obtain ⟨X, hX⟩ : ∃ X, X = w2.heap.size := ⟨_, rfl⟩
          have bW : Below w2.heap.size w2 W := by rw [hW]; exact (Below.refl _ _).alloc (Nat.le_refl _) _
          have fX : Blk W X 36 [.int .i64 1, .int .i64 0, .int .i64 0] := by rw [hW, hX]; exact Blk.new w2 _ _
          have HPW := Lib.hid (HP.out.below bW)
          have HFX := Lib.hid fX
          have HW := Lib.hid hW
          have HXe := Lib.hid hX
          have CCW := Lib.hid (CC.out W (HVr.out.below bW))
          clear hW hX bW fX CC
          have HNO := Lib.hid (fun bb (hb : (Value.slice A3 k c3).ownBlock = some bb) => (show bb ≠ X from by have := HP.out.1.lt bb hb; rw [HXe.out]; omega))
          go_wp2_with (fail)
          rw [← HW.out, ← HXe.out]
          refine CCW.out.mono ?_
          rintro e w6 ⟨rfl, hb6⟩
          dsimp only
          have HF6 := Lib.hid ((hb6.block X HFX.out.lt).trans HFX.out)
          have HP6 := Lib.hid (HPW.out.below hb6)
          clear hb6 gS lS p3 p4 p5 p7 p8 p0 CCW
          go_wp2_with (fail)
          refine (CA.out w6).mono ?_
          rintro e w7 ⟨rfl, hb7⟩
          dsimp only
          have f7 : Blk w7 X 36 [.int .i64 1, .int .i64 0, .int .i64 0] := (hb7.block X (Blk.lt HF6.out)).trans HF6.out
          have HF7 := Lib.hid f7
          have HP7 := Lib.hid (HP6.out.below hb7)
          have lX : X < w7.heap.size := f7.lt
          have fz1 := f7.frozen 1
          have x0 := f7.cell 0
          have x1 := f7.cell 1
          have x2 := f7.cell 2
          simp only [List.getElem?_cons_succ, List.getElem?_cons_zero] at x0 x1 x2
          clear hb7 f7 CA
          obtain ⟨w8, hw8⟩ : ∃ V, V = w7.setCell ⟨X, 1, none⟩ (.int .i64 a) := ⟨_, rfl⟩
          have f8 : Blk w8 X 36 [.int .i64 1, .int .i64 a, .int .i64 0] := by rw [hw8]; exact HF7.out.put 1 _
          have HF8 := Lib.hid f8
          have HW8 := Lib.hid hw8
          have HP8 := Lib.hid (HP7.out.store (p := ⟨X, 1, none⟩) (u := .int .i64 a) hw8 (by show w1.heap.size ≤ X; rw [HXe.out]; exact HP.out.2.2.size) (HNO.out))
          clear f8 hw8
          go_upto_region 17 with (fail)
          rw [← HW8.out]
          clear x0 x1 x2 lX
          have x0 := HF8.out.cell 0
          have x1 := HF8.out.cell 1
          have x2 := HF8.out.cell 2
          simp only [List.getElem?_cons_succ, List.getElem?_cons_zero] at x0 x1 x2
          have lX := HF8.out.lt
          obtain ⟨w12, hw12⟩ : ∃ V, V = w8.alloc (.cells #[.int .i64 1, .int .i64 a, .int .i64 0] 36) := ⟨_, rfl⟩
          have b12 : Below w8.heap.size w8 w12 := by rw [hw12]; exact (Below.refl _ _).alloc (Nat.le_refl _) _
          have sg7 : Seg w12 36 3 (.slice A3 k c3) k (cat chC (l.take k)) := by
            have := (HP8.out.below b12).1
            rw [HLn.out] at this
            exact this
          have rd7 : Reads w12 Any 3 (some ⟨w8.heap.size, 0, none⟩) 1 (chC ⟨1, a, 0⟩) := by
            rw [hw12]
            exact Reads.new w8 (chC ⟨1, a, 0⟩) 3 1 _ Any trivial rfl
          obtain ⟨v8, w13, hap, sg8, hg8, hat8⟩ := sg7.app el_ch rd7 (by omega) (chC_one _) (by omega) (c := 1) 27
          have HP13 := HP8.out.put b12 ⟨1, a, 0⟩ (by rw [HLn.out]; exact sg8) hg8 hat8
          have HF := Lib.hid HP13
          rw [hw12] at hap
          clear HP13 sg7 rd7 sg8 hg8 hat8 hw12 b12
          go_wp2_with (at_builtin; refine wpList_app_run rfl (.tmp 57) (.tmp 59) rfl rfl rfl hap ?_; clear hap)
          go_roundw
          case rel =>
            first
              | exact ⟨k + 1, by omega, by go_num, Lib.hid (by rw [NX.out]; exact HF.out)⟩
              | ((repeat apply Exists.intro); exact ⟨⟨k + 1, by omega, by go_num, Lib.hid (by rw [NX.out]; exact HF.out)⟩, rfl⟩)
          case measure => simp [intOf]; omega
        · have eL : letterC 2 = 99 := by decide
          have eL2 : ((99 : UInt8).toNat : Int) = 99 := by decide
          rw [eL] at p5 CI
          rw [eL2] at CI
          simp only [if_true, decide_true] at CC
          obtain ⟨DB, hDB⟩ : ∃ DB : ByteArray, DB = ⟨(Lib.decDigits b.toNat).toArray⟩ := ⟨_, rfl⟩
          rw [← hDB] at CC CB
          clear hDB
          obtain ⟨DA, hDA⟩ : ∃ DA : ByteArray, DA = ⟨(Lib.decDigits a.toNat).toArray⟩ := ⟨_, rfl⟩
          rw [← hDA] at CC CA
          clear hDA eL eL2 r5
          go_wp2_with (fail)
          refine (CI.out wr).mono ?_
          rintro e w2 ⟨rfl, rfl⟩
          dsimp only
          obtain ⟨W, hW⟩ : ∃ W, W = w2.alloc (.cells #[.int .i64 2, .int .i64 0, .int .i64 0] 36) := ⟨_, rfl⟩
          obtain ⟨X, hX⟩ : ∃ X, X = w2.heap.size := ⟨_, rfl⟩
          have bW : Below w2.heap.size w2 W := by rw [hW]; exact (Below.refl _ _).alloc (Nat.le_refl _) _
          have fX : Blk W X 36 [.int .i64 2, .int .i64 0, .int .i64 0] := by rw [hW, hX]; exact Blk.new w2 _ _
          have HPW := Lib.hid (HP.out.below bW)
          have HFX := Lib.hid fX
          have HW := Lib.hid hW
          have HXe := Lib.hid hX
          have CCW := Lib.hid (CC.out W (HVr.out.below bW))
          clear hW hX bW fX CC
          have HNO := Lib.hid (fun bb (hb : (Value.slice A3 k c3).ownBlock = some bb) => (show bb ≠ X from by have := HP.out.1.lt bb hb; rw [HXe.out]; omega))
          go_wp2_with (fail)
          rw [← HW.out, ← HXe.out]
          refine CCW.out.mono ?_
          rintro e w6 ⟨rfl, hb6⟩
          dsimp only
          have HF6 := Lib.hid ((hb6.block X HFX.out.lt).trans HFX.out)
          have HP6 := Lib.hid (HPW.out.below hb6)
          clear hb6 gS lS p3 p4 p5 p7 p8 p0 CCW
          go_wp2_with (fail)
          refine (CA.out w6).mono ?_
          rintro e w7 ⟨rfl, hb7⟩
          dsimp only
          have f7 : Blk w7 X 36 [.int .i64 2, .int .i64 0, .int .i64 0] := (hb7.block X (Blk.lt HF6.out)).trans HF6.out
          have HF7 := Lib.hid f7
          have HP7 := Lib.hid (HP6.out.below hb7)
          have lX : X < w7.heap.size := f7.lt
          have fz1 := f7.frozen 1
          have x0 := f7.cell 0
          have x1 := f7.cell 1
          have x2 := f7.cell 2
          simp only [List.getElem?_cons_succ, List.getElem?_cons_zero] at x0 x1 x2
          clear hb7 f7 CA
          obtain ⟨w8, hw8⟩ : ∃ V, V = w7.setCell ⟨X, 1, none⟩ (.int .i64 a) := ⟨_, rfl⟩
          have f8 : Blk w8 X 36 [.int .i64 2, .int .i64 a, .int .i64 0] := by rw [hw8]; exact HF7.out.put 1 _
          have HF8 := Lib.hid f8
          have HW8 := Lib.hid hw8
          have HP8 := Lib.hid (HP7.out.store (p := ⟨X, 1, none⟩) (u := .int .i64 a) hw8 (by show w1.heap.size ≤ X; rw [HXe.out]; exact HP.out.2.2.size) (HNO.out))
          clear f8 hw8
          go_wp2_with (fail)
          rw [← HW8.out]
          refine (CB.out w8).mono ?_
          rintro e w9 ⟨rfl, hb9⟩
          dsimp only
          clear x0 x1 x2 lX
          have f9 : Blk w9 X 36 [.int .i64 2, .int .i64 a, .int .i64 0] := (hb9.block X (Blk.lt HF8.out)).trans HF8.out
          have HF9 := Lib.hid f9
          have HP9 := Lib.hid (HP8.out.below hb9)
          have lX : X < w9.heap.size := f9.lt
          have fz2 := f9.frozen 2
          have x0 := f9.cell 0
          have x1 := f9.cell 1
          have x2 := f9.cell 2
          simp only [List.getElem?_cons_succ, List.getElem?_cons_zero] at x0 x1 x2
          clear hb9 f9 CB
          obtain ⟨w10, hw10⟩ : ∃ V, V = w9.setCell ⟨X, 2, none⟩ (.int .i64 b) := ⟨_, rfl⟩
          have f10 : Blk w10 X 36 [.int .i64 2, .int .i64 a, .int .i64 b] := by rw [hw10]; exact HF9.out.put 2 _
          have HF10 := Lib.hid f10
          have HW10 := Lib.hid hw10
          have HP10 := Lib.hid (HP9.out.store (p := ⟨X, 2, none⟩) (u := .int .i64 b) hw10 (by show w1.heap.size ≤ X; rw [HXe.out]; exact HP.out.2.2.size) (HNO.out))
          clear f10 hw10
          go_upto_region 17 with (fail)
          rw [← HW10.out]
          clear x0 x1 x2 lX
          have x0 := HF10.out.cell 0
          have x1 := HF10.out.cell 1
          have x2 := HF10.out.cell 2
          simp only [List.getElem?_cons_succ, List.getElem?_cons_zero] at x0 x1 x2
          have lX := HF10.out.lt
          obtain ⟨w12, hw12⟩ : ∃ V, V = w10.alloc (.cells #[.int .i64 2, .int .i64 a, .int .i64 b] 36) := ⟨_, rfl⟩
          have b12 : Below w10.heap.size w10 w12 := by rw [hw12]; exact (Below.refl _ _).alloc (Nat.le_refl _) _
          have sg7 : Seg w12 36 3 (.slice A3 k c3) k (cat chC (l.take k)) := by
            have := (HP10.out.below b12).1
            rw [HLn.out] at this
            exact this
          have rd7 : Reads w12 Any 3 (some ⟨w10.heap.size, 0, none⟩) 1 (chC ⟨2, a, b⟩) := by
            rw [hw12]
            exact Reads.new w10 (chC ⟨2, a, b⟩) 3 1 _ Any trivial rfl
          obtain ⟨v8, w13, hap, sg8, hg8, hat8⟩ := sg7.app el_ch rd7 (by omega) (chC_one _) (by omega) (c := 1) 27
          have HP13 := HP10.out.put b12 ⟨2, a, b⟩ (by rw [HLn.out]; exact sg8) hg8 hat8
          have HF := Lib.hid HP13
          rw [hw12] at hap
          clear HP13 sg7 rd7 sg8 hg8 hat8 hw12 b12
          go_wp2_with (at_builtin; refine wpList_app_run rfl (.tmp 57) (.tmp 59) rfl rfl rfl hap ?_; clear hap)
          go_roundw
          case rel =>
            first
              | exact ⟨k + 1, by omega, by go_num, Lib.hid (by rw [NX.out]; exact HF.out)⟩
              | ((repeat apply Exists.intro); exact ⟨⟨k + 1, by omega, by go_num, Lib.hid (by rw [NX.out]; exact HF.out)⟩, rfl⟩)
          case measure => simp [intOf]; omega
        · obtain rfl : b = 0 := r5 (by decide)
          clear CB
          have eL : letterC 3 = 108 := by decide
          have eL2 : ((108 : UInt8).toNat : Int) = 108 := by decide
          rw [eL] at p5 CI
          rw [eL2] at CI
          simp only [if_neg (show ¬ ((3 : Int) = 2) by decide), decide_eq_false (show ¬ ((3 : Int) = 2) by decide)] at CC
          obtain ⟨DA, hDA⟩ : ∃ DA : ByteArray, DA = ⟨(Lib.decDigits a.toNat).toArray⟩ := ⟨_, rfl⟩
          rw [← hDA] at CC CA
          clear hDA eL eL2 r5
          go_wp2_with (fail)
          refine (CI.out wr).mono ?_
          rintro e w2 ⟨rfl, rfl⟩
          dsimp only
          obtain ⟨W, hW⟩ : ∃ W, W = w2.alloc (.cells #[.int .i64 3, .int .i64 0, .int .i64 0] 36) := ⟨_, rfl⟩
          obtain ⟨X, hX⟩ : ∃ X, X = w2.heap.size := ⟨_, rfl⟩
          have bW : Below w2.heap.size w2 W := by rw [hW]; exact (Below.refl _ _).alloc (Nat.le_refl _) _
          have fX : Blk W X 36 [.int .i64 3, .int .i64 0, .int .i64 0] := by rw [hW, hX]; exact Blk.new w2 _ _
          have HPW := Lib.hid (HP.out.below bW)
          have HFX := Lib.hid fX
          have HW := Lib.hid hW
          have HXe := Lib.hid hX
          have CCW := Lib.hid (CC.out W (HVr.out.below bW))
          clear hW hX bW fX CC
          have HNO := Lib.hid (fun bb (hb : (Value.slice A3 k c3).ownBlock = some bb) => (show bb ≠ X from by have := HP.out.1.lt bb hb; rw [HXe.out]; omega))
          go_wp2_with (fail)
          rw [← HW.out, ← HXe.out]
          refine CCW.out.mono ?_
          rintro e w6 ⟨rfl, hb6⟩
          dsimp only
          have HF6 := Lib.hid ((hb6.block X HFX.out.lt).trans HFX.out)
          have HP6 := Lib.hid (HPW.out.below hb6)
          clear hb6 gS lS p3 p4 p5 p7 p8 p0 CCW
          go_wp2_with (fail)
          refine (CA.out w6).mono ?_
          rintro e w7 ⟨rfl, hb7⟩
          dsimp only
          have f7 : Blk w7 X 36 [.int .i64 3, .int .i64 0, .int .i64 0] := (hb7.block X (Blk.lt HF6.out)).trans HF6.out
          have HF7 := Lib.hid f7
          have HP7 := Lib.hid (HP6.out.below hb7)
          have lX : X < w7.heap.size := f7.lt
          have fz1 := f7.frozen 1
          have x0 := f7.cell 0
          have x1 := f7.cell 1
          have x2 := f7.cell 2
          simp only [List.getElem?_cons_succ, List.getElem?_cons_zero] at x0 x1 x2
          clear hb7 f7 CA
          obtain ⟨w8, hw8⟩ : ∃ V, V = w7.setCell ⟨X, 1, none⟩ (.int .i64 a) := ⟨_, rfl⟩
          have f8 : Blk w8 X 36 [.int .i64 3, .int .i64 a, .int .i64 0] := by rw [hw8]; exact HF7.out.put 1 _
          have HF8 := Lib.hid f8
          have HW8 := Lib.hid hw8
          have HP8 := Lib.hid (HP7.out.store (p := ⟨X, 1, none⟩) (u := .int .i64 a) hw8 (by show w1.heap.size ≤ X; rw [HXe.out]; exact HP.out.2.2.size) (HNO.out))
          clear f8 hw8
          go_upto_region 17 with (fail)
          rw [← HW8.out]
          clear x0 x1 x2 lX
          have x0 := HF8.out.cell 0
          have x1 := HF8.out.cell 1
          have x2 := HF8.out.cell 2
          simp only [List.getElem?_cons_succ, List.getElem?_cons_zero] at x0 x1 x2
          have lX := HF8.out.lt
          obtain ⟨w12, hw12⟩ : ∃ V, V = w8.alloc (.cells #[.int .i64 3, .int .i64 a, .int .i64 0] 36) := ⟨_, rfl⟩
          have b12 : Below w8.heap.size w8 w12 := by rw [hw12]; exact (Below.refl _ _).alloc (Nat.le_refl _) _
          have sg7 : Seg w12 36 3 (.slice A3 k c3) k (cat chC (l.take k)) := by
            have := (HP8.out.below b12).1
            rw [HLn.out] at this
            exact this
          have rd7 : Reads w12 Any 3 (some ⟨w8.heap.size, 0, none⟩) 1 (chC ⟨3, a, 0⟩) := by
            rw [hw12]
            exact Reads.new w8 (chC ⟨3, a, 0⟩) 3 1 _ Any trivial rfl
          obtain ⟨v8, w13, hap, sg8, hg8, hat8⟩ := sg7.app el_ch rd7 (by omega) (chC_one _) (by omega) (c := 1) 27
          have HP13 := HP8.out.put b12 ⟨3, a, 0⟩ (by rw [HLn.out]; exact sg8) hg8 hat8
          have HF := Lib.hid HP13
          rw [hw12] at hap
          clear HP13 sg7 rd7 sg8 hg8 hat8 hw12 b12
          go_wp2_with (at_builtin; refine wpList_app_run rfl (.tmp 57) (.tmp 59) rfl rfl rfl hap ?_; clear hap)
          go_roundw
          case rel =>
            first
              | exact ⟨k + 1, by omega, by go_num, Lib.hid (by rw [NX.out]; exact HF.out)⟩
              | ((repeat apply Exists.intro); exact ⟨⟨k + 1, by omega, by go_num, Lib.hid (by rw [NX.out]; exact HF.out)⟩, rfl⟩)
          case measure => simp [intOf]; omega
      · have hks : l.take k = l := List.take_of_length_le (by have := HN.out; omega)
        obtain rfl : k = n := by omega
        rw [hks] at HP
        obtain ⟨A3, c3, e3, q1, q2, q3⟩ := HP.out.1.reads
        have HQ := Lib.hid (And.intro q1 (And.intro q2 (q3.imp (by omega) (D' := fun b => w1.heap.size ≤ b) fun b hb _ => HP.out.2.1 b hb)))
        subst e3
        rw [← HN.out] at HQ HP ⊢
        have HB := Lib.hid (HS.out.2.trans (HP.out.2.2.mono HS.out.2.size))
        have CT' := Lib.hid (CT.out wr HVr.out A3 c3 (HQ.out.2.2.imp (by omega) fun _ _ _ => trivial))
        have HNE := Lib.hid HN.out
        clear hks CT q1 q2 q3
        go_wp2_with (fail)
        refine CT'.out.mono ?_
        rintro e w7 ⟨rfl, hb7⟩
        have HB7 := Lib.hid (HB.out.trans (hb7.mono HB.out.size))
        have HQ7 := Lib.hid (HQ.out.2.2.keep (Same.any hb7))
        clear hb7
        go_wp2_with (fail)
        go_ret2
        refine ⟨A3, c3, ?_, by rw [← HN.out]; exact HQ.out.1, HQ.out.2.1, ?_, HB7.out⟩
        · rw [← HN.out]
          rfl
        · rw [← HN.out]
          exact HQ7.out.imp (by omega) fun b hb _ => Nat.le_trans HS.out.2.size hb
end Go.Proofs.YtlpkgheggbcidaaDoor
