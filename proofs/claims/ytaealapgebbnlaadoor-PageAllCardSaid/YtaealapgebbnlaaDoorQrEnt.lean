/- Contract of page.Entries at the laws' module. (Printed by qrent.py.) -/
import Derived.Test.YtaealapgebbnlaaDoorQrData
import Derived.Test.YtaealapgebbnlaaDoorQrSort
set_option linter.unusedVariables false
namespace Go.Md
open Go.RowKit Go.Mem
theorem BdCells.shape {w : World} {D : Nat → Prop} {cs : List Value} {b : Bd} (h : BdCells w D cs b) : ∃ (kk : Int) (tx : ByteArray) (A : Option Addr) (m c : Nat), cs = [.int .i64 kk, .int .i64 0, .string tx, .slice none 0 0, .slice none 0 0, .slice A m c, .slice none 0 0, .int .i64 0] := by
  rcases h with ⟨_, h⟩ | ⟨x, y, A, c, _, h, _⟩
  · exact ⟨_, _, none, 0, 0, h⟩
  · exact ⟨_, _, A, 1, c, h⟩
theorem FnCells.shape {w : World} {D : Nat → Prop} {cs : List Value} {f : Fn} (h : FnCells w D cs f) : ∃ (kk : Int) (tx : ByteArray) (Ab : Option Addr) (mb cb : Nat), cs = [bst f.1, .slice none 0 0, .slice none 0 0, .slice none 0 0, .int .i64 1, .string ⟨#[]⟩, .slice none 0 0, .int .i64 kk, .int .i64 0, .string tx, .slice none 0 0, .slice none 0 0, .slice Ab mb cb, .slice none 0 0, .int .i64 0] := by
  obtain ⟨bs, h1, h2⟩ := h
  obtain ⟨kk, tx, A, m, c, rfl⟩ := h2.shape
  exact ⟨kk, tx, A, m, c, h1⟩
theorem AcCells.shape {w : World} {D : Nat → Prop} {cs : List Value} {b : Bd} (h : AcCells w D cs b) : ∃ (kk : Int) (tx : ByteArray) (Ab : Option Addr) (mb cb : Nat), cs = [bst [90], .slice none 0 0, .slice none 0 0, .int .i64 1, .string ⟨#[]⟩, .slice none 0 0, .int .i64 kk, .int .i64 0, .string tx, .slice none 0 0, .slice none 0 0, .slice Ab mb cb, .slice none 0 0, .int .i64 0] := by
  obtain ⟨bs, h1, h2⟩ := h
  obtain ⟨kk, tx, A, m, c, rfl⟩ := h2.shape
  exact ⟨kk, tx, A, m, c, h1⟩
theorem ensC_app (a b : List En) : ensC (a ++ b) = ensC a ++ ensC b := by simp [ensC]
def upE (k : Nat) : List En := [enK, enD] ++ (List.range k).map enF
theorem upE_len (k : Nat) : (upE k).length = k + 2 := by simp [upE]
theorem upE_succ (k : Nat) : upE (k + 1) = upE k ++ [enF k] := by simp [upE, List.range_succ]
theorem upE_all : upE 8 ++ [enZ] = rawE := by simp [upE, rawE]
end Go.Md
namespace Go.Proofs.YtaealapgebbnlaaDoor
open Go.RowKit Go.Mem Go.Md
/-- the row of entries in the midst of Entries -/
structure EnAt (w wr : World) (l : List En) (A : Option Addr) (n c : Nat) : Prop where
  len : n = l.length
  own : wr.ownsRow w.heap.size 48 4 (.slice A n c) n (ensC l)
  be : Below w.heap.size w wr
theorem EnAt.below {w wr w' : World} {l : List En} {A : Option Addr} {n c : Nat} (h : EnAt w wr l A n c) (hb : Below wr.heap.size wr w') : EnAt w w' l A n c := ⟨h.len, own_below h.own hb, below_next hb h.be⟩
theorem EnAt.snoc {w V W5 : World} {l l' : List En} {o : Obj} {A A' : Option Addr} {n m c c' : Nat} (h : EnAt w V l A n c) (hm : m = l'.length) (hown : W5.ownsRow w.heap.size 48 4 (.slice A' (n + m) c') (n + m) (ensC l ++ ensC l')) (hg : (V.alloc o).grownBy W5 (Value.slice A n c).ownBlock) : EnAt w W5 (l ++ l') A' (n + m) c' := by
  refine ⟨by rw [List.length_append, ← h.len, ← hm], ?_, (h.be.alloc h.be.size _).grown hg (by have := h.be.size; simp; omega) fun k hk => (h.own.lt k hk).1⟩
  rw [ensC_app]
  exact hown
set_option maxRecDepth 100000 in
set_option maxHeartbeats 8000000 in
theorem entriesF_any (cs : List Value) (fs : List Md.Fn) (z : Bd) (w : World) (hm : ModAt w Any cs fs z) :
    Calls Tryd.prog 8 #[.agg cs.toArray] w fun e w' => ∃ A c, e = .returned (.slice A 11 c) ∧ 11 ≤ c ∧ c ≤ maxLen ∧ Reads w' (fun b => w.heap.size ≤ b) 4 A 11 (ensC allE) ∧ Below w.heap.size w w' ∧ ∃ g cs, A = some ⟨g, 0, none⟩ ∧ w.heap.size ≤ g ∧ Blk w' g 48 cs := by
  obtain ⟨⟨AD, cD, AM, cM, AF, cF, AZ, cZ, vss, vs, rfl, hcD, hcM, hcF, hcZ, r1, r2, r3, a3, r4, a4⟩, he⟩ := hm
  obtain ⟨W, hW⟩ : ∃ W, W = w.alloc (.cells #[bst [109], .int .i64 1, .slice none 0 0, .slice AD 1 cD, .slice none 0 0, .slice none 0 0, .slice AF 8 cF, .slice AZ 1 cZ] 30) := ⟨_, rfl⟩
  obtain ⟨B, hB⟩ : ∃ B, B = w.heap.size := ⟨_, rfl⟩
  have fB : Blk W B 30 [bst [109], .int .i64 1, .slice none 0 0, .slice AD 1 cD, .slice none 0 0, .slice none 0 0, .slice AF 8 cF, .slice AZ 1 cZ] := by rw [hW, hB]; exact Blk.new w _ _
  have hbW : Below w.heap.size w W := by rw [hW]; exact (Below.refl _ _).alloc (Nat.le_refl _) _
  have HB := Lib.hid (And.intro fB hbW)
  have R1 := Lib.hid (fun (V : World) (hV : Below w.heap.size w V) => And.intro (r1.keep (Same.any hV)) (r2.keep (Same.any hV)))
  have R3 := Lib.hid (fun (V : World) (hV : Below w.heap.size w V) => And.intro (r3.keep (Same.any hV)) (a3.imp fun _ _ h => FnCells.stable.keep h (Same.any hV)))
  have R4 := Lib.hid (fun (V : World) (hV : Below w.heap.size w V) => And.intro (r4.keep (Same.any hV)) (AcCells.stable.keep a4 (Same.any hV)))
  have HE := Lib.hid he
  clear r1 r2 r3 a3 r4 a4 he hcD hcM hcF hcZ
  have b0 := fB.cell 0
  have b1 := fB.cell 1
  have b2 := fB.cell 2
  have b3 := fB.cell 3
  have b4 := fB.cell 4
  have b5 := fB.cell 5
  have b6 := fB.cell 6
  have b7 := fB.cell 7
  simp only [List.getElem?_cons_zero, List.getElem?_cons_succ] at b0 b1 b2 b3 b4 b5 b6 b7
  have lB := fB.lt
  clear fB hbW
  go_enter Tryd.func8, Tryd.ntmps8
  go_upto_region 2 with (fail)
  rw [← hW]
  rw [← hB]
  clear hW hB

  go_wp2_with (fail)
  go_loopw [3, 15] (fun v3 i wr => (i = .int .i64 0 ∧ v3 = .slice none 0 0 ∧ W = wr) ∨ (∃ A3 c3, i = .int .i64 1 ∧ v3 = .slice A3 2 c3 ∧ Hid (EnAt W wr (upE 0) A3 2 c3))) (fun _ i _ => 1 - (intOf i).toNat)
  case atStart => exact .inl ⟨rfl, rfl, rfl⟩
  case round =>
    rcases hrel with ⟨rfl, rfl, rfl⟩ | ⟨A3, c3, rfl, rfl, HD⟩
    · obtain ⟨q1, q2⟩ := R1.out W HB.out.2
      obtain ⟨bd, od, rfl, _, hc⟩ := q1.2 (by omega)
      have d0 : W.cell? ⟨bd, od, none⟩ = some (bst [68]) := hc 0 _ rfl
      have d1 : W.cell? ⟨bd, od + 1, none⟩ = some (.slice none 0 0) := hc 1 _ rfl
      have d2 : W.cell? ⟨bd, od + 2, none⟩ = some (.slice AM 1 cM) := hc 2 _ rfl
      have ld := lt_of_cell d0
      have DA := Lib.hid (fun (V : World) (hV : Below W.heap.size W V) => data_any AM cM ⟨#[75]⟩ ⟨#[68]⟩ rfl rfl V (q2.keep (Same.any hV)))
      clear q1 q2 hc
      have bW1 : Below W.heap.size W (W.alloc (.cells #[bst [68], .slice none 0 0, .slice AM 1 cM] 59)) := (Below.refl _ _).alloc (Nat.le_refl _) _
      have HW1 := Lib.hid bW1
      clear bW1
      go_wp2_with (fail)
      refine (DA.out _ HW1.out).mono ?_
      rintro e W2 ⟨A2, c2, rfl, hlc, hcm, hrd, hb2⟩
      have HB2 := Lib.hid (below_next hb2 HW1.out)
      have HR2 := Lib.hid hrd
      clear hb2 hrd
      go_wp2_with (at_builtin; refine app_en _ rfl (.tmp 19) (.tmp 21) rfl (base := W.heap.size) (World.ownsRow_nil _ _ _ _) rfl (D := fun b => _) HR2.out rfl (by intro u hu; simp [ensC, encE, enK, enD] at hu; rcases hu with rfl | rfl | rfl | rfl | rfl | rfl | rfl | rfl <;> rfl) (by omega) HB2.out.size ?_; intro v5 W5 hown5 hg5 hat5; obtain ⟨A5, c5, rfl, _⟩ := own_form hown5; have FIN := Lib.hid (And.intro hown5 (below_grown hg5)); clear hown5 hg5 hat5)
      exact ⟨.inr ⟨A5, c5, by go_num, rfl, rfl, FIN.out.1, below_next FIN.out.2 HB2.out⟩, by simp [intOf]⟩
    · have fB2 := HB.out.1.below HD.out.be HB.out.1.lt
      have c4 := fB2.cell 4
      have c6 := fB2.cell 6
      simp only [List.getElem?_cons_zero, List.getElem?_cons_succ] at c4 c6
      have lB2 := fB2.lt
      clear fB2
      go_wp2_with (fail)
      go_loopw [3, 27] (fun v3 i W1 => i = .int .i64 0 ∧ v3 = .slice A3 2 c3 ∧ wr = W1) (fun _ _ _ => 0)
      case atStart => exact ⟨rfl, rfl, rfl⟩
      case round =>
        obtain ⟨rfl, rfl, rfl⟩ := hrel
        go_wp2_with (fail)
        go_loopw [3, 39] (fun v3 i W1 => ∃ (k : Nat) (A4 : Option Addr) (c4 : Nat), k ≤ 8 ∧ i = .int .i64 (k : Nat) ∧ v3 = .slice A4 (k + 2) c4 ∧ Hid (EnAt W W1 (upE k) A4 (k + 2) c4)) (fun _ i _ => 8 - (intOf i).toNat)
        case atStart => exact ⟨0, A3, c3, by omega, rfl, rfl, HD.out⟩
        case round =>
          obtain ⟨k, A4, c4', hk, rfl, rfl, HK⟩ := hrel
          clear c4 c6 lB2 HD
          by_cases hlt : k < 8

          · have hkl : k < fs.length := by rw [HE.out.1]; exact hlt
            have bwr : Below w.heap.size w wr := HB.out.2.trans (HK.out.be.mono HB.out.2.size)
            obtain ⟨q1, q2⟩ := R3.out wr bwr
            obtain ⟨bf, off, fcs, rfl, _, hx, hc⟩ := q1.elem FnCells.stable q2 HE.out.1.symm hkl
            obtain ⟨kk, tx, Ab, mb, cb, rfl⟩ := hx.shape
            obtain ⟨N, hN⟩ : ∃ N : ByteArray, N = ⟨(nmI k).toArray⟩ := ⟨_, rfl⟩
            have f0 : wr.cell? ⟨bf, off + k * 15, none⟩ = some (.string N) := by
              rw [hN, ← HE.out.2 k hkl]
              exact hc 0 _ rfl
            have f1 : wr.cell? ⟨bf, off + k * 15 + 1, none⟩ = some (.slice none 0 0) := hc 1 _ rfl
            have f2 : wr.cell? ⟨bf, off + k * 15 + 2, none⟩ = some (.slice none 0 0) := hc 2 _ rfl
            have f3 : wr.cell? ⟨bf, off + k * 15 + 3, none⟩ = some (.slice none 0 0) := hc 3 _ rfl
            have f4 : wr.cell? ⟨bf, off + k * 15 + 4, none⟩ = some (.int .i64 1) := hc 4 _ rfl
            have f5 : wr.cell? ⟨bf, off + k * 15 + 5, none⟩ = some (.string ⟨#[]⟩) := hc 5 _ rfl
            have f6 : wr.cell? ⟨bf, off + k * 15 + 6, none⟩ = some (.slice none 0 0) := hc 6 _ rfl
            have f7 : wr.cell? ⟨bf, off + k * 15 + 7, none⟩ = some (.int .i64 kk) := hc 7 _ rfl
            have f8 : wr.cell? ⟨bf, off + k * 15 + 8, none⟩ = some (.int .i64 0) := hc 8 _ rfl
            have f9 : wr.cell? ⟨bf, off + k * 15 + 9, none⟩ = some (.string tx) := hc 9 _ rfl
            have f10 : wr.cell? ⟨bf, off + k * 15 + 10, none⟩ = some (.slice none 0 0) := hc 10 _ rfl
            have f11 : wr.cell? ⟨bf, off + k * 15 + 11, none⟩ = some (.slice none 0 0) := hc 11 _ rfl
            have f12 : wr.cell? ⟨bf, off + k * 15 + 12, none⟩ = some (.slice Ab mb cb) := hc 12 _ rfl
            have f13 : wr.cell? ⟨bf, off + k * 15 + 13, none⟩ = some (.slice none 0 0) := hc 13 _ rfl
            have f14 : wr.cell? ⟨bf, off + k * 15 + 14, none⟩ = some (.int .i64 0) := hc 14 _ rfl
            have lf := lt_of_cell f0
            obtain ⟨W2, hW2⟩ : ∃ V, V = wr.alloc (.cells #[.string N, .slice none 0 0, .slice none 0 0, .slice none 0 0, .int .i64 1, .string ⟨#[]⟩, .slice none 0 0, .int .i64 kk, .int .i64 0, .string tx, .slice none 0 0, .slice none 0 0, .slice Ab mb cb, .slice none 0 0, .int .i64 0] 42) := ⟨_, rfl⟩
            obtain ⟨F, hF⟩ : ∃ F, F = wr.heap.size := ⟨_, rfl⟩
            have fF : Blk W2 F 42 [.string N, .slice none 0 0, .slice none 0 0, .slice none 0 0, .int .i64 1, .string ⟨#[]⟩, .slice none 0 0, .int .i64 kk, .int .i64 0, .string tx, .slice none 0 0, .slice none 0 0, .slice Ab mb cb, .slice none 0 0, .int .i64 0] := by rw [hW2, hF]; exact Blk.new wr _ _
            have bW2 : Below wr.heap.size wr W2 := by rw [hW2]; exact (Below.refl _ _).alloc (Nat.le_refl _) _
            have HK2 := Lib.hid (HK.out.below bW2)
            obtain ⟨LN, hLN⟩ : ∃ LN : ByteArray, LN = ⟨(funL (nmI k)).toArray⟩ := ⟨_, rfl⟩
            have CF := Lib.hid (fun (V : World) => fun_any (nmI k) rfl N hN kk tx Ab mb cb V)
            rw [← hLN] at CF
            have HEn := Lib.hid (show ensC [enF k] = [.string N, .int .i64 4, .string ⟨#[]⟩, .string LN] from by rw [hN, hLN]; rfl)
            have mk : ∀ w', Below W2.heap.size W2 w' → (Below W2.heap.size W2 w' ∧ w'.cell? ⟨F, 0, none⟩ = some (.string N) ∧ w'.cell? ⟨F, 1, none⟩ = some (.slice none 0 0) ∧ w'.cell? ⟨F, 2, none⟩ = some (.slice none 0 0) ∧ w'.cell? ⟨F, 3, none⟩ = some (.slice none 0 0) ∧ w'.cell? ⟨F, 4, none⟩ = some (.int .i64 1) ∧ w'.cell? ⟨F, 5, none⟩ = some (.string ⟨#[]⟩) ∧ w'.cell? ⟨F, 6, none⟩ = some (.slice none 0 0) ∧ w'.cell? ⟨F, 7, none⟩ = some (.int .i64 kk) ∧ w'.cell? ⟨F, 8, none⟩ = some (.int .i64 0) ∧ w'.cell? ⟨F, 9, none⟩ = some (.string tx) ∧ w'.cell? ⟨F, 10, none⟩ = some (.slice none 0 0) ∧ w'.cell? ⟨F, 11, none⟩ = some (.slice none 0 0) ∧ w'.cell? ⟨F, 12, none⟩ = some (.slice Ab mb cb) ∧ w'.cell? ⟨F, 13, none⟩ = some (.slice none 0 0) ∧ w'.cell? ⟨F, 14, none⟩ = some (.int .i64 0)) := fun w' hb => by
              refine ⟨hb, (hb.cell (p := ⟨F, 0, none⟩) fF.lt).trans (fF.cell 0), (hb.cell (p := ⟨F, 1, none⟩) fF.lt).trans (fF.cell 1), (hb.cell (p := ⟨F, 2, none⟩) fF.lt).trans (fF.cell 2), (hb.cell (p := ⟨F, 3, none⟩) fF.lt).trans (fF.cell 3), (hb.cell (p := ⟨F, 4, none⟩) fF.lt).trans (fF.cell 4), (hb.cell (p := ⟨F, 5, none⟩) fF.lt).trans (fF.cell 5), (hb.cell (p := ⟨F, 6, none⟩) fF.lt).trans (fF.cell 6), (hb.cell (p := ⟨F, 7, none⟩) fF.lt).trans (fF.cell 7), (hb.cell (p := ⟨F, 8, none⟩) fF.lt).trans (fF.cell 8), (hb.cell (p := ⟨F, 9, none⟩) fF.lt).trans (fF.cell 9), (hb.cell (p := ⟨F, 10, none⟩) fF.lt).trans (fF.cell 10), (hb.cell (p := ⟨F, 11, none⟩) fF.lt).trans (fF.cell 11), (hb.cell (p := ⟨F, 12, none⟩) fF.lt).trans (fF.cell 12), (hb.cell (p := ⟨F, 13, none⟩) fF.lt).trans (fF.cell 13), (hb.cell (p := ⟨F, 14, none⟩) fF.lt).trans (fF.cell 14)⟩
            have MK := Lib.hid mk
            clear mk
            have HFF := Lib.hid fF
            have HNE := Lib.hid (show (Value.slice A4 (k + 2) c4').ownBlock ≠ some F from fun e => by have := (HK.out.own.lt _ e).2; omega)
            clear fF bW2 q1 q2 hc hx hN hLN bwr HK
            go_upto_region 15 with (fail)
            rw [← hW2, ← hF]
            clear hW2 hF lf f0 f1 f2 f3 f4 f5 f6 f7 f8 f9 f10 f11 f12 f13 f14
            obtain ⟨hbe0, z0, z1, z2, z3, z4, z5, z6, z7, z8, z9, z10, z11, z12, z13, z14⟩ := MK.out W2 (Below.refl _ _)
            have hbd : Below W2.heap.size W2 W2.drew := ⟨rfl, rfl, rfl, Nat.le_refl _, fun _ _ => rfl⟩
            have ba : ∀ (V : World) (o : Obj), Below W2.heap.size W2 V → Below W2.heap.size W2 (V.alloc o) := fun V o h => h.alloc h.size o
            have lF := HFF.out.lt
            go_region_held3 (fun w' => w'.cell? ⟨F, 0, none⟩ = some (.string N) ∧ w'.cell? ⟨F, 1, none⟩ = some (.slice none 0 0) ∧ w'.cell? ⟨F, 2, none⟩ = some (.slice none 0 0) ∧ w'.cell? ⟨F, 3, none⟩ = some (.slice none 0 0) ∧ w'.cell? ⟨F, 4, none⟩ = some (.int .i64 1) ∧ w'.cell? ⟨F, 5, none⟩ = some (.string ⟨#[]⟩) ∧ w'.cell? ⟨F, 6, none⟩ = some (.slice none 0 0) ∧ w'.cell? ⟨F, 7, none⟩ = some (.int .i64 kk) ∧ w'.cell? ⟨F, 8, none⟩ = some (.int .i64 0) ∧ w'.cell? ⟨F, 9, none⟩ = some (.string tx) ∧ w'.cell? ⟨F, 10, none⟩ = some (.slice none 0 0) ∧ w'.cell? ⟨F, 11, none⟩ = some (.slice none 0 0) ∧ w'.cell? ⟨F, 12, none⟩ = some (.slice Ab mb cb) ∧ w'.cell? ⟨F, 13, none⟩ = some (.slice none 0 0) ∧ w'.cell? ⟨F, 14, none⟩ = some (.int .i64 0)) (first | exact (MK.out _ (by assumption)).2 | exact (MK.out _ (ba _ _ (by assumption))).2 | exact ⟨hkp.cell 0, hkp.cell 1, hkp.cell 2, hkp.cell 3, hkp.cell 4, hkp.cell 5, hkp.cell 6, hkp.cell 7, hkp.cell 8, hkp.cell 9, hkp.cell 10, hkp.cell 11, hkp.cell 12, hkp.cell 13, hkp.cell 14⟩)
              (first
                | (go_at_call 21; (with_reducible refine (CF.out _).mono ?_); rintro e W4 ⟨rfl, hbx⟩; have hb4 : Below W2.heap.size W2 W4 := below_next hbx (by assumption); clear hbx)
                | (refine step_app_en _ rfl (.tmp 43) (.tmp 49) (by rfl) (base := W.heap.size) (v := .slice A4 (k + 2) c4') (n := k + 2) (xs := ensC (upE k)) (by exact (HK2.out.below hb4).own.alloc _) rfl (D := Any) (A := some ⟨W4.heap.size, 0, none⟩) (m := 1) (news := [.string N, .int .i64 4, .string ⟨#[]⟩, .string LN]) (c := 1) (by exact Reads.new (D := Any) W4 [.string N, .int .i64 4, .string ⟨#[]⟩, .string LN] 4 1 48 trivial rfl) rfl (by simp [Value.oneCell']) (by omega) (by have := (HK2.out.below hb4).be.size; simp; omega) ?_; intro v5 W5 hown5 hg5 hat5; obtain ⟨A5, c5, rfl, hlc, hcm⟩ := own_form hown5; have hkp := ((HFF.out.below hb4 HFF.out.lt).alloc (.cells #[.string N, .int .i64 4, .string ⟨#[]⟩, .string LN] 48)).grown hg5 (fun e => HNE.out e.symm); have FIN := Lib.hid ((HK2.out.below hb4).snoc (l' := [enF k]) rfl (by rw [HEn.out]; exact hown5) hg5); clear hg5 hat5 hown5))
            all_goals
              go_wp2_with (fail)
              refine ⟨⟨k + 1, A5, c5, by omega, by go_num, by rw [show k + 2 + 1 = k + 1 + 2 by omega], ?_⟩, by simp [intOf]; omega⟩
              rw [upE_succ]
              exact FIN.out
          · obtain rfl : k = 8 := by omega
            rw [show (8 : Nat) + 2 = 10 from rfl] at HK ⊢
            rw [show ((8 : Nat) : Int) = 8 from rfl]
            have fB3 := HB.out.1.below HK.out.be HB.out.1.lt
            have e7 := fB3.cell 7
            simp only [List.getElem?_cons_zero, List.getElem?_cons_succ] at e7
            have lB3 := fB3.lt
            clear fB3 hlt
            go_wp2_with (fail)
            go_loopw [3, 55] (fun v3 i W1 => (i = .int .i64 0 ∧ v3 = .slice A4 10 c4' ∧ wr = W1) ∨ (∃ A5 c5, i = .int .i64 1 ∧ v3 = .slice A5 11 c5 ∧ Hid (EnAt W W1 rawE A5 11 c5))) (fun _ i _ => 1 - (intOf i).toNat)
            case atStart => exact .inl ⟨rfl, rfl, rfl⟩
            case round =>
              rcases hrel with ⟨rfl, rfl, rfl⟩ | ⟨A5, c5, rfl, rfl, HZ⟩

              · have bwr : Below w.heap.size w wr := HB.out.2.trans (HK.out.be.mono HB.out.2.size)
                obtain ⟨q1, q2⟩ := R4.out wr bwr
                obtain ⟨bf, off, rfl, _, hc⟩ := q1.2 (by omega)
                obtain ⟨kk, tx, Ab, mb, cb, rfl⟩ := q2.shape
                obtain ⟨N, hN⟩ : ∃ N : ByteArray, N = ⟨#[90]⟩ := ⟨_, rfl⟩
                have hN1 : N.size = 1 := by rw [hN]; rfl
                have f0 : wr.cell? ⟨bf, off, none⟩ = some (.string N) := by
                  rw [hN]
                  exact hc 0 _ rfl
                have f1 : wr.cell? ⟨bf, off + 1, none⟩ = some (.slice none 0 0) := hc 1 _ rfl
                have f2 : wr.cell? ⟨bf, off + 2, none⟩ = some (.slice none 0 0) := hc 2 _ rfl
                have f3 : wr.cell? ⟨bf, off + 3, none⟩ = some (.int .i64 1) := hc 3 _ rfl
                have f4 : wr.cell? ⟨bf, off + 4, none⟩ = some (.string ⟨#[]⟩) := hc 4 _ rfl
                have f5 : wr.cell? ⟨bf, off + 5, none⟩ = some (.slice none 0 0) := hc 5 _ rfl
                have f6 : wr.cell? ⟨bf, off + 6, none⟩ = some (.int .i64 kk) := hc 6 _ rfl
                have f7 : wr.cell? ⟨bf, off + 7, none⟩ = some (.int .i64 0) := hc 7 _ rfl
                have f8 : wr.cell? ⟨bf, off + 8, none⟩ = some (.string tx) := hc 8 _ rfl
                have f9 : wr.cell? ⟨bf, off + 9, none⟩ = some (.slice none 0 0) := hc 9 _ rfl
                have f10 : wr.cell? ⟨bf, off + 10, none⟩ = some (.slice none 0 0) := hc 10 _ rfl
                have f11 : wr.cell? ⟨bf, off + 11, none⟩ = some (.slice Ab mb cb) := hc 11 _ rfl
                have f12 : wr.cell? ⟨bf, off + 12, none⟩ = some (.slice none 0 0) := hc 12 _ rfl
                have f13 : wr.cell? ⟨bf, off + 13, none⟩ = some (.int .i64 0) := hc 13 _ rfl
                have lf := lt_of_cell f0
                obtain ⟨W2, hW2⟩ : ∃ V, V = wr.alloc (.cells #[.string N, .slice none 0 0, .slice none 0 0, .int .i64 1, .string ⟨#[]⟩, .slice none 0 0, .int .i64 kk, .int .i64 0, .string tx, .slice none 0 0, .slice none 0 0, .slice Ab mb cb, .slice none 0 0, .int .i64 0] 64) := ⟨_, rfl⟩
                obtain ⟨F, hF⟩ : ∃ F, F = wr.heap.size := ⟨_, rfl⟩
                have fF : Blk W2 F 64 [.string N, .slice none 0 0, .slice none 0 0, .int .i64 1, .string ⟨#[]⟩, .slice none 0 0, .int .i64 kk, .int .i64 0, .string tx, .slice none 0 0, .slice none 0 0, .slice Ab mb cb, .slice none 0 0, .int .i64 0] := by rw [hW2, hF]; exact Blk.new wr _ _
                have bW2 : Below wr.heap.size wr W2 := by rw [hW2]; exact (Below.refl _ _).alloc (Nat.le_refl _) _
                have HK2 := Lib.hid (HK.out.below bW2)
                have HEn := Lib.hid (show ensC [enZ] = [.string N, .int .i64 5, .string ⟨#[]⟩, .string ((((ByteArray.mk #[97, 99, 116, 111, 114, 32] ++ N) ++ ByteArray.mk #[40, 41]) ++ ByteArray.mk #[58, 32]) ++ ByteArray.mk #[105, 110, 116])] from by rw [hN]; rfl)
                have mk : ∀ w', Below W2.heap.size W2 w' → (Below W2.heap.size W2 w' ∧ w'.cell? ⟨F, 0, none⟩ = some (.string N) ∧ w'.cell? ⟨F, 1, none⟩ = some (.slice none 0 0) ∧ w'.cell? ⟨F, 2, none⟩ = some (.slice none 0 0) ∧ w'.cell? ⟨F, 3, none⟩ = some (.int .i64 1) ∧ w'.cell? ⟨F, 4, none⟩ = some (.string ⟨#[]⟩) ∧ w'.cell? ⟨F, 5, none⟩ = some (.slice none 0 0) ∧ w'.cell? ⟨F, 6, none⟩ = some (.int .i64 kk) ∧ w'.cell? ⟨F, 7, none⟩ = some (.int .i64 0) ∧ w'.cell? ⟨F, 8, none⟩ = some (.string tx) ∧ w'.cell? ⟨F, 9, none⟩ = some (.slice none 0 0) ∧ w'.cell? ⟨F, 10, none⟩ = some (.slice none 0 0) ∧ w'.cell? ⟨F, 11, none⟩ = some (.slice Ab mb cb) ∧ w'.cell? ⟨F, 12, none⟩ = some (.slice none 0 0) ∧ w'.cell? ⟨F, 13, none⟩ = some (.int .i64 0)) := fun w' hb => by
                  refine ⟨hb, (hb.cell (p := ⟨F, 0, none⟩) fF.lt).trans (fF.cell 0), (hb.cell (p := ⟨F, 1, none⟩) fF.lt).trans (fF.cell 1), (hb.cell (p := ⟨F, 2, none⟩) fF.lt).trans (fF.cell 2), (hb.cell (p := ⟨F, 3, none⟩) fF.lt).trans (fF.cell 3), (hb.cell (p := ⟨F, 4, none⟩) fF.lt).trans (fF.cell 4), (hb.cell (p := ⟨F, 5, none⟩) fF.lt).trans (fF.cell 5), (hb.cell (p := ⟨F, 6, none⟩) fF.lt).trans (fF.cell 6), (hb.cell (p := ⟨F, 7, none⟩) fF.lt).trans (fF.cell 7), (hb.cell (p := ⟨F, 8, none⟩) fF.lt).trans (fF.cell 8), (hb.cell (p := ⟨F, 9, none⟩) fF.lt).trans (fF.cell 9), (hb.cell (p := ⟨F, 10, none⟩) fF.lt).trans (fF.cell 10), (hb.cell (p := ⟨F, 11, none⟩) fF.lt).trans (fF.cell 11), (hb.cell (p := ⟨F, 12, none⟩) fF.lt).trans (fF.cell 12), (hb.cell (p := ⟨F, 13, none⟩) fF.lt).trans (fF.cell 13)⟩
                have MK := Lib.hid mk
                clear mk
                have HFF := Lib.hid fF
                have HNE := Lib.hid (show (Value.slice A4 10 c4').ownBlock ≠ some F from fun e => by have := (HK.out.own.lt _ e).2; omega)
                clear fF bW2 q1 q2 hc hN bwr
                go_upto_region 20 with (fail)
                rw [← hW2, ← hF]
                clear hW2 hF lf f0 f1 f2 f3 f4 f5 f6 f7 f8 f9 f10 f11 f12 f13
                obtain ⟨hbe0, z0, z1, z2, z3, z4, z5, z6, z7, z8, z9, z10, z11, z12, z13⟩ := MK.out W2 (Below.refl _ _)
                have hbd : Below W2.heap.size W2 W2.drew := ⟨rfl, rfl, rfl, Nat.le_refl _, fun _ _ => rfl⟩
                have ba : ∀ (V : World) (o : Obj), Below W2.heap.size W2 V → Below W2.heap.size W2 (V.alloc o) := fun V o h => h.alloc h.size o
                have lF := HFF.out.lt
                go_region_held3 (fun w' => w'.cell? ⟨F, 0, none⟩ = some (.string N) ∧ w'.cell? ⟨F, 1, none⟩ = some (.slice none 0 0) ∧ w'.cell? ⟨F, 2, none⟩ = some (.slice none 0 0) ∧ w'.cell? ⟨F, 3, none⟩ = some (.int .i64 1) ∧ w'.cell? ⟨F, 4, none⟩ = some (.string ⟨#[]⟩) ∧ w'.cell? ⟨F, 5, none⟩ = some (.slice none 0 0) ∧ w'.cell? ⟨F, 6, none⟩ = some (.int .i64 kk) ∧ w'.cell? ⟨F, 7, none⟩ = some (.int .i64 0) ∧ w'.cell? ⟨F, 8, none⟩ = some (.string tx) ∧ w'.cell? ⟨F, 9, none⟩ = some (.slice none 0 0) ∧ w'.cell? ⟨F, 10, none⟩ = some (.slice none 0 0) ∧ w'.cell? ⟨F, 11, none⟩ = some (.slice Ab mb cb) ∧ w'.cell? ⟨F, 12, none⟩ = some (.slice none 0 0) ∧ w'.cell? ⟨F, 13, none⟩ = some (.int .i64 0)) (first | exact (MK.out _ (by assumption)).2 | exact (MK.out _ (ba _ _ (by assumption))).2 | exact ⟨hkp.cell 0, hkp.cell 1, hkp.cell 2, hkp.cell 3, hkp.cell 4, hkp.cell 5, hkp.cell 6, hkp.cell 7, hkp.cell 8, hkp.cell 9, hkp.cell 10, hkp.cell 11, hkp.cell 12, hkp.cell 13⟩)
                  (first
                    | (go_at_call 22; (with_reducible refine (fields_nil _).mono ?_); rintro e W4 ⟨rfl, hbx⟩; have hb4 : Below W2.heap.size W2 W4 := below_next hbx (by assumption); clear hbx)
                    | (go_at_call 23; (with_reducible refine (typeInt_any _).mono ?_); rintro e W6 ⟨rfl, hbx⟩; have hb6 : Below W2.heap.size W2 W6 := below_next hbx (by assumption); clear hbx)
                    | (refine step_app_en _ rfl (.tmp 59) (.tmp 77) (by rfl) (base := W.heap.size) (v := .slice A4 10 c4') (n := 10) (xs := ensC (upE 8)) (by exact (HK2.out.below hb6).own.alloc _) rfl (D := Any) (A := some ⟨W6.heap.size, 0, none⟩) (m := 1) (news := [.string N, .int .i64 5, .string ⟨#[]⟩, .string ((((ByteArray.mk #[97, 99, 116, 111, 114, 32] ++ N) ++ ByteArray.mk #[40, 41]) ++ ByteArray.mk #[58, 32]) ++ ByteArray.mk #[105, 110, 116])]) (c := 1) (by exact Reads.new (D := Any) W6 [.string N, .int .i64 5, .string ⟨#[]⟩, .string ((((ByteArray.mk #[97, 99, 116, 111, 114, 32] ++ N) ++ ByteArray.mk #[40, 41]) ++ ByteArray.mk #[58, 32]) ++ ByteArray.mk #[105, 110, 116])] 4 1 48 trivial rfl) rfl (by simp [Value.oneCell']) (by omega) (by have := (HK2.out.below hb6).be.size; simp; omega) ?_; intro v5 W5 hown5 hg5 hat5; obtain ⟨A5, c5, rfl, hlc, hcm⟩ := own_form hown5; have hkp := ((HFF.out.below hb6 HFF.out.lt).alloc (.cells #[.string N, .int .i64 5, .string ⟨#[]⟩, .string ((((ByteArray.mk #[97, 99, 116, 111, 114, 32] ++ N) ++ ByteArray.mk #[40, 41]) ++ ByteArray.mk #[58, 32]) ++ ByteArray.mk #[105, 110, 116])] 48)).grown hg5 (fun e => HNE.out e.symm); have FIN := Lib.hid ((HK2.out.below hb6).snoc (l' := [enZ]) rfl (by rw [HEn.out]; exact hown5) hg5); clear hg5 hat5 hown5))
                all_goals
                  go_wp2_with (fail)
                  refine ⟨.inr ⟨A5, c5, by go_num, rfl, ?_⟩, by simp [intOf]⟩
                  rw [← upE_all]
                  exact FIN.out
              · obtain ⟨_, _, hfm, hlc, hcm⟩ := own_form HZ.out.own
                injection hfm with h1 h2 h3
                subst h1 h3
                have ST := Lib.hid (sort_any wr W.heap.size _ _ HZ.out.own)
                have HZ2 := Lib.hid (And.intro hlc hcm)
                clear hlc hcm h2 e7 lB3 HK
                go_wp2_with (fail)
                refine ST.out.mono ?_
                rintro e W9 ⟨rfl, hrd, hg9, hfz⟩
                have FIN := Lib.hid (And.intro hrd (And.intro hg9 hfz))
                clear hrd hg9 hfz
                go_wp2_with (fail)
                go_ret
                have hws := HB.out.2.size
                have hbe := HB.out.2.trans (HZ.out.be.mono hws)
                refine ⟨_, _, rfl, HZ2.out.1, HZ2.out.2, FIN.out.1.imp (by omega) fun b hb _ => Nat.le_trans hws hb, ?_, by obtain ⟨g, cs, h1, h2, h3⟩ := FIN.out.2.2; exact ⟨g, cs, h1, Nat.le_trans hws h2, h3⟩⟩
                exact hbe.grown FIN.out.2.1 hbe.size fun k hk => Nat.le_trans hws (HZ.out.own.lt k hk).1
theorem entries_any (cs : List Value) (fs : List Md.Fn) (z : Bd) (w : World) (hm : ModAt w Any cs fs z) :
    Calls Tryd.prog 8 #[.agg cs.toArray] w fun e w' => ∃ A c, e = .returned (.slice A 11 c) ∧ 11 ≤ c ∧ c ≤ maxLen ∧ Reads w' (fun b => w.heap.size ≤ b) 4 A 11 (ensC allE) ∧ Below w.heap.size w w' :=
  (entriesF_any cs fs z w hm).mono fun e w' ⟨A, c, h1, h2, h3, h4, h5, _⟩ => ⟨A, c, h1, h2, h3, h4, h5⟩
end Go.Proofs.YtaealapgebbnlaaDoor
