/- Contract of query.funcs at a row of one function. -/
import Derived.Test.YtaealapgebbnlaaGreatDoorQrBody
set_option linter.unusedVariables false
namespace Go.Proofs.YtaealapgebbnlaaGreatDoor
open Go.RowKit Go.Mem Go.Md
set_option maxRecDepth 100000 in
set_option maxHeartbeats 4000000 in
theorem funcs_any (G U I p1 p2 k bk : Nat) (acts : Value) (nm : List Bs) (im : List (Bs × Value)) (bs : List Nat) (ls : List (List Bs)) (n : Bs) (l : List Bs) (b : Bd) (m : Bs) (A0 : Option Addr) (c0 : Nat) (fcs : List Value) (w : World)
    (hr : Reads w (fun x => x ≠ bk) 15 A0 1 fcs) (hf : FnCells w (fun x => x ≠ bk) fcs (m, b))
    (hg : Gr w G U I acts nm im bs ls) (h1 : w.cell? ⟨p1, 0, none⟩ = some (.pointer (some ⟨G, 0, none⟩))) (h2 : w.cell? ⟨p2, 0, none⟩ = some (bst n)) (hk : nm[k]? = some n) (hbk : bs[k]? = some bk) (hl : ls[k]? = some l)
    (hX : ∀ (i : Nat) (s t : Bs), (texts b)[i]? = some s → (heads b)[i]? = some t → (∃ j : Nat, nm[j]? = some t) ∧ (s = t ∨ s ∉ nm ∧ okB s ∧ mget im s = some (bst t))) :
    Calls Tryz.prog 28 #[.slice A0 1 c0, .func (.func 49) #[] #[.pointer (some ⟨p1, 0, none⟩), .pointer (some ⟨p2, 0, none⟩)]] w fun e w' => e = .returned (.tuple #[]) ∧ SetAt w' bk (addAll n (heads b) l) ∧ GrownIn (fun x => x = bk) w w' := by
  obtain ⟨ecs, rfl, hb⟩ := hf
  have bd := fun (V : World) (hV : Below w.heap.size w V) => body_any G U I p1 p2 k bk acts nm im bs ls n l b ecs V (BdCells.stable.keep hb (Same.of_below hV fun _ _ h => h)) (hg.below hV) ((hV.cell (p := ⟨p1, 0, none⟩) (lt_of_cell h1)).trans h1) ((hV.cell (p := ⟨p2, 0, none⟩) (lt_of_cell h2)).trans h2) hk hbk hl hX
  obtain ⟨kk, tx, Ab, mb, cb, rfl⟩ := hb.shape
  have BD := Lib.hid bd
  obtain ⟨N, hN⟩ : ∃ N : ByteArray, N = ⟨m.toArray⟩ := ⟨_, rfl⟩
  obtain ⟨bx, ox, rfl, _, hc⟩ := hr.2 (by omega)
  have f0 : w.cell? ⟨bx, ox, none⟩ = some (.string N) := by rw [hN]; exact hc 0 _ rfl
  have f1 : w.cell? ⟨bx, ox + 1, none⟩ = some (.slice none 0 0) := hc 1 _ rfl
  have f2 : w.cell? ⟨bx, ox + 2, none⟩ = some (.slice none 0 0) := hc 2 _ rfl
  have f3 : w.cell? ⟨bx, ox + 3, none⟩ = some (.slice none 0 0) := hc 3 _ rfl
  have f4 : w.cell? ⟨bx, ox + 4, none⟩ = some (.int .i64 1) := hc 4 _ rfl
  have f5 : w.cell? ⟨bx, ox + 5, none⟩ = some (.string ⟨#[]⟩) := hc 5 _ rfl
  have f6 : w.cell? ⟨bx, ox + 6, none⟩ = some (.slice none 0 0) := hc 6 _ rfl
  have f7 : w.cell? ⟨bx, ox + 7, none⟩ = some (.int .i64 kk) := hc 7 _ rfl
  have f8 : w.cell? ⟨bx, ox + 8, none⟩ = some (.int .i64 0) := hc 8 _ rfl
  have f9 : w.cell? ⟨bx, ox + 9, none⟩ = some (.string tx) := hc 9 _ rfl
  have f10 : w.cell? ⟨bx, ox + 10, none⟩ = some (.slice none 0 0) := hc 10 _ rfl
  have f11 : w.cell? ⟨bx, ox + 11, none⟩ = some (.slice none 0 0) := hc 11 _ rfl
  have f12 : w.cell? ⟨bx, ox + 12, none⟩ = some (.slice Ab mb cb) := hc 12 _ rfl
  have f13 : w.cell? ⟨bx, ox + 13, none⟩ = some (.slice none 0 0) := hc 13 _ rfl
  have f14 : w.cell? ⟨bx, ox + 14, none⟩ = some (.int .i64 0) := hc 14 _ rfl
  have lf := lt_of_cell f0
  have hF := Blk.new w 56 [.string N, .slice none 0 0, .slice none 0 0, .slice none 0 0, .int .i64 1, .string ⟨#[]⟩, .slice none 0 0, .int .i64 kk, .int .i64 0, .string tx, .slice none 0 0, .slice none 0 0, .slice Ab mb cb, .slice none 0 0, .int .i64 0]
  have bF : Below w.heap.size w (w.alloc (.cells #[.string N, .slice none 0 0, .slice none 0 0, .slice none 0 0, .int .i64 1, .string ⟨#[]⟩, .slice none 0 0, .int .i64 kk, .int .i64 0, .string tx, .slice none 0 0, .slice none 0 0, .slice Ab mb cb, .slice none 0 0, .int .i64 0] 56)) := (Below.refl _ _).alloc (Nat.le_refl _) _
  have MK := Lib.hid (fun (V : World) (hV : Below (w.alloc (.cells #[.string N, .slice none 0 0, .slice none 0 0, .slice none 0 0, .int .i64 1, .string ⟨#[]⟩, .slice none 0 0, .int .i64 kk, .int .i64 0, .string tx, .slice none 0 0, .slice none 0 0, .slice Ab mb cb, .slice none 0 0, .int .i64 0] 56)).heap.size (w.alloc (.cells #[.string N, .slice none 0 0, .slice none 0 0, .slice none 0 0, .int .i64 1, .string ⟨#[]⟩, .slice none 0 0, .int .i64 kk, .int .i64 0, .string tx, .slice none 0 0, .slice none 0 0, .slice Ab mb cb, .slice none 0 0, .int .i64 0] 56)) V) => (show Blk V w.heap.size 56 [.string N, .slice none 0 0, .slice none 0 0, .slice none 0 0, .int .i64 1, .string ⟨#[]⟩, .slice none 0 0, .int .i64 kk, .int .i64 0, .string tx, .slice none 0 0, .slice none 0 0, .slice Ab mb cb, .slice none 0 0, .int .i64 0] from hF.below hV hF.lt))
  have BF := Lib.hid bF
  clear hr hb bd hN hc hF bF hg h1 h2 hk hbk hl hX
  go_enter Tryz.func28, Tryz.ntmps28
  go_wp2_with (fail)
  go_loopw [8] (fun v wr => (v = .int .i64 0 ∧ w = wr) ∨ (v = .int .i64 1 ∧ Hid (SetAt wr bk (addAll n (heads b) l) ∧ GrownIn (fun x => x = bk) w wr))) (fun v _ => 1 - (intOf v).toNat)
  case atStart => exact .inl ⟨rfl, rfl⟩
  case round =>
    rcases hrel with ⟨rfl, rfl⟩ | ⟨rfl, HF⟩
    · go_wp2_with (fail)
      refine (types_nil _ _).mono ?_
      rintro e w6 ⟨rfl, rfl⟩
      go_wp2_with (fail)
      refine (typ_int _ _).mono ?_
      rintro e W2 ⟨rfl, hb2⟩
      have z5 := MK.out W2 hb2
      have b2 := below_next hb2 BF.out
      have HB2 := Lib.hid b2
      have z7 := z5.cell 7
      have z8 := z5.cell 8
      have z9 := z5.cell 9
      have z10 := z5.cell 10
      have z11 := z5.cell 11
      have z12 := z5.cell 12
      have z13 := z5.cell 13
      have z14 := z5.cell 14
      simp only [List.getElem?_cons_zero, List.getElem?_cons_succ] at z7 z8 z9 z10 z11 z12 z13 z14
      have lz := lt_of_cell z7
      clear z5 hb2 b2 f0 f1 f2 f3 f4 f5 f6 f7 f8 f9 f10 f11 f12 f13 f14 lf
      go_wp2_with (fail)
      refine (BD.out W2 HB2.out).mono ?_
      rintro e W3 ⟨rfl, hs3, hg3⟩
      have FN := Lib.hid (And.intro hs3 ((GrownIn.of_below (own := fun x => x = bk) HB2.out).trans hg3 (fun x h => .inl h)))
      clear hs3 hg3 z7 z8 z9 z10 z11 z12 z13 z14 lz
      go_wp2_with (fail)
      exact ⟨.inr ⟨by go_num, FN.out⟩, by simp [intOf]⟩
    · clear f0 f1 f2 f3 f4 f5 f6 f7 f8 f9 f10 f11 f12 f13 f14 lf
      go_wp2_with (fail)
      go_end0
      exact ⟨rfl, HF.out.1, HF.out.2⟩
end Go.Proofs.YtaealapgebbnlaaGreatDoor
