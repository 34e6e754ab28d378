/- Contract of lock.Anew where all is freed. -/
import Derived.Test.YtijniccmgjokoaaLkDelete
set_option linter.unusedVariables false
namespace Go.Proofs.Ytijniccmgjokoaa
open Go.RowKit Go.Mem Go.Sv Go.Maps
set_option maxRecDepth 100000 in
set_option maxHeartbeats 1000000 in
theorem anew_all (w : World) {A B : Option Addr} {c d : Nat} {ms : List Md} {root : List Us} (G : Got w A c ms B d root) (A2 : Option Addr) (c2 : Nat) (x : List Pk) (hx : Reads w Any 2 A2 x.length (pks x)) (hok : PkOk x) (A3 : Option Addr) (n3 c3 : Nat) (fs : List Nm) (hf : Reads w Any 1 A3 n3 (strs fs)) (hn3 : n3 = fs.length) (hn3' : n3 ≤ 1000) (hno : ∀ p ∈ x, p.1 ∈ fs) :
    Calls Try.prog 22 #[.slice A ms.length c, .slice B root.length d, .slice A2 x.length c2, .slice A3 n3 c3] w (BestPost w (bestF ms root [])) := by
  obtain ⟨T, hT⟩ : ∃ T, T = w.heap.size := ⟨_, rfl⟩
  obtain ⟨W, hW⟩ : ∃ W, W = w.alloc (.cells #[.slice A3 n3 c3] 57) := ⟨_, rfl⟩
  have hbk : Blk W T 57 [.slice A3 n3 c3] := by rw [hW, hT]; exact Blk.new w _ _
  have hbW : Below w.heap.size w W := by rw [hW]; exact (Below.refl _ _).alloc (Nat.le_refl _) _
  have H := Lib.hid (And.intro hbk (And.intro hbW (And.intro hx (And.intro hok (And.intro hf (And.intro hn3 hno))))))
  have HG := Lib.hid G
  have hx30 := hok.ln
  have eg : ∀ args w, (callFunc 41 args).run Try.prog w = .ok (.enter 41 args) w := enters_of Try.func41 (by kernel_rfl) rfl
  have HE := Lib.hid eg
  clear hbk hbW hx hok hf hn3 hno G eg
  go_enter Try.func22, Try.ntmps22
  go_upto_region 1 with (fail)
  rw [← hW, ← hT]
  clear hW hT
  obtain ⟨hbk, hbW, hx, hok, hf, hn3, hno⟩ := H.out
  have K1 := Lib.hid (lkcheck_any A2 x.length c2 x W (hx.keep (Same.any hbW)) rfl hok)
  clear hbk hbW hx hok hf hn3 hno
  go_wp2_with (fail)
  refine K1.out.mono ?_
  rintro e w1 ⟨rfl, hb1⟩
  have HB1 := Lib.hid hb1
  clear hb1 K1
  go_wp2_with (fail)
  refine (clone_pks A2 x.length c2 x w1 ((H.out.2.2.1.keep (Same.any H.out.2.1)).keep (Same.any HB1.out)) (by omega)).mono ?_
  rintro e w2 ⟨A4, c4, rfl, hown, hb2⟩
  have HB2 := Lib.hid (HB1.out.trans (hb2.mono HB1.out.size))
  have HO4 := Lib.hid hown
  clear hown hb2
  have DN := Lib.hid (delete_all w1.heap.size A4 x.length c4 x (fun p => decide (p.1 ∈ fs)) 41 #[.pointer (some ⟨T, 0, none⟩)] w2 HO4.out rfl (by omega) H.out.2.2.2.1.asc HE.out (fun r _ W' hb => anew1_any r T W' A3 n3 c3 fs (((HB2.out.trans (hb.mono HB2.out.size)).cell (p := ⟨T, 0, none⟩) H.out.1.lt).trans (H.out.1.cell 0)) (by have := H.out.1.lt; have := HB2.out.size; have := hb.size; omega) (((H.out.2.2.2.2.1.keep (Same.any H.out.2.1)).keep (Same.any HB2.out)).keep (Same.any hb)) H.out.2.2.2.2.2.1 hn3') (fun r hr => decide_eq_true (H.out.2.2.2.2.2.2 r hr)))
  go_wp2_with (fail)
  refine DN.out.mono ?_
  rintro e w3 ⟨A5, c5, rfl, hg3⟩
  have hb03 : Below w.heap.size w w3 := H.out.2.1.trans (Below.grown (HB2.out.mono H.out.2.1.size) hg3 (by have := H.out.2.1.size; have := HB2.out.size; omega) (fun k hk => by have := (HO4.out.lt k hk).1; have := HB1.out.size; have := H.out.2.1.size; omega))
  have HB03 := Lib.hid hb03
  have BS := Lib.hid ((HG.out.below hb03).best (A2 := A5) (c2 := c5) (first := []) Reads.empty (by simp))
  clear hg3 hb03
  go_wp2_with (fail)
  refine BS.out.mono ?_
  rintro e w4 hp
  have he : ∃ A9 n9 c9 z, e = .returned (.tuple #[.slice A9 n9 c9, .int .i64 z]) := by
    cases hR : bestF ms root [] with
    | none => exact ⟨_, _, _, _, hp.2.1 hR⟩
    | some l =>
      obtain ⟨A9, c9, e9, _⟩ := hp.2.2 l hR
      exact ⟨_, _, _, _, e9⟩
  obtain ⟨A9, n9, c9, z, rfl⟩ := he
  have HP := Lib.hid (BestPost.shift hp HB03.out)
  clear hp
  go_wp2_with (fail)
  go_ret2
  exact HP.out
end Go.Proofs.Ytijniccmgjokoaa
