/- Contracts of lock.Anew, where nothing is freed and where all is freed. -/
import Derived.Test.YtijniccmgjokoaaLkContains
set_option linter.unusedVariables false
namespace Go.Proofs.Ytijniccmgjokoaa
open Go.RowKit Go.Mem Go.Sv Go.Maps
set_option maxRecDepth 100000 in
theorem anew1_any (p : Pk) (T : Nat) (w : World) (A : Option Addr) (n c : Nat) (fs : List Nm) (hT : w.cell? ⟨T, 0, none⟩ = some (.slice A n c)) (lT : T < w.heap.size) (hr : Reads w Any 1 A n (strs fs)) (hn : n = fs.length) (hn1 : n ≤ 1000) :
    Calls Try.prog 41 #[.agg #[str p.1, .int .i64 (p.2 : Nat)], .pointer (some ⟨T, 0, none⟩)] w fun e w' => e = .returned (.bool (decide (p.1 ∈ fs))) ∧ Below w.heap.size w w' := by
  obtain ⟨x, v⟩ := p
  have CT := containsS_any A n c fs x (w.alloc (.cells #[str x, .int .i64 (v : Nat)] 27)) (hr.keep (Same.alloc _ _ _)) hn hn1
  simp only
  generalize decide (x ∈ fs) = q at CT ⊢
  have CT := Lib.hid CT
  clear hr hn
  go_enter Try.func41, Try.ntmps41
  go_wp2_with (fail)
  refine CT.out.mono ?_
  rintro e w' ⟨rfl, rfl⟩
  go_wp2_with (fail)
  go_ret
  exact ⟨rfl, (Below.refl _ _).alloc (Nat.le_refl _) _⟩
theorem BestPost.shift {w w0 : World} {R : Option (List Pk)} {e : Ending} {w' : World} (h : BestPost w R e w') (hb : Below w0.heap.size w0 w) : BestPost w0 R e w' :=
  ⟨hb.trans (h.1.mono hb.size), h.2.1, fun l hl => by
    obtain ⟨A, c, e1, e2, e3, e4⟩ := h.2.2 l hl
    exact ⟨A, c, e1, e2, e3, e4.imp (by omega) fun b hb' _ => Nat.le_trans hb.size hb'⟩⟩
set_option maxRecDepth 100000 in
set_option maxHeartbeats 1000000 in
theorem anew_none (w : World) {A B : Option Addr} {c d : Nat} {ms : List Md} {root : List Us} (G : Got w A c ms B d root) (A2 : Option Addr) (c2 : Nat) (x : List Pk) (hx : Reads w Any 2 A2 x.length (pks x)) (hok : PkOk x) (A3 : Option Addr) (n3 c3 : Nat) (fs : List Nm) (hf : Reads w Any 1 A3 n3 (strs fs)) (hn3 : n3 = fs.length) (hn3' : n3 ≤ 1000) (hno : ∀ p ∈ x, p.1 ∉ fs) :
    Calls Try.prog 22 #[.slice A ms.length c, .slice B root.length d, .slice A2 x.length c2, .slice A3 n3 c3] w (BestPost w (bestF ms root x)) := by
  obtain ⟨T, hT⟩ : ∃ T, T = w.heap.size := ⟨_, rfl⟩
  obtain ⟨W, hW⟩ : ∃ W, W = w.alloc (.cells #[.slice A3 n3 c3] 57) := ⟨_, rfl⟩
  have hbk : Blk W T 57 [.slice A3 n3 c3] := by rw [hW, hT]; exact Blk.new w _ _
  have hbW : Below w.heap.size w W := by rw [hW]; exact (Below.refl _ _).alloc (Nat.le_refl _) _
  have H := Lib.hid (And.intro hbk (And.intro hbW (And.intro hx (And.intro hok (And.intro hf (And.intro hn3 hno))))))
  have HG := Lib.hid G
  have hx30 := hok.ln
  have eg : ∀ args w, (callFunc 41 args).run Try.prog w = .ok (.enter 41 args) w := enters_of Try.func41 (by kernel_rfl) rfl
  have HE := Lib.hid eg
  clear hbk hbW hx hok hf hn3 hno G eg
  go_enter Try.func22, Try.ntmps22
  go_upto_region 1 with (fail)
  rw [← hW, ← hT]
  clear hW hT
  obtain ⟨hbk, hbW, hx, hok, hf, hn3, hno⟩ := H.out
  have K1 := Lib.hid (lkcheck_any A2 x.length c2 x W (hx.keep (Same.any hbW)) rfl hok)
  clear hbk hbW hx hok hf hn3 hno
  go_wp2_with (fail)
  refine K1.out.mono ?_
  rintro e w1 ⟨rfl, hb1⟩
  have HB1 := Lib.hid hb1
  clear hb1 K1
  go_wp2_with (fail)
  refine (clone_pks A2 x.length c2 x w1 ((H.out.2.2.1.keep (Same.any H.out.2.1)).keep (Same.any HB1.out)) (by omega)).mono ?_
  rintro e w2 ⟨A4, c4, rfl, hown, hb2⟩
  have HB2 := Lib.hid (HB1.out.trans (hb2.mono HB1.out.size))
  obtain ⟨_, _, hr4⟩ := own_reads (by omega) hown
  have HR4 := Lib.hid (hr4.imp (D' := Any) (by omega) fun _ _ _ => trivial)
  clear hown hb2 hr4
  have DN := Lib.hid (delete_none A4 x.length c4 x (fun p => decide (p.1 ∈ fs)) 41 #[.pointer (some ⟨T, 0, none⟩)] w2 HR4.out rfl (by omega) HE.out (fun r _ W' hb => anew1_any r T W' A3 n3 c3 fs (((HB2.out.trans (hb.mono HB2.out.size)).cell (p := ⟨T, 0, none⟩) H.out.1.lt).trans (H.out.1.cell 0)) (by have := H.out.1.lt; have := HB2.out.size; have := hb.size; omega) (((H.out.2.2.2.2.1.keep (Same.any H.out.2.1)).keep (Same.any HB2.out)).keep (Same.any hb)) H.out.2.2.2.2.2.1 hn3') (fun r hr => decide_eq_false (H.out.2.2.2.2.2.2 r hr)))
  go_wp2_with (fail)
  refine DN.out.mono ?_
  rintro e w3 ⟨rfl, hb3⟩
  have hb03 : Below w.heap.size w w3 := H.out.2.1.trans (Below.mono (HB2.out.trans (hb3.mono HB2.out.size)) H.out.2.1.size)
  have HB03 := Lib.hid hb03
  have BS := Lib.hid ((HG.out.below hb03).best (c2 := c4) (HR4.out.keep (Same.any hb3)) (by omega))
  clear hb3 hb03
  go_wp2_with (fail)
  refine BS.out.mono ?_
  rintro e w4 hp
  have he : ∃ A9 n9 c9 z, e = .returned (.tuple #[.slice A9 n9 c9, .int .i64 z]) := by
    cases hR : bestF ms root x with
    | none => exact ⟨_, _, _, _, hp.2.1 hR⟩
    | some l =>
      obtain ⟨A9, c9, e9, _⟩ := hp.2.2 l hR
      exact ⟨_, _, _, _, e9⟩
  obtain ⟨A9, n9, c9, z, rfl⟩ := he
  have HP := Lib.hid (BestPost.shift hp HB03.out)
  clear hp
  go_wp2_with (fail)
  go_ret2
  exact HP.out
end Go.Proofs.Ytijniccmgjokoaa
