/- Contract of piecesOf: documents of raw numbers. -/
import Derived.Test.YtdbpgofabbpadaaDoorLyMem
import Derived.Test.YtdbpgofabbpadaaDoorNumD
import Derived.Deep.DeepCutAuto
import Derived.Deep.CutBlock
import Derived.Deep.LoopGhost
import Derived.Deep.RegionHeldLaw
set_option linter.unusedVariables false
namespace Go.Proofs.YtdbpgofabbpadaaDoor
open Go.RowKit Go.Mem Go.Ly
theorem own_below {w w' : World} {base : Nat} {e : TypeId} {size : Nat} {v : Value} {n : Nat} {xs : List Value} (h : w.ownsRow base e size v n xs) (hb : Below w.heap.size w w') : w'.ownsRow base e size v n xs :=
  h.kept (row := none) ⟨hb.os, hb.tape, hb.output, hb.size, fun k hk _ => hb.block k hk⟩ (Classical.em _)
theorem tdiv9 {x : Int} (h : I64 x) : I64 (x.tdiv 9) := by
  unfold I64 at h ⊢
  rw [Int.tdiv_eq_ediv]
  split
  · omega
  · have : Int.sign 9 = 1 := rfl
    omega
def OwnD (w0 w : World) (d : List Pc) (A : Option Addr) (c : Nat) : Prop := w.ownsRow w0.heap.size 30 3 (.slice A d.length c) d.length (pcs d) ∧ Below w0.heap.size w0 w
section
variable {w0 w w' : World} {d r : List Pc} {A A' : Option Addr} {c c' : Nat}
theorem OwnD.nil (w : World) : OwnD w w [] none 0 := ⟨World.ownsRow_nil _ _ _ _, Below.refl _ _⟩
theorem OwnD.below (h : OwnD w0 w d A c) (hb : Below w.heap.size w w') : OwnD w0 w' d A c := ⟨own_below h.1 hb, h.2.trans (hb.mono h.2.size)⟩
theorem OwnD.app {m : Nat} (h : OwnD w0 w d A c) (hown : w'.ownsRow w0.heap.size 30 3 (.slice A' (d.length + m) c') (d.length + m) (pcs d ++ pcs r)) (hm : m = r.length) (hg : w.grownBy w' (Value.slice A d.length c).ownBlock) : OwnD w0 w' (d ++ r) A' c' := by
  subst hm
  refine ⟨?_, h.2.grown hg h.2.size fun k hk => (h.1.lt k hk).1⟩
  rw [pcs_app]
  simpa using hown
theorem OwnD.doc (h : OwnD w0 w d A c) (h1 : d.length ≤ 100) : DocAt w (fun b => w0.heap.size ≤ b) A d.length c d := by
  obtain ⟨h2, h3, h4⟩ := own_reads (by omega) h.1
  exact ⟨rfl, h2, h3, h1, h4⟩
end
set_option maxRecDepth 100000 in
set_option maxHeartbeats 8000000 in
theorem piecesOf_any (A : Option Addr) (n c : Nat) (l : List Int) (w : World) (hr : Reads w Any 1 A n (nums l)) (hn : n = l.length) (hx : ∀ x ∈ l, I64 x) (hnm : n ≤ maxLen) :
    Calls Tryd.prog 4 #[.slice A n c] w fun e w' => ∃ A' c', e = .returned (.slice A' (piecesF l).length c') ∧ OwnD w w' (piecesF l) A' c' := by
  have HR := Lib.hid (And.intro hr (And.intro hn hx))
  clear hr hn hx
  unfold maxLen at hnm
  obtain ⟨N, hN⟩ : ∃ N, N = min 40 n := ⟨_, rfl⟩
  have hN1 : N ≤ 40 := by omega
  have hN2 : N ≤ n := by omega
  have hN3 : N = 40 ∨ N = n := by omega
  have HN := Lib.hid (show N = min 40 l.length from by rw [hN, HR.out.2.1])
  clear hN
  go_enter Tryd.func4, Tryd.ntmps4
  go_upto_block 0 with (fail)
  go_cut [3, 4] (fun s3 s4 wc => ∃ A1 c1, s3 = .slice A1 (pcsAt l N).1.length c1 ∧ s4 = .int .i64 ((pcsAt l N).2 : Nat) ∧ Hid (OwnD w wc (pcsAt l N).1 A1 c1))
  case first =>
    go_wp2_with (fail)
    go_loopw [3, 4, 10] (fun s3 s4 i wr => ∃ k A1 c1, k ≤ N ∧ i = .int .i64 (k : Nat) ∧ s3 = .slice A1 (pcsAt l k).1.length c1 ∧ s4 = .int .i64 ((pcsAt l k).2 : Nat) ∧ Hid (OwnD w wr (pcsAt l k).1 A1 c1)) (fun _ _ i _ => N - (intOf i).toNat)
    case atStart => exact ⟨0, none, 0, Nat.zero_le _, rfl, rfl, rfl, OwnD.nil w⟩
    case round =>
      obtain ⟨k, A1, c1, hk, rfl, rfl, rfl, HO⟩ := hrel
      by_cases hlt : k < N
      · have hkl : k < l.length := by have := HR.out.2.1; omega
        have hkn : k < n := by omega
        have hk40 : k < 40 := by omega
        obtain ⟨b, off, u, rfl, _, hu, hcell⟩ := HR.out.1.at_ hkn
        rw [nums_at l k hkl] at hu
        injection hu with hu
        subst hu
        have g0 := (Same.any (D := Any) HO.out.2).cell trivial hcell
        have lb := lt_of_cell g0
        have hnx := pcsAt_next hkl
        have hxx := HR.out.2.2 _ (List.getElem_mem hkl)
        have hpk := pcs_ok l k (by omega)
        have hl1 := hpk.2.1
        have hl2 := hpk.2.2.1
        obtain ⟨D1, hD1⟩ : ∃ D1, D1 = (pcsAt l k).1 := ⟨_, rfl⟩
        obtain ⟨dp, hdp⟩ : ∃ dp, dp = (pcsAt l k).2 := ⟨_, rfl⟩
        rw [← hD1] at HO hl1 hnx ⊢
        rw [← hdp] at hl2 hnx ⊢
        generalize l[k] = x at g0 hnx hxx
        have x9 : I64 (x.tdiv 9) := tdiv9 hxx
        have HNX := Lib.hid (And.intro hnx (And.intro hxx x9))
        have R9 := Lib.hid (fun W => rest_q x 9 W ((rst x 9 : Nat) : Int) hxx (by omega) (by omega) (rst_eq _ _ (by omega)))
        have R8 := Lib.hid (fun W => rest_q (x.tdiv 9) 8 W ((rst (x.tdiv 9) 8 : Nat) : Int) x9 (by omega) (by omega) (rst_eq _ _ (by omega)))
        have R4 := Lib.hid (fun W => rest_q (x.tdiv 9) 4 W ((rst (x.tdiv 9) 4 : Nat) : Int) x9 (by omega) (by omega) (rst_eq _ _ (by omega)))
        have wq : wrap64 (x.tdiv 9) = x.tdiv 9 := IntWalk.wrap64_in _ (by unfold I64 at x9; exact x9)
        have wq2 : IntKind.i64.wrap (x.tdiv 9) = x.tdiv 9 := IntWalk.i64_in _ (by unfold I64 at x9; exact x9)
        have h9 : rst x 9 < 9 := rst_lt x 9 (by omega)
        have h8 : rst (x.tdiv 9) 8 < 8 := rst_lt (x.tdiv 9) 8 (by omega)
        have h4 : rst (x.tdiv 9) 4 < 4 := rst_lt (x.tdiv 9) 4 (by omega)
        have hos := HO.out.2.size
        clear hnx hxx x9 hpk hcell hD1 hdp
        have HP := Lib.hid (show pieceF x dp = pieceF x dp from rfl)
        have e8 : 1 + rst (x.tdiv 9) 8 ≤ 8 := by omega
        have HPF := Lib.hid (fun q (hq : rst x 9 = q) => (show pieceF x dp = if q < 3 then ([textP x], dp) else if q < 5 then ([⟨2, 0, []⟩], dp) else if q = 5 then ([⟨3, 0, []⟩], dp) else if q = 6 then ([⟨5, rst (x.tdiv 9) 4, []⟩], dp + 1) else if q = 7 ∧ 0 < dp then ([closeP], dp - 1) else if q = 8 ∧ x.tmod 5 = 0 then ([⟨4, 0, []⟩], dp) else ([], dp) from by subst hq; rfl))
        have HTX := Lib.hid (show textP x = ⟨1, 0, List.replicate (1 + rst (x.tdiv 9) 8) (UInt8.ofNat (97 + rst x 9))⟩ from rfl)
        generalize rst (x.tdiv 9) 8 = r8 at *
        generalize rst (x.tdiv 9) 4 = r4 at *
        generalize hq : rst x 9 = q at *
        have HPG := HPF.out q rfl
        clear HPF HP
        go_upto_region 7 with (fail)
        go_upto_region 8 with (go_at_call 6; refine (R9.out _).mono ?_; rintro e w' ⟨rfl, rfl⟩)
        rcases (show (q = 0 ∨ q = 1 ∨ q = 2) ∨ (q = 3 ∨ q = 4) ∨ q = 5 ∨ q = 6 ∨ q = 7 ∨ q = 8 from by omega) with hqs | hqs | hqs | hqs | hqs | hqs
        · have hb : ∃ b : UInt8, b = UInt8.ofNat (97 + q) := ⟨_, rfl⟩
          have RP := Lib.hid (fun (s : List UInt8) W (hs : s.length = 1) => repeat_any s (1 + r8) W (by rw [hs]; omega) (by omega))
          have e1 : pieceF x dp = ([textP x], dp) := by rw [HPG, if_pos (by omega)]
          rw [e1] at HNX
          clear HPG
          rcases hqs with rfl | rfl | rfl
          · have ex : (ByteArray.mk #[97, 98, 99]).extract 0 1 = ⟨#[97]⟩ := by decide
            have RPQ := Lib.hid (show ∀ W, Calls Tryd.prog 8 #[.string ((ByteArray.mk #[97, 98, 99]).extract 0 1), .int .i64 (1 + (r8 : Int))] W (fun e w' => e = .returned (Value.string ⟨(Lib.repeatL [97] (1 + r8)).toArray⟩) ∧ Below W.heap.size W w') from fun W => by
              have h := RP.out [97] W rfl
              rw [ex, show (1 + (r8 : Int)) = ((1 + r8 : Nat) : Int) from by omega]
              exact h)
            have k8 : IntKind.i64.wrap (1 + (r8 : Int)) = 1 + (r8 : Int) := IntWalk.i64_in _ (by omega)
            clear ex RP
            have hbd : Below wr.heap.size wr wr.drew := ⟨rfl, rfl, rfl, Nat.le_refl _, fun _ _ => rfl⟩
            go_upto_region 9 with (fail)
            go_region_held_law (fun w' => True) (trivial) (first | (go_at_call 6; (with_reducible refine (R8.out _).mono ?_); rintro e w' ⟨rfl, rfl⟩) | (go_at_call 8; (with_reducible refine (RPQ.out _).mono ?_); rintro e w1 ⟨rfl, hb1⟩; have hbs1 : wr.heap.size ≤ w1.heap.size := hb1.size) | (refine step_app_pc _ rfl (.tmp 22) (.tmp 33) (by rfl) (base := w.heap.size) (v := .slice A1 D1.length c1) (n := D1.length) (xs := pcs D1) (by exact (own_below HO.out.1 (hbd.trans hb1)).alloc (.cells #[.int .i64 1, .int .i64 0, .string ⟨(Lib.repeatL [97] (1 + r8)).toArray⟩] 30)) rfl (D := Any) (A := some ⟨w1.heap.size, 0, none⟩) (m := 1) (news := [.int .i64 1, .int .i64 0, .string ⟨(Lib.repeatL [97] (1 + r8)).toArray⟩]) (c := 1) (by exact Reads.new (D := Any) w1 [.int .i64 1, .int .i64 0, .string ⟨(Lib.repeatL [97] (1 + r8)).toArray⟩] 3 1 30 trivial rfl) rfl (by simp [Value.oneCell']) (by omega) (by first | omega | (simp; omega)) ?_; intro v2 w2 hown2 hg2 hat2; obtain ⟨A9, c9, rfl, _⟩ := own_form hown2))
            all_goals
              have hb3 := hbd.trans hb1
              have h9 := OwnD.app (w := _) (r := [textP x]) (m := 1) (HO.out.below (hb3.alloc hb3.size _)) (by rw [HTX.out, pcs_text 0 r8 97 rfl]; exact hown2) rfl hg2
              have H9 := Lib.hid h9
              clear hb1 hb3 hown2 hg2 hat2 h9 hbs1 hbd
              go_wp2_with (fail)
              refine ⟨⟨k + 1, A9, c9, by omega, by go_num, by rw [HNX.out.1]; simp, by rw [HNX.out.1], ?_⟩, by simp [intOf]; omega⟩
              rw [HNX.out.1]
              exact H9.out
          · have ex : (ByteArray.mk #[97, 98, 99]).extract 1 2 = ⟨#[98]⟩ := by decide
            have RPQ := Lib.hid (show ∀ W, Calls Tryd.prog 8 #[.string ((ByteArray.mk #[97, 98, 99]).extract 1 2), .int .i64 (1 + (r8 : Int))] W (fun e w' => e = .returned (Value.string ⟨(Lib.repeatL [98] (1 + r8)).toArray⟩) ∧ Below W.heap.size W w') from fun W => by
              have h := RP.out [98] W rfl
              rw [ex, show (1 + (r8 : Int)) = ((1 + r8 : Nat) : Int) from by omega]
              exact h)
            have k8 : IntKind.i64.wrap (1 + (r8 : Int)) = 1 + (r8 : Int) := IntWalk.i64_in _ (by omega)
            clear ex RP
            have hbd : Below wr.heap.size wr wr.drew := ⟨rfl, rfl, rfl, Nat.le_refl _, fun _ _ => rfl⟩
            go_upto_region 9 with (fail)
            go_region_held_law (fun w' => True) (trivial) (first | (go_at_call 6; (with_reducible refine (R8.out _).mono ?_); rintro e w' ⟨rfl, rfl⟩) | (go_at_call 8; (with_reducible refine (RPQ.out _).mono ?_); rintro e w1 ⟨rfl, hb1⟩; have hbs1 : wr.heap.size ≤ w1.heap.size := hb1.size) | (refine step_app_pc _ rfl (.tmp 22) (.tmp 33) (by rfl) (base := w.heap.size) (v := .slice A1 D1.length c1) (n := D1.length) (xs := pcs D1) (by exact (own_below HO.out.1 (hbd.trans hb1)).alloc (.cells #[.int .i64 1, .int .i64 0, .string ⟨(Lib.repeatL [98] (1 + r8)).toArray⟩] 30)) rfl (D := Any) (A := some ⟨w1.heap.size, 0, none⟩) (m := 1) (news := [.int .i64 1, .int .i64 0, .string ⟨(Lib.repeatL [98] (1 + r8)).toArray⟩]) (c := 1) (by exact Reads.new (D := Any) w1 [.int .i64 1, .int .i64 0, .string ⟨(Lib.repeatL [98] (1 + r8)).toArray⟩] 3 1 30 trivial rfl) rfl (by simp [Value.oneCell']) (by omega) (by first | omega | (simp; omega)) ?_; intro v2 w2 hown2 hg2 hat2; obtain ⟨A9, c9, rfl, _⟩ := own_form hown2))
            all_goals
              have hb3 := hbd.trans hb1
              have h9 := OwnD.app (w := _) (r := [textP x]) (m := 1) (HO.out.below (hb3.alloc hb3.size _)) (by rw [HTX.out, pcs_text 1 r8 98 rfl]; exact hown2) rfl hg2
              have H9 := Lib.hid h9
              clear hb1 hb3 hown2 hg2 hat2 h9 hbs1 hbd
              go_wp2_with (fail)
              refine ⟨⟨k + 1, A9, c9, by omega, by go_num, by rw [HNX.out.1]; simp, by rw [HNX.out.1], ?_⟩, by simp [intOf]; omega⟩
              rw [HNX.out.1]
              exact H9.out
          · have ex : (ByteArray.mk #[97, 98, 99]).extract 2 3 = ⟨#[99]⟩ := by decide
            have RPQ := Lib.hid (show ∀ W, Calls Tryd.prog 8 #[.string ((ByteArray.mk #[97, 98, 99]).extract 2 3), .int .i64 (1 + (r8 : Int))] W (fun e w' => e = .returned (Value.string ⟨(Lib.repeatL [99] (1 + r8)).toArray⟩) ∧ Below W.heap.size W w') from fun W => by
              have h := RP.out [99] W rfl
              rw [ex, show (1 + (r8 : Int)) = ((1 + r8 : Nat) : Int) from by omega]
              exact h)
            have k8 : IntKind.i64.wrap (1 + (r8 : Int)) = 1 + (r8 : Int) := IntWalk.i64_in _ (by omega)
            clear ex RP
            have hbd : Below wr.heap.size wr wr.drew := ⟨rfl, rfl, rfl, Nat.le_refl _, fun _ _ => rfl⟩
            go_upto_region 9 with (fail)
            go_region_held_law (fun w' => True) (trivial) (first | (go_at_call 6; (with_reducible refine (R8.out _).mono ?_); rintro e w' ⟨rfl, rfl⟩) | (go_at_call 8; (with_reducible refine (RPQ.out _).mono ?_); rintro e w1 ⟨rfl, hb1⟩; have hbs1 : wr.heap.size ≤ w1.heap.size := hb1.size) | (refine step_app_pc _ rfl (.tmp 22) (.tmp 33) (by rfl) (base := w.heap.size) (v := .slice A1 D1.length c1) (n := D1.length) (xs := pcs D1) (by exact (own_below HO.out.1 (hbd.trans hb1)).alloc (.cells #[.int .i64 1, .int .i64 0, .string ⟨(Lib.repeatL [99] (1 + r8)).toArray⟩] 30)) rfl (D := Any) (A := some ⟨w1.heap.size, 0, none⟩) (m := 1) (news := [.int .i64 1, .int .i64 0, .string ⟨(Lib.repeatL [99] (1 + r8)).toArray⟩]) (c := 1) (by exact Reads.new (D := Any) w1 [.int .i64 1, .int .i64 0, .string ⟨(Lib.repeatL [99] (1 + r8)).toArray⟩] 3 1 30 trivial rfl) rfl (by simp [Value.oneCell']) (by omega) (by first | omega | (simp; omega)) ?_; intro v2 w2 hown2 hg2 hat2; obtain ⟨A9, c9, rfl, _⟩ := own_form hown2))
            all_goals
              have hb3 := hbd.trans hb1
              have h9 := OwnD.app (w := _) (r := [textP x]) (m := 1) (HO.out.below (hb3.alloc hb3.size _)) (by rw [HTX.out, pcs_text 2 r8 99 rfl]; exact hown2) rfl hg2
              have H9 := Lib.hid h9
              clear hb1 hb3 hown2 hg2 hat2 h9 hbs1 hbd
              go_wp2_with (fail)
              refine ⟨⟨k + 1, A9, c9, by omega, by go_num, by rw [HNX.out.1]; simp, by rw [HNX.out.1], ?_⟩, by simp [intOf]; omega⟩
              rw [HNX.out.1]
              exact H9.out
        · have e1 : pieceF x dp = ([⟨2, 0, []⟩], dp) := by rw [HPG, if_neg (by omega), if_pos (by omega)]
          rw [e1] at HNX
          clear HPG R9 R8 R4 HTX
          rcases hqs with rfl | rfl
          all_goals
            go_wp2_with (at_builtin; refine app_pc _ rfl (.tmp 38) (.tmp 40) rfl (HO.out.1.alloc _) rfl (Reads.new (D := Any) _ [.int .i64 2, .int .i64 0, .string ⟨#[]⟩] 3 1 _ trivial rfl) rfl (by simp [Value.oneCell']) (by omega) (by simp; omega) ?_; intro v2 w2 hown2 hg2 hat2; obtain ⟨A9, c9, rfl, _⟩ := own_form hown2)
            have h9 := OwnD.app (w := _) (r := [⟨2, 0, []⟩]) (m := 1) (HO.out.below ((Below.refl _ _).alloc (Nat.le_refl _) _)) hown2 rfl hg2
            refine ⟨⟨k + 1, A9, c9, by omega, by go_num, by rw [HNX.out.1]; simp, by rw [HNX.out.1], ?_⟩, by simp [intOf]; omega⟩
            rw [HNX.out.1]
            exact h9
        · have e1 : pieceF x dp = ([⟨3, 0, []⟩], dp) := by rw [HPG, if_neg (by omega), if_neg (by omega), if_pos (by omega)]
          rw [e1] at HNX
          clear HPG R9 R8 R4 HTX
          subst hqs
          go_wp2_with (at_builtin; refine app_pc _ rfl (.tmp 45) (.tmp 47) rfl (HO.out.1.alloc _) rfl (Reads.new (D := Any) _ [.int .i64 3, .int .i64 0, .string ⟨#[]⟩] 3 1 _ trivial rfl) rfl (by simp [Value.oneCell']) (by omega) (by simp; omega) ?_; intro v2 w2 hown2 hg2 hat2; obtain ⟨A9, c9, rfl, _⟩ := own_form hown2)
          have h9 := OwnD.app (w := _) (r := [⟨3, 0, []⟩]) (m := 1) (HO.out.below ((Below.refl _ _).alloc (Nat.le_refl _) _)) hown2 rfl hg2
          refine ⟨⟨k + 1, A9, c9, by omega, by go_num, by rw [HNX.out.1]; simp, by rw [HNX.out.1], ?_⟩, by simp [intOf]; omega⟩
          rw [HNX.out.1]
          exact h9
        · have e1 : pieceF x dp = ([⟨5, r4, []⟩], dp + 1) := by rw [HPG, if_neg (by omega), if_neg (by omega), if_neg (by omega), if_pos (by omega)]
          rw [e1] at HNX
          clear HPG R9 R8 HTX
          subst hqs
          go_wp2_with (first | (go_at_call 6; refine (R4.out _).mono ?_; rintro e w' ⟨rfl, rfl⟩) | (at_builtin; refine app_pc _ rfl (.tmp 52) (.tmp 57) rfl (HO.out.1.alloc _) rfl (Reads.new (D := Any) _ [.int .i64 5, .int .i64 (r4 : Nat), .string ⟨#[]⟩] 3 1 _ trivial rfl) rfl (by simp [Value.oneCell']) (by omega) (by simp; omega) ?_; intro v2 w2 hown2 hg2 hat2; obtain ⟨A9, c9, rfl, _⟩ := own_form hown2))
          have h9 := OwnD.app (w := _) (r := [⟨5, r4, []⟩]) (m := 1) (HO.out.below ((Below.refl _ _).alloc (Nat.le_refl _) _)) hown2 rfl hg2
          refine ⟨⟨k + 1, A9, c9, by omega, by go_num, by rw [HNX.out.1]; simp, (by rw [HNX.out.1]; exact congrArg (Value.int .i64) (by simp)), ?_⟩, by simp [intOf]; omega⟩
          rw [HNX.out.1]
          exact h9
        · subst hqs
          by_cases hd : 0 < dp
          · have e1 : pieceF x dp = ([closeP], dp - 1) := by rw [HPG, if_neg (by omega), if_neg (by omega), if_neg (by omega), if_neg (by omega), if_pos ⟨rfl, hd⟩]
            rw [e1] at HNX
            clear HPG R9 R8 R4 HTX
            have ed : IntKind.i64.wrap ((dp : Int) - 1) = ((dp - 1 : Nat) : Int) := (IntWalk.i64_in _ (by omega)).trans (by omega)
            go_wp2_with (at_builtin; refine app_pc _ rfl (.tmp 68) (.tmp 70) rfl (HO.out.1.alloc _) rfl (Reads.new (D := Any) _ [.int .i64 6, .int .i64 0, .string ⟨#[]⟩] 3 1 _ trivial rfl) rfl (by simp [Value.oneCell']) (by omega) (by simp; omega) ?_; intro v2 w2 hown2 hg2 hat2; obtain ⟨A9, c9, rfl, _⟩ := own_form hown2)
            have h9 := OwnD.app (w := _) (r := [closeP]) (m := 1) (HO.out.below ((Below.refl _ _).alloc (Nat.le_refl _) _)) hown2 rfl hg2
            refine ⟨⟨k + 1, A9, c9, by omega, by go_num, by rw [HNX.out.1]; simp, by rw [HNX.out.1], ?_⟩, by simp [intOf]; omega⟩
            rw [HNX.out.1]
            exact h9
          · have e1 : pieceF x dp = ([], dp) := by rw [HPG, if_neg (by omega), if_neg (by omega), if_neg (by omega), if_neg (by omega), if_neg (fun h => hd h.2), if_neg (fun h => by omega)]
            rw [e1] at HNX
            clear HPG R9 R8 R4 HTX
            go_wp2_with (fail)
            refine ⟨⟨k + 1, A1, c1, by omega, by go_num, by rw [HNX.out.1]; simp, by rw [HNX.out.1], ?_⟩, by simp [intOf]; omega⟩
            rw [HNX.out.1, List.append_nil]
            exact HO.out
        · subst hqs
          by_cases h5 : x.tmod 5 = 0
          · have e1 : pieceF x dp = ([⟨4, 0, []⟩], dp) := by rw [HPG, if_neg (by omega), if_neg (by omega), if_neg (by omega), if_neg (by omega), if_neg (fun h => by omega), if_pos ⟨rfl, h5⟩]
            rw [e1] at HNX
            clear HPG R9 R8 R4 HTX
            have h5' : (x.tmod 5 == 0) = true := by simp [h5]
            clear h5
            go_wp2_with (at_builtin; refine app_pc _ rfl (.tmp 82) (.tmp 84) rfl (HO.out.1.alloc _) rfl (Reads.new (D := Any) _ [.int .i64 4, .int .i64 0, .string ⟨#[]⟩] 3 1 _ trivial rfl) rfl (by simp [Value.oneCell']) (by omega) (by simp; omega) ?_; intro v2 w2 hown2 hg2 hat2; obtain ⟨A9, c9, rfl, _⟩ := own_form hown2)
            have h9 := OwnD.app (w := _) (r := [⟨4, 0, []⟩]) (m := 1) (HO.out.below ((Below.refl _ _).alloc (Nat.le_refl _) _)) hown2 rfl hg2
            refine ⟨⟨k + 1, A9, c9, by omega, by go_num, by rw [HNX.out.1]; simp, by rw [HNX.out.1], ?_⟩, by simp [intOf]; omega⟩
            rw [HNX.out.1]
            exact h9
          · have e1 : pieceF x dp = ([], dp) := by rw [HPG, if_neg (by omega), if_neg (by omega), if_neg (by omega), if_neg (by omega), if_neg (fun h => by omega), if_neg (fun h => h5 h.2)]
            rw [e1] at HNX
            clear HPG R9 R8 R4 HTX
            have h5' : (x.tmod 5 == 0) = false := by simp [h5]
            clear h5
            go_wp2_with (fail)
            refine ⟨⟨k + 1, A1, c1, by omega, by go_num, by rw [HNX.out.1]; simp, by rw [HNX.out.1], ?_⟩, by simp [intOf]; omega⟩
            rw [HNX.out.1, List.append_nil]
            exact HO.out
      · obtain rfl : k = N := by omega
        by_cases hkn : k < n
        · have hkl : k < l.length := by have := HR.out.2.1; omega
          have hk40 : k = 40 := by omega
          obtain ⟨b, off, u, rfl, _, hu, hcell⟩ := HR.out.1.at_ hkn
          have g0 := (Same.any (D := Any) HO.out.2).cell trivial hcell
          have lb := lt_of_cell g0
          rw [nums_at l k hkl] at hu
          injection hu with hu
          subst hu
          clear hcell
          generalize l[k] = x at g0
          have hge : (40 : Int) ≤ (k : Int) := by omega
          clear hk40
          go_wp2_with (fail)
          go_meet
          exact ⟨A1, c1, rfl, rfl, HO.out⟩
        · go_wp2_with (fail)
          go_meet
          exact ⟨A1, c1, rfl, rfl, HO.out⟩
  case rest =>
    obtain ⟨A1, c1, rfl, rfl, HO⟩ := hcut
    have hpk := pcs_ok l N (by have := HR.out.2.1; omega)
    have hl1 := hpk.2.1
    have hl2 := hpk.2.2.1
    have HPF := Lib.hid (show piecesF l = (pcsAt l N).1 ++ List.replicate (pcsAt l N).2 closeP from by unfold piecesF; rw [← HN.out])
    clear hpk
    generalize (pcsAt l N).1 = D1 at HO hl1 HPF
    generalize (pcsAt l N).2 = dp at hl2 HPF ⊢
    go_wp2_with (fail)
    go_loopw [3, 88] (fun s3 i wr => ∃ k A2 c2, k ≤ dp ∧ i = .int .i64 (k : Nat) ∧ s3 = .slice A2 (D1 ++ List.replicate k closeP).length c2 ∧ Hid (OwnD w wr (D1 ++ List.replicate k closeP) A2 c2)) (fun _ i _ => dp - (intOf i).toNat)
    case atStart => exact ⟨0, A1, c1, Nat.zero_le _, rfl, by simp, by unfold Hid; simpa using HO.out⟩
    case round =>
      obtain ⟨k, A2, c2, hk, rfl, rfl, HK⟩ := hrel
      by_cases hlt : k < dp
      · have hl3 : (D1 ++ List.replicate k closeP).length ≤ 80 := by simp; omega
        have HNX := Lib.hid (show D1 ++ List.replicate (k + 1) closeP = (D1 ++ List.replicate k closeP) ++ [closeP] from by rw [List.replicate_succ', List.append_assoc])
        have hos := HK.out.2.size
        generalize D1 ++ List.replicate k closeP = E1 at HK hl3 HNX ⊢
        go_wp2_with (at_builtin; refine app_pc _ rfl (.tmp 90) (.tmp 92) rfl (HK.out.1.alloc _) rfl (Reads.new (D := Any) _ [.int .i64 6, .int .i64 0, .string ⟨#[]⟩] 3 1 _ trivial rfl) rfl (by simp [Value.oneCell']) (by omega) (by simp; omega) ?_; intro v2 w2 hown2 hg2 hat2; obtain ⟨A9, c9, rfl, _⟩ := own_form hown2)
        have h9 := OwnD.app (w := _) (r := [closeP]) (m := 1) (HK.out.below ((Below.refl _ _).alloc (Nat.le_refl _) _)) hown2 rfl hg2
        refine ⟨⟨k + 1, A9, c9, by omega, by go_num, by rw [HNX.out]; simp, ?_⟩, by simp [intOf]; omega⟩
        rw [HNX.out]
        exact h9
      · obtain rfl : k = dp := by omega
        go_wp2_with (fail)
        go_ret
        rw [← HPF.out] at HK ⊢
        exact ⟨A2, c2, rfl, HK.out⟩
end Go.Proofs.YtdbpgofabbpadaaDoor
