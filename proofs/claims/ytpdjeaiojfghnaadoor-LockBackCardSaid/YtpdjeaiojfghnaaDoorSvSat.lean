/- Contract of the search's satisfied. -/
import Derived.Test.YtpdjeaiojfghnaaDoorSvCand
set_option linter.unusedVariables false
namespace Go.Proofs.YtpdjeaiojfghnaaDoor
open Go.RowKit Go.Mem Go.Sv Go.Maps
set_option maxRecDepth 100000 in
set_option maxHeartbeats 2000000 in
theorem sat1_any (w : World) (S PK P0 : Nat) (A1 : Option Addr) (n1 c1 : Nat) (ms : List Md) (A2 : Option Addr) (n2 c2 : Nat) (first : List Pk) (Aw : Option Addr) (nw cw : Nat) (ws : List Us) (l : List (Nm × Value)) (pk : List Md) (u : Us) (r : Bool)
    (h : SearchAt w S PK A1 n1 c1 ms A2 n2 c2 first Aw nw cw ws l) (hr : PkRel l pk) (hu : UsOk u) (hP : w.cell? ⟨P0, 0, none⟩ = some (.pointer (some ⟨S, 0, none⟩))) (lP : P0 < w.heap.size) (hres : (!okU pk u) = r) :
    Calls Tryd.prog 48 #[.agg #[str u.name, .int .i64 (u.low : Nat), .int .i64 (u.high : Nat)], .pointer (some ⟨P0, 0, none⟩)] w fun e w' => e = .returned (.bool r) ∧ Below w.heap.size w w' := by
  obtain ⟨un, ul, uh⟩ := u
  obtain ⟨⟨ch, hch, _, _⟩, _, _, _⟩ := hu
  simp only at hch ⊢
  have hun : un.length ≤ 65536 := by rw [hch]; simp
  clear hch
  have HRES := Lib.hid hres
  have HR := Lib.hid hr
  have HS := Lib.hid h
  clear hres hr
  obtain ⟨D, hD⟩ : ∃ D, D = w.heap.size := ⟨_, rfl⟩
  obtain ⟨W, hW⟩ : ∃ W, W = w.alloc (.cells #[str un, .int .i64 (ul : Nat), .int .i64 (uh : Nat)] 56) := ⟨_, rfl⟩
  have hbk : Blk W D 56 [str un, .int .i64 (ul : Nat), .int .i64 (uh : Nat)] := by rw [hW, hD]; exact Blk.new w _ _
  have hbW : Below w.heap.size w W := by rw [hW]; exact (Below.refl _ _).alloc (Nat.le_refl _) _
  have hsW := h.below hbW
  have q2 := hsW.blk.cell 2
  simp only [List.getElem?_cons_zero, List.getElem?_cons_succ] at q2
  have lSW := hsW.blk.lt
  have e0 := hbk.cell 0
  have e1 := hbk.cell 1
  have e2 := hbk.cell 2
  simp only [List.getElem?_cons_zero, List.getElem?_cons_succ] at e0 e1 e2
  have lD := hbk.lt
  have hP2 := (hbW.cell (p := ⟨P0, 0, none⟩) lP).trans hP
  have lP2 : P0 < W.heap.size := by have := hbW.size; omega
  obtain ⟨v, hv⟩ : ∃ v, (mget l un).getD (.agg #[.string ⟨#[]⟩, .int .i64 0, .slice none 0 0]) = v := ⟨_, rfl⟩
  obtain ⟨tb, htb⟩ : ∃ b, (mget l un).isSome = b := ⟨_, rfl⟩
  have hva : ∃ vs vn va vc, ∃ vi : Nat, v = .agg #[.string vs, .int .i64 (vi : Nat), .slice va vn vc] ∧ (tb = true → (!okU pk ⟨un, ul, uh⟩) = (decide (vi < ul) || decide (uh < vi))) ∧ (tb = false → (!okU pk ⟨un, ul, uh⟩) = false) := by
    have hg := HR.out.get un
    cases hp : pickOf pk un with
    | none =>
      rw [hg.1 hp] at hv htb
      refine ⟨⟨#[]⟩, 0, none, 0, 0, hv.symm, fun h => ?_, fun _ => ?_⟩
      · rw [← htb] at h; cases h
      · unfold okU; simp only; rw [hp]; rfl
    | some m =>
      obtain ⟨v', h1, A, n, c, h2⟩ := hg.2 m hp
      rw [h1] at hv htb
      refine ⟨⟨m.name.toArray⟩, n, A, c, m.ver, by rw [← hv, ← h2]; rfl, fun _ => ?_, fun h => ?_⟩
      · unfold okU
        simp only
        rw [hp]
        simp only
        by_cases a1 : ul ≤ m.ver <;> by_cases a2 : m.ver ≤ uh <;> simp [a1, a2] <;> omega
      · rw [← htb] at h; cases h
  obtain ⟨vs, vn, va, vc, vi, rfl, hT, hF⟩ := hva
  have LK := Lib.hid (fun (W' : World) (hW' : W'.heap[PK]? = W.heap[PK]?) => hsW.look un hun hv htb W' hW')
  have hPK := hsW.mp.lt
  have lk0 := LK.out W.drew rfl
  have lk1 := LK.out ((W.alloc (.cells #[.string ⟨#[]⟩, .int .i64 0, .slice none 0 0] 52)).drew) (Below.heap_alloc W _ PK hPK)
  have HBW := Lib.hid (And.intro hbW hbk)
  have HT := Lib.hid hT
  have HF := Lib.hid hF
  clear hv htb hsW hbW hbk LK hT hF hP lP h
  go_enter Tryd.func48, Tryd.ntmps48
  go_upto_region 1 with (fail)
  rw [← hW, ← hD]
  clear hW hD
  go_region
  all_goals
    have hb9 := HBW.out.1.alloc HBW.out.1.size (.cells #[.string vs, .int .i64 (vi : Nat), .slice va vn vc] 52)
    have HB9 := Lib.hid hb9
    clear lk0 lk1 hb9
    cases tb
    · have hr2 : r = false := HRES.out.symm.trans (HF.out rfl)
      subst hr2
      go_wp2_with (fail)
      go_ret
      exact ⟨rfl, HB9.out.os, HB9.out.tape, HB9.out.output, HB9.out.size, HB9.out.block⟩
    · have hr2 : r = (decide (vi < ul) || decide (uh < vi)) := HRES.out.symm.trans (HT.out rfl)
      by_cases a1 : vi < ul
      · have g1 : decide ((vi : Int) < (ul : Int)) = true := decide_eq_true (by omega)
        have hr3 : r = true := by rw [hr2]; simp [a1]
        subst hr3
        clear hr2
        go_wp2_with (fail)
        go_ret
        exact ⟨rfl, HB9.out.os, HB9.out.tape, HB9.out.output, HB9.out.size, HB9.out.block⟩
      · have g1 : decide ((vi : Int) < (ul : Int)) = false := decide_eq_false (by omega)
        by_cases a2 : uh < vi
        · have g2 : decide ((vi : Int) > (uh : Int)) = true := decide_eq_true (by omega)
          have hr3 : r = true := by rw [hr2]; simp [a2]
          subst hr3
          clear hr2
          go_wp2_with (fail)
          go_ret
          exact ⟨rfl, HB9.out.os, HB9.out.tape, HB9.out.output, HB9.out.size, HB9.out.block⟩
        · have g2 : decide ((vi : Int) > (uh : Int)) = false := decide_eq_false (by omega)
          have hr3 : r = false := by rw [hr2]; simp [a1, a2]
          subst hr3
          clear hr2
          go_wp2_with (fail)
          go_ret
          exact ⟨rfl, HB9.out.os, HB9.out.tape, HB9.out.output, HB9.out.size, HB9.out.block⟩
set_option maxRecDepth 100000 in
theorem satisfied_any (w : World) (S PK : Nat) (A1 : Option Addr) (n1 c1 : Nat) (ms : List Md) (A2 : Option Addr) (n2 c2 : Nat) (first : List Pk) (Aw : Option Addr) (nw cw : Nat) (ws : List Us) (l : List (Nm × Value)) (pk : List Md) (r : Bool)
    (h : SearchAt w S PK A1 n1 c1 ms A2 n2 c2 first Aw nw cw ws l) (hr : PkRel l pk) (hws : ∀ u ∈ ws, UsOk u) (hl : nw ≤ 1000) (hres : satB pk ws = r) :
    Calls Tryd.prog 32 #[.pointer (some ⟨S, 0, none⟩)] w fun e w' => e = .returned (.bool r) ∧ Below w.heap.size w w' := by
  have eg : ∀ args w, (callFunc 48 args).run Tryd.prog w = .ok (.enter 48 args) w := enters_of Tryd.func48 (by kernel_rfl) rfl
  have hW : Below w.heap.size w (w.alloc (.cells #[.pointer (some ⟨S, 0, none⟩)] 41)) := (Below.refl _ _).alloc (Nat.le_refl _) _
  have hbk := Blk.new w 41 [.pointer (some ⟨S, 0, none⟩)]
  have hsW := h.below hW
  have C := containsFunc_any Aw nw cw ws (fun u => !okU pk u) 48 #[.pointer (some ⟨w.heap.size, 0, none⟩)] _ (hsW.wt.2.2.2.imp (by omega) fun _ _ _ => trivial) hsW.wt.1 (by omega) eg fun u hu W hb =>
    sat1_any W S PK w.heap.size A1 n1 c1 ms A2 n2 c2 first Aw nw cw ws l pk u _ (hsW.below hb) hr (hws u hu) ((hb.cell (p := ⟨w.heap.size, 0, none⟩) hbk.lt).trans (hbk.cell 0)) (by have := hb.size; have := hbk.lt; omega) rfl
  have hany : (ws.any fun u => !okU pk u) = !r := by
    rw [← hres]
    unfold satB
    rw [List.all_eq_not_any_not, Bool.not_not]
  rw [hany] at C
  have HC := Lib.hid C
  have HB := Lib.hid hW
  have s3 := hsW.blk.cell 3
  simp only [List.getElem?_cons_zero, List.getElem?_cons_succ] at s3
  have lS := h.blk.lt
  clear eg hbk hsW C hany h hr hws hW hres
  go_enter Tryd.func32, Tryd.ntmps32
  go_wp2_with (fail)
  refine HC.out.mono ?_
  rintro e w2 ⟨rfl, hb2⟩
  go_wp2_with (fail)
  go_ret
  exact ⟨by simp, HB.out.trans (hb2.mono HB.out.size)⟩
end Go.Proofs.YtpdjeaiojfghnaaDoor
