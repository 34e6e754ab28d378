/- Contract of the search's complete. -/
import Derived.Test.YtpdjeaiojfghnaaDoorSvSat
import Derived.Test.YtpdjeaiojfghnaaDoorGrown
import Derived.StillTailTactics
set_option linter.unusedVariables false
namespace Go.Proofs.YtpdjeaiojfghnaaDoor
open Go.RowKit Go.Mem Go.Sv Go.Maps
def SPK (S PK : Nat) (q : Nat) : Prop := q = S ∨ q = PK
section
variable {w w' : World} {S PK : Nat} {A1 A2 Aw : Option Addr} {n1 c1 n2 c2 nw cw : Nat} {ms : List Md} {first : List Pk} {ws : List Us} {l : List (Nm × Value)}
theorem SPK.same (h : GrownIn (SPK S PK) w w') : Same (Ap2 S PK) w w' := Same.of_in h fun b hb _ e => by rcases e with e | e; exact hb.1 e; exact hb.2 e
theorem SearchAt.putMap {l' : List (Nm × Value)} (h : SearchAt w S PK A1 n1 c1 ms A2 n2 c2 first Aw nw cw ws l) (hm : MapOf str okS w' PK l') (hg : w.grownBy w' (some PK)) : SearchAt w' S PK A1 n1 c1 ms A2 n2 c2 first Aw nw cw ws l' := by
  have hs : Same (Ap2 S PK) w w' := Same.of_grown hg fun b hb _ e => hb.2 (by injection e)
  exact ⟨h.blk.grown hg (fun e => h.ne (by injection e)), hm, h.md.keep hs, ⟨h.fr.1, h.fr.2.keep hs⟩, ⟨h.wt.1, h.wt.2.1, h.wt.2.2.1, h.wt.2.2.2.keep hs⟩, h.ne⟩
theorem SearchAt.setW {Aw' : Option Addr} {nw' cw' : Nat} {ws' : List Us} (h : SearchAt w S PK A1 n1 c1 ms A2 n2 c2 first Aw nw cw ws l) (h1 : nw' = ws'.length) (h2 : nw' ≤ cw') (h3 : cw' ≤ maxLen) (h4 : Reads w (Ap2 S PK) 3 Aw' nw' (uss ws')) :
    SearchAt (w.setCell ⟨S, 3, none⟩ (.slice Aw' nw' cw')) S PK A1 n1 c1 ms A2 n2 c2 first Aw' nw' cw' ws' l := by
  have hs : Same (Ap2 S PK) w (w.setCell ⟨S, 3, none⟩ (.slice Aw' nw' cw')) := fun b hb _ => Below.heap_setCell w _ _ b hb.1
  exact ⟨h.blk.put 3 _, h.mp.same (Below.heap_setCell w _ _ PK (fun e => h.ne e.symm)), h.md.keep hs, ⟨h.fr.1, h.fr.2.keep hs⟩, ⟨h1, h2, h3, h4.keep hs⟩, h.ne⟩
end
theorem mput_new {l : List (Nm × Value)} {n : Nm} {v : Value} (h : ∀ p ∈ l, p.1 ≠ n) : mput l n v = l ++ [(n, v)] := by
  unfold mput
  rw [mget_none.2 h]
  rfl
def CompPost (w : World) (S PK : Nat) (A1 : Option Addr) (n1 c1 : Nat) (ms : List Md) (A2 : Option Addr) (n2 c2 : Nat) (first : List Pk) (Aw : Option Addr) (nw cw : Nat) (root : List Us) (l : List (Nm × Value)) (pk : List Md) (R : Option (List Md)) : Ending → World → Prop := fun e w' =>
  ∃ b, e = .returned (.bool b) ∧ GrownIn (SPK S PK) w w' ∧ (b = true → ∃ r Aw' nw' cw' l', R = some r ∧ SearchAt w' S PK A1 n1 c1 ms A2 n2 c2 first Aw' nw' cw' (wantsOf root r) l' ∧ PkRel l' r) ∧ (b = false → R = none ∧ SearchAt w' S PK A1 n1 c1 ms A2 n2 c2 first Aw nw cw (wantsOf root pk) l)
set_option maxRecDepth 100000 in
set_option maxHeartbeats 4000000 in
theorem complete_any (S PK : Nat) (A1 : Option Addr) (n1 c1 : Nat) (ms : List Md) (A2 : Option Addr) (n2 c2 : Nat) (first : List Pk) (root : List Us) (hm : MsOk ms) (hf : n2 ≤ 1000) (hr10 : root.length ≤ 10) (hroot : ∀ u ∈ root, UsOk u) : ∀ (k : Nat) (w : World) (Aw : Option Addr) (nw cw : Nat) (l : List (Nm × Value)) (pk : List Md),
    k + pk.length = 31 → SearchAt w S PK A1 n1 c1 ms A2 n2 c2 first Aw nw cw (wantsOf root pk) l → PkRel l pk → (∀ m ∈ pk, m ∈ ms) → (pk.map (·.name)).Nodup →
    Calls Tryd.prog 13 #[.pointer (some ⟨S, 0, none⟩)] w (CompPost w S PK A1 n1 c1 ms A2 n2 c2 first Aw nw cw root l pk (completeF ms first root k pk))
  | 0, w, Aw, nw, cw, l, pk, hk, h, hr, hp, hnd => by have := nodup_len hnd hp; have := hm.ln; omega
  | k + 1, w, Aw, nw, cw, l, pk, hk, h, hr, hp, hnd => by
    have hpl := nodup_len hnd hp
    have hln := hm.ln
    have hsum : ∀ q : List Md, (∀ m ∈ q, m ∈ ms) → (q.flatMap (·.uses)).length ≤ 5 * q.length := by
      intro q hq
      induction q with
      | nil => simp
      | cons x q ih =>
        have h1 := (hm.us x (hq x (by simp))).1
        have h2 := ih fun m hm => hq m (by simp [hm])
        rw [List.flatMap_cons, List.length_append, List.length_cons]
        omega
    have hwl : ∀ q : List Md, (∀ m ∈ q, m ∈ ms) → (wantsOf root q).length ≤ 10 + 5 * q.length := by
      intro q hq
      have := hsum q hq
      unfold wantsOf
      rw [List.length_append]
      omega
    have hwok : ∀ q : List Md, (∀ m ∈ q, m ∈ ms) → ∀ u ∈ wantsOf root q, UsOk u := by
      intro q hq u hu
      rcases mem_wants.1 hu with hu | ⟨m, h1, h2⟩
      · exact hroot u hu
      · exact (hm.us m (hq m h1)).2 u h2
    have hnw : nw ≤ 200 := by have := hwl pk hp; have := h.wt.1; omega
    have O := open_any w S PK A1 n1 c1 ms A2 n2 c2 first Aw nw cw _ l pk h hr (hwok pk hp) (by omega)
    have IH := Lib.hid (complete_any S PK A1 n1 c1 ms A2 n2 c2 first root hm hf hr10 hroot k)
    rw [completeF]
    have HWL := Lib.hid hwl
    have HWO := Lib.hid hwok
    have HS := Lib.hid h
    have HR := Lib.hid hr
    have HP := Lib.hid (And.intro hp hnd)
    have HM := Lib.hid hm
    have HK := Lib.hid (And.intro hk (And.intro hpl hln))
    unfold CompPost
    cases hop : openF pk (wantsOf root pk) with
    | none =>
      rw [hop] at O
      unfold OpenPost at O
      simp only
      clear hsum hwl hwok hm hroot h hr hp hnd hop hf hr10 hnw hk hpl hln
      have HO := Lib.hid O
      clear O
      go_enter Tryd.func13, Tryd.ntmps13
      go_wp2_with (fail)
      refine HO.out.mono ?_
      rintro e w1 ⟨rfl, hb1⟩
      go_wp2_with (fail)
      go_ret
      exact ⟨true, rfl, GrownIn.of_below hb1, fun _ => ⟨pk, Aw, nw, cw, l, rfl, HS.out.below hb1, HR.out⟩, fun h => (by cases h)⟩
    | some n =>
      rw [hop] at O
      unfold OpenPost at O
      simp only
      have hon := open_some hop
      obtain ⟨F, hF⟩ : ∃ F : Md → Option (List Md), F = fun m => if satB (pk ++ [m]) (wantsOf root (pk ++ [m])) then completeF ms first root k (pk ++ [m]) else none := ⟨_, rfl⟩
      rw [← hF]
      have HF := Lib.hid hF
      have HOn := Lib.hid hon
      have CC := Lib.hid (fun w1 (hb1 : Below w.heap.size w w1) => cands_any w1 S PK A1 n1 c1 ms A2 n2 c2 first Aw nw cw _ l n (h.below hb1) hm hf)
      have HC := Lib.hid (fun m (hq : m ∈ candsF ms first n) => mem_cands.1 hq)
      have HCl : (candsF ms first n).length ≤ 60 := by
        unfold candsF
        rw [List.length_append]
        have := List.length_filter_le (fun m : Md => decide (m.name = n) && decide ((m.name, m.ver) ∈ first)) ms.reverse
        have := List.length_filter_le (fun m : Md => decide (m.name = n) && !decide ((m.name, m.ver) ∈ first)) ms.reverse
        simp only [List.length_reverse] at *
        omega
      generalize candsF ms first n = C at CC HC HCl ⊢
      clear hsum hwl hwok hm hroot h hr hp hnd hop hf hr10 hk hpl hln hF hon
      have HO := Lib.hid O
      clear O
      go_enter Tryd.func13, Tryd.ntmps13
      go_wp2_with (fail)
      refine HO.out.mono ?_
      rintro e w1 ⟨rfl, hb1⟩
      have hs1 := HS.out.below hb1
      have s3 := hs1.blk.cell 3
      simp only [List.getElem?_cons_zero, List.getElem?_cons_succ] at s3
      have lS1 := hs1.blk.lt
      have HB1 := Lib.hid hb1
      clear hs1 hb1
      go_wp2_with (fail)
      refine (CC.out _ HB1.out).mono ?_
      rintro e w2 ⟨Ac, cc, rfl, hmd2, hb2⟩
      have hs2 := HS.out.below (HB1.out.trans (hb2.mono HB1.out.size))
      have HS2 := Lib.hid hs2
      have HMd2 := Lib.hid hmd2
      have HB2 := Lib.hid (HB1.out.trans (hb2.mono HB1.out.size))
      clear s3 lS1 hs2 hmd2 hb2
      go_wp2_with (fail)
      go_loopw [23] (fun v wr => ∃ j : Nat, j ≤ C.length ∧ v = .int .i64 j ∧ Hid (GrownIn (SPK S PK) w2 wr ∧ SearchAt wr S PK A1 n1 c1 ms A2 n2 c2 first Aw nw cw (wantsOf root pk) l ∧ (C.take j).findSome? F = none)) (fun v _ => C.length - (intOf v).toNat)
      case atStart => exact ⟨0, Nat.zero_le _, rfl, GrownIn.refl _ _, HS2.out, rfl⟩
      case round =>
        obtain ⟨j, hj, rfl, HI⟩ := hrel
        by_cases hlt : j < C.length
        · have hmd := HMd2.out.keep (SPK.same HI.out.1)
          obtain ⟨b1, o1, Au, nu, cu, rfl, hD1, p0, p1, p2, q1, q2, q3, q4⟩ := hmd.cells hlt hlt
          have hC := HC.out _ (List.getElem_mem hlt)
          have hnx : (C.take (j + 1)).findSome? F = F C[j] := by
            rw [List.take_succ_eq_append_getElem hlt, List.findSome?_append, HI.out.2.2]
            simp
          have hall : C.findSome? F = (F C[j]).or ((C.drop (j + 1)).findSome? F) := by
            have e1 : C = C.take j ++ C[j] :: C.drop (j + 1) := by rw [← List.drop_eq_getElem_cons hlt, List.take_append_drop]
            have e2 : C.findSome? F = (C.take j ++ C[j] :: C.drop (j + 1)).findSome? F := by rw [← e1]
            rw [e2, List.findSome?_append, HI.out.2.2, List.findSome?_cons]
            cases F C[j] <;> simp
          have hFm : F C[j] = if satB (pk ++ [C[j]]) (wantsOf root (pk ++ [C[j]])) then completeF ms first root k (pk ++ [C[j]]) else none := by rw [HF.out]
          obtain ⟨m, hmm⟩ : ∃ m, m = C[j] := ⟨_, rfl⟩
          rw [← hmm] at p0 p1 q1 q4 hC hnx hall hFm
          clear hmm
          have hsub' : ∀ q ∈ pk ++ [m], q ∈ ms := fun q hq => (List.mem_append.1 hq).elim (HP.out.1 q) fun e => by rw [List.mem_singleton] at e; subst e; exact hC.1
          have hnd' : ((pk ++ [m]).map (·.name)).Nodup := by
            rw [List.map_append, List.nodup_append]
            refine ⟨HP.out.2, by simp, fun a ha b hb e => ?_⟩
            simp at hb
            obtain ⟨q, h1, h2⟩ := List.mem_map.1 ha
            exact HOn.out.2 q h1 (h2.trans (e.trans (hb.trans hC.2)))
          have hlen' := HWL.out _ hsub'
          have hok' := HWO.out _ hsub'
          have hw' : wantsOf root (pk ++ [m]) = wantsOf root pk ++ m.uses := by unfold wantsOf; rw [List.flatMap_append, List.append_assoc]; simp
          have hpk1 : (pk ++ [m]).length ≤ 30 := by have := nodup_len hnd' hsub'; have := HM.out.ln; omega
          have hvr := HM.out.vr m hC.1
          have hun : n.length ≤ 65536 := by
            obtain ⟨c, e, _⟩ := HM.out.nm m hC.1
            rw [← hC.2, e]
            simp
          have habs : ∀ p ∈ l, p.1 ≠ n := by
            have e := HR.out.names
            intro p hp e2
            have : p.1 ∈ l.map (·.1) := List.mem_map.2 ⟨p, hp, rfl⟩
            rw [e] at this
            obtain ⟨q, h1, h2⟩ := List.mem_map.1 this
            exact HOn.out.2 q h1 (h2.trans e2)
          obtain ⟨v, hv⟩ : ∃ v, v = Value.agg #[str m.name, .int .i64 (m.ver : Nat), .slice Au nu cu] := ⟨_, rfl⟩
          have hpr : PkRel (l ++ [(n, v)]) (pk ++ [m]) := by
            have := HR.out.snoc (m := m) (v := v) ⟨Au, nu, cu, hv⟩
            rwa [hC.2] at this
          have hwnl : nw = (wantsOf root pk).length := HI.out.2.1.wt.1
          have hnw2 : nw + nu ≤ 1000 := by
            rw [hw', List.length_append] at hlen'
            omega
          rw [hC.2] at p0 hv
          obtain ⟨D, hD⟩ : ∃ D, D = wr.heap.size := ⟨_, rfl⟩
          obtain ⟨W, hW⟩ : ∃ W, W = wr.alloc (.cells #[str n, .int .i64 (m.ver : Nat), .slice Au nu cu] 52) := ⟨_, rfl⟩
          have hbk : Blk W D 52 [str n, .int .i64 (m.ver : Nat), .slice Au nu cu] := by rw [hW, hD]; exact Blk.new wr _ _
          have hbW : Below wr.heap.size wr W := by rw [hW]; exact (Below.refl _ _).alloc (Nat.le_refl _) _
          have hsW := HI.out.2.1.below hbW
          have hDS : D ≠ S ∧ D ≠ PK := by have := HI.out.2.1.blk.lt; have := HI.out.2.1.mp.lt; omega
          have x2 := hsW.blk.cell 2
          have e0 := hbk.cell 0
          have e1 := hbk.cell 1
          have e2 := hbk.cell 2
          simp only [List.getElem?_cons_zero, List.getElem?_cons_succ] at x2 e0 e1 e2
          have lSW := hsW.blk.lt
          have lD := hbk.lt
          have HBW := Lib.hid (And.intro hbk hbW)
          have HSW := Lib.hid hsW
          have HDS := Lib.hid hDS
          have HQ := Lib.hid (And.intro q1 (And.intro q2 (And.intro q3 (And.intro hD1 q4))))
          have HNx := Lib.hid hnx
          have HAll := Lib.hid hall
          have HFm := Lib.hid hFm
          have HV := Lib.hid hv
          have HN9 := Lib.hid (show okS n from hun)
          have HAbs := Lib.hid habs
          have HPR := Lib.hid hpr
          have HSub := Lib.hid (And.intro hsub' hnd')
          have HW' := Lib.hid hw'
          have HOk := Lib.hid hok'
          have HLn := Lib.hid (And.intro hpk1 (And.intro hlen' hwnl))
          have hmv := hvr.2
          clear hmd hnx hall hFm hsub' hnd' hlen' hok' hw' hpk1 hvr hun habs hpr hwnl hbk hbW hsW hDS q1 q2 q3 q4 hD1 hC hv
          go_upto_region 8 with (fail)
          rw [← hW, ← hD]
          clear hW hD p0 p1 p2
          go_still_tail 6, (by kernel_rfl)
          change wpList _ _ _ _ _ (World.drew W)
          go_wp2_with (refine wpList_mupdate _ rfl (.tmp 30) (.tmp 31) (.tmp 32) _ rfl enc_S Tryd.underlying42 (b := PK) (key := n) rfl (by exact HSW.out.mp.same rfl) rfl HN9.out ?_; intro w3 hm3 hg3; have hm3' : MapOf str okS w3 PK (l ++ [(n, v)]) := (by rw [HV.out, ← mput_new HAbs.out]; exact hm3); have hg3' : W.grownBy w3 (some PK) := ⟨hg3.os, hg3.tape, hg3.output, hg3.size, hg3.block⟩; have hs3 := HSW.out.putMap hm3' hg3'; have hbk3 := HBW.out.1.grown hg3' (fun e => HDS.out.2 (by injection e)); have x3 := hbk3.cell 2; simp only [List.getElem?_cons_zero, List.getElem?_cons_succ] at x3; have lD3 := hbk3.lt; have HS3 := Lib.hid hs3; have HG3 := Lib.hid (GrownIn.trans (GrownIn.of_below (own := SPK S PK) HBW.out.2) (GrownIn.of_grown (own := SPK S PK) hg3' (by intro q hq; injection hq with hq; exact .inr hq.symm)) (fun _ h => .inl h)); clear x2 e0 e1 e2 lSW lD hm3 hg3 hm3' hg3' hs3 hbk3)
          have hb4 : Below w3.heap.size w3 (w3.alloc (.cells #[.slice Aw nw cw, .slice Au nu cu] 29)) := (Below.refl _ _).alloc (Nat.le_refl _) _
          have CA := concat_any w3.heap.size Aw Au nw cw nu cu (wantsOf root pk) m.uses (w3.alloc (.cells #[.slice Aw nw cw, .slice Au nu cu] 29)) ((Blk.new w3 29 [.slice Aw nw cw, .slice Au nu cu]).cell 0) ((Blk.new w3 29 [.slice Aw nw cw, .slice Au nu cu]).cell 1) (by simp)
            ((HS3.out.below hb4).wt.2.2.2.imp (by omega) fun _ _ _ => trivial) HLn.out.2.2 (((HQ.out.2.2.2.2.keep (SPK.same HG3.out)).keep (fun b _ hl => hb4.block b hl)).imp (by omega) fun _ _ _ => trivial) HQ.out.1 (by omega)
          rw [← HW'.out] at CA
          refine CA.mono ?_
          clear CA
          rintro e w5 ⟨A9, c9, rfl, hown5, hb5⟩
          have hb45 : Below w3.heap.size w3 w5 := hb4.trans (hb5.mono (by simp))
          have hs5 := HS3.out.below hb45
          obtain ⟨y1, y2, y3⟩ := own_reads (by omega) hown5
          have hs6 := hs5.setW (Aw' := A9) (nw' := (wantsOf root (pk ++ [m])).length) (cw' := c9) (ws' := wantsOf root (pk ++ [m])) rfl y1 y2 (y3.imp (by omega) fun b hb _ => by
            have l1 := HS3.out.blk.lt
            have l2 := HS3.out.mp.lt
            simp only [World.alloc, Array.size_push] at hb
            unfold Ap2
            omega)
          have x3 := hs5.blk.cell 3
          have x4 := hs5.blk.frozen 3
          have lS5 := hs5.blk.lt
          simp only [List.getElem?_cons_zero, List.getElem?_cons_succ] at x3
          have HG6 := Lib.hid ((HG3.out.trans (GrownIn.of_below (own := SPK S PK) hb45) (fun _ h => .inl h)).set (p := ⟨S, 3, none⟩) (.inl rfl) (.slice A9 (wantsOf root (pk ++ [m])).length c9))
          have HS6 := Lib.hid hs6
          have hN : (wantsOf root (pk ++ [m])).length ≤ 1000 := by have := HLn.out; omega
          have HN6 := Lib.hid hN
          clear hb4 hown5 hb5 hb45 hs5 y1 y2 y3 hs6 hN
          generalize (wantsOf root (pk ++ [m])).length = N9 at HG6 HS6 HN6 ⊢
          go_wp2_with (fail)
          rcases Bool.eq_false_or_eq_true (satB (pk ++ [m]) (wantsOf root (pk ++ [m]))) with hsat | hsat
          · have HFt := HFm.out
            rw [hsat, if_pos rfl] at HFt
            have HFt := Lib.hid HFt
            refine (satisfied_any _ S PK A1 n1 c1 ms A2 n2 c2 first A9 N9 c9 _ _ (pk ++ [m]) true HS6.out HPR.out HOk.out HN6.out hsat).mono ?_
            rintro e w6 ⟨rfl, hb6⟩
            have HS62 := Lib.hid (HS6.out.below hb6)
            have HG62 := Lib.hid (HG6.out.trans (GrownIn.of_below (own := SPK S PK) hb6) (fun _ h => .inl h))
            clear hsat hb6 x3 x4 lS5
            go_wp2_with (fail)
            refine (IH.out w6 A9 N9 c9 _ (pk ++ [m]) (by have := HK.out; simp; omega) HS62.out HPR.out HSub.out.1 HSub.out.2).mono ?_
            unfold CompPost
            rintro e w7 ⟨b, rfl, hg7, ht, hf⟩
            cases b
            · obtain ⟨f1, f2⟩ := hf rfl
              have HG7 := Lib.hid (HG62.out.trans hg7 (fun _ h => .inl h))
              have HS7 := Lib.hid f2
              have HFN := Lib.hid (show F m = none from HFt.out.trans f1)
              clear hg7 ht hf f1 f2
              have z2 := HS7.out.blk.cell 2
              have lS7 := HS7.out.blk.lt
              simp only [List.getElem?_cons_zero, List.getElem?_cons_succ] at z2
              go_wp2_with (refine wpList_mdelete _ rfl (.tmp 50) (.tmp 51) _ rfl enc_S Tryd.underlying42 (b := PK) (key := n) rfl (by exact HS7.out.mp) rfl HN9.out ?_; intro w8 hm8 hg8; rw [mdel_snoc HAbs.out] at hm8; have hs8 := HS7.out.putMap hm8 hg8; have z3 := hs8.blk.cell 3; have z4 := hs8.blk.frozen 3; have lS8 := hs8.blk.lt; simp only [List.getElem?_cons_zero, List.getElem?_cons_succ] at z3; have HS8 := Lib.hid hs8; have HG8 := Lib.hid (HG7.out.trans (GrownIn.of_grown (own := SPK S PK) hg8 (by intro q hq; injection hq with hq; exact .inr hq.symm)) (fun _ h => .inl h)); clear z2 lS7 hm8 hg8 hs8)
              have fin : Hid (GrownIn (SPK S PK) w2 (w8.setCell ⟨S, 3, none⟩ (.slice Aw nw cw)) ∧ SearchAt (w8.setCell ⟨S, 3, none⟩ (.slice Aw nw cw)) S PK A1 n1 c1 ms A2 n2 c2 first Aw nw cw (wantsOf root pk) l ∧ (C.take (j + 1)).findSome? F = none) :=
                ⟨HI.out.1.trans (HG8.out.set (p := ⟨S, 3, none⟩) (.inl rfl) _) (fun _ h => .inl h), HS8.out.setW HI.out.2.1.wt.1 HI.out.2.1.wt.2.1 HI.out.2.1.wt.2.2.1 (HI.out.2.1.wt.2.2.2.keep (SPK.same HG8.out)), HNx.out.trans HFN.out⟩
              go_wp2_with (fail)
              exact ⟨⟨j + 1, by omega, by go_num, fin⟩, by simp [intOf]; omega⟩
            · obtain ⟨r, Aw', nw', cw', l', f1, f2, f3⟩ := ht rfl
              have HE := Lib.hid (show C.findSome? F = some r by rw [HAll.out, HFt.out, f1]; rfl)
              have HG7 := Lib.hid (HG62.out.trans hg7 (fun _ h => .inl h))
              have HT := Lib.hid (And.intro f2 f3)
              clear hg7 ht hf f1 f2 f3
              go_wp2_with (fail)
              go_ret
              exact ⟨true, rfl, GrownIn.trans (GrownIn.of_below (own := SPK S PK) HB2.out) (HI.out.1.trans HG7.out (fun _ h => .inl h)) (fun _ h => .inl h), fun _ => ⟨r, Aw', nw', cw', l', HE.out, HT.out.1, HT.out.2⟩, fun h => (by cases h)⟩
          · have HFN := HFm.out
            rw [hsat, if_neg (by simp)] at HFN
            have HFN := Lib.hid HFN
            refine (satisfied_any _ S PK A1 n1 c1 ms A2 n2 c2 first A9 N9 c9 _ _ (pk ++ [m]) false HS6.out HPR.out HOk.out HN6.out hsat).mono ?_
            rintro e w7 ⟨rfl, hb7⟩
            have HS7 := Lib.hid (HS6.out.below hb7)
            have HG7 := Lib.hid (HG6.out.trans (GrownIn.of_below (own := SPK S PK) hb7) (fun _ h => .inl h))
            clear hsat hb7 x3 x4 lS5
            have z2 := HS7.out.blk.cell 2
            have lS7 := HS7.out.blk.lt
            simp only [List.getElem?_cons_zero, List.getElem?_cons_succ] at z2
            go_wp2_with (refine wpList_mdelete _ rfl (.tmp 50) (.tmp 51) _ rfl enc_S Tryd.underlying42 (b := PK) (key := n) rfl (by exact HS7.out.mp) rfl HN9.out ?_; intro w8 hm8 hg8; rw [mdel_snoc HAbs.out] at hm8; have hs8 := HS7.out.putMap hm8 hg8; have z3 := hs8.blk.cell 3; have z4 := hs8.blk.frozen 3; have lS8 := hs8.blk.lt; simp only [List.getElem?_cons_zero, List.getElem?_cons_succ] at z3; have HS8 := Lib.hid hs8; have HG8 := Lib.hid (HG7.out.trans (GrownIn.of_grown (own := SPK S PK) hg8 (by intro q hq; injection hq with hq; exact .inr hq.symm)) (fun _ h => .inl h)); clear z2 lS7 hm8 hg8 hs8)
            have fin : Hid (GrownIn (SPK S PK) w2 (w8.setCell ⟨S, 3, none⟩ (.slice Aw nw cw)) ∧ SearchAt (w8.setCell ⟨S, 3, none⟩ (.slice Aw nw cw)) S PK A1 n1 c1 ms A2 n2 c2 first Aw nw cw (wantsOf root pk) l ∧ (C.take (j + 1)).findSome? F = none) :=
              ⟨HI.out.1.trans (HG8.out.set (p := ⟨S, 3, none⟩) (.inl rfl) _) (fun _ h => .inl h), HS8.out.setW HI.out.2.1.wt.1 HI.out.2.1.wt.2.1 HI.out.2.1.wt.2.2.1 (HI.out.2.1.wt.2.2.2.keep (SPK.same HG8.out)), HNx.out.trans HFN.out⟩
            go_wp2_with (fail)
            exact ⟨⟨j + 1, by omega, by go_num, fin⟩, by simp [intOf]; omega⟩
        · have hall : C.take j = C := List.take_of_length_le (by omega)
          have hfin := HI.out.2.2
          rw [hall] at hfin
          have HE := Lib.hid hfin
          clear hall hfin
          go_wp2_with (fail)
          go_ret
          exact ⟨false, rfl, GrownIn.trans (GrownIn.of_below (own := SPK S PK) HB2.out) HI.out.1 (fun _ h => .inl h), fun h => (by cases h), fun _ => ⟨HE.out, HI.out.2.1⟩⟩
end Go.Proofs.YtpdjeaiojfghnaaDoor
