/- Contracts of (*Shelf).Free of what was kept, and where nothing is held. -/
import Derived.Test.YteojmmjanjilaaaPart44
set_option linter.unusedVariables false
namespace Go.Chunk
open Go.Mem
theorem count_take_le (l : List Nat) (j : Nat) (a : Nat) : (l.take j).count a ≤ l.count a := (List.take_sublist j l).count_le a
theorem freeL_take (s : Shf) (l : List Nat) (j : Nat) (h : j < l.length) : freeL s (l.take (j + 1)) = dropF (freeL s (l.take j)) l[j] := by
  unfold freeL
  rw [List.take_succ_eq_append_getElem h, List.foldl_append]
  rfl
/-- the counts so far -/
def cnts : List Nat → List (Nat × Nat)
  | [] => []
  | l => l.foldl (fun m n => mput m n ((mget m n).getD 0 + 1)) []
def cntF (l : List Nat) : List (Nat × Nat) := l.foldl (fun m n => mput m n ((mget m n).getD 0 + 1)) []
theorem cntF_get (l : List Nat) (a : Nat) : (mget (cntF l) a).getD 0 = l.count a := by
  have : ∀ (l : List Nat) (m : List (Nat × Nat)), (mget (l.foldl (fun m n => mput m n ((mget m n).getD 0 + 1)) m) a).getD 0 = (mget m a).getD 0 + l.count a := by
    intro l
    induction l with
    | nil => simp
    | cons x l ih =>
      intro m
      rw [List.foldl_cons, ih, mget_put, List.count_cons]
      by_cases e : a = x
      · subst e; simp; omega
      · have e2 : ¬ (x == a) = true := by simp; exact fun h => e h.symm
        simp [e, e2]
  have h := this l []
  unfold cntF
  rw [h]
  simp [mget]
theorem cntF_take (l : List Nat) (j : Nat) (h : j < l.length) : cntF (l.take (j + 1)) = mput (cntF (l.take j)) l[j] ((mget (cntF (l.take j)) l[j]).getD 0 + 1) := by
  unfold cntF
  rw [List.take_succ_eq_append_getElem h, List.foldl_append]
  rfl
end Go.Chunk
namespace Go.Proofs.Yteojmmjanjilaaa
open Go.RowKit Go.Mem Go.Chunk Go.Maps
def FreesPost (w : World) (S P N : Nat) (s : Shf) (out : List Nat) : Ending → World → Prop := fun e w' =>
  e = .returned (.int .i64 0) ∧ ShelfAt w' S P N (freeL s out) ∧ GrownIn (OwnPN P N) w w'
set_option maxRecDepth 100000 in
set_option maxHeartbeats 2000000 in
theorem frees_any (w : World) (S P N : Nat) (s : Shf) (H : Bs → Nat) (A : Option Addr) (n c : Nat) (l : List Bs) (out : List Nat) (hs : ShelfAt w S P N s) (hk : s.Ok H) (hnum : Nums s l out) (hcnt : ∀ b, l.count b ≤ H b) (h32 : ∀ b ∈ l, b.length ≤ 65536) (hH6 : ∀ b, H b ≤ 1000000) (hr : Reads w (fun q => q ≠ P ∧ q ≠ N) 1 A n (nums (nat64 out))) (hn : n = out.length) (hn6 : n ≤ 1000000) :
    Calls Try.prog 26 #[.pointer (some ⟨S, 0, none⟩), .slice A n c] w (FreesPost w S P N s out) := by
  have HS := Lib.hid hs
  have HK := Lib.hid hk
  have HN := Lib.hid hnum
  have HR := Lib.hid hr
  have Hn := Lib.hid hn
  have HC := Lib.hid hcnt
  have H32 := Lib.hid h32
  have H6 := Lib.hid hH6
  have Hnl := Lib.hid (show n = l.length by rw [hn]; exact hnum.1.symm)
  have hm1 := @run_makeMap Try.prog
  have fl := fld1
  unfold FreesPost
  clear hs hk hnum hr hn hcnt h32 hH6
  go_enter Try.func26, Try.ntmps26
  go_wp2_with (fail)
  obtain ⟨M, hM⟩ : ∃ M, M = w.heap.size := ⟨_, rfl⟩
  have hm0 : MapOf encN okN (w.alloc (.map #[] 0)) M [] := by rw [hM]; exact MapOf.new w
  rw [← hM]
  have HM := Lib.hid hM
  clear hM
  go_loopw [13] (fun v wr => ∃ j : Nat, j ≤ n ∧ v = .int .i64 j ∧ Hid (MapOf encN okN wr M ((cntF (out.take j)).map fun p => (p.1, encN p.2)) ∧ Below w.heap.size w wr)) (fun v _ => n - (intOf v).toNat)
  case atStart => exact ⟨0, Nat.zero_le _, rfl, hm0, (Below.refl _ _).alloc (Nat.le_refl _) _⟩
  case round =>
    obtain ⟨j, hj, rfl, HI⟩ := hrel
    by_cases hlt : j < n
    · have hjo : j < out.length := by have := Hn.out; omega
      have hjl : j < l.length := by have := Hnl.out; omega
      obtain ⟨b, off, u, rfl, hD, hu, hc⟩ := HR.out.at_ hlt
      rw [nat64_at out j hjo] at hu
      injection hu with hu
      subst hu
      have g0 := (Same.any (D := Any) HI.out.2).cell trivial hc
      have hnn := HN.out.2 j l[j] out[j] (List.getElem?_eq_getElem hjl) (List.getElem?_eq_getElem hjo)
      obtain ⟨x, hx, hxH, _⟩ := HK.out.bytes hnn
      have hsw : ShelfAt wr S P N s := HS.out.below HI.out.2
      have hn9 := hsw.some_ hx
      have hx6 : x ≤ 1000000 := by rw [hxH]; exact H6.out _
      have hct : cntF (out.take (j + 1)) = _ := cntF_take out j hjo
      have hcg := cntF_get (out.take (j + 1)) out[j]
      have hcg0 := cntF_get (out.take j) out[j]
      have hle : (out.take (j + 1)).count out[j] ≤ x := by
        rw [hxH]
        exact Nat.le_trans (count_take_le _ _ _) (by rw [nums_count HK.out HN.out _ _ hnn]; exact HC.out _)
      obtain ⟨cv, hcv⟩ : ∃ cv, cv = (mget (cntF (out.take j)) out[j]).getD 0 := ⟨_, rfl⟩
      rw [hct, mget_put, if_pos rfl, ← hcv] at hcg
      rw [← hcv] at hct
      simp only [Option.getD_some] at hcg
      rw [← hcg] at hle
      have lkm := HI.out.1.lookup enc_N Try.underlying108 zero_in (a := out[j]) hn9 false
      rw [mget_mapv] at lkm
      have ev : ((mget (cntF (out.take j)) out[j]).map encN).getD (.int .i64 0) = .int .i64 (cv : Nat) := by rw [hcv]; cases mget (cntF (out.take j)) out[j] <;> rfl
      rw [ev, if_neg (by simp)] at lkm
      have hgx : (mget s.ps out[j]).getD ([], 0) = (l[j], x) := by rw [hx]; rfl
      have LK := Lib.hid (fun (W : World) (hW : W.heap[P]? = wr.heap[P]?) => hsw.look out[j] hn9 hgx W hW)
      have lkm' : (Instr.lookup 108 (.map (some M)) (.int .i64 (out[j] : Int)) false).run Try.prog wr = .ok (.int .i64 (cv : Nat)) wr := lkm
      have HCT := Lib.hid hct
      have HSW := Lib.hid hsw
      have wv : IntKind.i64.wrap ((cv : Int) + 1) = ((cv + 1 : Nat) : Int) := (IntWalk.i64_in _ (by omega)).trans (by omega)
      generalize hq : out[j] = q at g0 hn9 LK lkm' HCT
      generalize l[j] = pb at LK
      clear hc hnn hx hgx hct hcg hcg0 lkm hq ev hcv hsw
      go_wp2_with (refine wpList_mupdate _ rfl (.tmp 17) (.tmp 18) (.tmp 20) _ rfl enc_N Try.underlying108 (b := M) (key := q) rfl (by exact HI.out.1) rfl hn9 ?_; intro w2 hm2 hg2; have hm3 : MapOf encN okN w2 M ((cntF (out.take (j + 1))).map fun p => (p.1, encN p.2)) := (by rw [HCT.out, put_map (f := encN)]; exact hm2); have hb2 : Below w.heap.size w w2 := HI.out.2.grown hg2 HI.out.2.size (fun k hk => by injection hk with hk; have := HM.out; omega); have HF := Lib.hid (And.intro hm3 hb2); have hs2 : ShelfAt w2 S P N s := HS.out.below hb2; clear hm2 hg2 hm3 hb2)
      have hl3 : w2.heap[P]? = wr.heap[P]? := (HF.out.2.block P (HS.out.lt.2.1)).trans (HI.out.2.block P HS.out.lt.2.1).symm
      have lkP := fun k => LK.out (w2.drewN k) hl3
      have lkM : ∀ k, (Instr.lookup 108 (.map (some M)) (.int .i64 (q : Int)) false).run Try.prog (w2.drewN k) = .ok (.int .i64 ((cv + 1 : Nat) : Int)) (w2.drewN k) := fun k => by
        have h := (HF.out.1.same (w' := w2.drewN k) rfl).lookup enc_N Try.underlying108 zero_in (a := q) hn9 false
        rw [mget_mapv, HCT.out, mget_put, if_pos rfl, if_neg (by simp)] at h
        exact h
      have c0 := hs2.blk.cell 0
      simp only [List.getElem?_cons_zero] at c0
      have lS := hs2.blk.lt
      have hd : decide (((cv + 1 : Nat) : Int) > (x : Int)) = false := decide_eq_false (by omega)
      rw [Int.natCast_add, Int.cast_ofNat_Int] at lkM hd
      clear hs2 LK lkm'
      go_quiet (fail)
      go_wp2_with (fail)
      exact ⟨⟨j + 1, by omega, by go_num, HF.out.1, ⟨HF.out.2.os, HF.out.2.tape, HF.out.2.output, HF.out.2.size, HF.out.2.block⟩⟩, by simp [intOf]; omega⟩
    · obtain ⟨hb9⟩ : ∃ _ : Below w.heap.size w wr, True := ⟨HI.out.2, trivial⟩
      have HB9 := Lib.hid hb9
      clear hb9 HI
      obtain ⟨wo, hwo⟩ : ∃ wo, wo = wr := ⟨_, rfl⟩
      subst hwo
      have hO : ShelfAt wo S P N s := HS.out.below HB9.out
      have HO := Lib.hid hO
      clear hO
      go_wp2_with (fail)
      go_loopw [35] (fun v wr => ∃ j : Nat, j ≤ n ∧ v = .int .i64 j ∧ Hid (ShelfAt wr S P N (freeL s (out.take j)) ∧ GrownIn (OwnPN P N) w wr)) (fun v _ => n - (intOf v).toNat)
      case atStart => exact ⟨0, Nat.zero_le _, rfl, HO.out, GrownIn.of_below HB9.out⟩
      case round =>
        obtain ⟨j, hj, rfl, HI⟩ := hrel
        by_cases hlt : j < n
        · have hjo : j < out.length := by have := Hn.out; omega
          have hjl : j < l.length := by have := Hnl.out; omega
          obtain ⟨b, off, u, rfl, hD, hu, hc⟩ := HR.out.at_ hlt
          rw [nat64_at out j hjo] at hu
          injection hu with hu
          subst hu
          have g0 := (Same.of_in (D := fun q => q ≠ P ∧ q ≠ N) HI.out.2 fun b hb _ => by unfold OwnPN; omega).cell hD hc
          have hnn := HN.out.2 j l[j] out[j] (List.getElem?_eq_getElem hjl) (List.getElem?_eq_getElem hjo)
          have hnt : Nums s (l.take j) (out.take j) := ⟨by rw [List.length_take, List.length_take, HN.out.1], fun i a k ha hk => by
            have hi : i < j := by
              rcases Nat.lt_or_ge i j with h | h
              · exact h
              · rw [List.getElem?_eq_none (by rw [List.length_take]; omega)] at ha; cases ha
            rw [List.getElem?_take_of_lt hi] at ha hk
            exact HN.out.2 i a k ha hk⟩
          have hcb : ∀ b, (l.take j).count b ≤ H b := fun b => Nat.le_trans ((List.take_sublist j l).count_le b) (HC.out b)
          obtain ⟨k1, k2⟩ := HK.out.freeL hnt hcb
          have h0 : 0 < minuss H (l.take j) l[j] := by
            have h1 : (l.take (j + 1)).count l[j] ≤ H l[j] := Nat.le_trans ((List.take_sublist (j + 1) l).count_le _) (HC.out _)
            rw [List.take_succ_eq_append_getElem hjl, List.count_append, List.count_singleton_self] at h1
            unfold minuss
            omega
          obtain ⟨x, hx, hxH, _⟩ := k1.bytes (k2 _ _ hnn h0)
          have hx6 : x ≤ 1000000 := by rw [hxH]; unfold minuss; have := H6.out l[j]; omega
          have DR := Lib.hid (drop_any wr S P N _ out[j] l[j] x HI.out.1 hx hx6 (H32.out _ (List.getElem_mem hjl)))
          have hft := freeL_take s out j hjo
          generalize out[j] = q at g0 DR hft
          have Hft := Lib.hid hft
          clear hc hnn hnt hcb k1 k2 h0 hx hxH hx6 hft
          go_wp2_with (fail)
          refine DR.out.mono ?_
          rintro e w2 ⟨rfl, ha2, hg2⟩
          have HA := Lib.hid (And.intro ha2 (HI.out.2.trans hg2 fun _ h => .inl h))
          clear ha2 hg2
          go_wp2_with (fail)
          exact ⟨⟨j + 1, by omega, by go_num, by rw [Hft.out]; exact HA.out⟩, by simp [intOf]; omega⟩
        · have hall : out.take j = out := List.take_of_length_le (by have := Hn.out; omega)
          have h1 := HI.out
          rw [hall] at h1
          have H1 := Lib.hid h1
          clear hall h1 HI
          go_wp2_with (fail)
          go_ret
          exact ⟨rfl, H1.out.1, H1.out.2⟩
/-- .. where nothing is held -/
theorem frees_none (w : World) (S P N : Nat) (A : Option Addr) (n c : Nat) (out : List Nat) (ns : List (Bs × Nat)) (hs : ShelfAt w S P N ⟨[], ns⟩) (hr : Reads w Any 1 A n (nums (nat64 out))) (hn : n = out.length) (h0 : 0 < n) (hn6 : n ≤ 1000000) (hle : ∀ k ∈ out, k ≤ 1000000000) :
    Calls Try.prog 26 #[.pointer (some ⟨S, 0, none⟩), .slice A n c] w fun e w' => e = .returned (.int .i64 4) ∧ Below w.heap.size w w' := by
  obtain ⟨b, off, u, rfl, hD, hu, hc⟩ := hr.at_ h0
  have ho : 0 < out.length := by omega
  rw [nat64_at out 0 ho] at hu
  injection hu with hu
  subst hu
  have hq9 := hle _ (List.getElem_mem ho)
  generalize out[0] = q at hc hq9
  have HS := Lib.hid hs
  have hm1 := @run_makeMap Try.prog
  have fl := fld1
  simp only [Nat.add_zero] at hc
  clear hs hr hn hle
  go_enter Try.func26, Try.ntmps26
  go_wp2_with (fail)
  obtain ⟨M, hM⟩ : ∃ M, M = w.heap.size := ⟨_, rfl⟩
  obtain ⟨W, hW⟩ : ∃ W, W = w.alloc (.map #[] 0) := ⟨_, rfl⟩
  have hm0 : MapOf encN okN W M [] := by rw [hW, hM]; exact MapOf.new w
  have hbW : Below w.heap.size w W := by rw [hW]; exact (Below.refl _ _).alloc (Nat.le_refl _) _
  have hcW := (Same.any (D := Any) hbW).cell trivial hc
  have hsW : ShelfAt W S P N ⟨[], ns⟩ := HS.out.below hbW
  rw [← hM, ← hW]
  have HM := Lib.hid hM
  have HM0 := Lib.hid hm0
  have HB := Lib.hid hbW
  have lb := lt_of_cell hcW
  have lkm : (Instr.lookup 108 (.map (some M)) (.int .i64 (q : Int)) false).run Try.prog W = .ok (.int .i64 0) W := hm0.lookup enc_N Try.underlying108 zero_in (a := q) hq9 false
  clear hc hM hW hm0 hbW hsW
  refine wp_loop_rounds 1 ?_
  rw [rounds_succ]
  go_wp2_with (refine wpList_mupdate _ rfl (.tmp 17) (.tmp 18) (.tmp 20) _ rfl enc_N Try.underlying108 (b := M) (key := q) rfl (by exact HM0.out) rfl hq9 ?_; intro w2 hm2 hg2; have hm3 : MapOf encN okN w2 M [(q, .int .i64 1)] := (by exact hm2); have hb2 : Below w.heap.size w w2 := HB.out.grown hg2 HB.out.size (fun k hk => by injection hk with hk; have := HM.out; omega); have HF := Lib.hid (And.intro hm3 hb2); have hs2 : ShelfAt w2 S P N ⟨[], ns⟩ := HS.out.below hb2; clear hm2 hg2 hm3 hb2)
  have lkP := fun k => hs2.look q hq9 (b := []) (x := 0) rfl (w2.drewN k) rfl
  have lkM : ∀ k, (Instr.lookup 108 (.map (some M)) (.int .i64 (q : Int)) false).run Try.prog (w2.drewN k) = .ok (.int .i64 1) (w2.drewN k) := fun k => by
    have h := (HF.out.1.same (w' := w2.drewN k) rfl).lookup enc_N Try.underlying108 zero_in (a := q) hq9 false
    rw [if_neg (by simp)] at h
    simp only [mget, List.find?, decide_true] at h
    exact h
  have c0 := hs2.blk.cell 0
  simp only [List.getElem?_cons_zero] at c0
  have lS := hs2.blk.lt
  clear hs2 lkm
  go_quiet (fail)
  go_wp2_with (fail)
  go_ret
  exact ⟨rfl, ⟨HF.out.2.os, HF.out.2.tape, HF.out.2.output, HF.out.2.size, HF.out.2.block⟩⟩
end Go.Proofs.Yteojmmjanjilaaa
