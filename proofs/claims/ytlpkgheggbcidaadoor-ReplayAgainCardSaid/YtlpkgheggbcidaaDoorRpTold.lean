/- Contracts of package replay's Told and New, and of slices.Clone at what was said. -/
import Derived.Test.YtlpkgheggbcidaaDoorRpAgain
import Derived.Lib.SliceRun
set_option linter.unusedVariables false
namespace Go.Proofs.YtlpkgheggbcidaaDoor
open Go.RowKit Go.Mem Go.Rp Go.Maps
/-- a row that the call has made -/
def RowAt {α : Type} (e : TypeId) (size : Nat) (f : α → List Value) (w wr : World) (v : Value) (l : List α) : Prop := Seg wr e size v l.length (cat f l) ∧ (∀ b, v.ownBlock = some b → w.heap.size ≤ b) ∧ Below w.heap.size w wr
section
variable {α : Type} {e : TypeId} {size : Nat} {f : α → List Value} {w wr w2 : World} {v v2 : Value} {l : List α}
theorem RowAt.nil (w : World) : RowAt e size f w w (.slice none 0 0) [] := ⟨Seg.nil _ _ _, fun b hb => by simp [Value.ownBlock] at hb, Below.refl _ _⟩
theorem RowAt.form (h : RowAt e size f w wr v l) : ∃ A c, v = .slice A l.length c := by
  obtain ⟨A, c, e, _⟩ := h.1.form
  exact ⟨A, c, e⟩
theorem RowAt.push (h : RowAt e size f w wr v l) (x : α) {o : Obj} (hs : Seg w2 e size v2 (l.length + 1) (cat f l ++ f x)) (hg : (wr.alloc o).grownBy w2 v.ownBlock) (hat : ∀ b, v2.ownBlock = some b → v.ownBlock = some b ∨ (wr.alloc o).heap.size ≤ b) : RowAt e size f w w2 v2 (l ++ [x]) := by
  have hsz := h.2.2.size
  have hb1 := h.2.2.alloc hsz o
  have hsz1 := hb1.size
  refine ⟨by rw [cat_app, cat_one, List.length_append, List.length_singleton]; exact hs, fun b hb => ?_, hb1.grown hg hsz1 fun k hk => h.2.1 k hk⟩
  rcases hat b hb with h1 | h1
  · exact h.2.1 b h1
  · omega
end
theorem app_none (w : World) (A : Option Addr) (c : Nat) (g : Nat) (ty : TypeId) : (Builtin.append_ #[39, 39] ty #[.slice (some ⟨g, 0, none⟩) 0 0, .slice A 0 c]).run Tryd.prog w = .ok (.slice (some ⟨g, 0, none⟩) 0 0) w := by
  obtain ⟨i, hi, _, _⟩ := info_parts info_sd
  cases A <;> simp [Builtin.append_, run_underlying Tryd.underlying39, sizeOf, typeInfo, hi, Builtin.lenOf, Builtin.firstCells, loadCells, loadCellsFrom, storeCells]
def ClonePost (w : World) (n : Nat) (l : List (Int × Int)) (e : Ending) (w' : World) : Prop := ∃ A c, e = .returned (.slice A n c) ∧ n ≤ c ∧ c ≤ maxLen ∧ Reads w' (fun b => w.heap.size ≤ b) 2 A n (cat sdC l) ∧ Below w.heap.size w w'
set_option maxRecDepth 100000 in
set_option maxHeartbeats 2000000 in
theorem clone_any (w : World) (A : Option Addr) (n c : Nat) (l : List (Int × Int)) (hr : Reads w Any 2 A n (cat sdC l)) (hn : n = l.length) (hn1 : n ≤ 900000) :
    Calls Tryd.prog 25 #[.slice A n c] w (ClonePost w n l) := by
  have qT : ∀ (w : World) (a : Option Addr) (n c n' c' : Nat), (binOp .eql 39 (.slice a n c) (.slice none n' c')).run Tryd.prog w = .ok (.bool a.isNone) w := fun w a n c n' c' => Lib.run_eql_slice_nil w _ _ a n c n' c' Tryd.underlying39
  rcases A with _ | ad
  · have h0 := hr.nil_len
    subst h0
    have hl : l = [] := List.eq_nil_of_length_eq_zero hn.symm
    subst hl
    clear hr hn
    go_enter Tryd.func25, Tryd.ntmps25
    go_wp2_with (fail)
    go_ret
    exact ⟨none, 0, rfl, Nat.le_refl _, Nat.zero_le _, Reads.empty, Below.refl _ _⟩
  · obtain ⟨w1, hw1⟩ : ∃ W, W = w.alloc (.cells #[] 45) := ⟨_, rfl⟩
    have b1 : Below w.heap.size w w1 := by rw [hw1]; exact (Below.refl _ _).alloc (Nat.le_refl _) _
    have sg : Seg w1 45 2 (.slice (some ⟨w.heap.size, 0, none⟩) 0 0) 0 [] := ⟨by simp, .inr ⟨w.heap.size, 0, 0, [], rfl, by rw [hw1]; exact Blk.new w _ [], Nat.le_refl _, Nat.zero_le _, by simp, by simp⟩⟩
    rcases Nat.eq_zero_or_pos n with h0 | h0
    · subst h0
      have hl : l = [] := List.eq_nil_of_length_eq_zero hn.symm
      subst hl
      have hap := app_none w1 (some ad) c w.heap.size
      have HB := Lib.hid b1
      have HW := Lib.hid hw1
      rw [hw1] at hap
      clear hr hn sg b1 hw1
      go_enter Tryd.func25, Tryd.ntmps25
      go_wp2_with (at_builtin; refine wpList_app_run rfl (.tmp 5) (.tmp 6) rfl rfl rfl (hap _) ?_; clear hap)
      go_ret
      rw [← HW.out]
      exact ⟨some ⟨w.heap.size, 0, none⟩, 0, rfl, Nat.le_refl _, Nat.zero_le _, Reads.empty, HB.out⟩
    · obtain ⟨v2, w2, hap, sg2, hg2, hat2⟩ := sg.app el_sd (hr.keep (Same.any b1)) h0 (cat_ones sdC_one l) (by omega) (c := c) 39
      obtain ⟨A2, c2, rfl, h1, h2⟩ := sg2.form
      have hb2 : Below w.heap.size w w2 := b1.grown hg2 b1.size fun k hk => by
        have e : w.heap.size = k := by injection hk
        omega
      obtain ⟨A7, c7, e7, _, _, hrd⟩ := sg2.reads
      injection e7 with e1 e2 e3
      subst e1 e3
      have FIN : ClonePost w n l (.returned (.slice A2 (0 + n) c2)) w2 := by
        refine ⟨A2, c2, by rw [Nat.zero_add], by omega, h2, ?_, hb2⟩
        rw [Nat.zero_add, List.nil_append] at hrd
        refine hrd.imp (by omega) fun b hb _ => ?_
        rcases hat2 b (by rw [Nat.zero_add]; exact hb) with h3 | h3
        · have e : w.heap.size = b := by injection h3
          omega
        · exact Nat.le_trans b1.size h3
      rw [Nat.zero_add] at hap FIN
      have HF := Lib.hid FIN
      rw [hw1] at hap
      clear FIN sg2 hg2 hat2 hb2 hrd h1 h2 hr hn sg b1 hw1
      go_enter Tryd.func25, Tryd.ntmps25
      go_wp2_with (at_builtin; refine wpList_app_run rfl (.tmp 5) (.tmp 6) rfl rfl rfl hap ?_; clear hap)
      go_ret
      exact HF.out
/-- how the actors ended -/
def hows (s : Wd) : List Bs := s.acs.map (·.how)
def stC (s : Bs) : List Value := [bst s]
theorem stC_len (s : Bs) : (stC s).length = 1 := rfl
theorem stC_one (s : Bs) : ∀ u ∈ stC s, u.oneCell' = true := by
  intro u hu
  simp only [stC, List.mem_singleton] at hu
  subst hu
  rfl
def ToldPost (w : World) (s : Wd) (e : Ending) (w' : World) : Prop := ∃ A c HA hc, e = .returned (.tuple #[.slice A s.said.length c, .slice HA s.acs.length hc]) ∧ s.said.length ≤ c ∧ c ≤ maxLen ∧ Reads w' (fun b => w.heap.size ≤ b) 2 A s.said.length (cat sdC s.said) ∧ s.acs.length ≤ hc ∧ hc ≤ maxLen ∧ Reads w' (fun b => w.heap.size ≤ b) 1 HA s.acs.length (cat stC (hows s)) ∧ Below w.heap.size w w'
set_option maxRecDepth 100000 in
set_option maxHeartbeats 4000000 in
theorem told_any (w : World) (B T : Nat) (col : Nat → Cl) (s : Wd) {A : Option Addr} {c : Nat} {av : Value} {ps : List Value} {M : Nat} {l : List ((Nat × Nat) × Value)} {sv : Value} (h : WdW w B T col s A c av ps M l sv) {n : Nat} (hI : Inv s n) (hn : n ≤ 300000) :
    Calls Tryd.prog 10 #[.pointer (some ⟨T, 0, none⟩)] w (ToldPost w s) := by
  obtain ⟨AA, ac, rfl, hac, hcm⟩ := h.rw_.form
  obtain ⟨SA, sc, rfl, hsc, hscm⟩ := h.sd.form
  obtain ⟨L, hLe⟩ : ∃ L, L = s.acs.length := ⟨_, rfl⟩
  have hL30 := hI.acs
  have c1 := h.blk.cell 1
  simp only [List.getElem?_cons_succ, List.getElem?_cons_zero] at c1
  have lT := h.blk.lt
  rw [← hLe] at c1 hac hL30
  have H := Lib.hid (And.intro h (And.intro hI hn))
  have HL := Lib.hid hLe
  clear h hI hLe hn
  go_enter Tryd.func10, Tryd.ntmps10
  go_wp2_with (fail)
  go_loopw [4, 12] (fun v i wr => ∃ k : Nat, k ≤ L ∧ i = .int .i64 k ∧ Hid (RowAt 9 1 stC w wr v ((hows s).take k))) (fun _ i _ => L - (intOf i).toNat)
  case atStart => exact ⟨0, Nat.zero_le _, rfl, RowAt.nil w⟩
  case round =>
    obtain ⟨k, hk, rfl, HO⟩ := hrel
    have hlen : ((hows s).take k).length = k := by rw [List.length_take]; simp only [hows, List.length_map]; have := HL.out; omega
    obtain ⟨A3, c3, rfl⟩ := HO.out.form
    rw [hlen] at HO ⊢
    have HLE := Lib.hid hlen
    clear hlen
    by_cases hlt : k < L
    · have hk2 : k < s.acs.length := by rw [← HL.out]; exact hlt
      obtain ⟨b, off, S, Y, bv, rfl, hcell, hp, hA⟩ := H.out.1.ptr (List.getElem?_eq_getElem hk2)
      have bS := hA.blk.below HO.out.2.2 hA.blk.lt
      have hcl := (HO.out.2.2.cell (p := ⟨b, off + k, none⟩) (lt_of_cell hcell)).trans hcell
      have s6 := bS.cell 6
      simp only [acC, List.getElem?_cons_succ, List.getElem?_cons_zero] at s6
      have lS := bS.lt
      have lb := lt_of_cell hcl
      obtain ⟨hw, hhw⟩ : ∃ hw, hw = (s.acs[k]).how := ⟨_, rfl⟩
      rw [← hhw] at s6
      have etk : Hid ((hows s).take (k + 1) = (hows s).take k ++ [hw]) := by
        unfold Hid
        have hl : k < (hows s).length := by simpa [hows] using hk2
        rw [List.take_succ_eq_append_getElem hl, hhw]
        simp [hows]
      have i1 : (k : Int) < (L : Int) := by omega
      have i0 : (0 : Int) ≤ (k : Int) := by omega
      obtain ⟨HV, hHV⟩ : ∃ HV : ByteArray, HV = ⟨hw.toArray⟩ := ⟨_, rfl⟩
      have ebs : bst hw = .string HV := by rw [hHV]; rfl
      rw [ebs] at s6
      have rd : Reads (wr.alloc (.cells #[.string HV] 9)) Any 1 (some ⟨wr.heap.size, 0, none⟩) 1 (stC hw) := by
        unfold stC
        rw [ebs]
        exact Reads.new wr [.string HV] 1 1 9 Any trivial rfl
      obtain ⟨v2, w2, hap, hs2, hg2, hat2⟩ := (HO.out.1.alloc_ (.cells #[.string HV] 9)).app el_st rd (by omega) (stC_one _) (by have := HLE.out; omega) (c := 1) 40
      have HP := Lib.hid (HO.out.push hw hs2 hg2 hat2)
      clear hs2 hg2 hat2 rd ebs hHV hhw hcell hp hA bS HO
      go_wp2_with (at_builtin; refine wpList_app_run rfl (.tmp 16) (.tmp 21) rfl rfl rfl hap ?_; clear hap)
      go_roundw
      case rel =>
        first
          | exact ⟨k + 1, by omega, by go_num, by unfold Hid; rw [etk.out]; exact HP.out⟩
          | ((repeat apply Exists.intro); exact ⟨⟨k + 1, by omega, by go_num, by unfold Hid; rw [etk.out]; exact HP.out⟩, rfl⟩)
      case measure => simp [intOf]; omega
    · obtain rfl : k = L := by omega
      have hb := HO.out.2.2
      have t3 := (H.out.1.blk.below hb H.out.1.blk.lt).cell 3
      simp only [List.getElem?_cons_succ, List.getElem?_cons_zero] at t3
      have lTr := (H.out.1.blk.below hb H.out.1.blk.lt).lt
      obtain ⟨A7, c7, e7, _, _, hrs⟩ := H.out.1.sd.reads
      injection e7 with e1 e2 e3
      subst e1 e3
      obtain ⟨K, hK⟩ : ∃ K, K = s.said.length := ⟨_, rfl⟩
      have CL := clone_any wr SA s.said.length sc s.said ((hrs.keep (Same.any hb)).imp (by omega) fun _ _ _ => trivial) rfl (by have := H.out.2.1.said; have := H.out.2.2; omega)
      rw [← hK] at CL t3 hsc
      have HC := Lib.hid CL
      have HK := Lib.hid hK
      clear CL hK hrs hb c1 lT
      go_wp2_with (fail)
      refine HC.out.mono ?_
      rintro e w2 ⟨A2, c2, rfl, h1, h2, h3, h4⟩
      have HF := Lib.hid (And.intro h1 (And.intro h2 (And.intro h3 h4)))
      clear h1 h2 h3 h4
      go_wp2_with (fail)
      go_ret2
      have ho := HO.out
      obtain ⟨A8, c8, e8, g1, g2, g3⟩ := ho.1.reads
      have e9 : (hows s).take k = hows s := List.take_of_length_le (by simp only [hows, List.length_map]; rw [HL.out]; exact Nat.le_refl _)
      rw [HLE.out] at e8 g1 g3
      injection e8 with e1 _ e3
      subst e1 e3
      rw [e9] at g3
      have hb := ho.2.2
      obtain ⟨k1, k2, k3, k4⟩ := HF.out
      refine ⟨A2, c2, A3, c3, by rw [← HK.out, ← HL.out]; rfl, by rw [← HK.out]; exact k1, k2, ?_, by rw [← HL.out]; exact g1, g2, ?_, hb.trans (k4.mono hb.size)⟩
      · rw [← HK.out]
        exact k3.imp (by omega) fun b hx _ => Nat.le_trans hb.size hx
      · rw [← HL.out]
        exact ((g3.imp (D' := fun b => w.heap.size ≤ b) (by omega) fun b hx _ => ho.2.1 b hx).keep (Same.any k4))
end Go.Proofs.YtlpkgheggbcidaaDoor
