/- Contract of package replay's Spawn. -/
import Derived.Test.YtlpkgheggbcidaaDoorRpMeth
set_option linter.unusedVariables false
namespace Go.Proofs.YtlpkgheggbcidaaDoor
open Go.RowKit Go.Mem Go.Rp Go.Maps
/-- a world has gone on; its actors lie where they lay -/
def WdFrom (w : World) (B T : Nat) (col : Nat → Cl) (ps : List Value) (s' : Wd) (w' : World) : Prop := ∃ col' A c av ps' M l sv, WdW w' B T col' s' A c av ps' M l sv ∧ ps <+: ps' ∧ Stp col col' w w'
def SpawnPost (w : World) (B T : Nat) (col : Nat → Cl) (ps : List Value) (r : Wd × Int) (e : Ending) (w' : World) : Prop := ∃ k : Int, e = .returned (.tuple #[.int .i64 r.2, .int .i64 k]) ∧ (k ≠ 0 → r.2 = 0) ∧ WdFrom w B T col ps r.1 w'
theorem spawn_end {w w1 w3 w4 : World} {B T : Nat} {col : Nat → Cl} {s : Wd} {A : Option Addr} {c : Nat} {av : Value} {ps : List Value} {M : Nat} {l : List ((Nat × Nat) × Value)} {sv v4 : Value} (h : WdW w B T col s A c av ps M l sv) {t : Ty} (ht : ToyAt w1 B w.heap.size t) (hb : Below w.heap.size w w1)
    (hw3 : w3 = ((w1.alloc (.cells #[.iface 166 (.pointer (some ⟨w.heap.size, 0, none⟩)), .slice none 0 0, .bool false, .int .i64 0, .int .i64 0, .bool false, .string ⟨#[]⟩] 80)).alloc (.cells #[.pointer (some ⟨w1.heap.size, 0, none⟩)] 76))) (sg4 : Seg w4 76 1 v4 (s.acs.length + 1) (ps ++ [.pointer (some ⟨w1.heap.size, 0, none⟩)])) (hg4 : w3.grownBy w4 av.ownBlock) (hat : ∀ b, v4.ownBlock = some b → av.ownBlock = some b ∨ w3.heap.size ≤ b) :
    WdFrom w B T col ps { s with acs := s.acs ++ [newA t] } (w4.setCell ⟨T, 1, none⟩ v4) := by
  have hb1 : Below w1.heap.size w1 w3 := by rw [hw3]; exact ((Below.refl _ _).alloc (Nat.le_refl _) _).alloc (by simp) _
  have hb3 : Below w.heap.size w w3 := hb.trans (hb1.mono hb.size)
  have h3 := h.below hb3 (.act s.acs.length)
  have bA : Blk w3 w1.heap.size 80 (acC w.heap.size 166 (.slice none 0 0) (newA t)) := by
    rw [hw3]
    exact (Blk.new w1 _ [.iface 166 (.pointer (some ⟨w.heap.size, 0, none⟩)), .slice none 0 0, .bool false, .int .i64 0, .int .i64 0, .bool false, .string ⟨#[]⟩]).alloc _
  have hx : ActAt w3 B (fun b => recol col w.heap.size (.act s.acs.length) b = .act s.acs.length) w1.heap.size (newA t) :=
    ⟨_, _, bA, Seg.nil _ _ _, ht.keep (Same.any hb1) (hb1.block _ ht.lt), recol_new hb.size, recol_new (Nat.le_refl _), fun b hb => by simp [Value.ownBlock] at hb⟩
  have nT : ∀ b, av.ownBlock = some b → b ≠ T := fun b hb e => seg_own h.rw_ h.blk (by decide) (e ▸ hb)
  have bT4 := h3.blk.grown hg4 (fun e => nT T e.symm rfl)
  have nT4 : ∀ b, v4.ownBlock = some b → b ≠ T := fun b hb => by
    rcases hat b hb with h1 | h1
    · exact nT b h1
    · have := h3.blk.lt
      omega
  have hg : GrownIn (fun b => b = T ∨ av.ownBlock = some b) w3 (w4.setCell ⟨T, 1, none⟩ v4) := (GrownIn.of_grown hg4 fun b hb => .inr hb).set (.inl rfl) _
  have := h3.push (S := w1.heap.size) (x := newA t) hg (bT4.put 1 v4) (sg4.keep fun b hb => Below.heap_setCell w4 _ _ b (fun e => nT4 b hb e)) (fun b hb => by
    rcases hat b hb with h1 | h1
    · rw [recol_old (Nat.lt_of_lt_of_le (h.rw_.lt b h1) hb3.size), recol_old (h.rw_.lt b h1)]
      exact h.ca b h1
    · exact recol_new h1) hx
  exact ⟨_, _, _, _, _, _, _, _, this.1, ⟨_, rfl⟩, (Stp.below hb3 _).trans this.2⟩
set_option maxRecDepth 100000 in
set_option maxHeartbeats 2000000 in
theorem spawn_yes (w : World) (B T : Nat) (col : Nat → Cl) (s : Wd) {A : Option Addr} {c : Nat} {av : Value} {ps : List Value} {M : Nat} {l : List ((Nat × Nat) × Value)} {sv : Value} (h : WdW w B T col s A c av ps M l sv) (q : UInt8) (hq : 97 ≤ q.toNat) (SA : Option Addr) (n sc : Nat) (st : List Vl) (hn : n = st.length) (hst : st.length ≤ 1) (hs : Reads w Any 4 SA n (cat vlC st)) (hsc : n ≤ sc) (hn0 : n = 0 → SA = none ∧ sc = 0) (hL : s.acs.length < 30) (t : Ty) (hm : makeT s.tv [q] st (s.acs.length + 1) = some t) :
    Calls Tryd.prog 15 #[.pointer (some ⟨T, 0, none⟩), .string ⟨#[q]⟩, .slice SA n sc] w (SpawnPost w B T col ps ({ s with acs := s.acs ++ [newA t] }, s.acs.length + 1)) := by
  obtain ⟨AA, ac, rfl, hac, hcm⟩ := h.rw_.form
  have c0 := h.blk.cell 0
  have c1 := h.blk.cell 1
  simp only [List.getElem?_cons_succ, List.getElem?_cons_zero] at c0 c1
  have lT := h.blk.lt
  obtain ⟨L, hL2⟩ : ∃ L, L = s.acs.length := ⟨_, rfl⟩
  have MK := make_any w B A c s.tv h.tv h.lB q hq SA n sc st hn hst hs hsc hn0 (s.acs.length + 1)
  rw [hm] at MK
  rw [← hL2] at MK c1 hac hL ⊢
  have e30 : ((L : Int) == 30) = false := by simp; omega
  have hM := fun f => meth_make f A s.tv.length c w
  have H := Lib.hid (And.intro h hL2)
  have HMK := Lib.hid MK
  clear h hL2 MK hn hst hs hsc hn0 hm
  go_enter Tryd.func15, Tryd.ntmps15
  go_wp2_with (fail)
  refine HMK.out.mono ?_
  rintro e w1 ⟨⟨rfl, ht⟩, hb⟩
  obtain ⟨h, hL2⟩ := H.out
  have hb1 : Below w1.heap.size w1 ((w1.alloc (.cells #[.iface 166 (.pointer (some ⟨w.heap.size, 0, none⟩)), .slice none 0 0, .bool false, .int .i64 0, .int .i64 0, .bool false, .string ⟨#[]⟩] 80)).alloc (.cells #[.pointer (some ⟨w1.heap.size, 0, none⟩)] 76)) := ((Below.refl _ _).alloc (Nat.le_refl _) _).alloc (by simp) _
  have hb3 : Below w.heap.size w ((w1.alloc (.cells #[.iface 166 (.pointer (some ⟨w.heap.size, 0, none⟩)), .slice none 0 0, .bool false, .int .i64 0, .int .i64 0, .bool false, .string ⟨#[]⟩] 80)).alloc (.cells #[.pointer (some ⟨w1.heap.size, 0, none⟩)] 76)) := hb.trans (hb1.mono hb.size)
  have h3 := h.below hb3 (.act L)
  have sg := h3.rw_
  have rd : Reads ((w1.alloc (.cells #[.iface 166 (.pointer (some ⟨w.heap.size, 0, none⟩)), .slice none 0 0, .bool false, .int .i64 0, .int .i64 0, .bool false, .string ⟨#[]⟩] 80)).alloc (.cells #[.pointer (some ⟨w1.heap.size, 0, none⟩)] 76)) Any 1 (some ⟨w1.heap.size + 1, 0, none⟩) 1 [.pointer (some ⟨w1.heap.size, 0, none⟩)] := by
    have := Reads.new (w1.alloc (.cells #[.iface 166 (.pointer (some ⟨w.heap.size, 0, none⟩)), .slice none 0 0, .bool false, .int .i64 0, .int .i64 0, .bool false, .string ⟨#[]⟩] 80)) [.pointer (some ⟨w1.heap.size, 0, none⟩)] 1 1 76 Any trivial rfl
    simpa using this
  obtain ⟨v4, w4, hap, sg4, hg4, hat4⟩ := sg.app el_ac rd (by omega) (by intro u hu; simp at hu; subst hu; rfl) (by omega) (c := 1) 72
  obtain ⟨A4, c4, rfl, _, _⟩ := sg4.form
  rw [← hL2] at hap
  have FIN := Lib.hid (spawn_end h ht hb rfl sg4 hg4 hat4)
  have nT : (Value.slice AA s.acs.length ac).ownBlock ≠ some T := seg_own h.rw_ h.blk (by decide)
  have bT4 := h3.blk.grown hg4 (fun e => nT e.symm)
  have c1' := (h.below hb (.act L)).blk.cell 1
  have d1 := bT4.cell 1
  have g1 := bT4.frozen 1
  simp only [List.getElem?_cons_succ, List.getElem?_cons_zero] at c1' d1
  rw [← hL2] at c1'
  have lT1 := (h.below hb (.act L)).blk.lt
  have lT4 := bT4.lt
  have HL := Lib.hid hL2
  clear h hL2 ht hb c0 c1 hb1 hb3 h3 sg rd sg4 hg4 hat4 nT bT4 H HMK hM
  go_wp2_with (at_builtin; refine wpList_app_run rfl (.tmp 41) (.tmp 45) rfl rfl rfl hap ?_; clear hap)
  go_ret2
  have h5 := FIN.out
  rw [← HL.out] at h5
  exact ⟨0, by rfl, fun h => absurd rfl h, h5⟩

set_option maxRecDepth 100000 in
set_option maxHeartbeats 2000000 in
theorem spawn_full (w : World) (B T : Nat) (col : Nat → Cl) (s : Wd) {A : Option Addr} {c : Nat} {av : Value} {ps : List Value} {M : Nat} {l : List ((Nat × Nat) × Value)} {sv : Value} (h : WdW w B T col s A c av ps M l sv) (q : UInt8) (hq : 97 ≤ q.toNat) (SA : Option Addr) (n sc : Nat) (st : List Vl) (hn : n = st.length) (hst : st.length ≤ 1) (hs : Reads w Any 4 SA n (cat vlC st)) (hsc : n ≤ sc) (hn0 : n = 0 → SA = none ∧ sc = 0) (hL : s.acs.length = 30) :
    Calls Tryd.prog 15 #[.pointer (some ⟨T, 0, none⟩), .string ⟨#[q]⟩, .slice SA n sc] w (SpawnPost w B T col ps (s, 0)) := by
  obtain ⟨AA, ac, rfl, hac, hcm⟩ := h.rw_.form
  have c0 := h.blk.cell 0
  have c1 := h.blk.cell 1
  simp only [List.getElem?_cons_succ, List.getElem?_cons_zero] at c0 c1
  have lT := h.blk.lt
  obtain ⟨L, hL2⟩ : ∃ L, L = s.acs.length := ⟨_, rfl⟩
  rw [hL] at c1 hac
  have H := Lib.hid h
  clear h hL2 hL hn hst hs hsc hn0
  go_enter Tryd.func15, Tryd.ntmps15
  go_wp2_with (fail)
  go_ret2
  exact ⟨6, rfl, fun _ => rfl, col, _, _, _, _, _, _, _, H.out, List.prefix_refl _, Stp.refl _ _⟩

set_option maxRecDepth 100000 in
set_option maxHeartbeats 2000000 in
theorem spawn_none (w : World) (B T : Nat) (col : Nat → Cl) (s : Wd) {A : Option Addr} {c : Nat} {av : Value} {ps : List Value} {M : Nat} {l : List ((Nat × Nat) × Value)} {sv : Value} (h : WdW w B T col s A c av ps M l sv) (q : UInt8) (hq : 97 ≤ q.toNat) (SA : Option Addr) (n sc : Nat) (st : List Vl) (hn : n = st.length) (hst : st.length ≤ 1) (hs : Reads w Any 4 SA n (cat vlC st)) (hsc : n ≤ sc) (hn0 : n = 0 → SA = none ∧ sc = 0) (hL : s.acs.length < 30) (hm : makeT s.tv [q] st (s.acs.length + 1) = none) :
    Calls Tryd.prog 15 #[.pointer (some ⟨T, 0, none⟩), .string ⟨#[q]⟩, .slice SA n sc] w (SpawnPost w B T col ps (s, 0)) := by
  obtain ⟨AA, ac, rfl, hac, hcm⟩ := h.rw_.form
  have c0 := h.blk.cell 0
  have c1 := h.blk.cell 1
  simp only [List.getElem?_cons_succ, List.getElem?_cons_zero] at c0 c1
  have lT := h.blk.lt
  obtain ⟨L, hL2⟩ : ∃ L, L = s.acs.length := ⟨_, rfl⟩
  have MK := make_any w B A c s.tv h.tv h.lB q hq SA n sc st hn hst hs hsc hn0 (s.acs.length + 1)
  rw [hm] at MK
  rw [← hL2] at MK c1 hac hL
  have e30 : ((L : Int) == 30) = false := by simp; omega
  have hM := fun f => meth_make f A s.tv.length c w
  have H := Lib.hid h
  have HMK := Lib.hid MK
  clear h hL2 MK hn hst hs hsc hn0 hm
  go_enter Tryd.func15, Tryd.ntmps15
  go_wp2_with (fail)
  refine HMK.out.mono ?_
  rintro e w1 ⟨⟨k, rfl, hk⟩, hb⟩
  have HB := Lib.hid hb
  have hk1 : (k == 0) = false := by simpa using hk
  have hk2 : (k != 0) = true := by simpa using hk
  clear hb hM c0 c1
  go_wp2_with (fail)
  go_ret2
  exact ⟨k, rfl, fun _ => rfl, _, _, _, _, _, _, _, _, H.out.below HB.out .base, List.prefix_refl _, Stp.below HB.out _⟩

theorem spawn_any (w : World) (B T : Nat) (col : Nat → Cl) (s : Wd) {A : Option Addr} {c : Nat} {av : Value} {ps : List Value} {M : Nat} {l : List ((Nat × Nat) × Value)} {sv : Value} (h : WdW w B T col s A c av ps M l sv) (q : UInt8) (hq : 97 ≤ q.toNat) (SA : Option Addr) (n sc : Nat) (st : List Vl) (hn : n = st.length) (hst : st.length ≤ 1) (hs : Reads w Any 4 SA n (cat vlC st)) (hsc : n ≤ sc) (hn0 : n = 0 → SA = none ∧ sc = 0) (hL : s.acs.length ≤ 30) :
    Calls Tryd.prog 15 #[.pointer (some ⟨T, 0, none⟩), .string ⟨#[q]⟩, .slice SA n sc] w (SpawnPost w B T col ps (spawnF s [q] st)) := by
  unfold spawnF
  by_cases h30 : s.acs.length = 30
  · rw [if_pos h30]
    exact spawn_full w B T col s h q hq SA n sc st hn hst hs hsc hn0 h30
  · rw [if_neg h30]
    cases hm : makeT s.tv [q] st (s.acs.length + 1) with
    | none => exact spawn_none w B T col s h q hq SA n sc st hn hst hs hsc hn0 (by omega) hm
    | some t => exact spawn_yes w B T col s h q hq SA n sc st hn hst hs hsc hn0 (by omega) t hm
end Go.Proofs.YtlpkgheggbcidaaDoor
