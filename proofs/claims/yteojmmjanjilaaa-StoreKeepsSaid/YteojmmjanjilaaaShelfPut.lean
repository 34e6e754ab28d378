/- Contracts of (*Shelf).free and Put. -/
import Derived.Test.YteojmmjanjilaaaPart41
set_option linter.unusedVariables false
namespace Go.Proofs.Yteojmmjanjilaaa
open Go.RowKit Go.Mem Go.Chunk Go.Maps
section
variable {w w' : World} {S P N : Nat} {s s' : Shf}
theorem ShelfAt.some_ (h : ShelfAt w S P N s) {n : Nat} {b : Bs} {x : Nat} (hg : mget s.ps n = some (b, x)) : n ≤ 1000000000 := by
  obtain ⟨es, clock, _, _, _, hk⟩ := h.ps
  exact hk (n, pv (b, x)) (List.mem_map.2 ⟨_, mget_mem hg, rfl⟩)
theorem ShelfAt.look (h : ShelfAt w S P N s) (n : Nat) (hn : n ≤ 1000000000) {b : Bs} {x : Nat} (hg : (mget s.ps n).getD ([], 0) = (b, x)) (W : World) (hW : W.heap[P]? = w.heap[P]?) :
    (Instr.lookup 85 (.map (some P)) (.int .i64 (n : Int)) false).run Try.prog W = .ok (.agg #[.string ⟨b.toArray⟩, .int .i64 x]) W := by
  have := h.lookP n hn false W hW
  rw [hg] at this
  exact this
theorem ShelfAt.look_ok (h : ShelfAt w S P N s) (n : Nat) (hn : n ≤ 1000000000) {b : Bs} {x : Nat} (hg : (mget s.ps n).getD ([], 0) = (b, x)) {c : Bool} (hc : (mget s.ps n).isSome = c) (W : World) (hW : W.heap[P]? = w.heap[P]?) :
    (Instr.lookup 85 (.map (some P)) (.int .i64 (n : Int)) true).run Try.prog W = .ok (.tuple #[.agg #[.string ⟨b.toArray⟩, .int .i64 x], .bool c]) W := by
  have := h.lookP n hn true W hW
  rw [hg, hc] at this
  exact this
theorem ShelfAt.len_ (h : ShelfAt w S P N s) (ty : TypeId) (W : World) (hW : W.heap[P]? = w.heap[P]?) : (Builtin.len_ #[85] ty #[.map (some P)]).run Try.prog W = .ok (.int .i64 (s.ps.length : Nat)) W := by
  have := (h.ps.same hW).len (P := Try.prog) Try.underlying85 ty
  simpa using this
end
theorem fld1 (a b : Value) (W : World) : (Instr.field 98 (.agg #[a, b]) 1).run Try.prog W = .ok b W := by kernel_rfl
theorem _root_.Go.Mem.GrownIn.drewN {own : Nat → Prop} {w w' : World} (h : GrownIn own w w') (n : Nat) : GrownIn own w (w'.drewN n) := ⟨h.os, h.tape, h.output, h.size, h.block⟩

def FreePost (w : World) (s : Shf) (e : Ending) (w' : World) : Prop := ∃ n : Nat, e = .returned (.int .i64 (n : Nat)) ∧ w = w' ∧ 0 < n ∧ n ≤ s.ps.length + 1 ∧ mget s.ps n = none
set_option maxRecDepth 100000 in
set_option maxHeartbeats 1000000 in
theorem free_any (w : World) (S P N : Nat) (s : Shf) (H : Bs → Nat) (h : ShelfAt w S P N s) (hk : s.Ok H) (hl : s.ps.length ≤ 1000) :
    Calls Try.prog 54 #[.pointer (some ⟨S, 0, none⟩)] w (FreePost w s) := by
  have c0 := h.blk.cell 0
  simp only [List.getElem?_cons_zero] at c0
  have lS := h.blk.lt
  have HS := Lib.hid h
  have HK := Lib.hid hk
  have fl := fld1
  clear h hk
  go_enter Try.func54, Try.ntmps54
  go_wp2
  go_loop [3] (fun v => ∃ n : Nat, 1 ≤ n ∧ n ≤ s.ps.length + 1 ∧ v = .int .i64 (n : Nat) ∧ Hid (∀ i, 1 ≤ i → i < n → (mget s.ps i).isSome)) (fun v => s.ps.length + 1 - (intOf v).toNat)
  case atStart => exact ⟨1, by omega, by omega, rfl, fun i h1 h2 => by omega⟩
  case round =>
    obtain ⟨n, h1, h2, rfl, hu⟩ := hrel
    rcases hg : mget s.ps n with _ | ⟨b, x⟩
    · have lk := HS.out.look n (by omega) (b := []) (x := 0) (by rw [hg]; rfl) w rfl
      have Hg := Lib.hid hg
      clear hg
      go_wp2
      go_ret
      exact ⟨n, rfl, rfl, by omega, h2, Hg.out⟩
    · have lk := HS.out.look n (by omega) (b := b) (x := x) (by rw [hg]; rfl) w rfl
      have hx : 0 < x := (HK.out.pc n b x hg).2.2
      have hlt : n + 1 ≤ s.ps.length + 1 := by
        refine used_le_len s.ps (n + 1) fun i h3 h4 => ?_
        rcases Nat.lt_or_ge i n with h5 | h5
        · exact hu.out i h3 h5
        · rw [show i = n by omega, hg]; rfl
      have Hg := Lib.hid hg
      clear hg
      go_wp2
      go_round
      case rel =>
        refine ⟨n + 1, by omega, hlt, by go_num, fun i h3 h4 => ?_⟩
        rcases Nat.lt_or_ge i n with h5 | h5
        · exact hu.out i h3 h5
        · rw [show i = n by omega, Hg.out]; rfl
      case measure => simp [intOf]; omega

def PutPost (w : World) (S P N : Nat) (s : Shf) (b : Bs) (e : Ending) (w' : World) : Prop :=
  ∃ n s', e = .returned (.tuple #[.int .i64 (n : Nat), .int .i64 0]) ∧ ShelfAt w' S P N s' ∧ PutRel s b n s' ∧ n ≤ 1000000000 ∧ GrownIn (OwnPN P N) w w'
set_option maxRecDepth 100000 in
set_option maxHeartbeats 2000000 in
theorem put_any (w : World) (S P N : Nat) (s : Shf) (H : Bs → Nat) (A : Option Addr) (n c : Nat) (b : Bs) (hs : ShelfAt w S P N s) (hk : s.Ok H) (hl : s.ps.length ≤ 500) (h5 : (mget s.ns b).isSome ∨ s.ps.length < 500) (hH : H b < 1000000)
    (hr : Reads w (fun q => q ≠ P ∧ q ≠ N) 1 A n (u8s b)) (hn : n ≤ 32) :
    Calls Try.prog 35 #[.pointer (some ⟨S, 0, none⟩), .slice A n c] w (PutPost w S P N s b) := by
  have hbl : b.length ≤ 65536 := by have := hr.len; rw [u8s_length] at this; omega
  have HS := Lib.hid hs
  have HK := Lib.hid hk
  have HR := Lib.hid hr
  have fl := fld1
  have CV := Lib.hid (fun (W : World) (hW : W.heap = w.heap) => run_convert_reads (P := Try.prog) W 62 9 _ Try.underlying62 (by kernel_rfl) (by kernel_rfl) (c := c) (hr.keep (Same.of_heap hW)))
  have LN := Lib.hid (fun (W : World) (hW : W.heap = w.heap) => hs.lookN b hbl W (by rw [hW]))
  have c0 := hs.blk.cell 0
  have c1 := hs.blk.cell 1
  simp only [List.getElem?_cons_succ, List.getElem?_cons_zero] at c0 c1
  have lS := hs.blk.lt
  have H5 := Lib.hid h5
  have HH := Lib.hid hH
  have Hbl := Lib.hid hbl
  clear hs hk hr h5 hH hbl
  have cvN := fun k => CV.out (w.drewN k) rfl
  have cv0 := CV.out w rfl
  have cv1 := CV.out w.drew rfl
  rcases hg : mget s.ns b with _ | m
  · have hps : s.ps.length < 500 := by
      rcases H5.out with h | h
      · rw [hg] at h; cases h
      · exact h
    rw [hg] at LN
    have lnN := fun k => LN.out (w.drewN k) rfl
    have ln0 := LN.out w rfl
    have ln1 := LN.out w.drew rfl
    simp only [Option.getD_none, Option.isSome_none] at lnN ln0 ln1
    have Hg := Lib.hid hg
    clear hg CV LN
    go_enter Try.func35, Try.ntmps35
    go_wp2
    go_quiet (fail)
    obtain ⟨w1, hw1⟩ : ∃ w1, w1 = w.drewN nq := ⟨_, rfl⟩
    have hh : w1.heap = w.heap := by rw [hw1]; rfl
    have hs1 : ShelfAt w1 S P N s := HS.out.same fun q _ => by rw [hh]
    have hg1 : GrownIn (OwnPN P N) w w1 := by rw [hw1]; exact (GrownIn.refl _ _).drewN _
    have hr1 := HR.out.keep (w' := w1) (Same.of_heap hh)
    have hlen := fun ty => hs1.len_ ty w1 rfl
    have hd : ((s.ps.length : Int) == 500) = false := by simp; omega
    rw [← hw1]
    clear hw1 cvN cv0 cv1 lnN ln0 ln1 HS c0 c1 lS
    have c0 := hs1.blk.cell 0
    have c1 := hs1.blk.cell 1
    simp only [List.getElem?_cons_succ, List.getElem?_cons_zero] at c0 c1
    have lS := hs1.blk.lt
    have HS1 := Lib.hid hs1
    have HR1 := Lib.hid hr1
    have CV1 := Lib.hid (fun (W : World) (hW : W.heap = w1.heap) => run_convert_reads (P := Try.prog) W 62 9 _ Try.underlying62 (by kernel_rfl) (by kernel_rfl) (c := c) (hr1.keep (Same.of_heap hW)))
    have HG1 := hg1
    clear hs1 hr1 hh
    go_wp2_with (go_at_call 54; refine (free_any w1 S P N s H HS1.out HK.out (by omega)).mono ?_; rintro e w' ⟨m, rfl, rfl, hm0, hm1, hm2⟩)
    have hm9 : m ≤ 1000000000 := by omega
    obtain ⟨b0, x, hgx, hx6⟩ : ∃ b0 x, (mget s.ps m).getD ([], 0) = (b0, x) ∧ x < 1000000 := ⟨[], 0, by rw [hm2]; rfl, by omega⟩
    have HAT : Hid (mget s.ns b = some m ∨ (mget s.ns b = none ∧ mget s.ps m = none ∧ 0 < m)) := .inr ⟨Hg.out, hm2, hm0⟩
    have lk0 := HS1.out.look m hm9 hgx w1 rfl
    have lk1 := HS1.out.look m hm9 hgx w1.drew rfl
    have cv0 := CV1.out w1 rfl
    have cv1 := CV1.out w1.drew rfl
    have xw : IntKind.i64.wrap ((x : Int) + 1) = ((x + 1 : Nat) : Int) := (IntWalk.i64_in _ (by omega)).trans (by omega)
    have c0 := HS1.out.blk.cell 0
    simp only [List.getElem?_cons_zero] at c0
    have lS := HS1.out.blk.lt
    go_still_tail 16, (by kernel_rfl)
    change wpList _ _ _ _ _ (World.drew w1)
    go_wp2_with (refine wpList_mupdate _ rfl (.tmp 54) (.tmp 55) (.tmp 66) _ rfl enc_N Try.underlying85 (b := P) (key := m) rfl (by exact HS1.out.ps.same rfl) rfl hm9 ?_; intro w2 hm2 hg2; have hm3 : MapOf encN okN w2 P ((mput s.ps m (b, x + 1)).map fun p => (p.1, pv p.2)) := (by rw [put_map (f := pv)]; exact hm2); have hs2 := ShelfAt.putP (w := w1) (w' := w2) HS1.out hm3 ⟨hg2.os, hg2.tape, hg2.output, hg2.size, hg2.block⟩; have hgg2 := hg1.trans (GrownIn.of_grown (own := OwnPN P N) (w := w1) (w' := w2) ⟨hg2.os, hg2.tape, hg2.output, hg2.size, hg2.block⟩ (by intro k hk; injection hk with hk; exact .inl hk.symm)) (fun _ h => .inl h); clear hm2 hg2 hm3)
    have hr2 := HR.out.keep (w' := w2) (Same.of_in hgg2 fun q hq _ => by unfold OwnPN; rintro (h | h) <;> simp_all)
    have c1 := hs2.blk.cell 1
    simp only [List.getElem?_cons_succ, List.getElem?_cons_zero] at c1
    have lS2 := hs2.blk.lt
    have cw1 := run_convert_reads (P := Try.prog) w2.drew 62 9 _ Try.underlying62 (by kernel_rfl) (by kernel_rfl) (c := c) (hr2.drew)
    have HS2 := Lib.hid hs2
    have HG2 := Lib.hid hgg2
    clear hs2 hgg2 hr2 lk0 lk1 cv0 cv1 c0 lS CV1 HS1
    go_still_tail 7, (by kernel_rfl)
    change wpList _ _ _ _ _ (World.drew w2)
    go_wp2_with (refine wpList_mupdate _ rfl (.tmp 70) (.tmp 72) (.tmp 73) _ rfl enc_B Try.underlying86 (b := N) (key := b) rfl (by exact HS2.out.ns.same rfl) rfl Hbl.out ?_; intro w3 hm3 hg3)
    go_ret2
    have hm4 : MapOf encB okB w3 N ((mput s.ns b m).map fun p => (p.1, encN p.2)) := by rw [put_map (f := encN)]; exact hm3
    have hs3 := ShelfAt.putN (w := w2) (w' := w3) HS2.out hm4 ⟨hg3.os, hg3.tape, hg3.output, hg3.size, hg3.block⟩
    have hg4 := HG2.out.trans (GrownIn.of_grown (own := OwnPN P N) (w := w2) (w' := w3) ⟨hg3.os, hg3.tape, hg3.output, hg3.size, hg3.block⟩ (by intro k hk; injection hk with hk; exact .inr hk.symm)) (fun _ h => .inl h)
    have hx9 : ((mget s.ps m).map (·.2)).getD 0 = x := by
      cases h9 : mget s.ps m with
      | none => rw [h9] at hgx; simp at hgx; simp [hgx.2]
      | some p => rw [h9] at hgx; simp at hgx; simp [hgx]
    exact ⟨m, _, rfl, hs3, ⟨by rw [hx9], rfl, HAT.out⟩, hm9, hg4⟩
  · obtain ⟨hm0, x, hx⟩ := HK.out.num b m hg
    obtain ⟨_, hxH, hx0⟩ := HK.out.pc m b x hx
    have hx6 : x < 1000000 := by have := HH.out; omega
    have hm9 : m ≤ 1000000000 := HS.out.some_ hx
    obtain ⟨b0, hgx⟩ : ∃ b0, (mget s.ps m).getD ([], 0) = (b0, x) := ⟨b, by rw [hx]; rfl⟩
    have HAT : Hid (mget s.ns b = some m ∨ (mget s.ns b = none ∧ mget s.ps m = none ∧ 0 < m)) := .inl hg
    rw [hg] at LN
    have lnN := fun k => LN.out (w.drewN k) rfl
    have ln0 := LN.out w rfl
    have ln1 := LN.out w.drew rfl
    simp only [Option.getD_some, Option.isSome_some] at lnN ln0 ln1
    clear hg CV LN hx hxH
    go_enter Try.func35, Try.ntmps35
    go_wp2
    go_quiet (fail)
    obtain ⟨w1, hw1⟩ : ∃ w1, w1 = w.drewN nq := ⟨_, rfl⟩
    have hh : w1.heap = w.heap := by rw [hw1]; rfl
    have hs1 : ShelfAt w1 S P N s := HS.out.same fun q _ => by rw [hh]
    have hg1 : GrownIn (OwnPN P N) w w1 := by rw [hw1]; exact (GrownIn.refl _ _).drewN _
    have hr1 := HR.out.keep (w' := w1) (Same.of_heap hh)
    have hd : ((x : Int) == 1000000) = false := by simp; omega
    rw [← hw1]
    clear hw1 cvN cv0 cv1 lnN ln0 ln1 HS c0 c1 lS
    have c0 := hs1.blk.cell 0
    simp only [List.getElem?_cons_zero] at c0
    have lS := hs1.blk.lt
    have lk := hs1.look m hm9 hgx w1 rfl
    have HS1 := Lib.hid hs1
    have CV1 := Lib.hid (fun (W : World) (hW : W.heap = w1.heap) => run_convert_reads (P := Try.prog) W 62 9 _ Try.underlying62 (by kernel_rfl) (by kernel_rfl) (c := c) (hr1.keep (Same.of_heap hW)))
    clear hs1 hr1 hh
    go_wp2_with (fail)
    clear lk c0 lS
    have lk0 := HS1.out.look m hm9 hgx w1 rfl
    have lk1 := HS1.out.look m hm9 hgx w1.drew rfl
    have cv0 := CV1.out w1 rfl
    have cv1 := CV1.out w1.drew rfl
    have xw : IntKind.i64.wrap ((x : Int) + 1) = ((x + 1 : Nat) : Int) := (IntWalk.i64_in _ (by omega)).trans (by omega)
    have c0 := HS1.out.blk.cell 0
    simp only [List.getElem?_cons_zero] at c0
    have lS := HS1.out.blk.lt
    go_still_tail 16, (by kernel_rfl)
    change wpList _ _ _ _ _ (World.drew w1)
    go_wp2_with (refine wpList_mupdate _ rfl (.tmp 54) (.tmp 55) (.tmp 66) _ rfl enc_N Try.underlying85 (b := P) (key := m) rfl (by exact HS1.out.ps.same rfl) rfl hm9 ?_; intro w2 hm2 hg2; have hm3 : MapOf encN okN w2 P ((mput s.ps m (b, x + 1)).map fun p => (p.1, pv p.2)) := (by rw [put_map (f := pv)]; exact hm2); have hs2 := ShelfAt.putP (w := w1) (w' := w2) HS1.out hm3 ⟨hg2.os, hg2.tape, hg2.output, hg2.size, hg2.block⟩; have hgg2 := hg1.trans (GrownIn.of_grown (own := OwnPN P N) (w := w1) (w' := w2) ⟨hg2.os, hg2.tape, hg2.output, hg2.size, hg2.block⟩ (by intro k hk; injection hk with hk; exact .inl hk.symm)) (fun _ h => .inl h); clear hm2 hg2 hm3)
    have hr2 := HR.out.keep (w' := w2) (Same.of_in hgg2 fun q hq _ => by unfold OwnPN; rintro (h | h) <;> simp_all)
    have c1 := hs2.blk.cell 1
    simp only [List.getElem?_cons_succ, List.getElem?_cons_zero] at c1
    have lS2 := hs2.blk.lt
    have cw1 := run_convert_reads (P := Try.prog) w2.drew 62 9 _ Try.underlying62 (by kernel_rfl) (by kernel_rfl) (c := c) (hr2.drew)
    have HS2 := Lib.hid hs2
    have HG2 := Lib.hid hgg2
    clear hs2 hgg2 hr2 lk0 lk1 cv0 cv1 c0 lS CV1 HS1
    go_still_tail 7, (by kernel_rfl)
    change wpList _ _ _ _ _ (World.drew w2)
    go_wp2_with (refine wpList_mupdate _ rfl (.tmp 70) (.tmp 72) (.tmp 73) _ rfl enc_B Try.underlying86 (b := N) (key := b) rfl (by exact HS2.out.ns.same rfl) rfl Hbl.out ?_; intro w3 hm3 hg3)
    go_ret2
    have hm4 : MapOf encB okB w3 N ((mput s.ns b m).map fun p => (p.1, encN p.2)) := by rw [put_map (f := encN)]; exact hm3
    have hs3 := ShelfAt.putN (w := w2) (w' := w3) HS2.out hm4 ⟨hg3.os, hg3.tape, hg3.output, hg3.size, hg3.block⟩
    have hg4 := HG2.out.trans (GrownIn.of_grown (own := OwnPN P N) (w := w2) (w' := w3) ⟨hg3.os, hg3.tape, hg3.output, hg3.size, hg3.block⟩ (by intro k hk; injection hk with hk; exact .inr hk.symm)) (fun _ h => .inl h)
    have hx9 : ((mget s.ps m).map (·.2)).getD 0 = x := by
      cases h9 : mget s.ps m with
      | none => rw [h9] at hgx; simp at hgx; simp [hgx.2]
      | some p => rw [h9] at hgx; simp at hgx; simp [hgx]
    exact ⟨m, _, rfl, hs3, ⟨by rw [hx9], rfl, HAT.out⟩, hm9, hg4⟩

end Go.Proofs.Yteojmmjanjilaaa
