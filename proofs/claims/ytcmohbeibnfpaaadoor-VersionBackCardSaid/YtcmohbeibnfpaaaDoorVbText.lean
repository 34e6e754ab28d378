/- Contract of version.Text. -/
import Derived.Test.YtcmohbeibnfpaaaDoorVbEnv
import Derived.Test.YtcmohbeibnfpaaaDoorVerChk
import Derived.Outline
set_option linter.unusedVariables false
namespace Go.Ver
open Go.Txt Go.Lib
def strs (l : List (List UInt8)) : List Value := l.map fun s => .string ⟨s.toArray⟩
theorem strs_app (a b : List (List UInt8)) : strs (a ++ b) = strs a ++ strs b := by simp [strs]
theorem strs_ones (l : List (List UInt8)) : ∀ u ∈ strs l, u.oneCell' = true := by
  intro u hu
  obtain ⟨s, _, rfl⟩ := List.mem_map.1 hu
  rfl
theorem parts_next {l : List Rg} {k : Nat} (h : k < l.length) : parts (l.take (k + 1)) = parts (l.take k) ++ [part l[k]] := by
  unfold parts
  rw [List.take_succ_eq_append_getElem h, List.map_append]
  rfl
end Go.Ver
namespace Go.Proofs.YtcmohbeibnfpaaaDoor
open Go.RowKit Go.Mem Go.Ver
theorem own_below {w w' : World} {base : Nat} {e : TypeId} {size : Nat} {v : Value} {n : Nat} {xs : List Value} (h : w.ownsRow base e size v n xs) (hb : Below w.heap.size w w') : w'.ownsRow base e size v n xs :=
  h.kept (row := none) ⟨hb.os, hb.tape, hb.output, hb.size, fun k hk _ => hb.block k hk⟩ (Classical.em _)
theorem grown_of_alloc' {w w2 : World} {o : Obj} {row : Option Nat} (h : (w.alloc o).grownBy w2 row) : w.grownBy w2 row :=
  ⟨h.os, h.tape, h.output, Nat.le_trans (by simp) h.size, fun k hk hne => (h.block k (by simp; omega) hne).trans (Below.heap_alloc w o k hk)⟩
theorem bsz (s : List UInt8) : (ByteArray.mk s.toArray).size = s.length := by simp [ByteArray.size]
theorem info_str : (Tryd.prog.info? 9).map (fun i => (i.zero, i.size, i.bytes)) = some (some (.string ⟨#[]⟩), 1, 16) := by kernel_rfl
/-- append of strings onto a row of the call's own -/
theorem app_str (w : World) {ops : Array Oper} {rest : List Oper} {o : Oper} {a : Act} {Q : Exit → Act → World → Prop} (hgd : o.guard = none) (s x : Operand)
    (ho : o.op = .call { callee := .builtin .append, args := #[s, x], argTypes := #[40, 40] })
    {base : Nat} {v : Value} {n : Nat} {xs : List Value} (hown : w.ownsRow base 9 1 v n xs) (hs : a.eval s = v)
    {D : Nat → Prop} {A : Option Addr} {m : Nat} {news : List Value} (hr : Reads w D 1 A m news) {c : Nat} (hx : a.eval x = .slice A m c) (h1 : ∀ u ∈ news, u.oneCell' = true)
    (h63 : n + m ≤ 1099511627776) (hbase : base ≤ w.heap.size)
    (h : ∀ v' w', w'.ownsRow base 9 1 v' (n + m) (xs ++ news) → w.grownBy w' v.ownBlock → (v'.ownBlock = v.ownBlock ∨ v'.ownBlock = some w.heap.size) → wpList Tryd.prog ops Q rest (a.put o.dst v') w') : wpList Tryd.prog ops Q (o :: rest) a w := by
  obtain ⟨i0, hi0, hz0, hz1, hz2⟩ := info_parts info_str
  exact wpList_append_any w hgd s x _ ho base _ i0 _ 1 16 Tryd.underlying40 hi0 hz0 hz1 hz2 rfl (by omega) v n xs hs hown D A m c news hx hr h1 (by simp only [maxLen]; omega) (by omega) hbase h
/-- the row of parts so far -/
structure PartsAt (w wr : World) (l : List (List UInt8)) (A : Option Addr) (n c : Nat) : Prop where
  len : n = l.length
  own : wr.ownsRow w.heap.size 9 1 (.slice A n c) n (strs l)
  be : Below w.heap.size w wr
theorem PartsAt.below {w wr w' : World} {l : List (List UInt8)} {A : Option Addr} {n c : Nat} (h : PartsAt w wr l A n c) (hb : Below wr.heap.size wr w') : PartsAt w w' l A n c := ⟨h.len, own_below h.own hb, h.be.trans (hb.mono h.be.size)⟩
theorem PartsAt.snoc {w wr w2 : World} {l : List (List UInt8)} {A A' : Option Addr} {n c c' : Nat} (h : PartsAt w wr l A n c) (s : List UInt8) (ho : w2.ownsRow w.heap.size 9 1 (.slice A' (n + 1) c') (n + 1) (strs l ++ [.string ⟨s.toArray⟩])) (hg : wr.grownBy w2 (Value.slice A n c).ownBlock) : PartsAt w w2 (l ++ [s]) A' (n + 1) c' :=
  ⟨by rw [List.length_append, ← h.len]; rfl, by rw [strs_app]; exact ho, h.be.grown hg h.be.size (fun k hk => (h.own.lt k hk).1)⟩
theorem join_any (w0 w : World) (A : Option Addr) (n c : Nat) (l : List (List UInt8)) (h : PartsAt w0 w l A n c) (hl : (Lib.join l [44]).length ≤ 100000) (hn : n ≤ 1000) :
    Calls Tryd.prog 14 #[.slice A n c, .string ⟨#[44]⟩] w fun e w' => e = .returned (.string ⟨(Lib.join l [44]).toArray⟩) ∧ Below w.heap.size w w' := by
  obtain ⟨h1, h2, hr⟩ := own_reads (by omega) h.own
  by_cases h0 : n = 0
  · subst h0
    have : l = [] := List.eq_nil_of_length_eq_zero h.len.symm
    subst this
    refine (Tryd.strings_Join_none A c ⟨#[44]⟩ w).mono ?_
    rintro e w' ⟨rfl, rfl⟩
    exact ⟨rfl, Below.refl _ _⟩
  · obtain ⟨b, off, rfl, _, hc⟩ := hr.2 (by omega)
    have hm : (l.map fun s => (⟨s.toArray⟩ : ByteArray)).length = n := by rw [List.length_map]; exact h.len.symm
    have hlt : b < w.heap.size := by
      cases l with
      | nil => exact absurd h.len (by simpa using h0)
      | cons x r => exact lt_of_cell (hc 0 _ rfl)
    have hd : (l.map fun s => (⟨s.toArray⟩ : ByteArray)).map (·.data.toList) = l := by
      rw [List.map_map]
      exact List.map_id'' (fun _ => rfl) l
    have hj := Tryd.strings_Join b off c (l.map fun s => ⟨s.toArray⟩) ⟨#[44]⟩ w (fun j x hx => by
        rw [List.getElem?_map, Option.map_eq_some_iff] at hx
        obtain ⟨s, hs, rfl⟩ := hx
        exact hc j _ (by unfold strs; rw [List.getElem?_map, hs]; rfl)) hlt (by omega) (by omega) (by rw [hd]; exact Nat.le_trans hl (by omega))
    rw [hd, hm] at hj
    exact hj
set_option maxRecDepth 100000 in
set_option maxHeartbeats 4000000 in
theorem text_any (A : Option Addr) (n c : Nat) (l : List Rg) (w : World) (hv : Env w) (hr : Reads w Any 2 A n (rgs l)) (hn : n = l.length) (h : Ok l) (h50 : n ≤ 50) :
    Calls Tryd.prog 5 #[.slice A n c] w fun e w' => e = .returned (.tuple #[.string ⟨(textF l).toArray⟩, .int .i64 0]) ∧ Below w.heap.size w w' := by
  have CK := Lib.hid (check_any A n c l w hr hn h h50)
  have HR := Lib.hid (And.intro hr (And.intro hn h))
  have HV := Lib.hid hv
  clear hr hn h hv
  go_enter Tryd.func5, Tryd.ntmps5
  go_wp2_with (go_at_call 12; refine CK.out.mono ?_; rintro e w1 ⟨rfl, hb1⟩; have H1 := Lib.hid hb1; clear hb1)
  clear CK
  go_loopw [5, 16] (fun v i wr => ∃ k A2 c2, k ≤ n ∧ i = .int .i64 (k : Nat) ∧ v = .slice A2 k c2 ∧ Hid (PartsAt w wr (parts (l.take k)) A2 k c2)) (fun _ i _ => n - (intOf i).toNat)
  case atStart => exact ⟨0, none, 0, Nat.zero_le _, rfl, rfl, ⟨rfl, World.ownsRow_nil _ _ _ _, H1.out⟩⟩
  case round =>
    obtain ⟨k, A2, c2, hk, rfl, rfl, HP⟩ := hrel
    by_cases hlt : k < n
    · have hkl : k < l.length := by have := HR.out.2.1; omega
      obtain ⟨bb, off, rfl, _, c0, c1⟩ := rgs_cells (HR.out.1.keep (Same.any HP.out.be)) hlt HR.out.2.1
      have lb := lt_of_cell c0
      have hr := HR.out.2.2.1 _ (List.getElem_mem hkl)
      have NX := Lib.hid (parts_next hkl)
      generalize l[k] = r at c0 c1 hr NX
      obtain ⟨a, b⟩ := r
      obtain ⟨r1, r2, r3⟩ := hr
      simp only at c0 c1 r1 r2 r3
      obtain ⟨W, hW⟩ : ∃ W, W = wr.alloc (.cells #[.int .i64 (a : Nat), .int .i64 (b : Nat)] 34) := ⟨_, rfl⟩
      have fB : Blk W wr.heap.size 34 [.int .i64 (a : Nat), .int .i64 (b : Nat)] := by rw [hW]; exact Blk.new wr _ _
      have hbW : Below wr.heap.size wr W := by rw [hW]; exact (Below.refl _ _).alloc (Nat.le_refl _) _
      have HPW := Lib.hid (HP.out.below hbW)
      obtain ⟨B, hB⟩ : ∃ B, B = wr.heap.size := ⟨_, rfl⟩
      rw [← hB] at fB
      have HF := Lib.hid fB
      have CA := Lib.hid (fun V (hV : Below w.heap.size w V) => itoa_any a (by omega) V (HV.out.below hV))
      have CB := Lib.hid (fun V (hV : Below w.heap.size w V) => itoa_any b (by omega) V (HV.out.below hV))
      obtain ⟨DA, hDA⟩ : ∃ DA : ByteArray, DA = ⟨(Lib.decDigits a).toArray⟩ := ⟨_, rfl⟩
      obtain ⟨DB, hDB⟩ : ∃ DB : ByteArray, DB = ⟨(Lib.decDigits b).toArray⟩ := ⟨_, rfl⟩
      have sA : DA.size ≤ 4 := by rw [hDA, bsz]; exact Txt.digits_len (by omega) (by omega)
      have sB : DB.size ≤ 4 := by rw [hDB, bsz]; exact Txt.digits_len (by omega) (by omega)
      rw [← hDA] at CA
      rw [← hDB] at CB
      have e0 := fB.cell 0
      have e1 := fB.cell 1
      simp only [List.getElem?_cons_zero, List.getElem?_cons_succ] at e0 e1
      have lB := fB.lt
      clear fB
      by_cases hab : b = a
      · have HX := Lib.hid (show DA = ⟨(Ver.part (a, b)).toArray⟩ from by unfold Ver.part; rw [if_pos hab]; exact hDA)
        have tn : (((b : Nat) : Int) != ((a : Nat) : Int)) = false := by simp; omega
        have tn' : ((b : Nat) != (a : Nat)) = false := by simp; omega
        clear hab hDA hDB r3
        go_upto_region 8 with (fail)
        rw [← hW, ← hB]
        clear hW hB hbW c0 c1 lb
        go_wp2_with (fail)
        refine (CA.out W HPW.out.be).mono ?_
        rintro e w5 ⟨rfl, hb5⟩
        dsimp only
        have f5 := HF.out.below hb5 HF.out.lt
        have g0 := f5.cell 0
        have g1 := f5.cell 1
        simp only [List.getElem?_cons_zero, List.getElem?_cons_succ] at g0 g1
        have lB5 := f5.lt
        have HP5 := Lib.hid (HPW.out.below hb5)
        clear f5 hb5 e0 e1 lB
        have hs5 := HP5.out.be.size
        go_wp2_with (at_builtin; refine app_str _ rfl (.tmp 34) (.tmp 36) rfl (HP5.out.own.alloc (.cells #[.string DA] 9)) rfl (D := Any) (Reads.new (D := Any) w5 [.string DA] 1 1 9 trivial rfl) rfl (by simp [Value.oneCell']) (by omega) (by simp; omega) ?_; intro v1 w9 hown1 hg1 hat1; obtain ⟨A9, c9, rfl, _⟩ := own_form hown1)
        refine ⟨⟨k + 1, A9, c9, by omega, by go_num, rfl, ?_⟩, by simp [intOf]; omega⟩
        rw [NX.out]
        exact HP5.out.snoc (Ver.part (a, b)) (by rw [← HX.out]; exact hown1) (grown_of_alloc' hg1)
      · have HX := Lib.hid (show DA ++ ((ByteArray.mk #[45]) ++ DB) = ⟨(Ver.part (a, b)).toArray⟩ from by
          unfold Ver.part
          rw [if_neg hab, hDA, hDB]
          apply ByteArray.ext
          simp)
        have tn : (((b : Nat) : Int) != ((a : Nat) : Int)) = true := by simp; omega
        have tn' : ((b : Nat) != (a : Nat)) = true := by simp; omega
        clear hab hDA hDB r3
        go_upto_region 8 with (fail)
        rw [← hW, ← hB]
        clear hW hB hbW c0 c1 lb
        go_wp2_with (fail)
        refine (CA.out W HPW.out.be).mono ?_
        rintro e w5 ⟨rfl, hb5⟩
        dsimp only
        have f5 := HF.out.below hb5 HF.out.lt
        have g0 := f5.cell 0
        have g1 := f5.cell 1
        simp only [List.getElem?_cons_zero, List.getElem?_cons_succ] at g0 g1
        have lB5 := f5.lt
        have HP5 := Lib.hid (HPW.out.below hb5)
        clear f5 hb5 e0 e1 lB
        go_wp2_with (fail)
        refine (CB.out w5 HP5.out.be).mono ?_
        rintro e w6 ⟨rfl, hb6⟩
        dsimp only
        have HP6 := Lib.hid (HP5.out.below hb6)
        have hs6 := HP6.out.be.size
        clear hb6 g0 g1 lB5
        obtain ⟨DC, hDC⟩ : ∃ DC, DC = DA ++ ((ByteArray.mk #[45]) ++ DB) := ⟨_, rfl⟩
        rw [← hDC] at HX
        have HDC := Lib.hid hDC
        clear hDC
        go_upto_region 11 with (fail)
        rw [← HDC.out]
        go_wp2_with (at_builtin; refine app_str _ rfl (.tmp 34) (.tmp 36) rfl (HP6.out.own.alloc (.cells #[.string DC] 9)) rfl (D := Any) (Reads.new (D := Any) w6 [.string DC] 1 1 9 trivial rfl) rfl (by simp [Value.oneCell']) (by omega) (by simp; omega) ?_; intro v1 w9 hown1 hg1 hat1; obtain ⟨A9, c9, rfl, _⟩ := own_form hown1)
        refine ⟨⟨k + 1, A9, c9, by omega, by go_num, rfl, ?_⟩, by simp [intOf]; omega⟩
        rw [NX.out]
        exact HP6.out.snoc (Ver.part (a, b)) (by rw [← HX.out]; exact hown1) (grown_of_alloc' hg1)
    · have hks : l.take k = l := List.take_of_length_le (by have := HR.out.2.1; omega)
      obtain rfl : k = n := by omega
      rw [hks] at HP
      have hbd := join_bd l HR.out.2.2.1
      have CJ := Lib.hid (join_any w wr A2 k c2 (parts l) HP.out (by have := HR.out.2.1; unfold textF at hbd; omega) (by omega))
      have HX := Lib.hid (show Lib.join (parts l) [44] = textF l from rfl)
      have HB := Lib.hid HP.out.be
      rw [HX.out] at CJ
      clear hks hbd
      go_wp2_with (go_at_call 14; refine CJ.out.mono ?_; rintro e w7 ⟨rfl, hb7⟩)
      go_ret2
      exact ⟨rfl, HB.out.trans (hb7.mono HB.out.size)⟩
end Go.Proofs.YtcmohbeibnfpaaaDoor
