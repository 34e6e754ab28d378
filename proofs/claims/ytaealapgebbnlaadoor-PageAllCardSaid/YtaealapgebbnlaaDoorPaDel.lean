/- Contracts of slices.IndexFunc and slices.DeleteFunc at entries, with page.Find's function: the entries of other names are struck. (After XLyDel.) -/
import Derived.Test.YtaealapgebbnlaaDoorQrEnt
import Derived.Test.YtaealapgebbnlaaDoorSlice
import Derived.Test.YtaealapgebbnlaaDoorSeg
import Derived.Lib.SliceRun
import Derived.Deep.DeepCutAuto
set_option linter.unusedVariables false
namespace Go.Md
open Go.Mem Go.RowKit
/-- the entries of the name t -/
def keepF (t : Bs) (d : List En) : List En := d.filter fun e => decide ([e.ch] = t)
theorem keep_next {t : Bs} {d : List En} {k : Nat} (hk : k < d.length) : keepF t (d.take (k + 1)) = keepF t (d.take k) ++ (if [d[k].ch] = t then [d[k]] else []) := by
  rw [List.take_succ_eq_append_getElem hk]
  unfold keepF
  rw [List.filter_append]
  congr 1
  by_cases h : [d[k].ch] = t
  · rw [if_pos h]; simp [h]
  · rw [if_neg h]; simp [h]
theorem keep_all {t : Bs} {d : List En} (h : ∀ p ∈ d, [p.ch] = t) : keepF t d = d := by
  unfold keepF
  rw [List.filter_eq_self]
  intro p hp
  simp [h p hp]
theorem ensC_set (E : List En) (X : List Value) (i : Nat) (p : En) (hi : i < E.length) : ((((ensC E ++ X).set (i * 4) (bst [p.ch])).set (i * 4 + 1) (.int .i64 (p.sort.val : Nat))).set (i * 4 + 2) (bst p.in_)).set (i * 4 + 3) (bst p.line) = ensC (E.set i p) ++ X := by
  have hl := ensC_len E
  have hl2 : (ensC (E.set i p)).length = E.length * 4 := by rw [ensC_len, List.length_set]
  apply List.ext_getElem?
  intro j
  by_cases h : j < E.length * 4
  · obtain ⟨m, c, hc, rfl⟩ : ∃ m c, c < 4 ∧ j = m * 4 + c := ⟨j / 4, j % 4, by omega, by omega⟩
    have hm : m < E.length := by omega
    rw [List.getElem?_append_left (by omega), ensC_at (E.set i p) m c (by simpa using hm) hc]
    by_cases e : m = i
    · subst e
      rw [List.getElem_set_self]
      rcases (show c = 0 ∨ c = 1 ∨ c = 2 ∨ c = 3 from by omega) with rfl | rfl | rfl | rfl
      · rw [List.getElem?_set_ne (by omega), List.getElem?_set_ne (by omega), List.getElem?_set_ne (by omega), Nat.add_zero, List.getElem?_set_self (by simp; omega)]
        rfl
      · rw [List.getElem?_set_ne (by omega), List.getElem?_set_ne (by omega), List.getElem?_set_self (by simp; omega)]
        rfl
      · rw [List.getElem?_set_ne (by omega), List.getElem?_set_self (by simp; omega)]
        rfl
      · rw [List.getElem?_set_self (by simp; omega)]
        rfl
    · rw [List.getElem?_set_ne (by omega), List.getElem?_set_ne (by omega), List.getElem?_set_ne (by omega), List.getElem?_set_ne (by omega), List.getElem?_append_left (by omega), ensC_at E m c hm hc, List.getElem_set_ne (fun h => e h.symm)]
  · rw [List.getElem?_set_ne (by omega), List.getElem?_set_ne (by omega), List.getElem?_set_ne (by omega), List.getElem?_set_ne (by omega), List.getElem?_append_right (by omega), List.getElem?_append_right (by omega), hl, hl2]
end Go.Md
namespace Go.Proofs.YtaealapgebbnlaaDoor
open Go.RowKit Go.Mem Go.Md
theorem info_en2 : (Tryd.prog.info? 48).map (fun i => (i.zero, i.size)) = some (some (.agg #[.string ⟨#[]⟩, .int .i64 0, .string ⟨#[]⟩, .string ⟨#[]⟩]), 4) := by kernel_rfl
theorem slice_en (g n c i : Nat) (hi : i ≤ n) (W : World) : (Instr.slice 43 (.slice (some ⟨g, 0, none⟩) n c) (some (.int .i64 (i : Nat))) none none).run Tryd.prog W = .ok (.slice (if c = i then some ⟨g, 0, none⟩ else some ⟨g, i * 4, none⟩) (n - i) (c - i)) W := by
  obtain ⟨i0, hi0, h2⟩ := Option.map_eq_some_iff.1 info_en2
  have hz1 : i0.size = 4 := (Prod.mk.inj h2).2
  have he : Tryd.prog.elem 43 = 48 := by simp [Program.elem, Tryd.underlying43]
  rw [run_slice_l W 43 (some ⟨g, 0, none⟩) n c (by rw [he]; exact Tryd.underlying43) .i64 _ (by omega) (by omega)]
  simp [he, sizeOf, typeInfo, hi0, hz1, sliced, Addr.add_lit]
theorem clear_nil (ty : TypeId) (a : Option Addr) (c : Nat) (w : World) : (Builtin.clear_ #[43] ty #[.slice a 0 c]).run Tryd.prog w = .ok (.tuple #[]) w := by
  cases a <;> simp [Builtin.clear_, run_underlying Tryd.underlying43]
theorem clear_en (w : World) (b o n c : Nat) (hc : ∀ j, j < n * 4 → (w.cell? ⟨b, o + j, none⟩).isSome = true) (hf : ∀ j, j < n * 4 → w.frozen? ⟨b, o + j, none⟩ = false) :
    ∃ zs : List Value, (∀ ty, (Builtin.clear_ #[43] ty #[.slice (some ⟨b, o, none⟩) n c]).run Tryd.prog w = .ok (.tuple #[]) (w.setCells b o zs)) ∧ zs.length = n * 4 := by
  cases n with
  | zero => exact ⟨[], fun ty => by simp [Builtin.clear_, run_underlying Tryd.underlying43, World.setCells], rfl⟩
  | succ m =>
    have hl : (Builtin.zeroCells (Value.agg #[.string ⟨#[]⟩, .int .i64 0, .string ⟨#[]⟩, .string ⟨#[]⟩]).cells (m + 1)).toList.length = (m + 1) * 4 := by
      simp [Builtin.zeroCells, Value.cells]
    have h1 : ∀ v ∈ (Builtin.zeroCells (Value.agg #[.string ⟨#[]⟩, .int .i64 0, .string ⟨#[]⟩, .string ⟨#[]⟩]).cells (m + 1)).toList, v.oneCell' = true := by
      intro v hv
      unfold Builtin.zeroCells at hv
      rw [Array.toList_map] at hv
      obtain ⟨i, _, rfl⟩ := List.mem_map.1 hv
      rcases (show i % 4 = 0 ∨ i % 4 = 1 ∨ i % 4 = 2 ∨ i % 4 = 3 from by omega) with h | h | h | h
      all_goals
        show (#[Value.string ⟨#[]⟩, .int .i64 0, .string ⟨#[]⟩, .string ⟨#[]⟩][i % 4]!).oneCell' = true
        rw [h]
        rfl
    refine ⟨_, fun ty => ?_, hl⟩
    have hst := run_storeCells_cells (P := Tryd.prog) b o _ 0 w (by rw [hl]; simpa using hc) (by rw [hl]; simpa using hf) h1
    simp only [Nat.add_zero] at hst
    simp [Builtin.clear_, run_underlying Tryd.underlying43, hst]
theorem streq (a b : ByteArray) : (a.toList == b.toList) = decide (a = b) := by
  rw [ByteArray.toList_eq, ByteArray.toList_eq, Bool.eq_iff_iff]
  simp only [beq_iff_eq, decide_eq_true_eq]
  exact ⟨fun h => Go.WideShapes.bytes_inj h, fun h => by rw [h]⟩
set_option maxRecDepth 100000 in
/-- page.Find's function -/
theorem other_any (SB : Nat) (N T I LN : ByteArray) (so : Int) (q : Bool) (w : World) (hq : (N.toList == T.toList) = q) (hs : w.cell? ⟨SB, 0, none⟩ = some (.string T)) : Calls Tryd.prog 17 #[.agg #[.string N, .int .i64 so, .string I, .string LN], .pointer (some ⟨SB, 0, none⟩)] w fun e w' => e = .returned (.bool (!q)) ∧ Below w.heap.size w w' := by
  have ls := lt_of_cell hs
  go_enter Tryd.func17, Tryd.ntmps17
  go_wp2_with (fail)
  go_ret
  exact ⟨rfl, (Below.refl _ _).alloc (Nat.le_refl _) _⟩
set_option maxRecDepth 100000 in
set_option maxHeartbeats 2000000 in
theorem indexE_any (SB : Nat) (t : Bs) (A : Option Addr) (n c : Nat) (d : List En) (w : World) (hr : Reads w Any 4 A n (ensC d)) (hn : n = d.length) (hn1 : n ≤ 100) (hs : w.cell? ⟨SB, 0, none⟩ = some (bst t)) :
    Calls Tryd.prog 32 #[.slice A n c, .func (.func 17) #[] #[.pointer (some ⟨SB, 0, none⟩)]] w fun e w' => ∃ i : Int, e = .returned (.int .i64 i) ∧ ((i = -1 ∧ ∀ p ∈ d, [p.ch] = t) ∨ ∃ (j : Nat) (h : j < d.length), i = j ∧ [d[j].ch] ≠ t ∧ keepF t (d.take j) = d.take j) ∧ Below w.heap.size w w' := by
  obtain ⟨T, hT⟩ : ∃ T : ByteArray, T = ⟨t.toArray⟩ := ⟨_, rfl⟩
  rw [show bst t = .string T from by rw [hT]] at hs
  have HR := Lib.hid (And.intro hr hn)
  have HS := Lib.hid (And.intro hs hT)
  clear hr hn hs hT
  go_enter Tryd.func32, Tryd.ntmps32
  go_wp2_with (fail)
  go_loopw [8] (fun v wr => ∃ j : Nat, j ≤ n ∧ v = .int .i64 j ∧ Hid ((∀ p ∈ d.take j, [p.ch] = t) ∧ Below w.heap.size w wr)) (fun v _ => n - (intOf v).toNat)
  case atStart => exact ⟨0, Nat.zero_le _, rfl, fun p hp => by simp at hp, Below.refl _ _⟩
  case round =>
    obtain ⟨j, hj, rfl, HJ⟩ := hrel
    by_cases hlt : j < n
    · have hjl : j < d.length := by have := HR.out.2; omega
      obtain ⟨b, off, rfl, _, hc⟩ := (HR.out.1.keep (Same.any HJ.out.2)).2 (by omega)
      have ce : ∀ i, i < 4 → wr.cell? ⟨b, off + (j * 4 + i), none⟩ = (encE d[j])[i]? := fun i hi => by
        have h1 := ensC_at d j i hjl hi
        have h2 : i < (encE d[j]).length := hi
        rw [List.getElem?_eq_getElem h2] at h1 ⊢
        exact hc _ _ h1
      obtain ⟨N, hN⟩ : ∃ N : ByteArray, N = ⟨[d[j].ch].toArray⟩ := ⟨_, rfl⟩
      obtain ⟨I, hI⟩ : ∃ N : ByteArray, N = ⟨(d[j].in_).toArray⟩ := ⟨_, rfl⟩
      obtain ⟨LN, hLN⟩ : ∃ N : ByteArray, N = ⟨(d[j].line).toArray⟩ := ⟨_, rfl⟩
      obtain ⟨so, hso⟩ : ∃ so : Int, so = (d[j].sort.val : Nat) := ⟨_, rfl⟩
      have f0 : wr.cell? ⟨b, off + j * 4, none⟩ = some (.string N) := by rw [hN]; exact ce 0 (by omega)
      have f1 : wr.cell? ⟨b, off + j * 4 + 1, none⟩ = some (.int .i64 so) := by rw [hso]; exact ce 1 (by omega)
      have f2 : wr.cell? ⟨b, off + j * 4 + 2, none⟩ = some (.string I) := by rw [hI]; exact ce 2 (by omega)
      have f3 : wr.cell? ⟨b, off + j * 4 + 3, none⟩ = some (.string LN) := by rw [hLN]; exact ce 3 (by omega)
      have lf := lt_of_cell f0
      have es : N = T ↔ [d[j].ch] = t := by
        rw [hN, HS.out.2]
        exact ⟨fun e => by injection e with e; have := congrArg Array.toList e; simpa using this, fun e => by rw [e]⟩
      have R1 := fun q hq => other_any SB N T I LN so q wr hq ((HJ.out.2.cell (p := ⟨SB, 0, none⟩) (lt_of_cell HS.out.1)).trans HS.out.1)
      have HE := Lib.hid es
      by_cases hd : N = T
      · have hq : (N.toList == T.toList) = true := by rw [streq]; exact decide_eq_true hd
        have R2 := Lib.hid (R1 true hq)
        have HD := Lib.hid (es.1 hd)
        clear R1 hq hd es hN hI hLN hso hc ce
        go_wp2_with (go_at_call 17; refine R2.out.mono ?_; rintro e w2 ⟨rfl, hb2⟩)
        refine ⟨⟨j + 1, by omega, by go_num, ?_, HJ.out.2.trans (hb2.mono HJ.out.2.size)⟩, by simp [intOf]; omega⟩
        intro p hp
        rw [List.take_succ_eq_append_getElem hjl] at hp
        rcases List.mem_append.1 hp with hp | hp
        · exact HJ.out.1 p hp
        · rw [List.mem_singleton] at hp
          subst hp
          exact HD.out
      · have hq : (N.toList == T.toList) = false := by rw [streq]; exact decide_eq_false hd
        have R2 := Lib.hid (R1 false hq)
        have HD := Lib.hid (show [d[j].ch] ≠ t from fun e => hd (es.2 e))
        clear R1 hq hd es hN hI hLN hso hc ce
        go_wp2_with (go_at_call 17; refine R2.out.mono ?_; rintro e w2 ⟨rfl, hb2⟩)
        go_ret
        exact ⟨j, rfl, .inr ⟨j, hjl, rfl, HD.out, keep_all HJ.out.1⟩, HJ.out.2.trans (hb2.mono HJ.out.2.size)⟩
    · have hall : d.take j = d := List.take_of_length_le (by have := HR.out.2; omega)
      go_wp2_with (fail)
      go_ret
      have h1 := HJ.out.1
      rw [hall] at h1
      exact ⟨-1, rfl, .inl ⟨rfl, h1⟩, HJ.out.2⟩
set_option maxRecDepth 100000 in
set_option maxHeartbeats 4000000 in
theorem deleteE_any (SB : Nat) (t : Bs) (g c : Nat) (X : List Value) (d : List En) (B0 : Nat) (w : World) (hb : Blk w g 48 (ensC d ++ X)) (hbg : B0 ≤ g) (hB0 : B0 ≤ w.heap.size) (hnc : d.length ≤ c) (hcm : c ≤ maxLen) (hl : d.length ≤ 80) (n : Nat) (hn : n = d.length) (hs : Blk w SB 9 [bst t]) :
    Calls Tryd.prog 16 #[.slice (some ⟨g, 0, none⟩) n c, .func (.func 17) #[] #[.pointer (some ⟨SB, 0, none⟩)]] w fun e w' => ∃ c' m, e = .returned (.slice (some ⟨g, 0, none⟩) m c') ∧ m = (keepF t d).length ∧ m ≤ c' ∧ c' ≤ maxLen ∧ Reads w' Any 4 (some ⟨g, 0, none⟩) m (ensC (keepF t d)) ∧ Below B0 w w' := by
  have hgS : g ≠ SB := hb.ne_ hs (by decide)
  have hrd0 : Reads w Any 4 (some ⟨g, 0, none⟩) n (ensC d) := ⟨by rw [ensC_len, hn], fun _ => ⟨g, 0, rfl, trivial, fun j u hu => by
    rw [Nat.zero_add, hb.cell, List.getElem?_append_left (List.getElem?_eq_some_iff.1 hu).1]
    exact hu⟩⟩
  have CI := Lib.hid (indexE_any SB t (some ⟨g, 0, none⟩) n c d w hrd0 hn (by omega) (hs.cell 0))
  obtain ⟨T, hT⟩ : ∃ T : ByteArray, T = ⟨t.toArray⟩ := ⟨_, rfl⟩
  have et : bst t = .string T := by rw [hT]
  have HO := Lib.hid (And.intro hb (And.intro hs (And.intro hrd0 (And.intro hgS (And.intro hbg hB0)))))
  have HN := Lib.hid (And.intro hn (And.intro hT et))
  have HL := Lib.hid (And.intro hnc (And.intro hcm hl))
  have hn80 : n ≤ 80 := by omega
  clear hb hs hrd0 hgS hbg hB0 hn hT et hnc hcm hl
  go_enter Tryd.func16, Tryd.ntmps16
  go_upto_region 2 with (go_at_call 32; refine CI.out.mono ?_; rintro e w1 ⟨i, rfl, hi, hb1⟩; have H1 := Lib.hid (And.intro hi hb1); clear hi hb1)
  rcases H1.out.1 with ⟨rfl, hno⟩ | ⟨j, hj, rfl, h4, hs⟩
  · have HS := Lib.hid (keep_all hno)
    clear hno
    go_wp2_with (fail)
    go_ret
    have h2 := HO.out.2.2.1.keep (Same.any H1.out.2)
    refine ⟨c, n, rfl, by rw [HS.out]; exact HN.out.1, by have := HL.out.1; have := HN.out.1; omega, HL.out.2.1, by rw [HS.out]; exact h2, H1.out.2.mono HO.out.2.2.2.2.2⟩
  · have hjn : j < n := by rw [HN.out.1]; exact hj
    have f1 := HO.out.1.below H1.out.2 HO.out.1.lt
    have s1 := HO.out.2.1.below H1.out.2 HO.out.2.1.lt
    have h0 : d.take j = keepF t (d.take (j + 1)) := by rw [keep_next hj, if_neg h4, List.append_nil, hs]
    have HB1 := Lib.hid (show Below B0 w w1 from H1.out.2.mono HO.out.2.2.2.2.2)
    have HF := Lib.hid (And.intro f1 (And.intro s1 h0))
    have hns1 : ((j : Int) == -1) = false := by simp
    clear f1 s1 h0 hs h4 H1
    go_wp2_with (fail)
    go_loopw [5, 6] (fun s5 s6 wr => ∃ (k i : Nat) (E : List En), k ≤ n ∧ i < k ∧ s5 = .int .i64 (i : Nat) ∧ s6 = .int .i64 (k : Nat) ∧ E.length = n ∧ Hid (Blk wr g 48 (ensC E ++ X) ∧ Below B0 w wr ∧ E.take i = keepF t (d.take k) ∧ (∀ m, k ≤ m → E[m]? = d[m]?) ∧ Blk wr SB 9 [bst t])) (fun _ s6 _ => n - (intOf s6).toNat)
    case atStart => exact ⟨j + 1, j, d, by omega, by omega, rfl, by go_num, HN.out.1.symm, HF.out.1, HB1.out, HF.out.2.2, fun _ _ => rfl, HF.out.2.1⟩
    case round =>
      obtain ⟨k, i, E, hk, hik, rfl, rfl, hE, HK⟩ := hrel
      by_cases hlt : k < n
      · have hkE : k < E.length := by omega
        have hkl : k < d.length := by have := HN.out.1; omega
        have hiE : i < E.length := by omega
        have eE : E[k] = d[k] := by
          have h := HK.out.2.2.2.1 k (Nat.le_refl _)
          rw [List.getElem?_eq_getElem hkE, List.getElem?_eq_getElem hkl] at h
          injection h
        have fb := HK.out.1
        have hlE := ensC_len E
        have ce : ∀ j, j < 4 → wr.cell? ⟨g, k * 4 + j, none⟩ = (encE d[k])[j]? := fun j hj => by
          rw [← eE]
          exact (fb.cell (k * 4 + j)).trans ((List.getElem?_append_left (by omega)).trans (ensC_at E k j hkE hj))
        obtain ⟨N, hN⟩ : ∃ N : ByteArray, N = ⟨[d[k].ch].toArray⟩ := ⟨_, rfl⟩
        obtain ⟨I, hI⟩ : ∃ N : ByteArray, N = ⟨(d[k].in_).toArray⟩ := ⟨_, rfl⟩
        obtain ⟨LN, hLN⟩ : ∃ N : ByteArray, N = ⟨(d[k].line).toArray⟩ := ⟨_, rfl⟩
        obtain ⟨so, hso⟩ : ∃ so : Int, so = (d[k].sort.val : Nat) := ⟨_, rfl⟩
        have c0 : wr.cell? ⟨g, k * 4, none⟩ = some (.string N) := by rw [hN]; exact ce 0 (by omega)
        have c1 : wr.cell? ⟨g, k * 4 + 1, none⟩ = some (.int .i64 so) := by rw [hso]; exact ce 1 (by omega)
        have c2 : wr.cell? ⟨g, k * 4 + 2, none⟩ = some (.string I) := by rw [hI]; exact ce 2 (by omega)
        have c3 : wr.cell? ⟨g, k * 4 + 3, none⟩ = some (.string LN) := by rw [hLN]; exact ce 3 (by omega)
        have lb := fb.lt
        have hsn := keep_next (t := t) hkl
        have es : N = T ↔ [d[k].ch] = t := by
          rw [hN, HN.out.2.1]
          exact ⟨fun e => by injection e with e; have := congrArg Array.toList e; simpa using this, fun e => by rw [e]⟩
        obtain ⟨W, hW⟩ : ∃ W, W = wr.alloc (.cells #[.string N, .int .i64 so, .string I, .string LN] 48) := ⟨_, rfl⟩
        obtain ⟨PB, hPB⟩ : ∃ b, b = wr.heap.size := ⟨_, rfl⟩
        have fP : Blk W PB 48 [.string N, .int .i64 so, .string I, .string LN] := by rw [hW, hPB]; exact Blk.new _ _ _
        have hbW : Below wr.heap.size wr W := by rw [hW]; exact (Below.refl _ _).alloc (Nat.le_refl _) _
        have sW := HK.out.2.2.2.2.below hbW HK.out.2.2.2.2.lt
        have scW : W.cell? ⟨SB, 0, none⟩ = some (.string T) := by rw [← HN.out.2.2]; exact sW.cell 0
        have R1 := fun q hq => other_any SB N T I LN so q W hq scW
        have HV := Lib.hid (And.intro hN (And.intro hI (And.intro hLN (And.intro hso (And.intro hsn es)))))
        have HWW := Lib.hid (And.intro hW hPB)
        have HW := Lib.hid (And.intro hbW fP)
        clear hN hI hLN hso hsn fb ce eE hbW hW hPB sW scW
        go_upto_region 8 with (fail)
        rw [← HWW.out.1, ← HWW.out.2]
        have q0 := fP.cell 0
        have q1 := fP.cell 1
        have q2 := fP.cell 2
        have q3 := fP.cell 3
        have lP := fP.lt
        simp only [List.getElem?_cons_zero, List.getElem?_cons_succ] at q0 q1 q2 q3
        clear fP c0 c1 c2 c3 lb
        by_cases h4 : N = T
        · have hq : (N.toList == T.toList) = true := by rw [streq]; exact decide_eq_true h4
          have R2 := Lib.hid (R1 true hq)
          have HD := Lib.hid (HV.out.2.2.2.2.2.1 h4)
          have e4 := HV.out.2.2.2.2.1
          rw [if_pos HD.out] at e4
          have HSN := Lib.hid e4
          clear R1 hq h4 e4 es
          go_upto_region 9 with (go_at_call 17; (with_reducible refine R2.out.mono ?_); rintro e w5 ⟨rfl, hb5⟩)
          have hb6 := HW.out.1.trans (hb5.mono HW.out.1.size)
          have f6 := HK.out.1.below hb6 HK.out.1.lt
          have s6 := HK.out.2.2.2.2.below hb6 HK.out.2.2.2.2.lt
          have fP6 := HW.out.2.below hb5 lP
          clear q0 q1 q2 q3 lP
          have q0 := fP6.cell 0
          have q1 := fP6.cell 1
          have q2 := fP6.cell 2
          have q3 := fP6.cell 3
          have lP := fP6.lt
          simp only [List.getElem?_cons_zero, List.getElem?_cons_succ] at q0 q1 q2 q3
          have ci : ∀ j, j < 4 → w5.cell? ⟨g, i * 4 + j, none⟩ = (encE E[i])[j]? := fun j hj => (f6.cell (i * 4 + j)).trans ((List.getElem?_append_left (by omega)).trans (ensC_at E i j hiE hj))
          have c0 : w5.cell? ⟨g, i * 4, none⟩ = some (bst [E[i].ch]) := ci 0 (by omega)
          have c1 : w5.cell? ⟨g, i * 4 + 1, none⟩ = some (.int .i64 (E[i].sort.val : Nat)) := ci 1 (by omega)
          have c2 : w5.cell? ⟨g, i * 4 + 2, none⟩ = some (bst E[i].in_) := ci 2 (by omega)
          have c3 : w5.cell? ⟨g, i * 4 + 3, none⟩ = some (bst E[i].line) := ci 3 (by omega)
          have z0 := f6.frozen (i * 4)
          have z1 := f6.frozen (i * 4 + 1)
          have z2 := f6.frozen (i * 4 + 2)
          have z3 := f6.frozen (i * 4 + 3)
          have lg := f6.lt
          have hin : i < n := by omega
          have H6 := Lib.hid (And.intro f6 (And.intro hb6 s6))
          clear f6 fP6 hb5 hb6 s6 ci
          go_wp2_with (fail)
          refine ⟨⟨k + 1, i + 1, E.set i d[k], by omega, by omega, by go_num, by go_num, by simpa using hE, ?_⟩, by simp [intOf]; omega⟩
          obtain ⟨eN, eI, eL, eS, _⟩ := HV.out
          have f7 := (((H6.out.1.put (i * 4) (bst [d[k].ch])).put (i * 4 + 1) (.int .i64 (d[k].sort.val : Nat))).put (i * 4 + 2) (bst d[k].in_)).put (i * 4 + 3) (bst d[k].line)
          rw [ensC_set E X i d[k] hiE] at f7
          have hb7 := HK.out.2.1.trans (H6.out.2.1.mono (Nat.le_trans HO.out.2.2.2.2.2 HK.out.2.1.size))
          have hbg := HO.out.2.2.2.2.1
          have hne := HO.out.2.2.2.1
          rw [eN, eI, eL, eS]
          refine ⟨f7, (((hb7.setCell (p := ⟨g, i * 4, none⟩) hbg _).setCell (p := ⟨g, i * 4 + 1, none⟩) hbg _).setCell (p := ⟨g, i * 4 + 2, none⟩) hbg _).setCell (p := ⟨g, i * 4 + 3, none⟩) hbg _, ?_, fun m hm => ?_, (((H6.out.2.2.far (p := ⟨g, i * 4, none⟩) hne.symm _).far (p := ⟨g, i * 4 + 1, none⟩) hne.symm _).far (p := ⟨g, i * 4 + 2, none⟩) hne.symm _).far (p := ⟨g, i * 4 + 3, none⟩) hne.symm _⟩
          · rw [HSN.out, ← HK.out.2.2.1, List.take_succ_eq_append_getElem (by simpa using hiE), List.getElem_set_self, List.take_set_of_le (Nat.le_refl _)]
          · rw [List.getElem?_set_ne (by omega)]
            exact HK.out.2.2.2.1 m (by omega)
        · have hq : (N.toList == T.toList) = false := by rw [streq]; exact decide_eq_false h4
          have R2 := Lib.hid (R1 false hq)
          have HD := Lib.hid (show [d[k].ch] ≠ t from fun e => h4 (HV.out.2.2.2.2.2.2 e))
          have e4 := HV.out.2.2.2.2.1
          rw [if_neg HD.out] at e4
          have HSN := Lib.hid e4
          clear R1 hq h4 e4 es
          go_wp2_with (go_at_call 17; (with_reducible refine R2.out.mono ?_); rintro e w5 ⟨rfl, hb5⟩)
          have hb6 := HW.out.1.trans (hb5.mono HW.out.1.size)
          refine ⟨⟨k + 1, i, E, by omega, by omega, rfl, by go_num, hE, HK.out.1.below hb6 HK.out.1.lt, HK.out.2.1.trans (hb6.mono (Nat.le_trans HO.out.2.2.2.2.2 HK.out.2.1.size)), by rw [HSN.out, List.append_nil]; exact HK.out.2.2.1, fun m hm => HK.out.2.2.2.1 m (by omega), HK.out.2.2.2.2.below hb6 HK.out.2.2.2.2.lt⟩, by simp [intOf]; omega⟩
      · obtain rfl : k = n := by omega
        have hall : d.take k = d := List.take_of_length_le (by have := HN.out.1; omega)
        have fb := HK.out.1
        have hlE := ensC_len E
        have hts := HK.out.2.2.1
        rw [hall] at hts
        have hil : i = (keepF t d).length := by rw [← hts, List.length_take]; omega
        have hrd : Reads wr Any 4 (some ⟨g, 0, none⟩) k (ensC E) := ⟨by rw [hlE, hE], fun _ => ⟨g, 0, rfl, trivial, fun j u hu => by
          rw [Nat.zero_add, fb.cell, List.getElem?_append_left (by have := (List.getElem?_eq_some_iff.1 hu).1; omega)]
          exact hu⟩⟩
        have hkc : k ≤ c := by have := HL.out.1; have := HN.out.1; omega
        have hs1 := fun W => slice_en g k c i (by omega) W
        have hs3 := (slice_h (P := Tryd.prog) 43 _ Tryd.underlying43 (by kernel_rfl) hrd hkc i (by omega) (i : Int) rfl).1
        have hpe : ensC E = ensC (keepF t d) ++ ensC (E.drop i) := by rw [← hts, ← ensC_app, List.take_append_drop]
        have hcm : c ≤ maxLen := HL.out.2.1
        have HE := Lib.hid (And.intro hpe (And.intro hil (And.intro hcm (show i ≤ c by omega))))
        have fin : ∀ V cs, Blk V g 48 cs → (∀ j, j < i * 4 → cs[j]? = (ensC E ++ X)[j]?) → Reads V Any 4 (some ⟨g, 0, none⟩) i (ensC (keepF t d)) := fun V cs hV hcs => ⟨by rw [ensC_len, ← HE.out.2.1], fun _ => ⟨g, 0, rfl, trivial, fun j u hu => by
          have hj := (List.getElem?_eq_some_iff.1 hu).1
          rw [ensC_len, ← HE.out.2.1] at hj
          rw [Nat.zero_add, hV.cell, hcs j hj, HE.out.1, List.append_assoc, List.getElem?_append_left (by rw [ensC_len, ← HE.out.2.1]; exact hj)]
          exact hu⟩⟩
        have FIN := Lib.hid fin
        have hki : i < k := hik
        have hci : ¬ c = i := by omega
        have hs1' : ∀ W, (Instr.slice 43 (.slice (some ⟨g, 0, none⟩) k c) (some (.int .i64 (i : Nat))) none none).run Tryd.prog W = .ok (.slice (some ⟨g, i * 4, none⟩) (k - i) (c - i)) W := fun W => by rw [hs1 W, if_neg hci]
        obtain ⟨zs, hzs, hzl⟩ := clear_en wr g (i * 4) (k - i) (c - i) (fun j hj => by
          rw [fb.cell, List.getElem?_eq_getElem (by rw [List.length_append, hlE]; omega)]
          rfl) (fun j hj => fb.frozen _)
        have f9 := fb.puts zs (i * 4)
        have hg9 := grownBy_setCells g zs (i * 4) wr
        have hsa : ∀ j, j < i * 4 → (sets (ensC E ++ X) (i * 4) zs)[j]? = (ensC E ++ X)[j]? := fun j hj => by
          rw [sets_at zs _ _ (by rw [List.length_append, hlE, hzl]; omega), if_neg (by omega)]
        have H9 := Lib.hid (And.intro f9 (And.intro hg9 hsa))
        clear hs1 hpe hil hcm fin hts hall fb hlE hrd hci f9 hg9 hsa hzl hki
        go_wp2_with (fail)
        go_ret
        have h := FIN.out _ _ H9.out.1 H9.out.2.2
        exact ⟨c, i, rfl, HE.out.2.1, HE.out.2.2.2, HE.out.2.2.1, h, HK.out.2.1.grown H9.out.2.1 (Nat.le_trans HO.out.2.2.2.2.2 HK.out.2.1.size) fun k hk => by injection hk with hk; rw [← hk]; exact HO.out.2.2.2.2.1⟩
end Go.Proofs.YtaealapgebbnlaaDoor
