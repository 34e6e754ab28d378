/- LayoutWords' walk. -/
import Derived.Test.YtdbpgofabbpadaaDoorLyBare
import Derived.Test.YtdbpgofabbpadaaDoorLyLay
import Derived.Test.YtdbpgofabbpadaaDoorLyPcs
import Derived.Test.YtdbpgofabbpadaaDoorLyWide
set_option linter.unusedVariables false
namespace Go.Ly
def cst3 : List Pc := [⟨1, 0, [97]⟩, ⟨4, 0, []⟩, ⟨1, 0, [98]⟩]
theorem cst3_ok : Ok cst3 := ⟨by decide, fun p hp => by
  have : p = ⟨1, 0, [97]⟩ ∨ p = ⟨4, 0, []⟩ ∨ p = ⟨1, 0, [98]⟩ := by simpa [cst3] using hp
  rcases this with rfl | rfl | rfl <;> (unfold POk; simp), by decide⟩
theorem texts_next {d : List Pc} {k : Nat} (hk : k < d.length) : textsF (d.take (k + 1)) = textsF (d.take k) ++ d[k].s := by
  rw [List.take_succ_eq_append_getElem hk]
  unfold textsF
  rw [List.map_append, List.flatten_append]
  simp only [List.map_cons, List.map_nil, List.flatten_cons, List.flatten_nil, List.append_nil]
theorem texts_le {d : List Pc} (h : ∀ p ∈ d, POk p) : (textsF d).length ≤ 8 * d.length := by
  induction d with
  | nil => simp [textsF]
  | cons p r ih =>
    have i := ih fun q hq => h q (by simp [hq])
    have := (h p (by simp)).2.2.1
    unfold textsF at i ⊢
    simp only [List.map_cons, List.flatten_cons, List.length_append, List.length_cons]
    omega
theorem small_at {d : List Pc} (h : Ok d) (G : List (Nat × Grp)) (width : Nat) : ∀ (k : Nat), k ≤ d.length → ∀ b ∈ (lsAt G width d k).out, b.toNat < 128
  | 0, _ => fun b hb => by simp [lsAt] at hb
  | k + 1, hk => by
    have hk' : k < d.length := by omega
    have i := small_at h G width k (by omega)
    have hp := h.pc _ (List.getElem_mem hk')
    rw [lsAt_next hk']
    generalize lsAt G width d k = l at i
    unfold lsF
    intro b hb
    split at hb
    · exact i b hb
    · split at hb
      · exact i b hb
      · split at hb
        · rcases List.mem_append.1 hb with hb | hb
          · exact i b hb
          · rcases List.mem_cons.1 hb with rfl | hb
            · decide
            · rw [(List.mem_replicate.1 hb).2]; decide
        · split at hb
          · rcases List.mem_append.1 hb with hb | hb
            · exact i b hb
            · rw [List.mem_singleton] at hb; subst hb; decide
          · rcases List.mem_append.1 hb with hb | hb
            · exact i b hb
            · have := hp.2.2.2.2.2 b hb; omega
theorem lay_small {d : List Pc} (h : Ok d) (width : Nat) : (∀ b ∈ layF d width, b.toNat < 128) ∧ (layF d width).length ≤ 100000 := by
  refine ⟨small_at h _ _ _ (Nat.le_refl _), ?_⟩
  have hm := ms_ok h d.length (Nat.le_refl _)
  have hl := h.len
  have := (ls_ok h (G := (msAt d d.length).out) (width := width) (fun p hp => by have := hm.out p hp; omega) d.length (Nat.le_refl _)).out
  unfold layF
  omega
end Go.Ly
namespace Go.Proofs.YtdbpgofabbpadaaDoor
open Go.RowKit Go.Mem Go.Ly
theorem tabs_keep {w w' : World} (h : Lib.Utf8Tabs 0 1 w) (hb : Below w.heap.size w w') : Lib.Utf8Tabs 0 1 w' :=
  ⟨fun c hc => (hb.cell (p := ⟨0, c, none⟩) (lt_of_cell (h.1 c hc))).trans (h.1 c hc), fun i hi => ⟨(hb.cell (p := ⟨1, 2 * i, none⟩) (lt_of_cell (h.2 i hi).1)).trans (h.2 i hi).1, (hb.cell (p := ⟨1, 2 * i + 1, none⟩) (lt_of_cell (h.2 i hi).2)).trans (h.2 i hi).2⟩⟩
theorem doc_new (w : World) (d : List Pc) (n : Nat) (hn : n = d.length) (h : d.length ≤ 100) : DocAt (w.alloc (.cells (pcs d).toArray 30)) Any (some ⟨w.heap.size, 0, none⟩) n n d := by
  subst hn
  exact ⟨rfl, Nat.le_refl _, by unfold maxLen; omega, h, Reads.new w (pcs d) 3 d.length _ Any trivial (pcs_len d)⟩
theorem lay3 (W : World) : Calls Tryd.prog 5 #[.slice (some ⟨W.heap.size, 0, none⟩) 3 3, .int .i64 5] (W.alloc (.cells #[.int .i64 1, .int .i64 0, .string ⟨#[97]⟩, .int .i64 4, .int .i64 0, .string ⟨#[]⟩, .int .i64 1, .int .i64 0, .string ⟨#[98]⟩] 30))
    fun e w' => e = .returned (.tuple #[.string ⟨#[97, 10, 98]⟩, .int .i64 0]) ∧ Below W.heap.size W w' := by
  have h := lay_any (some ⟨W.heap.size, 0, none⟩) 3 3 cst3 5 (W.alloc (.cells (pcs cst3).toArray 30)) (doc_new W cst3 3 rfl (by decide)) cst3_ok (by omega)
  refine h.mono ?_
  rintro e w' ⟨rfl, hb⟩
  exact ⟨by rw [show layF cst3 5 = [97, 10, 98] from lay_const.1], ((Below.refl _ W).alloc (Nat.le_refl _) _).trans (hb.mono (by simp))⟩
set_option maxRecDepth 100000 in
set_option maxHeartbeats 8000000 in
theorem layoutWords_any (w : World) (A : Option Addr) (n c : Nat) (l : List Int) (x1 : Int) (hr : Reads w Any 1 A n (nums l)) (hn : n = l.length) (hx : ∀ x ∈ l, I64 x) (hnm : n ≤ maxLen) (h1 : I64 x1) (hT : Lib.Utf8Tabs 0 1 w) :
    Calls Tryd.prog 3 #[.slice A n c, .int .i64 x1] w fun e w' => e = .returned (.bool true) ∧ Below w.heap.size w w' := by
  have CP := Lib.hid (piecesOf_any A n c l w hr hn hx hnm)
  have HP := Lib.hid (pieces_ok l)
  have HT := Lib.hid hT
  have CR := Lib.hid (fun W => rest_any x1 100 W h1 (by omega) (by omega))
  rw [rst_eq x1 100 (by omega)] at CR
  have hr100 := rst_lt x1 100 (by omega)
  clear hr hn hx hnm hT h1
  generalize piecesF l = d at CP HP
  generalize rst x1 100 = q at CR hr100
  obtain ⟨wd, hwd⟩ : ∃ wd : Nat, wd = 1 + q := ⟨_, rfl⟩
  have ew : (1 : Int) + ((q : Nat) : Int) = ((wd : Nat) : Int) := by omega
  have ew2 : IntKind.i64.wrap ((1 : Int) + ((q : Nat) : Int)) = ((wd : Nat) : Int) := (IntWalk.i64_in _ (by omega)).trans ew
  have hw1 : 1 ≤ wd ∧ wd ≤ 200 := by omega
  have HL := Lib.hid (lay_small HP.out.1 wd)
  have HW := Lib.hid (words HP.out.1 wd)
  clear hwd
  go_enter Tryd.func3, Tryd.ntmps3
  go_upto_region 2 with (go_at_call 4; refine CP.out.mono ?_; rintro e w1 ⟨A1, c1, rfl, hO1⟩; have H1 := Lib.hid (And.intro ((hO1.doc (by have := HP.out.2; omega)).imp (D' := Any) fun _ _ _ => trivial) hO1.2); clear hO1)
  obtain ⟨m, hm⟩ : ∃ m, m = d.length := ⟨_, rfl⟩
  have hm80 : m ≤ 80 := by have := HP.out.2; omega
  have HD1 := Lib.hid (show DocAt w1 Any A1 m c1 d from by rw [hm]; exact H1.out.1)
  have BH := Lib.hid (H1.out.2)
  rw [← hm]
  have HM := Lib.hid hm
  clear hm H1
  have CL := Lib.hid (lay_any A1 m c1 d wd w1 HD1.out HP.out.1 hw1)
  generalize hX : layF d wd = X at CL HL HW
  clear hX hw1
  go_upto_region 4 with (first | (go_at_call 6; refine (CR.out w1).mono ?_; rintro e w' ⟨rfl, rfl⟩) | (go_at_call 5; refine CL.out.mono ?_; rintro e w2 ⟨rfl, hb2⟩; have H2 := Lib.hid hb2; clear hb2))
  go_wp2_with (fail)
  go_loopw [8, 25] (fun s8 i wr => ∃ k, k ≤ m ∧ i = .int .i64 (k : Nat) ∧ s8 = .string ⟨(textsF (d.take k)).toArray⟩ ∧ Hid (Below w1.heap.size w1 wr)) (fun _ i _ => m - (intOf i).toNat)
  case atStart => exact ⟨0, Nat.zero_le _, rfl, rfl, H2.out⟩
  case round =>
    obtain ⟨k, hk, rfl, rfl, HB⟩ := hrel
    by_cases hlt : k < m
    · have hkl : k < d.length := by have := HM.out; omega
      obtain ⟨b, off, rfl, _, c0, c1', c2⟩ := (HD1.out.keep (Same.any HB.out)).cells hlt hkl
      have lb := lt_of_cell c0
      have hsn := texts_next hkl
      have hsl := texts_le (d := d.take k) fun p hp => HP.out.1.pc p (List.mem_of_mem_take hp)
      have hsl2 : (textsF (d.take k)).length ≤ 640 := by have : (d.take k).length ≤ k := List.length_take_le _ _; omega
      have hp := (HP.out.1.pc _ (List.getElem_mem hkl)).2.2.1
      clear hsl
      generalize d[k] = p at c0 c1' c2 hp hsn
      obtain ⟨kd, nn, x⟩ := p
      simp only at hp c0 c1' c2 hsn
      unfold sv at c2
      generalize textsF (d.take k) = T0 at hsn hsl2 ⊢
      obtain ⟨T, hTe⟩ : ∃ T : ByteArray, T = ⟨T0.toArray⟩ := ⟨_, rfl⟩
      obtain ⟨Y, hYe⟩ : ∃ Y : ByteArray, Y = ⟨x.toArray⟩ := ⟨_, rfl⟩
      have sT : T.size ≤ 640 := by rw [hTe, sv_len]; exact hsl2
      have sY : Y.size ≤ 8 := by rw [hYe, sv_len]; exact hp
      have HE := Lib.hid (show (⟨(textsF (d.take (k + 1))).toArray⟩ : ByteArray) = T ++ Y from by
        rw [hsn, hTe, hYe]
        apply ByteArray.ext
        simp)
      have hb2 := Lib.hid (HB.out.alloc HB.out.size (.cells #[.int .i64 (kd : Nat), .int .i64 (nn : Nat), .string Y] 30))
      rw [← hTe]
      rw [← hYe] at c2
      clear hsn hsl2 hp hTe hYe
      go_wp2_with (fail)
      exact ⟨⟨k + 1, by omega, by go_num, by rw [HE.out], hb2.out⟩, by simp [intOf]; omega⟩
    · have hks : d.take k = d := List.take_of_length_le (by have := HM.out; omega)
      rw [hks]
      have L3 := Lib.hid (fun W => lay3 W)
      have CB := Lib.hid (fun W (hW : Below w1.heap.size w1 W) => bare_any X W HL.out.1 HL.out.2 (tabs_keep (tabs_keep HT.out BH.out) hW))
      rw [HW.out] at CB
      unfold sv at CB
      generalize textsF d = T0 at CB ⊢
      have hz : w.heap.size ≤ w1.heap.size := BH.out.size
      clear hks
      go_upto_region 10 with (go_at_call 5; refine (L3.out wr).mono ?_; rintro e w4 ⟨rfl, hb4⟩; have H4 := Lib.hid (HB.out.trans (hb4.mono HB.out.size)); clear hb4)
      go_wp2_with (go_at_call 7; refine (CB.out w4 H4.out).mono ?_; rintro e w5 ⟨rfl, hb5⟩)
      go_ret
      exact ⟨rfl, BH.out.trans ((H4.out.trans (hb5.mono H4.out.size)).mono hz)⟩
end Go.Proofs.YtdbpgofabbpadaaDoor
