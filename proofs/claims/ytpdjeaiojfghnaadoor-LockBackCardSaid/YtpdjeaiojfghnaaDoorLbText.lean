/- Contract of lock.Text at picks that may be. -/
import Derived.Test.YtpdjeaiojfghnaaDoorLkCheck
import Derived.Test.YtpdjeaiojfghnaaDoorLbEnv
set_option linter.unusedVariables false
namespace Go.Proofs.YtpdjeaiojfghnaaDoor
open Go.RowKit Go.Mem Go.Sv Go.Maps Go.Txt
set_option maxRecDepth 100000 in
set_option maxHeartbeats 2000000 in
theorem text_any (A : Option Addr) (n c : Nat) (l : List Pk) (w : World) (hv : Env w) (hr : Reads w Any 2 A n (pks l)) (hn : n = l.length) (h : PkOk l) :
    Calls Tryd.prog 7 #[.slice A n c] w fun e w' => e = .returned (.tuple #[.string ⟨(textF l).toArray⟩, .int .i64 0]) ∧ Below w.heap.size w w' := by
  have CK := Lib.hid (lkcheck_any A n c l w hr hn h)
  have HR := Lib.hid (And.intro hr (And.intro hn h))
  have HV := Lib.hid hv
  have h30 : n ≤ 30 := by have := h.ln; omega
  clear hr hn h hv
  go_enter Tryd.func7, Tryd.ntmps7
  go_wp2_with (go_at_call 17; refine CK.out.mono ?_; rintro e w1 ⟨rfl, hb1⟩; have H1 := Lib.hid hb1; clear hb1)
  clear CK
  go_loopw [5, 15] (fun v i wr => ∃ (k : Nat) (T : ByteArray), k ≤ n ∧ i = .int .i64 (k : Nat) ∧ v = .string T ∧ Hid (T = ⟨(textF (l.take k)).toArray⟩ ∧ Below w.heap.size w wr)) (fun _ i _ => n - (intOf i).toNat)
  case atStart => exact ⟨0, _, Nat.zero_le _, rfl, rfl, rfl, H1.out⟩
  case round =>
    obtain ⟨k, T, hk, rfl, rfl, HP⟩ := hrel
    by_cases hlt : k < n
    · have hkl : k < l.length := by have := HR.out.2.1; omega
      obtain ⟨bb, off, rfl, _, c0, c1⟩ := pks_cells (HR.out.1.keep (Same.any HP.out.2)) hlt HR.out.2.1
      have lb := lt_of_cell c0
      have hnm := HR.out.2.2.nm _ (List.getElem_mem hkl)
      have hvr := HR.out.2.2.vr _ (List.getElem_mem hkl)
      have hT : T.size ≤ 210 := by
        have := text_len (l.take k) fun p hp => ⟨HR.out.2.2.nm p (List.mem_of_mem_take hp), (HR.out.2.2.vr p (List.mem_of_mem_take hp)).2⟩
        rw [List.length_take] at this
        rw [HP.out.1, ba_size]
        omega
      have NX := Lib.hid (text_snoc hkl)
      generalize l[k] = y at c0 c1 hnm hvr NX
      obtain ⟨yn, yv⟩ := y
      simp only at c0 c1 hnm hvr
      have hyn : yn.length = 1 := by
        obtain ⟨d, e, _⟩ := hnm
        rw [e]
        rfl
      obtain ⟨NM, hNM⟩ : ∃ NM : ByteArray, NM = ⟨yn.toArray⟩ := ⟨_, rfl⟩
      have hN1 : NM.size = 1 := by rw [hNM, ba_size, hyn]
      replace c0 : wr.cell? ⟨bb, off + k * 2, none⟩ = some (.string NM) := by rw [hNM]; exact c0
      obtain ⟨D, hD⟩ : ∃ D, D = wr.heap.size := ⟨_, rfl⟩
      obtain ⟨W, hW⟩ : ∃ W, W = wr.alloc (.cells #[.string NM, .int .i64 (yv : Nat)] 32) := ⟨_, rfl⟩
      have hbk : Blk W D 32 [.string NM, .int .i64 (yv : Nat)] := by rw [hW, hD]; exact Blk.new wr _ _
      have hbW : Below wr.heap.size wr W := by rw [hW]; exact (Below.refl _ _).alloc (Nat.le_refl _) _
      have HW := Lib.hid (HP.out.2.trans (hbW.mono HP.out.2.size))
      have HK := Lib.hid hbk
      have IT := Lib.hid (fun V (hV : Below w.heap.size w V) => itoa_any yv (by omega) V (HV.out.below hV))
      obtain ⟨DG, hDG⟩ : ∃ DG : ByteArray, DG = ⟨(Lib.decDigits yv).toArray⟩ := ⟨_, rfl⟩
      rw [← hDG] at IT
      have hD4 : DG.size ≤ 4 := by rw [hDG, ba_size]; exact Txt.digits_len (by omega) (by omega)
      have e0 := hbk.cell 0
      have e1 := hbk.cell 1
      simp only [List.getElem?_cons_zero, List.getElem?_cons_succ] at e0 e1
      have lD := hbk.lt
      have HE := Lib.hid (show T ++ (((NM ++ ByteArray.mk #[32]) ++ DG) ++ ByteArray.mk #[10]) = ⟨(textF (l.take (k + 1))).toArray⟩ from by
        rw [NX.out, HP.out.1, hNM, hDG]
        apply ByteArray.ext
        simp [lineL, bodyL])
      clear hnm hbk hbW hNM hDG
      go_upto_region 8 with (fail)
      rw [← hW, ← hD]
      clear hW hD c0 c1 lb
      go_region_with (go_at_call 18; refine (IT.out _ ?_).mono ?_; exact HW.out.drew; rintro e V ⟨rfl, hbV⟩; have fK := (Blk.drew HK.out).below (w' := V) hbV HK.out.lt; have f0 := fK.cell 0; have lV := fK.lt; simp only [List.getElem?_cons_zero] at f0; have HV2 := Lib.hid (HW.out.drew.trans (hbV.mono HW.out.size)); clear fK hbV)
      all_goals go_wp2_with (fail)
      all_goals exact ⟨⟨k + 1, _, by omega, by go_num, rfl, HE.out, HV2.out⟩, by simp [intOf]; omega⟩
    · go_wp2_with (fail)
      go_ret2
      have hkn : k = n := by omega
      have := HP.out.1
      rw [hkn, HR.out.2.1, List.take_length] at this
      exact ⟨by rw [this]; rfl, HP.out.2⟩
end Go.Proofs.YtpdjeaiojfghnaaDoor
