/- Contracts of (*Shelf).Load and Free of what was kept, and of Free where nothing is held; of Size. -/
import Derived.Test.YtgcpclbkjplipaaShelfKeep
import Derived.Test.YtgcpclbkjplipaaMemStr
set_option linter.unusedVariables false
namespace Go.Proofs.Ytgcpclbkjplipaa
open Go.RowKit Go.Mem Go.Chunk Go.Maps
theorem flat_take (l : List Bs) (j : Nat) (h : j < l.length) : (l.take (j + 1)).flatten = (l.take j).flatten ++ l[j] := by
  rw [List.take_succ_eq_append_getElem h, List.flatten_append]
  simp
theorem flat_len_le (l : List Bs) (j : Nat) : (l.take j).flatten.length ≤ l.flatten.length := by
  have h := List.take_append_drop j l
  have : l.flatten.length = (l.take j).flatten.length + (l.drop j).flatten.length := by rw [← List.length_append, ← List.flatten_append, h]
  omega
def LoadPost (w : World) (bs : Bs) : Ending → World → Prop := fun e w' =>
  ∃ A c, e = .returned (.tuple #[.slice A bs.length c, .int .i64 0]) ∧ bs.length ≤ c ∧ c ≤ maxLen ∧ Reads w' (fun b => w.heap.size ≤ b) 1 A bs.length (u8s bs) ∧ Below w.heap.size w w'
set_option maxRecDepth 100000 in
set_option maxHeartbeats 2000000 in
theorem load_any (w : World) (S P N : Nat) (s : Shf) (H : Bs → Nat) (A : Option Addr) (n c : Nat) (l : List Bs) (out : List Nat) (hs : ShelfAt w S P N s) (hk : s.Ok H) (hnum : Nums s l out) (hr : Reads w Any 1 A n (nums (nat64 out))) (hn : n = out.length) (hn6 : n ≤ 1000000) (hle : l.flatten.length ≤ 1000000) :
    Calls Try.prog 24 #[.pointer (some ⟨S, 0, none⟩), .slice A n c] w (LoadPost w l.flatten) := by
  have HS := Lib.hid hs
  have HK := Lib.hid hk
  have HN := Lib.hid hnum
  have HR := Lib.hid hr
  have Hn := Lib.hid hn
  have Hnl := Lib.hid (show n = l.length by rw [hn]; exact hnum.1.symm)
  obtain ⟨i0, hi0, hz0, hz1, hz2⟩ := info_parts info_u8
  unfold LoadPost
  clear hs hk hnum hr hn
  go_enter Try.func24, Try.ntmps24
  go_wp2_with (fail)
  go_loopw [6, 13] (fun v6 v wr => ∃ (j k : Nat) (A2 : Option Addr) (c2 : Nat), j ≤ n ∧ v = .int .i64 j ∧ v6 = .slice A2 k c2 ∧ w.heap.size ≤ wr.heap.size ∧ Hid (k = (l.take j).flatten.length ∧ wr.ownsRow w.heap.size 5 1 (.slice A2 k c2) k (u8s (l.take j).flatten) ∧ Below w.heap.size w wr)) (fun _ v _ => n - (intOf v).toNat)
  case atStart => exact ⟨0, 0, none, 0, Nat.zero_le _, rfl, rfl, Nat.le_refl _, rfl, World.ownsRow_nil _ _ _ _, Below.refl _ _⟩
  case round =>
    obtain ⟨j, k, A2, c2, hj, rfl, rfl, hsz, HI⟩ := hrel
    by_cases hlt : j < n
    · have hjo : j < out.length := by have := Hn.out; omega
      have hjl : j < l.length := by have := Hnl.out; omega
      obtain ⟨b, off, u, rfl, hD, hu, hc⟩ := HR.out.at_ hlt
      rw [nat64_at out j hjo] at hu
      injection hu with hu
      subst hu
      have g0 := (Same.any (D := Any) HI.out.2.2).cell trivial hc
      have hnn := HN.out.2 j l[j] out[j] (List.getElem?_eq_getElem hjl) (List.getElem?_eq_getElem hjo)
      obtain ⟨x, hx, _, _⟩ := HK.out.bytes hnn
      have hsw : ShelfAt wr S P N s := HS.out.below HI.out.2.2
      have hn9 := hsw.some_ hx
      have hgx : (mget s.ps out[j]).getD ([], 0) = (l[j], x) := by rw [hx]; rfl
      have lk := hsw.look_ok out[j] hn9 hgx (c := true) (by rw [hx]; rfl) wr rfl
      have hft := flat_take l j hjl
      have hfl := flat_len_le l (j + 1)
      have c0 := hsw.blk.cell 0
      simp only [List.getElem?_cons_zero] at c0
      have lS := hsw.blk.lt
      generalize hll : l[j] = p at lk hft
      generalize out[j] = q at g0 lk hn9
      rw [hft] at hfl
      have hpl : p.length ≤ 1000000 ∧ k + p.length ≤ 1000000 := by have := HI.out.1; rw [List.length_append] at hfl; omega
      have Hft := Lib.hid hft
      clear hc hnn hx hgx hft hfl hll hsw
      go_wp2_with (at_builtin; refine wpList_append_str _ rfl (.tmp 28) (.tmp 30) _ _ rfl w.heap.size _ i0 Try.underlying23 Try.underlying9 hi0 hz0 hz1 hz2 _ _ _ rfl (HI.out.2.1.alloc _) ⟨p.toArray⟩ rfl (by unfold maxLen; simp [ByteArray.size]; omega) (by simp [ByteArray.size]; omega) (by simp; omega) ?_; intro v3 w3 hown3 hg3 hat3; obtain ⟨A9, c9, rfl, _⟩ := own_form hown3)
      have hg3' : wr.grownBy w3 (Value.slice A2 k c2).ownBlock := grown_of_alloc hg3
      have hb3 := HI.out.2.2.grown hg3' HI.out.2.2.size fun q hq => (HI.out.2.1.lt q hq).1
      have hsp : (ByteArray.mk p.toArray).size = p.length := by simp [ByteArray.size]
      rw [hsp] at hown3
      refine ⟨⟨j + 1, k + p.length, A9, c9, by omega, by go_num, rfl, by have := hg3'.size; omega, ?_, ?_, hb3⟩, by simp [intOf]; omega⟩
      · rw [Hft.out, List.length_append, HI.out.1]
      · rw [Hft.out, u8s_append]
        exact hown3
    · have hall : l.take j = l := List.take_of_length_le (by have := Hnl.out; omega)
      have h1 := HI.out
      rw [hall] at h1
      have H1 := Lib.hid h1
      clear hall h1 HI
      go_wp2_with (fail)
      go_ret2
      have hk1 := H1.out.1
      subst hk1
      obtain ⟨q1, q2, q3⟩ := own_reads (by omega) H1.out.2.1
      exact ⟨A2, c2, rfl, q1, q2, q3, H1.out.2.2⟩
end Go.Proofs.Ytgcpclbkjplipaa
