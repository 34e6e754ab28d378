/- Contract of chunk.Pack at short byte strings: it returns their packed form. -/
import Derived.Test.YtgcpclbkjplipaaBase
import Derived.Test.YtgcpclbkjplipaaChunkLaw
set_option linter.unusedVariables false
namespace Go.Proofs.Ytgcpclbkjplipaa
open Go.RowKit Go.Mem Go.Chunk

theorem packF_take_succ (l : List (List UInt8)) (k : Nat) (h : k < l.length) : packF (l.take (k + 1)) = packF (l.take k) ++ ([hi8 l[k].length, lo8 l[k].length] ++ l[k]) := by
  rw [List.take_succ_eq_append_getElem h, packF_append]
  simp [packF]
theorem packF_take_le (l : List (List UInt8)) (k : Nat) : (packF (l.take k)).length ≤ (packF l).length := by
  have := packF_append (l.take k) (l.drop k)
  rw [List.take_append_drop] at this
  rw [this, List.length_append]
  omega

theorem pack_step (l : List (List UInt8)) (k n1 : Nat) (hkl : k < l.length) (hn : n1 = l[k].length) (hsm : n1 ≤ 65535) {w : World} {base : Nat} {v : Value} 
    (h : w.ownsRow base 5 1 v ((packF (l.take k)).length + 2 + n1) (u8s (packF (l.take k)) ++ [.int .u8 ((n1 : Int) / 256), .int .u8 ((n1 : Int) % 256)] ++ u8s l[k])) :
    w.ownsRow base 5 1 v (packF (l.take (k + 1))).length (u8s (packF (l.take (k + 1)))) := by
  rw [packF_take_succ l k hkl]
  subst hn
  have e : u8s (packF (l.take k) ++ ([hi8 l[k].length, lo8 l[k].length] ++ l[k])) = u8s (packF (l.take k)) ++ [.int .u8 ((l[k].length : Int) / 256), .int .u8 ((l[k].length : Int) % 256)] ++ u8s l[k] := by
    simp [u8s, hi8, lo8]
    omega
  rw [e]
  have e2 : (packF (l.take k) ++ ([hi8 l[k].length, lo8 l[k].length] ++ l[k])).length = (packF (l.take k)).length + 2 + l[k].length := by simp; omega
  rw [e2]
  exact h

set_option maxRecDepth 100000 in
set_option maxHeartbeats 1000000 in
theorem pack_any (v : Value) (l : List (List UInt8)) (w : World) (hv : ListAt 1 BytesCell w Any v l)
    (hs : ∀ p ∈ l, p.length ≤ 65535) (ht : (packF l).length ≤ 65536) (hn : l.length ≤ 65536) :
    Calls Try.prog 15 #[v] w fun e w' => ∃ A c, e = .returned (.tuple #[.slice A (packF l).length c, .int .i64 0]) ∧ w'.ownsRow w.heap.size 5 1 (.slice A (packF l).length c) (packF l).length (u8s (packF l)) ∧ Below w.heap.size w w' := by
  obtain ⟨A, c, vss, rfl, _, _, hr, hl⟩ := hv
  obtain ⟨n, hnl⟩ : ∃ n, n = l.length := ⟨_, rfl⟩
  rw [← hnl] at hr hn ⊢
  have Hnl := Lib.hid hnl
  have HT := Lib.hid ht
  clear hnl ht
  go_enter Try.func15, Try.ntmps15
  go_wp2
  go_loopw [4, 9] (fun v i wr => ∃ k : Nat, k ≤ n ∧ i = .int .i64 k ∧ wr.ownsRow w.heap.size 5 1 v (packF (l.take k)).length (u8s (packF (l.take k))) ∧ Below w.heap.size w wr) (fun _ i _ => n - (intOf i).toNat)
  case atStart => exact ⟨0, Nat.zero_le _, rfl, World.ownsRow_nil _ _ _ _, Below.refl _ _⟩
  case round =>
    obtain ⟨k, hk, rfl, hown, hb⟩ := hrel
    by_cases hlt : k < n
    · have hkl : k < l.length := by have := Hnl.out; omega
      obtain ⟨b, off, cs, rfl, _, ⟨u, rfl, A1, n1, c1, rfl, hn1, hc1, hr1⟩, hc⟩ := hr.elem BytesCell.stable hl Hnl.out hkl
      have hc0 : wr.cell? ⟨b, off + k, none⟩ = some (.slice A1 n1 c1) := (Same.any (D := Any) hb).cell trivial (by simpa using hc 0 _ rfl)
      have hlen : n1 = l[k].length := by have := hr1.len; rwa [u8s_length] at this
      have hle := hs l[k] (List.getElem_mem hkl)
      have hsm : n1 ≤ 65535 := by omega
      have Hlen := Lib.hid hlen
      clear hlen hle hc
      have hpt := Lib.hid (packF_take_succ l k hkl)
      have hpl : (packF (l.take k)).length + n1 + 2 ≤ 65536 := by
        have h1 := packF_take_le l (k + 1)
        have h2 := HT.out
        have h3 := Hlen.out
        rw [hpt.out] at h1
        simp at h1
        omega
      go_wp2_with (first
        | (at_builtin; refine app_u8 _ rfl (.tmp 16) (.tmp 24) rfl (hown.alloc _) rfl (Reads.new (D := Any) _ [.int .u8 ((n1 : Int) / 256), .int .u8 ((n1 : Int) % 256)] 1 2 _ trivial rfl) rfl (by simp [Value.oneCell']) (by omega) (by have := hb.size; simp; omega) ?_; intro v1 w1 hown1 hg1 hat1; have hb1 : Below w.heap.size w w1 := (hb.alloc hb.size _).grown hg1 (by have := hb.size; simp; omega) (fun k hk => (hown.lt k hk).1))
        | (at_builtin; refine app_u8 _ rfl (.tmp 26) (.tmp 27) rfl hown1 rfl (hr1.keep (Same.any hb1)) rfl (u8s_one _) (by omega) (by have := hb1.size; omega) ?_; intro v2 w2 hown2 hg2 hat2))
      refine ⟨⟨k + 1, by omega, by go_num, pack_step l k n1 hkl Hlen.out hsm hown2, hb1.grown hg2 hb1.size (fun k hk => (hown1.lt k hk).1)⟩, by simp [intOf]; omega⟩
    · have hkn : k = l.length := by have := Hnl.out; omega
      have Hk := Lib.hid hkn
      clear hkn
      go_wp2
      go_ret2
      have := Hk.out
      subst this
      rw [List.take_length] at hown
      obtain ⟨A1, c1, rfl, _⟩ := own_form hown
      exact ⟨A1, c1, rfl, hown, hb⟩
end Go.Proofs.Ytgcpclbkjplipaa
