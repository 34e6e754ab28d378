/- Contracts of a side's Tell, and of mark.New at two peers. -/
import Derived.Test.YtpnhmplinkakbaaSide2
import Derived.Laws.OwnMore
set_option linter.unusedVariables false
namespace Go.Proofs.Ytpnhmplinkakbaa
open Go.RowKit Go.Mem

theorem info_row : (Try.prog.info? 22).map (fun i => (i.zero, i.size, i.bytes)) = some (some (.slice none 0 0), 1, 24) := by kernel_rfl
/-- append of slices of ints onto a row of the call's own -/
theorem app_row (w : World) {ops : Array Oper} {rest : List Oper} {o : Oper} {a : Act} {Q : Exit → Act → World → Prop} (hgd : o.guard = none) (s x : Operand)
    (ho : o.op = .call { callee := .builtin .append, args := #[s, x], argTypes := #[30, 30] })
    {base : Nat} {v : Value} {n : Nat} {xs : List Value} (hown : w.ownsRow base 22 1 v n xs) (hs : a.eval s = v)
    {D : Nat → Prop} {A : Option Addr} {m : Nat} {news : List Value} (hr : Reads w D 1 A m news) {c : Nat} (hx : a.eval x = .slice A m c) (h1 : ∀ u ∈ news, u.oneCell' = true)
    (h63 : n + m ≤ 2932031007402) (hbase : base ≤ w.heap.size)
    (h : ∀ v' w', w'.ownsRow base 22 1 v' (n + m) (xs ++ news) → w.grownBy w' v.ownBlock → (v'.ownBlock = v.ownBlock ∨ v'.ownBlock = some w.heap.size) → wpList Try.prog ops Q rest (a.put o.dst v') w') : wpList Try.prog ops Q (o :: rest) a w := by
  obtain ⟨i0, hi0, hz0, hz1, hz2⟩ := info_parts info_row
  exact wpList_append_any w hgd s x _ ho base _ i0 _ 1 24 Try.underlying30 hi0 hz0 hz1 hz2 rfl (by omega) v n xs hs hown D A m c news hx hr h1 (by simp only [maxLen]; omega) (by omega) hbase h
theorem NumsV.of_own_new {w0 w : World} {v : Value} {l : List Int} {n : Nat} (h : w.ownsRow w0.heap.size 3 1 v n (nums l)) : NumsV w (fun b => w0.heap.size ≤ b) v l := by
  obtain ⟨A, c, e, h1, h2, hr⟩ := Reads.of_own h
  exact ⟨A, n, c, e, h1, h2, hr.imp (by omega) fun b hb _ => (h.lt b hb).1⟩

def TellPost (w : World) (x : Sd) (e : Ending) (w' : World) : Prop :=
  (x.started = true ∧ ¬ false ∈ x.marked → ∃ A c, e = .returned (.tuple #[.int .i64 x.state, .slice A x.ways.length c, .int .i64 0]) ∧ OwnList 22 1 NumsCell w' w.heap.size (.slice A x.ways.length c) x.ways) ∧
  (¬ (x.started = true ∧ ¬ false ∈ x.marked) → e = .returned (.tuple #[.int .i64 0, .slice none 0 0, .int .i64 8])) ∧ Below w.heap.size w w'
set_option maxRecDepth 100000 in
set_option maxHeartbeats 400000 in
theorem tell_any (w : World) (S : Nat) (own : Nat → Prop) (x : Sd) (h : Side w S own x) :
    Calls Try.prog 13 #[.pointer (some ⟨S, 0, none⟩)] w (TellPost w x) := by
  obtain ⟨P, cp, M, Y, vs, hS, hP, h8, hM, hY, hml, hwl, oS, oM, oY, hW, h200⟩ := h
  obtain ⟨peers, st, state, marked, ways⟩ := x
  simp only at hS hP h8 hM hY hml hwl hW h200 ⊢
  have s1 := hS.cell 1
  have s2 := hS.cell 2
  have s3 := hS.cell 3
  have s4 := hS.cell 4
  simp only [List.getElem?_cons_succ, List.getElem?_cons_zero] at s1 s2 s3 s4
  have lS := hS.lt
  have hMr : Reads w Any 1 (some ⟨M, 0, none⟩) peers.length (flags marked) := ⟨by rw [flags_length]; omega, fun _ => ⟨M, 0, rfl, trivial, fun j u hu => by rw [hM.cell]; simpa using hu⟩⟩
  have CF := Lib.hid (contains_flags (some ⟨M, 0, none⟩) peers.length peers.length marked false Any w hMr (by omega))
  cases st with
  | false =>
    go_enter Try.func13, Try.ntmps13
    go_wp2_with (fail)
    go_ret3
    exact ⟨fun h => by simp at h, fun _ => rfl, Below.refl _ _⟩
  | true =>
    have Hml := Lib.hid hml
    have Hwl := Lib.hid hwl
    have HS := Lib.hid hS
    clear hMr hml hwl hS hM hP
    go_enter Try.func13, Try.ntmps13
    go_wp2_with (fail)
    refine CF.out.mono ?_
    rintro e w' ⟨rfl, rfl⟩
    by_cases hall : false ∈ marked
    · have hd : decide (false ∈ marked) = true := by simpa using hall
      rw [hd]
      have Hall := Lib.hid hall
      clear hd hall CF
      go_wp2_with (fail)
      go_ret3
      exact ⟨fun h => absurd Hall.out h.2, fun _ => rfl, Below.refl _ _⟩
    · have hd : decide (false ∈ marked) = false := by simpa using hall
      rw [hd]
      have Hall := Lib.hid hall
      clear hd hall CF
      go_wp2_with (fail)
      go_loopw [5, 25] (fun v5 v25 wr => ∃ k : Nat, k ≤ peers.length ∧ v25 = .int .i64 k ∧ OwnList 22 1 NumsCell wr w.heap.size v5 (ways.take k) ∧ Below w.heap.size w wr) (fun _ v25 _ => peers.length - (intOf v25).toNat)
      case atStart => exact ⟨0, Nat.zero_le _, rfl, OwnList.nil _ _ _ _, Below.refl _ _⟩
      case round =>
        obtain ⟨k, hk, rfl, hown, hb⟩ := hrel
        by_cases hlt : k < peers.length
        · have hkw : k < ways.length := by have := Hwl.out; omega
          have hkv : k < vs.length := by rw [hW.1]; exact hkw
          obtain ⟨hrow, _⟩ := hW.2.1 k vs[k] ways[k] (List.getElem?_eq_getElem hkv) (List.getElem?_eq_getElem hkw)
          have cY : w.cell? ⟨Y, k, none⟩ = some vs[k] := by rw [hY.cell]; exact List.getElem?_eq_getElem hkv
          have hl2 := h200 _ (List.getElem_mem hkw)
          obtain ⟨Ak, ck, ek, _, _, hrk⟩ := Reads.of_own hrow
          rw [ek] at cY
          have gY : wr.cell? ⟨Y, k, none⟩ = some (.slice Ak ways[k].length ck) := (Same.any (D := Any) hb).cell trivial cY
          have CL := Lib.hid (clone_ints Ak ways[k].length ck ways[k] _ wr (hrk.keep (Same.any hb)) (by omega))
          have Htk := Lib.hid (List.take_succ_eq_append_getElem hkw)
          generalize hL : ways[k].length = L at gY CL hl2
          have HL := Lib.hid hL
          clear hL cY hrk hrow ek hW h200 hY
          go_wp2_with (fail)
          refine CL.out.mono ?_
          rintro e w1 ⟨A2, c2, rfl, hv2, hb1⟩
          have hb1' : Below w.heap.size w w1 := hb.trans (hb1.mono hb.size)
          have hown1 := hown.keep NumsCell.stable (Same.of_below hb1 fun _ _ h => h)
          have hlt1 := hown.lt
          have hy : NumsCell w1 (fun b => w.heap.size ≤ b ∧ u5.ownBlock ≠ some b) [.slice A2 L c2] ways[k] :=
            ⟨_, rfl, (NumsV.of_own_new hv2).imp fun b hb' _ => ⟨by have := hb.size; omega, fun e => by have := (hlt1 b e).2; omega⟩⟩
          clear hlt1 CL
          obtain ⟨vs1, ho, ha1⟩ := hown1
          go_wp2_with (at_builtin; refine app_row _ rfl (.tmp 29) (.tmp 32) rfl (ho.alloc _) rfl (Reads.new (D := Any) _ [.slice A2 L c2] 1 1 _ trivial rfl) rfl (NumsCell.stable.one hy) (by rw [List.length_take]; omega) (by have := hb1'.size; simp; omega) ?_; intro v2 w2 hown2 hg2 hat2)
          refine ⟨⟨k + 1, by omega, by go_num, ?_, (hb1'.alloc hb1'.size _).grown hg2 (by have := hb1'.size; simp; omega) (fun k hk => (ho.lt k hk).1)⟩, by simp [intOf]; omega⟩
          rw [Htk.out]
          exact OwnList.push NumsCell.stable ha1 hy hg2 hat2 hown2
        · obtain rfl : k = peers.length := by omega
          have hX : ways.take peers.length = ways := List.take_of_length_le (by have := Hwl.out; omega)
          rw [hX] at hown
          have g2 := (HS.out.below hb HS.out.lt).cell 2
          simp only [List.getElem?_cons_succ, List.getElem?_cons_zero] at g2
          obtain ⟨A2, c2, rfl, _⟩ := hown.form
          clear hX hW h200 hY
          go_wp2_with (fail)
          go_ret3
          exact ⟨fun _ => ⟨A2, c2, rfl, hown⟩, fun h => absurd ⟨rfl, Hall.out⟩ h, hb⟩
end Go.Proofs.Ytpnhmplinkakbaa
