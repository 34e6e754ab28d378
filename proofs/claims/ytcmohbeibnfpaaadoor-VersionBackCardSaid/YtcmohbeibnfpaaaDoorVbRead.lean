/- Contract of version.Read at the text of a set. -/
import Derived.Test.YtcmohbeibnfpaaaDoorVbText
set_option linter.unusedVariables false
namespace Go.Proofs.YtcmohbeibnfpaaaDoor
open Go.RowKit Go.Mem Go.Ver
theorem split_bytes {r : Rg} {l : List Rg} : Lib.splitB ⟨#[44]⟩ 0 (Lib.countB ⟨(textF (r :: l)).toArray⟩ ⟨#[44]⟩) ⟨(textF (r :: l)).toArray⟩ = (parts (r :: l)).map fun p => ⟨p.toArray⟩ := by
  have h := Lib.splitB_data ⟨#[44]⟩ 0 (Lib.countB ⟨(textF (r :: l)).toArray⟩ ⟨#[44]⟩) ⟨(textF (r :: l)).toArray⟩
  have e : Lib.splitK [44] 0 (Lib.count (textF (r :: l)) [44]) (textF (r :: l)) = parts (r :: l) := text_split.2
  have e2 : (Lib.splitB ⟨#[44]⟩ 0 (Lib.countB ⟨(textF (r :: l)).toArray⟩ ⟨#[44]⟩) ⟨(textF (r :: l)).toArray⟩).map (fun x => x.data.toList) = parts (r :: l) := h.trans e
  rw [← e2, List.map_map]
  symm
  exact List.map_id'' (fun _ => rfl) _
theorem split_any (r : Rg) (l : List Rg) (w : World) (hv : Env w) (hl : (textF (r :: l)).length ≤ 100000) :
    Calls Tryd.prog 15 #[.string ⟨(textF (r :: l)).toArray⟩, .string ⟨#[44]⟩] w fun e w' => e = .returned (.slice (some ⟨w.heap.size, 0, none⟩) (r :: l).length (r :: l).length) ∧ w' = w.alloc (.cells (strs (parts (r :: l))).toArray 9) := by
  have hc : Lib.countB ⟨(textF (r :: l)).toArray⟩ ⟨#[44]⟩ + 1 = (r :: l).length := by
    have : Lib.count (textF (r :: l)) [44] = l.length := text_split.1
    rw [List.length_cons, ← this]
  refine (Tryd.strings_Split_shaped ⟨(textF (r :: l)).toArray⟩ ⟨#[44]⟩ w hv.sh (by rw [bsz]; omega) (by decide)).mono ?_
  rintro e w' ⟨rfl, rfl⟩
  rw [hc, split_bytes]
  refine ⟨rfl, ?_⟩
  congr 3
  unfold strs
  rw [List.map_map]
  rfl
theorem below_drewNm' (w : World) : ∀ n, Below w.heap.size w (w.drewN n)
  | 0 => Below.refl _ _
  | n + 1 => (below_drewNm' w n).drew
theorem cut_any (r : Rg) (hr : right r) (w : World) (hv : Env w) :
    Calls Tryd.prog 16 #[.string ⟨(Ver.part r).toArray⟩, .string ⟨#[45]⟩] w fun e w' => e = .returned (.tuple #[.string ⟨(Lib.decDigits r.1).toArray⟩, .string ⟨(if r.2 = r.1 then [] else Lib.decDigits r.2).toArray⟩, .bool (!decide (r.2 = r.1))]) ∧ Below w.heap.size w w' := by
  have hl := part_len hr
  refine (Tryd.strings_Cut_shaped ⟨(Ver.part r).toArray⟩ ⟨#[45]⟩ w hv.sh (by rw [bsz]; omega)).mono ?_
  rintro e w' ⟨rfl, n, rfl⟩
  have hc : Lib.cut (Ver.part r) [45] = _ := cut_part r
  refine ⟨?_, below_drewNm' w n⟩
  show Ending.returned (.tuple #[.string ⟨(Lib.cut (Ver.part r) [45]).1.toArray⟩, .string ⟨(Lib.cut (Ver.part r) [45]).2.1.toArray⟩, .bool (Lib.cut (Ver.part r) [45]).2.2]) = _
  rw [hc]
  by_cases h : r.2 = r.1
  · simp [h]
  · simp [h]
/-- the row of ranges so far -/
structure RgsAt (w wr : World) (l : List Rg) (A : Option Addr) (n c : Nat) : Prop where
  len : n = l.length
  own : wr.ownsRow w.heap.size 34 2 (.slice A n c) n (rgs l)
  be : Below w.heap.size w wr
theorem RgsAt.below {w wr w' : World} {l : List Rg} {A : Option Addr} {n c : Nat} (h : RgsAt w wr l A n c) (hb : Below wr.heap.size wr w') : RgsAt w w' l A n c := ⟨h.len, own_below h.own hb, h.be.trans (hb.mono h.be.size)⟩
theorem RgsAt.snoc {w wr w2 : World} {l : List Rg} {A A' : Option Addr} {n c c' : Nat} (h : RgsAt w wr l A n c) (r : Rg) (ho : w2.ownsRow w.heap.size 34 2 (.slice A' (n + 1) c') (n + 1) (rgs l ++ rgc r)) (hg : wr.grownBy w2 (Value.slice A n c).ownBlock) : RgsAt w w2 (l ++ [r]) A' (n + 1) c' :=
  ⟨by rw [List.length_append, ← h.len]; rfl, by rw [rgs_append, rgs_one]; exact ho, h.be.grown hg h.be.size (fun k hk => (h.own.lt k hk).1)⟩
theorem RgsAt.holds {w wr : World} {l : List Rg} {A : Option Addr} {n c : Nat} (h : RgsAt w wr l A n c) : Ver.Holds wr l A c := by
  obtain ⟨h1, h2, h3⟩ := own_reads (by omega) h.own
  have e := h.len
  subst e
  exact ⟨h1, h2, h3.imp (by omega) fun _ _ _ => trivial⟩
set_option maxRecDepth 100000 in
set_option maxHeartbeats 4000000 in
theorem read_any (l : List Rg) (w : World) (hv : Env w) (h : Ok l) (h50 : l.length ≤ 50) :
    Calls Tryd.prog 6 #[.string ⟨(textF l).toArray⟩] w (RgPost w l) := by
  cases hl : l with
  | nil =>
    have CT := Lib.hid (fun (V : World) (hV : Env V) => text_any none 0 0 [] V hV (by exact Reads.empty) rfl (by exact Ok.nil) (by omega))
    have HV := Lib.hid hv
    have ht : (textF []).toArray = #[] := rfl
    rw [ht] at CT ⊢
    clear ht h hl hv
    go_enter Tryd.func6, Tryd.ntmps6
    go_wp2_with (go_at_call 5; refine (CT.out w HV.out).mono ?_; rintro e w1 ⟨rfl, hb1⟩)
    go_ret2
    exact ⟨none, 0, rfl, ⟨Nat.le_refl _, Nat.zero_le _, Reads.empty⟩, hb1⟩
  | cons r0 l0 =>
    rw [← hl]
    have hbd := join_bd l h.1
    have hne : textF l ≠ [] := by rw [hl]; exact text_ne
    have CS := Lib.hid (by have := split_any r0 l0 w hv (by rw [← hl]; omega); rw [← hl] at this; exact this)
    have HV := Lib.hid hv
    have HL := Lib.hid h
    obtain ⟨n, hn⟩ : ∃ n, n = l.length := ⟨_, rfl⟩
    rw [← hn] at CS h50
    have HN := Lib.hid hn
    have hsz : (ByteArray.mk (textF l).toArray).size = (textF l).length := bsz _
    have hpos : 0 < (textF l).length := List.length_pos_iff.2 hne
    have HNE := Lib.hid hne
    have hie : (textF l).isEmpty = false := by
      cases e : textF l with
      | nil => exact absurd e hne
      | cons x y => rfl
    have CT := Lib.hid (fun (V : World) (hV : Env V) (A2 : Option Addr) (c2 : Nat) (hr : Ver.Holds V l A2 c2) => text_any A2 n c2 l V hV (by rw [hn]; exact hr.2.2) hn h h50)
    have HSC := Lib.hid (fun k (hk : k < l.length) => (show (strs (parts l))[k]? = some (.string ⟨(Ver.part l[k]).toArray⟩) from by simp [strs, parts, hk]))
    generalize textF l = T at CS CT hsz hpos hie ⊢
    clear hl hne h hv hn hbd HNE
    go_enter Tryd.func6, Tryd.ntmps6
    go_wp2_with (go_at_call 15; refine CS.out.mono ?_; rintro e w1 ⟨rfl, hw1⟩; have H1 := Lib.hid hw1; clear hw1)
    obtain ⟨SB, hSB⟩ : ∃ SB, SB = w.heap.size := ⟨_, rfl⟩
    rw [← hSB]
    have fS : Blk w1 SB 9 (strs (parts l)) := by rw [H1.out, hSB]; exact Blk.new w _ _
    have hb1 : Below w.heap.size w w1 := by rw [H1.out]; exact (Below.refl _ _).alloc (Nat.le_refl _) _
    have HS := Lib.hid (And.intro fS hb1)
    clear fS hb1 hSB CS H1
    go_loopw [4, 21] (fun v i wr => ∃ k A2 c2, k ≤ n ∧ i = .int .i64 (k : Nat) ∧ v = .slice A2 k c2 ∧ Hid (RgsAt w1 wr (l.take k) A2 k c2)) (fun _ i _ => n - (intOf i).toNat)
    case atStart => exact ⟨0, none, 0, Nat.zero_le _, rfl, rfl, ⟨rfl, World.ownsRow_nil _ _ _ _, Below.refl _ _⟩⟩
    case round =>
      obtain ⟨k, A2, c2, hk, rfl, rfl, HP⟩ := hrel
      have HVr := Lib.hid ((HV.out.below HS.out.2).below HP.out.be)
      by_cases hlt : k < n
      · have hkl : k < l.length := by have := HN.out; omega
        have hr := HL.out.1 _ (List.getElem_mem hkl)
        have gS := (HP.out.be.cell (p := ⟨SB, k, none⟩) HS.out.1.lt).trans ((HS.out.1.cell k).trans (HSC.out k hkl))
        have lS : SB < wr.heap.size := by have := HS.out.1.lt; have := HP.out.be.size; omega
        have NX := Lib.hid (show l.take (k + 1) = l.take k ++ [l[k]] from List.take_succ_eq_append_getElem hkl)
        generalize l[k] = r at hr gS NX
        have CC := Lib.hid (cut_any r hr wr HVr.out)
        obtain ⟨a, b⟩ := r
        obtain ⟨r1, r2, r3⟩ := hr
        simp only at r1 r2 r3
        have CA := Lib.hid (fun V => atoi_any a (by omega) V)
        have CB := Lib.hid (fun V => atoi_any b (by omega) V)
        generalize (ByteArray.mk (Ver.part (a, b)).toArray) = PT at gS CC
        by_cases hab : b = a
        · subst hab
          simp only [if_true, decide_true, Bool.not_true] at CC
          clear r3 CB
          go_wp2_with (fail)
          refine CC.out.mono ?_
          rintro e w5 ⟨rfl, hb5⟩
          dsimp only
          go_wp2_with (fail)
          refine (CA.out w5).mono ?_
          rintro e w6 ⟨rfl, hb6⟩
          dsimp only
          go_wp2_with (fail)
          refine (CA.out w6).mono ?_
          rintro e w7 ⟨rfl, hb7⟩
          dsimp only
          have HP7 := Lib.hid (((HP.out.below hb5).below hb6).below hb7)
          have hs7 := HP7.out.be.size
          clear hb5 hb6 hb7
          go_wp2_with (at_builtin; refine app_rg _ rfl (.tmp 50) (.tmp 54) rfl (HP7.out.own.alloc (.cells #[.int .i64 (b : Nat), .int .i64 (b : Nat)] 34)) rfl (D := Any) (Reads.new (D := Any) w7 [.int .i64 (b : Nat), .int .i64 (b : Nat)] 2 1 34 trivial rfl) rfl (by simp [Value.oneCell']) (by omega) (by simp; omega) ?_; intro v1 w9 hown1 hg1 hat1; obtain ⟨A9, c9, rfl, _⟩ := own_form hown1)
          refine ⟨⟨k + 1, A9, c9, by omega, by go_num, rfl, ?_⟩, by simp [intOf]; omega⟩
          rw [NX.out]
          exact HP7.out.snoc (b, b) hown1 (grown_of_alloc' hg1)
        · simp only [if_neg hab, decide_eq_false hab, Bool.not_false] at CC
          clear r3 hab
          go_wp2_with (fail)
          refine CC.out.mono ?_
          rintro e w5 ⟨rfl, hb5⟩
          dsimp only
          go_wp2_with (fail)
          refine (CA.out w5).mono ?_
          rintro e w6 ⟨rfl, hb6⟩
          dsimp only
          go_wp2_with (fail)
          refine (CB.out w6).mono ?_
          rintro e w7 ⟨rfl, hb7⟩
          dsimp only
          have HP7 := Lib.hid (((HP.out.below hb5).below hb6).below hb7)
          have hs7 := HP7.out.be.size
          clear hb5 hb6 hb7
          go_wp2_with (at_builtin; refine app_rg _ rfl (.tmp 50) (.tmp 54) rfl (HP7.out.own.alloc (.cells #[.int .i64 (a : Nat), .int .i64 (b : Nat)] 34)) rfl (D := Any) (Reads.new (D := Any) w7 [.int .i64 (a : Nat), .int .i64 (b : Nat)] 2 1 34 trivial rfl) rfl (by simp [Value.oneCell']) (by omega) (by simp; omega) ?_; intro v1 w9 hown1 hg1 hat1; obtain ⟨A9, c9, rfl, _⟩ := own_form hown1)
          refine ⟨⟨k + 1, A9, c9, by omega, by go_num, rfl, ?_⟩, by simp [intOf]; omega⟩
          rw [NX.out]
          exact HP7.out.snoc (a, b) hown1 (grown_of_alloc' hg1)
      · obtain rfl : k = n := by omega
        have hks : l.take k = l := List.take_of_length_le (by have := HN.out; omega)
        rw [hks] at HP
        have HH := Lib.hid HP.out.holds
        have HB := Lib.hid (HS.out.2.trans (HP.out.be.mono HS.out.2.size))
        have CT' := Lib.hid (CT.out wr HVr.out A2 c2 HH.out)
        have HNE := Lib.hid HN.out
        clear hks CT
        go_wp2_with (go_at_call 5; refine CT'.out.mono ?_; rintro e w7 ⟨rfl, hb7⟩)
        go_ret2
        refine ⟨A2, c2, ?_, HH.out.later hb7 (Nat.le_refl _), HB.out.trans (hb7.mono HB.out.size)⟩
        rw [← HN.out]
        rfl
end Go.Proofs.YtcmohbeibnfpaaaDoor
