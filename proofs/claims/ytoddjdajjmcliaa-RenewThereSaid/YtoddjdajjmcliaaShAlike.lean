/- Contract of (*pair).alike, if 'same' does what it should to a depth. -/
import Derived.Test.YtoddjdajjmcliaaShSame0
import Derived.Laws.EntriesVeiled
set_option linter.unusedVariables false
namespace Go.Proofs.Ytoddjdajjmcliaa
open Go.RowKit Go.Mem Go.Sh Go.Maps
theorem zero_bool : ∀ w : World, (zeroValue 4).run Try.prog w = .ok (.bool false) w := fun _ => by kernel_rfl
theorem _root_.Go.Mem.Same.off {w w' : World} {D : Nat → Prop} (h : Same Any w w') : Same D w w' := fun b _ hl => h b trivial hl
theorem mget_seen (s : List Nm) (n : Nm) : mget (s.map fun n => (n, Value.bool true)) n = if n ∈ s then some (.bool true) else none := by
  induction s with
  | nil => rfl
  | cons a r ih =>
    rw [List.map_cons, mget_cons]
    by_cases e : a = n
    · simp [e]
    · simp only [e, if_false, ih, List.mem_cons, Ne.symm (Ne.intro e), false_or]
theorem mput_seen {s : List Nm} {n : Nm} (h : n ∉ s) : mput (s.map fun n => (n, Value.bool true)) n (.bool true) = (s ++ [n]).map fun n => (n, Value.bool true) := by
  unfold mput
  rw [mget_seen, if_neg h]
  simp
theorem PairAt.cellsP {d : Nat} {w : World} {S M : Nat} {p q : Pg} {P Q : List Dt} (h : PairAt d w S M p P q Q) : w.cell? ⟨S, 0, none⟩ = some (str [109]) ∧ w.cell? ⟨S, 1, none⟩ = some (.int .i64 1) ∧ w.cell? ⟨S, 2, none⟩ = some (.slice none 0 0) ∧ w.cell? ⟨S, 3, none⟩ = some (.slice p.A p.n p.c) ∧ w.cell? ⟨S, 4, none⟩ = some (.slice none 0 0) ∧ w.cell? ⟨S, 5, none⟩ = some (.slice none 0 0) ∧ w.cell? ⟨S, 6, none⟩ = some (.slice none 0 0) ∧ w.cell? ⟨S, 7, none⟩ = some (.slice p.B p.m p.e) := ⟨h.blk.cell 0, h.blk.cell 1, h.blk.cell 2, h.blk.cell 3, h.blk.cell 4, h.blk.cell 5, h.blk.cell 6, h.blk.cell 7⟩
theorem PairAt.cellsQ {d : Nat} {w : World} {S M : Nat} {p q : Pg} {P Q : List Dt} (h : PairAt d w S M p P q Q) : w.cell? ⟨S, 8, none⟩ = some (str [109]) ∧ w.cell? ⟨S, 9, none⟩ = some (.int .i64 1) ∧ w.cell? ⟨S, 10, none⟩ = some (.slice none 0 0) ∧ w.cell? ⟨S, 11, none⟩ = some (.slice q.A q.n q.c) ∧ w.cell? ⟨S, 12, none⟩ = some (.slice none 0 0) ∧ w.cell? ⟨S, 13, none⟩ = some (.slice none 0 0) ∧ w.cell? ⟨S, 14, none⟩ = some (.slice none 0 0) ∧ w.cell? ⟨S, 15, none⟩ = some (.slice q.B q.m q.e) := ⟨h.blk.cell 8, h.blk.cell 9, h.blk.cell 10, h.blk.cell 11, h.blk.cell 12, h.blk.cell 13, h.blk.cell 14, h.blk.cell 15⟩
theorem PairAt.cellM {d : Nat} {w : World} {S M : Nat} {p q : Pg} {P Q : List Dt} (h : PairAt d w S M p P q Q) : w.cell? ⟨S, 16, none⟩ = some (.map (some M)) := h.blk.cell 16
set_option maxRecDepth 100000 in
set_option maxHeartbeats 2000000 in
theorem alike_any (f : Nat) (IH : SameTo f) (dd : Nat) (w : World) (S M : Nat) (p : Pg) (P : List Dt) (q : Pg) (Q : List Dt) (s : List Nm) (n : Nm) (r : Bool) (s' : List Nm)
    (hp : PairAt dd w S M p P q Q) (hs : SeenAt w w M s) (hn : n.length ≤ 1000) (hf : alikeF P Q (sameF P Q f) s n = some (r, s')) :
    Calls Try.prog 40 #[.pointer (some ⟨S, 0, none⟩), str n] w fun e w' => e = .returned (.bool r) ∧ SeenAt w w' M s' := by
  have hok : okS n := by unfold okS; omega
  have hs1 := hs.alloc (.cells #[.pointer (some ⟨S, 0, none⟩)] 85)
  have hp1 := hp.seen hs1
  have x16 := hp1.cellM
  have lS := hp1.blk.lt
  have lk := hs1.2.lookup enc_S Try.underlying86 zero_bool (a := n) hok false
  rw [mget_seen] at lk
  have HS1 := Lib.hid hs1
  have HP := Lib.hid hp
  have HO := Lib.hid hok
  unfold alikeF at hf
  by_cases hmem : n ∈ s
  · rw [if_pos hmem] at hf lk
    injection hf with hf
    injection hf with h2 h3
    subst h2 h3
    simp only [Option.getD_some] at lk
    clear hp hs hp1 hs1 hmem hok
    go_enter Try.func40, Try.ntmps40
    go_wp2_with (fail)
    go_ret
    exact ⟨rfl, HS1.out⟩
  · rw [if_neg hmem] at hf lk
    simp only [Option.getD_none] at lk
    have HMem := Lib.hid hmem
    have hF : ∃ a b, dataOf P n = some a ∧ dataOf Q n = some b ∧ a.params.length = b.params.length ∧ eqF (makeF fun s t u => sameF P Q f s t u a.params b.params) (s ++ [n]) a.makes b.makes = some (r, s') := by
      cases ha : dataOf P n with
      | none => rw [ha] at hf; cases hf
      | some a =>
        cases hb : dataOf Q n with
        | none => rw [ha, hb] at hf; cases hf
        | some b =>
          rw [ha, hb] at hf
          simp only at hf
          by_cases h : a.params.length = b.params.length
          · rw [if_pos h] at hf
            exact ⟨a, b, rfl, rfl, h, hf⟩
          · rw [if_neg h] at hf
            cases hf
    obtain ⟨a, b, hda, hdb, hpl, hF⟩ := hF
    have HD := Lib.hid (And.intro hda (And.intro hdb (And.intro hpl hF)))
    have hML : M < w.heap.size := hs.2.lt
    clear hp hs hp1 hs1 hmem hf hda hdb hpl hF hok
    obtain ⟨b2, hb2⟩ : ∃ b2, b2 = w.heap.size := ⟨_, rfl⟩
    have k2 : (w.alloc (.cells #[.pointer (some ⟨S, 0, none⟩)] 85)).cell? ⟨b2, 0, none⟩ = some (.pointer (some ⟨S, 0, none⟩)) := by rw [hb2]; exact (Blk.new w 85 [.pointer (some ⟨S, 0, none⟩)]).cell 0
    have l2 : b2 < (w.alloc (.cells #[.pointer (some ⟨S, 0, none⟩)] 85)).heap.size := by rw [hb2]; simp
    go_enter Try.func40, Try.ntmps40
    go_upto_region 1 with (fail)
    rw [← hb2]
    have HB2 := Lib.hid (show b2 ≠ M by omega)
    clear hb2
    generalize w.alloc (.cells #[.pointer (some ⟨S, 0, none⟩)] 85) = W1 at *
    go_wp2_with (refine wpList_mupdate _ rfl (.tmp 19) (.tmp 20) (.const (.bool true)) _ rfl enc_S Try.underlying86 (b := M) (key := n) rfl (by exact HS1.out.2) rfl HO.out ?_; intro w3 hm3 hg3; have HS3 := Lib.hid (show SeenAt w w3 M (s ++ [n]) from ⟨grownBy_trans HS1.out.1 hg3, by rw [← mput_seen HMem.out]; exact hm3⟩); have k2' := hg3.cell k2 (by intro e; injection e with e; exact HB2.out e); obtain ⟨y0, y1, y2, y3, y4, y5, y6, y7⟩ := (HP.out.seen HS3.out).cellsP; have lS3 := (HP.out.seen HS3.out).blk.lt; have l23 := lt_of_cell k2'; clear hm3 hg3 k2 x16 lS lk l2)
    have KD := kindData_any dd (Off M) p.A p.n p.c p.B p.m p.e P n w3 (HP.out.seen HS3.out).dp
    rw [HD.out.1] at KD
    refine KD.mono ?_
    unfold KindPost
    rintro e w4 ⟨hb4, X, cx, A4, n4, c4, rfl, hx, hrx, hma⟩
    have HS4 := Lib.hid (HS3.out.below hb4)
    have k24 := (hb4.cell (p := ⟨b2, 0, none⟩) l23).trans k2'
    have l24 := lt_of_cell k24
    obtain ⟨z0, z1, z2, z3, z4, z5, z6, z7⟩ := (HP.out.seen HS4.out).cellsQ
    have lS4 := (HP.out.seen HS4.out).blk.lt
    have HRA := Lib.hid (And.intro hx (And.intro hrx hma))
    clear KD y0 y1 y2 y3 y4 y5 y6 y7 k2' lS3
    clear hx hrx hma hb4 l23
    have HS5 := Lib.hid (HS4.out.alloc (.cells #[str a.name, .slice X a.params.length cx, .slice A4 n4 c4] 83))
    have KE := Lib.hid (kindData_any dd (Off M) q.A q.n q.c q.B q.m q.e Q n _ (HP.out.seen HS5.out).dq)
    rw [HD.out.2.1] at KE
    obtain ⟨b5, hb5⟩ : ∃ b5, b5 = w4.heap.size := ⟨_, rfl⟩
    have HB5 := Lib.hid hb5
    clear hb5
    go_wp2_with (fail)
    refine KE.out.mono ?_
    unfold KindPost
    rintro e w6 ⟨hb6, Y, cy, A6, n6, c6, rfl, hy, hry, hmb⟩
    have g5 : Blk w6 b5 83 [str a.name, .slice X a.params.length cx, .slice A4 n4 c4] := by
      have h := Blk.new w4 83 [str a.name, .slice X a.params.length cx, .slice A4 n4 c4]
      rw [← HB5.out] at h
      exact h.below hb6 h.lt
    have hb46 : Below w4.heap.size w4 w6 := ((Below.refl _ _).alloc (Nat.le_refl _) _).trans (hb6.mono (by simp))
    have k26 := (hb46.cell (p := ⟨b2, 0, none⟩) l24).trans k24
    have l26 := lt_of_cell k26
    have l56 := g5.lt
    have e51 := g5.cell 1
    have e52 := g5.cell 2
    simp only [List.getElem?_cons_zero, List.getElem?_cons_succ] at e51 e52
    have HS6 := Lib.hid (HS5.out.below hb6)
    have hM6 : M < w4.heap.size := HS4.out.2.lt
    have HRA6 := Lib.hid (And.intro HRA.out.1 (And.intro (HRA.out.2.1.keep (Same.any hb46 : Same Any w4 w6).off) (HRA.out.2.2.keep (Same.any hb46 : Same Any w4 w6).off)))
    have HRB6 := Lib.hid (And.intro hy (And.intro hry hmb))
    have hb5M : b5 ≠ M := by have := HB5.out; omega
    have h6M : M < w6.heap.size := by have := hb46.size; omega
    have gl : ((a.params.length : Int) == (b.params.length : Int)) = true := by have := HD.out.2.2.1; simp; omega
    have gl2 : (a.params.length == b.params.length) = true := by have := HD.out.2.2.1; simp; omega
    rw [← HB5.out]
    clear hy hry hmb hb6 k24 l24 z0 z1 z2 z3 z4 z5 z6 z7 lS4 KE g5 hb46 HB5
    have HS9 := Lib.hid ((HS6.out.alloc (.cells #[str b.name, .slice Y b.params.length cy, .slice A6 n6 c6] 83)).alloc (.cells #[.func (.func 67) #[] #[.pointer (some ⟨b2, 0, none⟩), .pointer (some ⟨b5, 0, none⟩), .pointer (some ⟨w6.heap.size, 0, none⟩)]] 147))
    go_wp2_with (fail)
    have hw9 : Below w6.heap.size w6 ((w6.alloc (.cells #[str b.name, .slice Y b.params.length cy, .slice A6 n6 c6] 83)).alloc (.cells #[.func (.func 67) #[] #[.pointer (some ⟨b2, 0, none⟩), .pointer (some ⟨b5, 0, none⟩), .pointer (some ⟨w6.heap.size, 0, none⟩)]] 147)) := ((Below.refl _ _).alloc (Nat.le_refl _) _).alloc (by simp) _
    have g7 := (Blk.new w6 83 [str b.name, .slice Y b.params.length cy, .slice A6 n6 c6]).alloc (.cells #[.func (.func 67) #[] #[.pointer (some ⟨b2, 0, none⟩), .pointer (some ⟨b5, 0, none⟩), .pointer (some ⟨w6.heap.size, 0, none⟩)]] 147)
    have g9 := Blk.new (w6.alloc (.cells #[str b.name, .slice Y b.params.length cy, .slice A6 n6 c6] 83)) 147 [.func (.func 67) #[] #[.pointer (some ⟨b2, 0, none⟩), .pointer (some ⟨b5, 0, none⟩), .pointer (some ⟨w6.heap.size, 0, none⟩)]]
    rw [show (w6.alloc (.cells #[str b.name, .slice Y b.params.length cy, .slice A6 n6 c6] 83)).heap.size = w6.heap.size + 1 by simp] at g9
    have k7 := g7.cell 1
    have k9 := g9.cell 0
    simp only [List.getElem?_cons_zero, List.getElem?_cons_succ] at k7 k9
    have hc : CapAt ((w6.alloc (.cells #[str b.name, .slice Y b.params.length cy, .slice A6 n6 c6] 83)).alloc (.cells #[.func (.func 67) #[] #[.pointer (some ⟨b2, 0, none⟩), .pointer (some ⟨b5, 0, none⟩), .pointer (some ⟨w6.heap.size, 0, none⟩)]] 147)) S M b2 b5 w6.heap.size (w6.heap.size + 1) X cx a.params Y cy b.params :=
      ⟨(hw9.cell (p := ⟨b2, 0, none⟩) l26).trans k26, (hw9.cell (p := ⟨b5, 1, none⟩) l56).trans e51, k7, k9, ⟨HB2.out, hb5M, by omega, by omega⟩, ⟨HRA6.out.2.1.keep (Same.any hw9 : Same Any _ _).off, HRA6.out.1⟩, ⟨HRB6.out.2.1.keep (Same.any hw9 : Same Any _ _).off, HRB6.out.1⟩⟩
    have EQ := equalM_any dd _ M A4 n4 c4 a.makes A6 n6 c6 b.makes (makeF fun s t u => sameF P Q f s t u a.params b.params) 69 #[.pointer (some ⟨w6.heap.size + 1, 0, none⟩)] (s ++ [n]) s' r (HRA6.out.2.2.keep (Same.any hw9 : Same Any _ _).off) (HRB6.out.2.2.keep (Same.any hw9 : Same Any _ _).off) HS9.out.start HD.out.2.2.2 (enters_of Try.func69 (by kernel_rfl) rfl)
      (fun m n s1 s2 q9 W A7 m7 c7 A8 m8 c8 hW _ _ ht hu h9 => (alike2_any f IH dd dd W S M p P q Q s1 m n A7 m7 c7 A8 m8 c8 b2 b5 w6.heap.size (w6.heap.size + 1) X cx a.params Y cy b.params q9 s2 ((HP.out.seen HS9.out).seen hW) hW.start ht hu (hc.seen hW) h9).mono fun e w' h => ⟨h.1, hW.trans h.2⟩)
    refine EQ.mono ?_
    clear EQ hc g7 g9 k7 k9 hw9
    rintro e w10 ⟨rfl, hs10⟩
    go_wp2_with (fail)
    go_ret
    exact ⟨rfl, HS9.out.trans hs10⟩
end Go.Proofs.Ytoddjdajjmcliaa
