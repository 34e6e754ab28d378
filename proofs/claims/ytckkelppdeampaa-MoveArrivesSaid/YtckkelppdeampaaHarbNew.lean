/- Contract of package move's newWorld. (Printed by harbnew.py.) -/
import Derived.Test.YtckkelppdeampaaHarbNew0
import Derived.Laws.MakeOwn
import Derived.Deep.DeepCutAuto
import Derived.Outline
set_option linter.unusedVariables false
namespace Go.Proofs.Ytckkelppdeampaa
open Go.RowKit Go.Mem Go.Mv Go.Maps
theorem nils_made (n : Nat) : madeCells #[Value.slice none 0 0] n = (List.replicate n (Value.slice none 0 0)).toArray := by
  apply Array.ext'
  simp [madeCells, Nat.mod_one]
  apply List.ext_getElem <;> simp
theorem info_els : (Try.prog.info? 52).map (fun i => (i.zero, i.size, i.bytes)) = some (some (.slice none 0 0), 1, 24) := by kernel_rfl
theorem info_gts : (Try.prog.info? 36).map (fun i => (i.zero, i.size, i.bytes)) = some (some (.slice none 0 0), 1, 24) := by kernel_rfl
theorem make_els (n : Nat) (hn : n ≤ 100) (z : Int) (hz : z = (n : Int)) (w : World) : (Instr.makeSlice 48 (.int .i64 z) (.int .i64 z)).run Try.prog w = .ok (.slice (some ⟨w.heap.size, 0, none⟩) n n) (w.alloc (.cells (List.replicate n (Value.slice none 0 0)).toArray 52)) := by
  subst hz
  obtain ⟨i0, hi0, hz0, hz1, hz2⟩ := info_parts info_els
  have := run_make (P := Try.prog) w 48 52 i0 _ Try.underlying48 hi0 hz0 .i64 .i64 n n (by omega) (by omega) (by rw [hz2]; omega) (by omega)
  rw [this, hz1]
  simp [Value.cells, nils_made]
theorem make_gts (n : Nat) (hn : n ≤ 100) (w : World) : (Instr.makeSlice 26 (.int .i64 (n : Int)) (.int .i64 (n : Int))).run Try.prog w = .ok (.slice (some ⟨w.heap.size, 0, none⟩) n n) (w.alloc (.cells (List.replicate n (Value.slice none 0 0)).toArray 36)) := by
  obtain ⟨i0, hi0, hz0, hz1, hz2⟩ := info_parts info_gts
  have := run_make (P := Try.prog) w 26 36 i0 _ Try.underlying26 hi0 hz0 .i64 .i64 n n (by omega) (by omega) (by rw [hz2]; omega) (by omega)
  rw [this, hz1]
  simp [Value.cells, nils_made]

def NwI (w : World) (nodes : Nat) (C : List Nat) (A : Option Addr) (n c : Nat) (listed : Array Bool) (a : Act) (W : World) : Prop :=
  ∃ (b2 b3 b4 b5 b6 b9 b12 : Bool) (x11 x12 x13 x14 x15 x18 x21 : Value) (col : Nat → Mc), listed = #[true, true, b2, b3, b4, b5, b6, true, true, b9, true, true, b12, false, false, false] ∧ a = { tmps := #[.int .i64 (nodes : Nat), .slice A n c, undef, undef, .pointer none, undef, undef, undef, undef, .int .i64 (nodes : Nat), .slice A n c, x11, x12, x13, x14, x15, .int .i64 (nodes : Nat), .int .i64 ((nodes : Int) + 1), x18, .slice A n c, .int .i64 (n : Nat), x21, undef, undef, undef, undef, undef, undef, undef, undef, undef, undef, undef, undef, undef, undef, undef, undef, undef, undef, undef, undef, undef, undef, undef, undef, undef, undef, undef, undef, undef, undef, undef, undef, undef, undef, undef], defers := [] } ∧ Below w.heap.size w W ∧ (∀ b, b < w.heap.size → col b = .out) ∧ MkA W col C b2 x11 ∧ MkM W col .bel b3 x12 ∧ MkM W col .sent b4 x13 ∧ MkM W col .cst b5 x14 ∧ MkM W col .ways b6 x15 ∧ MkS W col 52 .wt (nodes + 1) b9 x18 ∧ MkS W col 36 .gt n b12 x21
theorem put_bel0 {w : World} {m : Nat} {l : List ((Nat × Nat) × Value)} (h : MapOf encP okP w m l) (a b : Nat) (ha : a < 1000) (hb : b < 1000) (v : Value) :
    ∃ w', (Instr.mapUpdate 44 (.map (some m)) (.agg #[.int .i64 (a : Nat), .int .i64 (b : Nat)]) v).run Try.prog w = .ok () w' ∧ MapOf encP okP w' m (mput l (a, b) v) ∧ w.grownBy w' (some m) :=
  h.update enc_spot Try.underlying44 (a := (a, b)) ⟨ha, hb⟩ v
theorem put_inb {w : World} {m : Nat} {l : List ((Nat × Nat) × Value)} (h : MapOf encP okP w m l) (a b : Nat) (ha : a < 1000) (hb : b < 1000) (v : Value) :
    ∃ w', (Instr.mapUpdate 46 (.map (some m)) (.agg #[.int .i64 (a : Nat), .int .i64 (b : Nat)]) v).run Try.prog w = .ok () w' ∧ MapOf encP okP w' m (mput l (a, b) v) ∧ w.grownBy w' (some m) :=
  h.update enc_spot Try.underlying46 (a := (a, b)) ⟨ha, hb⟩ v
theorem mem_all {l : List Nat} {i : Nat} {p : Nat → Bool} (hi : i ∈ l) (h : l.all p = true) : p i = true := List.all_eq_true.1 h i hi
theorem low_recol {w W : World} {col : Nat → Mc} {c : Mc} (h : ∀ b, b < w.heap.size → col b = .out) (hb : Below w.heap.size w W) : ∀ b, b < w.heap.size → recol col W.heap.size c b = .out := fun b hb' => (recol_old (Nat.lt_of_lt_of_le hb' hb.size)).trans (h b hb')
set_option maxRecDepth 100000 in
set_option maxHeartbeats 8000000 in
theorem newWorld_any (w : World) (nodes : Nat) (C : List Nat) (A : Option Addr) (n c : Nat) (hn : n = C.length) (hn0 : 0 < n) (nd : nodes ≤ 8 ∧ n ≤ 5) (hr : Reads w Any 1 A n (natv C)) :
    Calls Try.prog 11 #[.int .i64 (nodes : Nat), .slice A n c] w fun e w' => ∃ col m, e = .returned (.pointer (some ⟨m.T, 0, none⟩)) ∧ HW w' w.heap.size col m (newF nodes C) ∧ Below w.heap.size w w' ∧ ∀ p ∈ m.lI, (1 ≤ p.1.1 ∧ p.1.1 ≤ nodes) ∧ p.1.2 < C.length := by
  have Hn := Lib.hid hn
  have CL := Lib.hid (fun (W : World) (hb : Below w.heap.size w W) => clone_ints A n c (nInt C) Any W (by rw [nums_nInt]; exact hr.keep (Same.any hb)) (by omega))
  have hmm := @run_makeMap Try.prog
  have m1 := fun W => make_els (nodes + 1) (by omega) ((nodes : Int) + 1) (by omega) W
  have m2 := fun W => make_gts n (by omega) W
  have hwr : IntKind.i64.wrap ((nodes : Int) + 1) = (nodes : Int) + 1 := IntWalk.i64_in _ (by omega)
  clear hn
  go_enter Try.func11, Try.ntmps11
  go_wp2_with (fail)
  go_cut [5] (fun v5 wc => ∃ col m, v5 = .pointer (some ⟨m.T, 0, none⟩) ∧ Hid (NewAt wc w.heap.size col m nodes C (fun _ _ => False) ∧ Below w.heap.size w wc))
  case first =>
    refine wp_region_any (by kernel_rfl) ?_
    change wpAny _ _ _ _ _ _ _ (World.drew _)
    refine wpAny_take (i := 0) (v := .int .i64 (nodes : Nat)) rfl ?_ ?_ ?_ (fun _ _ _ h => h) (Or.inl ⟨by rfl, ?_⟩) ?_; (· decide +kernel); (· decide +kernel); (· decide +kernel); (· (intro w; go_simp))
    refine wpAny_take (i := 1) (v := .slice A n c) rfl ?_ ?_ ?_ (fun _ _ _ h => h) (Or.inl ⟨by rfl, ?_⟩) ?_; (· decide +kernel); (· decide +kernel); (· decide +kernel); (· (intro w; go_simp))
    refine wpAny_take (i := 7) (v := .int .i64 (nodes : Nat)) rfl ?_ ?_ ?_ (fun _ _ _ h => h) (Or.inl ⟨by rfl, ?_⟩) ?_; (· decide +kernel); (· decide +kernel); (· decide +kernel); (· (intro w; go_simp))
    refine wpAny_take (i := 8) (v := .int .i64 ((nodes : Int) + 1)) rfl ?_ ?_ ?_ (fun _ _ _ h => h) (Or.inl ⟨by rfl, ?_⟩) ?_; (· decide +kernel); (· decide +kernel); (· decide +kernel); (· (intro w; go_simp))
    refine wpAny_take (i := 10) (v := .slice A n c) rfl ?_ ?_ ?_ (fun _ _ _ h => h) (Or.inl ⟨by rfl, ?_⟩) ?_; (· decide +kernel); (· decide +kernel); (· decide +kernel); (· (intro w; go_simp))
    refine wpAny_take (i := 11) (v := .int .i64 (n : Nat)) rfl ?_ ?_ ?_ (fun _ _ _ h => h) (Or.inl ⟨by rfl, ?_⟩) ?_; (· decide +kernel); (· decide +kernel); (· decide +kernel); (· (intro w; go_simp))
    refine wpAny_until (I := NwI w nodes C A n c) (fin := #[true, true, true, true, true, true, true, true, true, true, true, true, true, false, false, false]) (k := 3) ?cnt ?step ?stuck ?after _ _ _ _ ?cnt2 ?start
    case cnt => decide +kernel
    case cnt2 => decide +kernel
    case start =>
      exact ⟨false, false, false, false, false, false, false, undef, undef, undef, undef, undef, undef, undef, fun b => .out, rfl, rfl, (Below.refl _ _).drew, fun _ _ => rfl, (by intro h; cases h), (by intro h; cases h), (by intro h; cases h), (by intro h; cases h), (by intro h; cases h), (by intro h; cases h), (by intro h; cases h)⟩
    case stuck =>
      rintro listed a W ⟨b2, b3, b4, b5, b6, b9, b12, x11, x12, x13, x14, x15, x18, x21, col, rfl, h⟩ hne
      clear h
      revert hne
      clear m1 m2 hmm CL hwr hr Hn hn0 nd
      revert b2 b3 b4 b5 b6 b9 b12
      decide +kernel
    case after =>
      rintro a W ⟨b2, b3, b4, b5, b6, b9, b12, x11, x12, x13, x14, x15, x18, x21, col, hl, rfl, hb, low, f11, f12, f13, f14, f15, f18, f21⟩
      obtain ⟨rfl, rfl, rfl, rfl, rfl, rfl, rfl⟩ : true = b2 ∧ true = b3 ∧ true = b4 ∧ true = b5 ∧ true = b6 ∧ true = b9 ∧ true = b12 := by simpa using hl
      obtain ⟨m, hT, hN⟩ := NewAt.start f11 f12 f13 f14 f15 f18 (by rw [← Hn.out]; exact f21) hb low (by rw [← Hn.out]; exact nd)
      have fin := Lib.hid (And.intro hT (And.intro hN (hb.alloc hb.size (.cells #[.int .i64 (nodes : Nat), x11, x12, x13, x14, x15, x18, x21] 50))))
      obtain ⟨_, _, _, rfl, _⟩ := id (f11 rfl)
      obtain ⟨_, rfl, _⟩ := id (f12 rfl)
      obtain ⟨_, rfl, _⟩ := id (f13 rfl)
      obtain ⟨_, rfl, _⟩ := id (f14 rfl)
      obtain ⟨_, rfl, _⟩ := id (f15 rfl)
      obtain ⟨_, rfl, _⟩ := id (f18 rfl)
      obtain ⟨_, rfl, _⟩ := id (f21 rfl)
      clear hl hb low f11 f12 f13 f14 f15 f18 f21 hT hN
      refine wpAny_ready (rs := [13]) (by decide +kernel) (by simp) ?_; refine AllReady.cons rfl (fun K hK => ?_) AllReady.nil; go_simp; refine hK _ _ ?_; clear hK K
      refine wpAny_ready (rs := [14]) (by decide +kernel) (by simp) ?_; refine AllReady.cons rfl (fun K hK => ?_) AllReady.nil; go_simp; refine hK _ _ ?_; clear hK K
      refine wpAny_ready (rs := [15]) (by decide +kernel) (by simp) ?_; refine AllReady.cons rfl (fun K hK => ?_) AllReady.nil; go_simp; refine hK _ _ ?_; clear hK K
      refine wpAny_done (by decide +kernel) ?_ _
      go_wp2_with (fail)
      go_meet
      exact ⟨_, m, by rw [fin.out.1], fin.out.2⟩
    case step =>
      rintro listed a W i ⟨b2, b3, b4, b5, b6, b9, b12, x11, x12, x13, x14, x15, x18, x21, col, rfl, rfl, hb, low, f11, f12, f13, f14, f15, f18, f21⟩ hne hi
      have hc := mem_all (p := fun i => (i == 2 && !b2) || (i == 3 && !b3) || (i == 4 && !b4) || (i == 5 && !b5) || (i == 6 && !b6) || (i == 9 && !b9) || (i == 12 && !b12) || (i == 13 && b2 && b3 && b4 && b5 && b6 && b9 && b12)) hi (by
        clear hb low f11 f12 f13 f14 f15 f18 f21 m1 m2 hmm CL hwr hr Hn hn0 nd hne hi
        revert b2 b3 b4 b5 b6 b9 b12
        decide +kernel)
      have hcase : (i = 2 ∧ b2 = false) ∨ (i = 3 ∧ b3 = false) ∨ (i = 4 ∧ b4 = false) ∨ (i = 5 ∧ b5 = false) ∨ (i = 6 ∧ b6 = false) ∨ (i = 9 ∧ b9 = false) ∨ (i = 12 ∧ b12 = false) := by
        simp only [Bool.or_eq_true, Bool.and_eq_true, beq_iff_eq, Bool.not_eq_true'] at hc
        rcases hc with ((((((h | h) | h) | h) | h) | h) | h) | h
        · exact .inl h
        · exact .inr (.inl h)
        · exact .inr (.inr (.inl h))
        · exact .inr (.inr (.inr (.inl h)))
        · exact .inr (.inr (.inr (.inr (.inl h))))
        · exact .inr (.inr (.inr (.inr (.inr (.inl h)))))
        · exact .inr (.inr (.inr (.inr (.inr (.inr (h))))))
        · obtain ⟨_, h⟩ := h
          simp_all
      clear hi hne
      rcases hcase with ⟨rfl, rfl⟩ | ⟨rfl, rfl⟩ | ⟨rfl, rfl⟩ | ⟨rfl, rfl⟩ | ⟨rfl, rfl⟩ | ⟨rfl, rfl⟩ | ⟨rfl, rfl⟩
      · refine wpOp_step rfl (fun K hK => ?_)
        clear m1 m2 hmm
        go_simp
        refine (CL.out W hb).mono ?_
        rintro e W1 ⟨A1, c1, rfl, ho1, hb1⟩
        try dsimp only
        refine hK _ _ ?_
        clear hK K
        exact ⟨true, b3, b4, b5, b6, b9, b12, .slice A1 n c1, x12, x13, x14, x15, x18, x21, (recol col W.heap.size .at_), rfl, rfl, hb.trans (hb1.mono hb.size), low_recol low hb, (by rw [Hn.out]; exact MkA.new (by have := Hn.out; omega) (by rw [← Hn.out, ← nums_nInt]; exact ho1) col), f12.keep hb1, f13.keep hb1, f14.keep hb1, f15.keep hb1, f18.keep hb1, f21.keep hb1⟩
      · refine wpOp_step rfl (fun K hK => ?_)
        clear CL
        go_simp
        refine hK _ _ ?_
        clear hK K
        exact ⟨b2, true, b4, b5, b6, b9, b12, x11, .map (some W.heap.size), x13, x14, x15, x18, x21, (recol col W.heap.size .bel), rfl, rfl, hb.trans (((Below.refl _ W).alloc (Nat.le_refl _) _).mono hb.size), low_recol low hb, f11.keep ((Below.refl _ W).alloc (Nat.le_refl _) _), MkM.new W col .bel, f13.keep ((Below.refl _ W).alloc (Nat.le_refl _) _), f14.keep ((Below.refl _ W).alloc (Nat.le_refl _) _), f15.keep ((Below.refl _ W).alloc (Nat.le_refl _) _), f18.keep ((Below.refl _ W).alloc (Nat.le_refl _) _), f21.keep ((Below.refl _ W).alloc (Nat.le_refl _) _)⟩
      · refine wpOp_step rfl (fun K hK => ?_)
        clear CL
        go_simp
        refine hK _ _ ?_
        clear hK K
        exact ⟨b2, b3, true, b5, b6, b9, b12, x11, x12, .map (some W.heap.size), x14, x15, x18, x21, (recol col W.heap.size .sent), rfl, rfl, hb.trans (((Below.refl _ W).alloc (Nat.le_refl _) _).mono hb.size), low_recol low hb, f11.keep ((Below.refl _ W).alloc (Nat.le_refl _) _), f12.keep ((Below.refl _ W).alloc (Nat.le_refl _) _), MkM.new W col .sent, f14.keep ((Below.refl _ W).alloc (Nat.le_refl _) _), f15.keep ((Below.refl _ W).alloc (Nat.le_refl _) _), f18.keep ((Below.refl _ W).alloc (Nat.le_refl _) _), f21.keep ((Below.refl _ W).alloc (Nat.le_refl _) _)⟩
      · refine wpOp_step rfl (fun K hK => ?_)
        clear CL
        go_simp
        refine hK _ _ ?_
        clear hK K
        exact ⟨b2, b3, b4, true, b6, b9, b12, x11, x12, x13, .map (some W.heap.size), x15, x18, x21, (recol col W.heap.size .cst), rfl, rfl, hb.trans (((Below.refl _ W).alloc (Nat.le_refl _) _).mono hb.size), low_recol low hb, f11.keep ((Below.refl _ W).alloc (Nat.le_refl _) _), f12.keep ((Below.refl _ W).alloc (Nat.le_refl _) _), f13.keep ((Below.refl _ W).alloc (Nat.le_refl _) _), MkM.new W col .cst, f15.keep ((Below.refl _ W).alloc (Nat.le_refl _) _), f18.keep ((Below.refl _ W).alloc (Nat.le_refl _) _), f21.keep ((Below.refl _ W).alloc (Nat.le_refl _) _)⟩
      · refine wpOp_step rfl (fun K hK => ?_)
        clear CL
        go_simp
        refine hK _ _ ?_
        clear hK K
        exact ⟨b2, b3, b4, b5, true, b9, b12, x11, x12, x13, x14, .map (some W.heap.size), x18, x21, (recol col W.heap.size .ways), rfl, rfl, hb.trans (((Below.refl _ W).alloc (Nat.le_refl _) _).mono hb.size), low_recol low hb, f11.keep ((Below.refl _ W).alloc (Nat.le_refl _) _), f12.keep ((Below.refl _ W).alloc (Nat.le_refl _) _), f13.keep ((Below.refl _ W).alloc (Nat.le_refl _) _), f14.keep ((Below.refl _ W).alloc (Nat.le_refl _) _), MkM.new W col .ways, f18.keep ((Below.refl _ W).alloc (Nat.le_refl _) _), f21.keep ((Below.refl _ W).alloc (Nat.le_refl _) _)⟩
      · refine wpOp_step rfl (fun K hK => ?_)
        clear CL
        go_simp
        refine hK _ _ ?_
        clear hK K
        exact ⟨b2, b3, b4, b5, b6, true, b12, x11, x12, x13, x14, x15, .slice (some ⟨W.heap.size, 0, none⟩) (nodes + 1) (nodes + 1), x21, (recol col W.heap.size .wt), rfl, rfl, hb.trans (((Below.refl _ W).alloc (Nat.le_refl _) _).mono hb.size), low_recol low hb, f11.keep ((Below.refl _ W).alloc (Nat.le_refl _) _), f12.keep ((Below.refl _ W).alloc (Nat.le_refl _) _), f13.keep ((Below.refl _ W).alloc (Nat.le_refl _) _), f14.keep ((Below.refl _ W).alloc (Nat.le_refl _) _), f15.keep ((Below.refl _ W).alloc (Nat.le_refl _) _), MkS.new W col _ .wt (nodes + 1), f21.keep ((Below.refl _ W).alloc (Nat.le_refl _) _)⟩
      · refine wpOp_step rfl (fun K hK => ?_)
        clear CL
        go_simp
        refine hK _ _ ?_
        clear hK K
        exact ⟨b2, b3, b4, b5, b6, b9, true, x11, x12, x13, x14, x15, x18, .slice (some ⟨W.heap.size, 0, none⟩) n n, (recol col W.heap.size .gt), rfl, rfl, hb.trans (((Below.refl _ W).alloc (Nat.le_refl _) _).mono hb.size), low_recol low hb, f11.keep ((Below.refl _ W).alloc (Nat.le_refl _) _), f12.keep ((Below.refl _ W).alloc (Nat.le_refl _) _), f13.keep ((Below.refl _ W).alloc (Nat.le_refl _) _), f14.keep ((Below.refl _ W).alloc (Nat.le_refl _) _), f15.keep ((Below.refl _ W).alloc (Nat.le_refl _) _), f18.keep ((Below.refl _ W).alloc (Nat.le_refl _) _), MkS.new W col _ .gt n⟩
  case rest =>
    obtain ⟨col, m, rfl, HN⟩ := hcut
    obtain ⟨T, hT⟩ : ∃ T, T = m.T := ⟨_, rfl⟩
    rw [← hT]
    have HN2 : Hid (m.T = T ∧ NewAt wc w.heap.size col m nodes C (fun _ _ => False) ∧ Below w.heap.size w wc) := ⟨hT.symm, HN.out⟩
    clear m1 m2 CL hwr hT HN
    have hr0 := hr
    have Hr := Lib.hid hr
    clear hr hr0
    go_wp2_with (fail)
    go_loopw [26] (fun i wr => ∃ k col m, k ≤ n ∧ i = .int .i64 (k : Nat) ∧ Hid (m.T = T ∧ NewAt wr w.heap.size col m nodes C (fun a x => 1 ≤ a ∧ a ≤ nodes ∧ x < k) ∧ Below w.heap.size w wr)) (fun i _ => n - (intOf i).toNat)
    case atStart => exact ⟨0, col, m, Nat.zero_le _, rfl, HN2.out.1, HN2.out.2.1.mono (fun a x q => by omega), HN2.out.2.2⟩
    case round =>
      obtain ⟨k, col1, m1, hk, rfl, HK⟩ := hrel
      clear HN2
      by_cases hlt : k < n
      · have hkl : k < C.length := by have := Hn.out; omega
        obtain ⟨b, off, u, rfl, _, hu, hcell⟩ := Hr.out.at_ hlt
        obtain ⟨q, hq⟩ : ∃ q, q = C.getD k 0 := ⟨_, rfl⟩
        have hu2 : u = .int .i64 (q : Nat) := by
          rw [hq]
          unfold natv at hu
          rw [List.getElem?_map, List.getElem?_eq_getElem hkl] at hu
          simp only [Option.map_some, Option.some.injEq] at hu
          rw [← hu, List.getD_eq_getElem?_getD, List.getElem?_eq_getElem hkl]
          rfl
        subst hu2
        have g0 := (Same.any (D := Any) HK.out.2.2).cell trivial hcell
        have lb := lt_of_cell g0
        have HQ := Lib.hid hq
        obtain ⟨wo, hwo⟩ : ∃ wo, wo = wr := ⟨_, rfl⟩
        subst hwo
        clear hu hcell hq
        go_wp2_with (fail)
        go_loopw [8] (fun v8 wr => ∃ j col m, 1 ≤ j ∧ j ≤ nodes + 1 ∧ v8 = .int .i64 (j : Nat) ∧ Hid (m.T = T ∧ NewAt wr w.heap.size col m nodes C (fun a x => 1 ≤ a ∧ a ≤ nodes ∧ (x < k ∨ x = k ∧ a < j)) ∧ Below w.heap.size w wr)) (fun v8 _ => nodes + 1 - (intOf v8).toNat)
        case atStart => exact ⟨1, col1, m1, by omega, by omega, rfl, HK.out.1, HK.out.2.1.mono (fun a x q => by omega), HK.out.2.2⟩
        case round =>
          obtain ⟨j, col2, m2, hj1, hj, rfl, HJ⟩ := hrel
          clear HK g0 lb
          by_cases hlj : j ≤ nodes
          · have Z := HJ.out.2.1
            have hT2 := HJ.out.1
            have t2 := Z.blk.cell 2
            have t4 := Z.blk.cell 4
            simp only [List.getElem?_cons_succ, List.getElem?_cons_zero] at t2 t4
            rw [hT2] at t2 t4
            have lT := Z.blk.lt
            rw [hT2] at lT
            obtain ⟨w5, hup5, hm5, hg5⟩ := put_bel0 Z.hB j k (by omega) (by omega) (.agg #[.int .i64 (q : Nat), .int .i64 0])
            have nTB : T ≠ m2.Bl := fun e => by have := Z.cT; rw [hT2, e, Z.cB] at this; cases this
            have nTI : T ≠ m2.In := fun e => by
              obtain ⟨es, clock, hb', _⟩ := Z.hI
              have := Z.blk
              rw [hT2] at this
              unfold Blk at this
              rw [e, hb'] at this
              cases this
            have nBI : m2.Bl ≠ m2.In := fun e => by have := Z.cB; rw [e, Z.cI] at this; cases this
            have kT5 := hg5.block T lT (fun e => nTB (by injection e))
            have t4' := cell_same kT5 t4
            have lT5 := Nat.lt_of_lt_of_le lT hg5.size
            have hI5 := Z.hI.grown hg5 (fun e => nBI (by injection e with e; exact e.symm))
            obtain ⟨w8, hup8, hm8, hg8⟩ := put_inb ((hI5.alloc (.map #[] 0)).alloc (.cells #[.int .i64 0, .map (some w5.heap.size)] 58)) j k (by omega) (by omega) (.pointer (some ⟨w5.heap.size + 1, 0, none⟩))
            have bI : Blk ((w5.alloc (.map #[] 0)).alloc (.cells #[.int .i64 0, .map (some w5.heap.size)] 58)) (w5.heap.size + 1) 58 [.int .i64 ((0 : Nat) : Int), .map (some w5.heap.size)] := by
              have := Blk.new (w5.alloc (.map #[] 0)) 58 [.int .i64 ((0 : Nat) : Int), .map (some w5.heap.size)]
              simpa using this
            have mJ : MapOf encM okM ((w5.alloc (.map #[] 0)).alloc (.cells #[.int .i64 0, .map (some w5.heap.size)] 58)) w5.heap.size (([] : List (Nat × Nat)).map fun p => (p.1, encM p.2)) := (MapOf.new w5).alloc _
            have hg8' : w5.grownBy w8 (some m2.In) := grown_alloc (grown_alloc hg8)
            have lIn := Z.hI.lt
            have hin : GrownIn (fun b => b = m2.Bl ∨ b = m2.In) wr w8 := (GrownIn.of_grown (own := fun b => b = m2.Bl ∨ b = m2.In) hg5 fun b hb => .inl (by injection hb with hb; exact hb.symm)).trans (own' := fun b => b = m2.Bl ∨ b = m2.In) (GrownIn.of_grown hg8' fun b hb => .inr (by injection hb with hb; exact hb.symm)) fun b e => .inl e
            have hsz := hg5.size
            have bI8 := bI.grown hg8 (fun e => by injection e with e; omega)
            have mJ8 := mJ.grown hg8 (fun e => by injection e with e; omega)
            have hB8 : MapOf encP okP w8 m2.Bl _ := hm5.grown hg8' (fun e => nBI (by injection e))
            have hN := Z.next (I' := w5.heap.size + 1) (J' := w5.heap.size) ⟨hj1, hlj⟩ hkl hin (by rw [← HQ.out]; exact hB8) hm8 ⟨bI8, mJ8⟩ (by omega) hsz (dn' := fun a x => 1 ≤ a ∧ a ≤ nodes ∧ (x < k ∨ x = k ∧ a < j + 1)) (fun a x q1 q2 => by omega)
            have hcolB := Z.low
            have hbl : Below w.heap.size w w8 := Below.of_in HJ.out.2.2 hin (fun b hb => by
              rcases Nat.lt_or_ge b w.heap.size with hl | hl
              · have h0 := Z.low b hl
                rcases hb with rfl | rfl
                · rw [Z.cB] at h0; cases h0
                · rw [Z.cI] at h0; cases h0
              · exact hl) HJ.out.2.2.size
            have fin : Hid (∃ col m, m.T = T ∧ NewAt w8 w.heap.size col m nodes C (fun a x => 1 ≤ a ∧ a ≤ nodes ∧ (x < k ∨ x = k ∧ a < j + 1)) ∧ Below w.heap.size w w8) := by
              refine ⟨_, _, ?_, hN, hbl⟩
              exact hT2
            have lBl := Z.hB.lt
            clear Z hT2 hm5 hg5 nTB nTI nBI kT5 hI5 hm8 hg8 bI mJ hg8' hin hsz bI8 mJ8 hB8 hN hcolB hbl
            go_wp2_with (fail)
            go_roundw
            case rel =>
              obtain ⟨colf, mf, f1, f2, f3⟩ := fin.out
              exact ⟨j + 1, colf, mf, by omega, by omega, by go_num, f1, f2, f3⟩
            case measure => simp [intOf]; omega
          · obtain rfl : j = nodes + 1 := by omega
            go_wp2_with (fail)
            go_roundw
            case rel => exact ⟨k + 1, col2, m2, by omega, by go_num, HJ.out.1, HJ.out.2.1.mono (fun a x q => by omega), HJ.out.2.2⟩
            case measure => simp [intOf]; omega
      · obtain rfl : k = n := by omega
        go_wp2_with (fail)
        go_ret
        obtain ⟨rfl, h2, h3⟩ := HK.out
        exact ⟨col1, m1, rfl, h2.done (fun a x q1 q2 q3 => ⟨q1, q2, by have := Hn.out; omega⟩), h3, h2.kI⟩
end Go.Proofs.Ytckkelppdeampaa
