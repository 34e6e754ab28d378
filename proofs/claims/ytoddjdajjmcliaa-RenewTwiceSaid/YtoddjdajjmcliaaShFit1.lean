/- Contracts of the closures of fits, if fits does what it should to a depth. -/
import Derived.Test.YtoddjdajjmcliaaShFit0
set_option linter.unusedVariables false
namespace Go.Proofs.Ytoddjdajjmcliaa
open Go.RowKit Go.Mem Go.Sh Go.Maps Go.Val
/-- what fits does to values of at most a depth -/
def FitsTo (dv : Nat) : Prop := ∀ (d : Nat) (w : World) (p : Pg) (P : List Dt) (t : Ty) (A : Option Addr) (m c : Nat) (s : Sc) (sv : Option Addr) (v : V) (A3 : Option Addr) (c3 : Nat) (r : Bool),
  DtsAt d w Any p.A p.n p.c P → TyAt d w Any t.kind t.name A m c t → ScAt d w sv s → VCells dv w Any (vl v A3 c3) v → fitsF P dv s t v = some r →
  Calls Try.prog 30 #[.agg p.cells.toArray, .agg #[.int .i64 (t.kind : Nat), str t.name, .slice A m c], .pointer sv, .agg #[.int .i64 v.kind, .int .i64 v.num, .string v.text, .slice A3 v.args.length c3]] w fun e w' => e = .returned (.bool r) ∧ Below w.heap.size w w'
theorem txt_eq (n : Nm) (t : ByteArray) : (n == t.data.toList) = decide (txt n = t) := by
  unfold txt
  rw [Bool.eq_iff_iff, beq_iff_eq, decide_eq_true_eq]
  constructor
  · rintro rfl
    rfl
  · rintro rfl
    rfl
-- BEGIN
set_option maxRecDepth 100000 in
theorem fits2_any (n : Nm) (A : Option Addr) (m c : Nat) (bv : Nat) (t : ByteArray) (w : World) (h : w.cell? ⟨bv, 2, none⟩ = some (.string t)) :
    Calls Try.prog 54 #[.agg #[str n, .slice A m c], .pointer (some ⟨bv, 0, none⟩)] w fun e w' => e = .returned (.bool (decide (txt n = t))) ∧ Below w.heap.size w w' := by
  have lb := lt_of_cell h
  go_enter Try.func54, Try.ntmps54
  go_wp2_with (fail)
  go_ret
  refine ⟨?_, (Below.refl _ _).alloc (Nat.le_refl _) _⟩
  rw [← txt_eq, ← ByteArray.toList_eq]
  rfl
set_option maxRecDepth 100000 in
theorem fits11_any (dv : Nat) (IH : FitsTo dv) (d : Nat) (w : World) (p : Pg) (P : List Dt) (bp bs : Nat) (t : Ty) (A : Option Addr) (m c : Nat) (s : Sc) (sv : Option Addr) (v : V) (A3 : Option Addr) (c3 : Nat) (r : Bool)
    (kp : Blk w bp 29 p.cells) (ks : w.cell? ⟨bs, 0, none⟩ = some (.pointer sv)) (hp : DtsAt d w Any p.A p.n p.c P) (ht : TyAt d w Any t.kind t.name A m c t) (hs : ScAt d w sv s) (hv : VCells dv w Any (vl v A3 c3) v) (hf : fitsF P dv s t v = some r) :
    Calls Try.prog 50 #[.agg #[.int .i64 (t.kind : Nat), str t.name, .slice A m c], .agg #[.int .i64 v.kind, .int .i64 v.num, .string v.text, .slice A3 v.args.length c3], .pointer (some ⟨bp, 0, none⟩), .pointer (some ⟨bs, 0, none⟩)] w fun e w' => e = .returned (.bool r) ∧ Below w.heap.size w w' := by
  have hs1 := ((Below.refl w.heap.size w).alloc (Nat.le_refl _) (.cells #[.int .i64 (t.kind : Nat), str t.name, .slice A m c] 34)).alloc (by simp) (.cells #[.int .i64 v.kind, .int .i64 v.num, .string v.text, .slice A3 v.args.length c3] 47)
  have R := Lib.hid (IH d _ p P t A m c s sv v A3 c3 r (hp.keep (Same.any hs1)) (ht.keep (Same.any hs1)) (hs.keep (Same.any hs1)) (hv.keep (Same.any hs1)) hf)
  have HS := Lib.hid hs1
  have a0 := kp.cell 0
  have a1 := kp.cell 1
  have a2 := kp.cell 2
  have a3 := kp.cell 3
  have a4 := kp.cell 4
  have a5 := kp.cell 5
  have a6 := kp.cell 6
  have a7 := kp.cell 7
  have lp := kp.lt
  have ls := lt_of_cell ks
  simp only [Pg.cells, pvs, List.getElem?_cons_zero, List.getElem?_cons_succ] at a0 a1 a2 a3 a4 a5 a6 a7
  simp only [Pg.cells, pvs] at R
  clear hs1 kp hp ht hs hv hf
  generalize t.kind = k1 at R HS ⊢
  generalize t.name = x1 at R HS ⊢
  generalize v.kind = k2 at R HS ⊢
  generalize v.num = x2 at R HS ⊢
  generalize v.text = x3 at R HS ⊢
  generalize v.args.length = x4 at R HS ⊢
  go_enter Try.func50, Try.ntmps50
  go_wp2_with (fail)
  refine R.out.mono ?_
  rintro e w2 ⟨rfl, hb⟩
  have HB := Lib.hid (HS.out.trans (hb.mono HS.out.size))
  go_wp2_with (fail)
  go_ret
  exact ⟨rfl, HB.out⟩
set_option maxRecDepth 100000 in
theorem fits1_any (dv : Nat) (IH : FitsTo dv) (d : Nat) (w : World) (p : Pg) (P : List Dt) (bp bv : Nat) (ts : List Ty) (A : Option Addr) (n c : Nat) (s : Sc) (sv : Option Addr) (v : V) (A3 : Option Addr) (c3 : Nat) (r : Bool)
    (kp : Blk w bp 29 p.cells) (kv : Blk w bv 47 (vl v A3 c3)) (hp : DtsAt d w Any p.A p.n p.c P) (ht : TsAt d w Any A n c ts) (hs : ScAt d w sv s) (hv : VsAt dv w Any A3 v.args.length c3 v.args) (hf : eqV (fitsF P dv s) ts v.args = some r) :
    Calls Try.prog 48 #[.slice A n c, .pointer sv, .pointer (some ⟨bv, 0, none⟩), .pointer (some ⟨bp, 0, none⟩)] w fun e w' => e = .returned (.bool r) ∧ Below w.heap.size w w' := by
  have hs1 := (Below.refl w.heap.size w).alloc (Nat.le_refl _) (.cells #[.pointer sv] 122)
  have kb := (Blk.new w 122 [.pointer sv])
  have kb0 := kb.cell 0
  simp only [List.getElem?_cons_zero] at kb0
  have lb := lt_of_cell kb0
  have R := Lib.hid (equalV_any d dv (w.alloc (.cells #[.pointer sv] 122)) A n c ts A3 v.args.length c3 v.args (fitsF P dv s) 50 #[.pointer (some ⟨bp, 0, none⟩), .pointer (some ⟨w.heap.size, 0, none⟩)] r (ht.keep (Same.any hs1)) (hv.keep (Same.any hs1)) hf (enters_of Try.func50 (by kernel_rfl) rfl)
    (fun t u q W A1 m1 c1 A2 c2 hW h1 h2 h3 => fits11_any dv IH d W p P bp w.heap.size t A1 m1 c1 s sv u A2 c2 q ((kp.alloc _).same (Same.any hW : Same Any _ _) trivial) ((hW.cell lb).trans kb0) ((hp.keep (Same.any hs1)).keep (Same.any hW)) h1 ((hs.keep (Same.any hs1)).keep (Same.any hW)) h2 h3))
  have HS := Lib.hid hs1
  have v3 := kv.cell 3
  have lv := kv.lt
  simp only [vl, List.getElem?_cons_zero, List.getElem?_cons_succ] at v3
  clear hs1 kp kv hp ht hs hv hf kb kb0 lb
  generalize v.args.length = x4 at R HS v3
  go_enter Try.func48, Try.ntmps48
  go_wp2_with (fail)
  refine R.out.mono ?_
  rintro e w2 ⟨rfl, hb⟩
  have HB := Lib.hid (HS.out.trans (hb.mono HS.out.size))
  go_wp2_with (fail)
  go_ret
  exact ⟨rfl, HB.out⟩
end Go.Proofs.Ytoddjdajjmcliaa
