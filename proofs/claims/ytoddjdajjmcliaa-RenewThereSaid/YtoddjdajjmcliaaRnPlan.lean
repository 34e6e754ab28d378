/- Contract of renew's plan. -/
import Derived.Test.YtoddjdajjmcliaaRnPlan0
import Derived.Deep.DeepCutAuto
import Derived.Deep.CutBlock
import Derived.Deep.LoopGhost
set_option linter.unusedVariables false
namespace Go.Proofs.Ytoddjdajjmcliaa
open Go.RowKit Go.Mem Go.Sh Go.Maps Go.Val
theorem below_nextR {a b c : World} (hx : Below b.heap.size b c) (h : Below a.heap.size a b) : Below a.heap.size a c := h.trans (hx.mono h.size)
theorem below_allocR {a b : World} (h : Below a.heap.size a b) (o : Obj) : Below a.heap.size a (b.alloc o) := h.alloc h.size o
theorem below_set4 {a b : World} (h : Below a.heap.size a b) (x0 x1 x2 x3 : Value) : Below a.heap.size a ((((b.setCell ⟨a.heap.size, 0, none⟩ x0).setCell ⟨a.heap.size, 1, none⟩ x1).setCell ⟨a.heap.size, 2, none⟩ x2).setCell ⟨a.heap.size, 3, none⟩ x3) := (((h.setCell (p := ⟨a.heap.size, 0, none⟩) (Nat.le_refl _) _).setCell (p := ⟨a.heap.size, 1, none⟩) (Nat.le_refl _) _).setCell (p := ⟨a.heap.size, 2, none⟩) (Nat.le_refl _) _).setCell (p := ⟨a.heap.size, 3, none⟩) (Nat.le_refl _) _
theorem planEnd {W6 w' : World} {o : Obj} {v : V} {A3 : Option Addr} {c3 : Nat} (h : Hid (Blk w' W6.heap.size 47 [.int .i64 0, .int .i64 0, .string ⟨#[]⟩, .slice none 0 0] ∧ Below (W6.alloc o).drew.heap.size (W6.alloc o).drew w' ∧ VCells 4 w' (fun b => (W6.alloc o).drew.heap.size ≤ b) (vl v A3 c3) v)) (hbn : Below W6.heap.size W6 w') (hs : W6.heap.size < (W6.alloc o).drew.heap.size) :
    ∃ VB A3' c3', Value.pointer (some ⟨W6.heap.size, 0, none⟩) = .pointer (some ⟨VB, 0, none⟩) ∧ Value.int .i64 0 = .int .i64 0 ∧ Hid (Blk ((((w'.setCell ⟨W6.heap.size, 0, none⟩ (.int .i64 v.kind)).setCell ⟨W6.heap.size, 1, none⟩ (.int .i64 v.num)).setCell ⟨W6.heap.size, 2, none⟩ (.string v.text)).setCell ⟨W6.heap.size, 3, none⟩ (.slice A3 v.args.length c3)) VB 47 [.int .i64 v.kind, .int .i64 v.num, .string v.text, .slice A3' v.args.length c3'] ∧
      Below W6.heap.size W6 ((((w'.setCell ⟨W6.heap.size, 0, none⟩ (.int .i64 v.kind)).setCell ⟨W6.heap.size, 1, none⟩ (.int .i64 v.num)).setCell ⟨W6.heap.size, 2, none⟩ (.string v.text)).setCell ⟨W6.heap.size, 3, none⟩ (.slice A3 v.args.length c3)) ∧ W6.heap.size ≤ VB ∧
      VCells 4 ((((w'.setCell ⟨W6.heap.size, 0, none⟩ (.int .i64 v.kind)).setCell ⟨W6.heap.size, 1, none⟩ (.int .i64 v.num)).setCell ⟨W6.heap.size, 2, none⟩ (.string v.text)).setCell ⟨W6.heap.size, 3, none⟩ (.slice A3 v.args.length c3)) (fun b => W6.heap.size ≤ b) [.int .i64 v.kind, .int .i64 v.num, .string v.text, .slice A3' v.args.length c3'] v) := by
  obtain ⟨h1, h2, h3⟩ := h.out
  refine ⟨_, A3, c3, rfl, rfl, (((h1.put 0 _).put 1 _).put 2 _).put 3 _, below_set4 hbn _ _ _ _, Nat.le_refl _, ?_⟩
  refine (h3.keep fun b hb _ => ?_).imp fun b hb _ => Nat.le_trans (Nat.le_of_lt hs) hb
  have hne : b ≠ W6.heap.size := by have hb' : (W6.alloc o).drew.heap.size ≤ b := hb; omega
  rw [Below.heap_setCell _ _ _ _ hne, Below.heap_setCell _ _ _ _ hne, Below.heap_setCell _ _ _ _ hne, Below.heap_setCell _ _ _ _ hne]
def PlanPost (w : World) (n : Nat) : Option (List Fld) → Ending → World → Prop
  | none, e, w' => e = .returned (.tuple #[.agg #[.string ⟨#[]⟩, .int .i64 0, .slice none 0 0, .slice none 0 0], .int .i64 12]) ∧ Below w.heap.size w w'
  | some fl, e, w' => (∃ F cF Ls cL, e = .returned (.tuple #[.agg #[str [65], .int .i64 (n : Nat), .slice F fl.length cF, .slice Ls (lostF n (fl.map Fld.src)).length cL], .int .i64 0]) ∧ MoveAt w' (fun b => w.heap.size ≤ b) F fl.length cF Ls (lostF n (fl.map Fld.src)).length cL fl (lostF n (fl.map Fld.src))) ∧ Below w.heap.size w w'
set_option maxRecDepth 100000 in
set_option maxHeartbeats 16000000 in
theorem plan_any (w : World) (p q : Pg) (P Q : List Dt) (ad : Addr) (n cn : Nat) (At : Option Addr) (ct mk : Nat) (Bn : Option Addr) (n' bn : Nat) (Bt : Option Addr) (bt mk' : Nat) (Bm : Option Addr) (bm : Nat) (N N' : List Nm) (T T' : List Ty) (R : Option (List Fld))
    (hp : DtsAt 4 w Any p.A p.n p.c P) (hq : DtsAt 4 w Any q.A q.n q.c Q) (hn : n = N.length ∧ n ≤ 6 ∧ n = T.length) (hn' : n' = N'.length ∧ n' ≤ 6 ∧ n' = T'.length) (hr : Reads w Any 1 (some ad) n (strs N)) (hr' : Reads w Any 1 Bn n' (strs N')) (ht : TsAt 4 w Any At n ct T) (ht' : TsAt 4 w Any Bt n' bt T') (hf : fldsF P Q N T N' T' = some R) :
    Calls Try.prog 34 #[.agg #[str [109], .int .i64 1, .slice none 0 0, .slice p.A p.n p.c, .slice none 0 0, .slice none 0 0, .slice none 0 0, .slice p.B p.m p.e], .agg #[str [109], .int .i64 1, .slice none 0 0, .slice q.A q.n q.c, .slice none 0 0, .slice none 0 0, .slice none 0 0, .slice q.B q.m q.e], .agg #[str [65], .slice (some ad) n cn, .slice At n ct, .int .i64 (mk : Nat), str [], .slice none 0 0, .int .i64 1, .int .i64 0, .string ⟨#[]⟩, .slice none 0 0, .slice none 0 0, .slice none 0 0, .slice none 0 0, .int .i64 0], .agg #[str [65], .slice Bn n' bn, .slice Bt n' bt, .int .i64 (mk' : Nat), str [], .slice Bm 0 bm, .int .i64 0, .int .i64 0, .string ⟨#[]⟩, .slice none 0 0, .slice none 0 0, .slice none 0 0, .slice none 0 0, .int .i64 0]] w (PlanPost w n R) := by
  have hm1 := @run_makeMap Try.prog
  have HI := Lib.hid (And.intro hp (And.intro hq (And.intro hr (And.intro hr' (And.intro ht ht')))))
  have HN := Lib.hid (And.intro hn hn')
  have HF := Lib.hid hf
  have n6 := hn.2.1
  have n6' := hn'.2.1
  clear hp hq hn hn' hr hr' ht ht' hf
  go_enter Try.func34, Try.ntmps34
  go_upto_region 3 with (fail)
  obtain ⟨u1, hu1⟩ : ∃ u, u = w.alloc (.cells #[str [109], .int .i64 1, .slice none 0 0, .slice p.A p.n p.c, .slice none 0 0, .slice none 0 0, .slice none 0 0, .slice p.B p.m p.e] 29) := ⟨_, rfl⟩
  have zu1 : u1.heap.size = w.heap.size + 1 := by rw [hu1]; simp
  have hbu1 : Below w.heap.size w u1 := by rw [hu1]; exact (Below.refl _ _).alloc (Nat.le_refl _) _
  have fPB : Blk u1 (w.heap.size) 29 [str [109], .int .i64 1, .slice none 0 0, .slice p.A p.n p.c, .slice none 0 0, .slice none 0 0, .slice none 0 0, .slice p.B p.m p.e] := by rw [hu1]; have h := Blk.new w 29 [str [109], .int .i64 1, .slice none 0 0, .slice p.A p.n p.c, .slice none 0 0, .slice none 0 0, .slice none 0 0, .slice p.B p.m p.e]; exact h
  obtain ⟨u2, hu2⟩ : ∃ u, u = u1.alloc (.cells #[str [109], .int .i64 1, .slice none 0 0, .slice q.A q.n q.c, .slice none 0 0, .slice none 0 0, .slice none 0 0, .slice q.B q.m q.e] 29) := ⟨_, rfl⟩
  have zu2 : u2.heap.size = w.heap.size + 1 + 1 := by rw [hu2]; simp [zu1]
  have hbu2 : Below w.heap.size w u2 := by rw [hu2]; exact hbu1.alloc hbu1.size _
  replace fPB := fPB.alloc (.cells #[str [109], .int .i64 1, .slice none 0 0, .slice q.A q.n q.c, .slice none 0 0, .slice none 0 0, .slice none 0 0, .slice q.B q.m q.e] 29)
  rw [← hu2] at fPB
  have fQB : Blk u2 (w.heap.size + 1) 29 [str [109], .int .i64 1, .slice none 0 0, .slice q.A q.n q.c, .slice none 0 0, .slice none 0 0, .slice none 0 0, .slice q.B q.m q.e] := by rw [hu2]; have h := Blk.new u1 29 [str [109], .int .i64 1, .slice none 0 0, .slice q.A q.n q.c, .slice none 0 0, .slice none 0 0, .slice none 0 0, .slice q.B q.m q.e]; rw [zu1] at h; exact h
  obtain ⟨u3, hu3⟩ : ∃ u, u = u2.alloc (.cells #[str [65], .slice (some ad) n cn, .slice At n ct, .int .i64 (mk : Nat), str [], .slice none 0 0, .int .i64 1, .int .i64 0, .string ⟨#[]⟩, .slice none 0 0, .slice none 0 0, .slice none 0 0, .slice none 0 0, .int .i64 0] 40) := ⟨_, rfl⟩
  have zu3 : u3.heap.size = w.heap.size + 1 + 1 + 1 := by rw [hu3]; simp [zu2]
  have hbu3 : Below w.heap.size w u3 := by rw [hu3]; exact hbu2.alloc hbu2.size _
  replace fPB := fPB.alloc (.cells #[str [65], .slice (some ad) n cn, .slice At n ct, .int .i64 (mk : Nat), str [], .slice none 0 0, .int .i64 1, .int .i64 0, .string ⟨#[]⟩, .slice none 0 0, .slice none 0 0, .slice none 0 0, .slice none 0 0, .int .i64 0] 40)
  rw [← hu3] at fPB
  replace fQB := fQB.alloc (.cells #[str [65], .slice (some ad) n cn, .slice At n ct, .int .i64 (mk : Nat), str [], .slice none 0 0, .int .i64 1, .int .i64 0, .string ⟨#[]⟩, .slice none 0 0, .slice none 0 0, .slice none 0 0, .slice none 0 0, .int .i64 0] 40)
  rw [← hu3] at fQB
  have fAB : Blk u3 (w.heap.size + 1 + 1) 40 [str [65], .slice (some ad) n cn, .slice At n ct, .int .i64 (mk : Nat), str [], .slice none 0 0, .int .i64 1, .int .i64 0, .string ⟨#[]⟩, .slice none 0 0, .slice none 0 0, .slice none 0 0, .slice none 0 0, .int .i64 0] := by rw [hu3]; have h := Blk.new u2 40 [str [65], .slice (some ad) n cn, .slice At n ct, .int .i64 (mk : Nat), str [], .slice none 0 0, .int .i64 1, .int .i64 0, .string ⟨#[]⟩, .slice none 0 0, .slice none 0 0, .slice none 0 0, .slice none 0 0, .int .i64 0]; rw [zu2] at h; exact h
  obtain ⟨u4, hu4⟩ : ∃ u, u = u3.alloc (.cells #[str [65], .slice Bn n' bn, .slice Bt n' bt, .int .i64 (mk' : Nat), str [], .slice Bm 0 bm, .int .i64 0, .int .i64 0, .string ⟨#[]⟩, .slice none 0 0, .slice none 0 0, .slice none 0 0, .slice none 0 0, .int .i64 0] 40) := ⟨_, rfl⟩
  have zu4 : u4.heap.size = w.heap.size + 1 + 1 + 1 + 1 := by rw [hu4]; simp [zu3]
  have hbu4 : Below w.heap.size w u4 := by rw [hu4]; exact hbu3.alloc hbu3.size _
  replace fPB := fPB.alloc (.cells #[str [65], .slice Bn n' bn, .slice Bt n' bt, .int .i64 (mk' : Nat), str [], .slice Bm 0 bm, .int .i64 0, .int .i64 0, .string ⟨#[]⟩, .slice none 0 0, .slice none 0 0, .slice none 0 0, .slice none 0 0, .int .i64 0] 40)
  rw [← hu4] at fPB
  replace fQB := fQB.alloc (.cells #[str [65], .slice Bn n' bn, .slice Bt n' bt, .int .i64 (mk' : Nat), str [], .slice Bm 0 bm, .int .i64 0, .int .i64 0, .string ⟨#[]⟩, .slice none 0 0, .slice none 0 0, .slice none 0 0, .slice none 0 0, .int .i64 0] 40)
  rw [← hu4] at fQB
  replace fAB := fAB.alloc (.cells #[str [65], .slice Bn n' bn, .slice Bt n' bt, .int .i64 (mk' : Nat), str [], .slice Bm 0 bm, .int .i64 0, .int .i64 0, .string ⟨#[]⟩, .slice none 0 0, .slice none 0 0, .slice none 0 0, .slice none 0 0, .int .i64 0] 40)
  rw [← hu4] at fAB
  have fBB : Blk u4 (w.heap.size + 1 + 1 + 1) 40 [str [65], .slice Bn n' bn, .slice Bt n' bt, .int .i64 (mk' : Nat), str [], .slice Bm 0 bm, .int .i64 0, .int .i64 0, .string ⟨#[]⟩, .slice none 0 0, .slice none 0 0, .slice none 0 0, .slice none 0 0, .int .i64 0] := by rw [hu4]; have h := Blk.new u3 40 [str [65], .slice Bn n' bn, .slice Bt n' bt, .int .i64 (mk' : Nat), str [], .slice Bm 0 bm, .int .i64 0, .int .i64 0, .string ⟨#[]⟩, .slice none 0 0, .slice none 0 0, .slice none 0 0, .slice none 0 0, .int .i64 0]; rw [zu3] at h; exact h
  obtain ⟨u5, hu5⟩ : ∃ u, u = u4.alloc (.cells #[.string ⟨#[]⟩, .int .i64 0, .slice none 0 0, .slice none 0 0] 99) := ⟨_, rfl⟩
  have zu5 : u5.heap.size = w.heap.size + 1 + 1 + 1 + 1 + 1 := by rw [hu5]; simp [zu4]
  have hbu5 : Below w.heap.size w u5 := by rw [hu5]; exact hbu4.alloc hbu4.size _
  replace fPB := fPB.alloc (.cells #[.string ⟨#[]⟩, .int .i64 0, .slice none 0 0, .slice none 0 0] 99)
  rw [← hu5] at fPB
  replace fQB := fQB.alloc (.cells #[.string ⟨#[]⟩, .int .i64 0, .slice none 0 0, .slice none 0 0] 99)
  rw [← hu5] at fQB
  replace fAB := fAB.alloc (.cells #[.string ⟨#[]⟩, .int .i64 0, .slice none 0 0, .slice none 0 0] 99)
  rw [← hu5] at fAB
  replace fBB := fBB.alloc (.cells #[.string ⟨#[]⟩, .int .i64 0, .slice none 0 0, .slice none 0 0] 99)
  rw [← hu5] at fBB
  have fRB : Blk u5 (w.heap.size + 1 + 1 + 1 + 1) 99 [.string ⟨#[]⟩, .int .i64 0, .slice none 0 0, .slice none 0 0] := by rw [hu5]; have h := Blk.new u4 99 [.string ⟨#[]⟩, .int .i64 0, .slice none 0 0, .slice none 0 0]; rw [zu4] at h; exact h
  obtain ⟨u6, hu6⟩ : ∃ u, u = u5.alloc (.cells #[.string ⟨#[65]⟩, .int .i64 (n : Nat), .slice none 0 0, .slice none 0 0] 99) := ⟨_, rfl⟩
  have zu6 : u6.heap.size = w.heap.size + 1 + 1 + 1 + 1 + 1 + 1 := by rw [hu6]; simp [zu5]
  have hbu6 : Below w.heap.size w u6 := by rw [hu6]; exact hbu5.alloc hbu5.size _
  replace fPB := fPB.alloc (.cells #[.string ⟨#[65]⟩, .int .i64 (n : Nat), .slice none 0 0, .slice none 0 0] 99)
  rw [← hu6] at fPB
  replace fQB := fQB.alloc (.cells #[.string ⟨#[65]⟩, .int .i64 (n : Nat), .slice none 0 0, .slice none 0 0] 99)
  rw [← hu6] at fQB
  replace fAB := fAB.alloc (.cells #[.string ⟨#[65]⟩, .int .i64 (n : Nat), .slice none 0 0, .slice none 0 0] 99)
  rw [← hu6] at fAB
  replace fBB := fBB.alloc (.cells #[.string ⟨#[65]⟩, .int .i64 (n : Nat), .slice none 0 0, .slice none 0 0] 99)
  rw [← hu6] at fBB
  replace fRB := fRB.alloc (.cells #[.string ⟨#[65]⟩, .int .i64 (n : Nat), .slice none 0 0, .slice none 0 0] 99)
  rw [← hu6] at fRB
  have fMB : Blk u6 (w.heap.size + 1 + 1 + 1 + 1 + 1) 99 [.string ⟨#[65]⟩, .int .i64 (n : Nat), .slice none 0 0, .slice none 0 0] := by rw [hu6]; have h := Blk.new u5 99 [.string ⟨#[65]⟩, .int .i64 (n : Nat), .slice none 0 0, .slice none 0 0]; rw [zu5] at h; exact h
  obtain ⟨u7, hu7⟩ : ∃ u, u = u6.alloc (.map #[] 0) := ⟨_, rfl⟩
  have zu7 : u7.heap.size = w.heap.size + 1 + 1 + 1 + 1 + 1 + 1 + 1 := by rw [hu7]; simp [zu6]
  have hbu7 : Below w.heap.size w u7 := by rw [hu7]; exact hbu6.alloc hbu6.size _
  replace fPB := fPB.alloc (.map #[] 0)
  rw [← hu7] at fPB
  replace fQB := fQB.alloc (.map #[] 0)
  rw [← hu7] at fQB
  replace fAB := fAB.alloc (.map #[] 0)
  rw [← hu7] at fAB
  replace fBB := fBB.alloc (.map #[] 0)
  rw [← hu7] at fBB
  replace fRB := fRB.alloc (.map #[] 0)
  rw [← hu7] at fRB
  replace fMB := fMB.alloc (.map #[] 0)
  rw [← hu7] at fMB
  have fUB : MapOf encI I64 u7 (w.heap.size + 1 + 1 + 1 + 1 + 1 + 1) ([] : List (Int × Value)) := by rw [hu7]; have h := MapOf.new (enc := encI) (ok := I64) u6; rw [zu6] at h; exact h
  rw [← hu1, ← hu2, ← hu3, ← hu4, ← hu5, ← hu6, ← hu7]
  obtain ⟨UB, zUB⟩ : ∃ b, b = w.heap.size + 1 + 1 + 1 + 1 + 1 + 1 := ⟨_, rfl⟩
  obtain ⟨MB, zMB⟩ : ∃ b, b = w.heap.size + 1 + 1 + 1 + 1 + 1 := ⟨_, rfl⟩
  obtain ⟨RB, zRB⟩ : ∃ b, b = w.heap.size + 1 + 1 + 1 + 1 := ⟨_, rfl⟩
  obtain ⟨BB, zBB⟩ : ∃ b, b = w.heap.size + 1 + 1 + 1 := ⟨_, rfl⟩
  obtain ⟨AB, zAB⟩ : ∃ b, b = w.heap.size + 1 + 1 := ⟨_, rfl⟩
  obtain ⟨QB, zQB⟩ : ∃ b, b = w.heap.size + 1 := ⟨_, rfl⟩
  obtain ⟨PB, zPB⟩ : ∃ b, b = w.heap.size := ⟨_, rfl⟩
  rw [← zUB, ← zMB, ← zRB, ← zBB, ← zAB, ← zQB, ← zPB]
  rw [← zPB] at fPB
  rw [← zQB] at fQB
  rw [← zAB] at fAB
  rw [← zBB] at fBB
  rw [← zRB] at fRB
  rw [← zMB] at fMB
  rw [← zUB] at fUB
  clear hu1 hu2 hu3 hu4 hu5 hu6 hu7
  have HB := Lib.hid (show PlB w u7 PB QB AB BB RB [str [109], .int .i64 1, .slice none 0 0, .slice p.A p.n p.c, .slice none 0 0, .slice none 0 0, .slice none 0 0, .slice p.B p.m p.e] [str [109], .int .i64 1, .slice none 0 0, .slice q.A q.n q.c, .slice none 0 0, .slice none 0 0, .slice none 0 0, .slice q.B q.m q.e] [str [65], .slice (some ad) n cn, .slice At n ct, .int .i64 (mk : Nat), str [], .slice none 0 0, .int .i64 1, .int .i64 0, .string ⟨#[]⟩, .slice none 0 0, .slice none 0 0, .slice none 0 0, .slice none 0 0, .int .i64 0] [str [65], .slice Bn n' bn, .slice Bt n' bt, .int .i64 (mk' : Nat), str [], .slice Bm 0 bm, .int .i64 0, .int .i64 0, .string ⟨#[]⟩, .slice none 0 0, .slice none 0 0, .slice none 0 0, .slice none 0 0, .int .i64 0] from ⟨hbu7, ⟨by omega, by omega, by omega, by omega, by omega⟩, fPB, fQB, fAB, fBB, fRB⟩)
  have HM0 := Lib.hid (show PlM MB u7 MB UB n 0 [] from ⟨⟨Nat.le_refl _, by omega, by omega, by omega, by omega, by omega⟩, ⟨none, 0, fMB, OwnList.nil _ _ _ _⟩, ⟨[], fUB, fun i => by simp [mget_nil]⟩, rfl⟩)
  have HZ := Lib.hid (show PB < MB ∧ QB < MB ∧ AB < MB ∧ BB < MB ∧ RB < MB ∧ w.heap.size ≤ MB from ⟨by omega, by omega, by omega, by omega, by omega, by omega⟩)
  have bb1 := fBB.cell 1
  have lbb := fBB.lt
  simp only [List.getElem?_cons_zero, List.getElem?_cons_succ] at bb1
  clear fPB fQB fAB fBB fRB fMB fUB zPB zQB zAB zBB zRB zMB zUB zu1 zu2 zu3 zu4 zu5 zu6 zu7 hbu1 hbu2 hbu3 hbu4 hbu5 hbu6 hbu7
  go_wp2_with (fail)
  generalize u7 = W7 at HB HM0
  clear bb1 lbb
  go_loopw [28] (fun i wr => ∃ (k : Nat) (flds : List Fld) (R2 : Option (List Fld)), k ≤ n' ∧ i = .int .i64 (k : Nat) ∧ Hid (PlB w wr PB QB AB BB RB [str [109], .int .i64 1, .slice none 0 0, .slice p.A p.n p.c, .slice none 0 0, .slice none 0 0, .slice none 0 0, .slice p.B p.m p.e] [str [109], .int .i64 1, .slice none 0 0, .slice q.A q.n q.c, .slice none 0 0, .slice none 0 0, .slice none 0 0, .slice q.B q.m q.e] [str [65], .slice (some ad) n cn, .slice At n ct, .int .i64 (mk : Nat), str [], .slice none 0 0, .int .i64 1, .int .i64 0, .string ⟨#[]⟩, .slice none 0 0, .slice none 0 0, .slice none 0 0, .slice none 0 0, .int .i64 0] [str [65], .slice Bn n' bn, .slice Bt n' bt, .int .i64 (mk' : Nat), str [], .slice Bm 0 bm, .int .i64 0, .int .i64 0, .string ⟨#[]⟩, .slice none 0 0, .slice none 0 0, .slice none 0 0, .slice none 0 0, .int .i64 0]) ∧ Hid (PlM MB wr MB UB n k flds) ∧ Hid (manyR (fun p => fldF P Q N T p.1 p.2) ((N'.zip T').drop k) = some R2 ∧ R = R2.map (flds ++ ·))) (fun i _ => n' - (intOf i).toNat)
  case atStart => exact ⟨0, [], R, Nat.zero_le _, rfl, HB.out, HM0.out, by rw [List.drop_zero]; exact HF.out, by cases R <;> simp⟩
  case round =>
    obtain ⟨k, flds, R2, hk, rfl, HPB, HPM, HR⟩ := hrel
    by_cases hlt : k < n'
    · have hkN : k < N'.length := by have := HN.out; omega
      have hkT : k < T'.length := by have := HN.out; omega
      have hkz : k < (N'.zip T').length := by rw [List.length_zip]; omega
      obtain ⟨qq, hqq, hcase⟩ := manyR_drop hkz HR.out.1
      rw [List.getElem_zip] at hqq
      simp only at hqq
      obtain ⟨b, off, u, rfl, _, hu, hc⟩ := (HI.out.2.2.2.1.keep (Same.any HPB.out.be)).at_ hlt
      rw [strs_at _ _ hkN] at hu
      injection hu with hu
      subst hu
      have hkT2 := HI.out.2.2.2.2.2.keep (Same.any HPB.out.be)
      obtain ⟨b1, o1, B1, m1, e1, rfl, _, p0, p1, p2, htk⟩ := hkT2.cells hlt hkT
      have hcase := Lib.hid hcase
      generalize N'[k] = nm at hc hqq
      generalize hta : T'[k] = ta at p0 p1 htk hqq
      clear hta hkT2
      have HTK := Lib.hid htk
      have CI := Lib.hid (indexS_any (some ad) n cn N nm wr (HI.out.2.2.1.keep (Same.any HPB.out.be)) HN.out.1.1 (by omega))
      have hbd := ixG_bd nm N 0
      unfold fldF at hqq
      generalize ixG nm N 0 = s at CI hqq hbd
      have l4 := lt_of_cell hc
      have ab1 := HPB.out.ab.cell 1
      have lab := HPB.out.ab.lt
      simp only [List.getElem?_cons_zero, List.getElem?_cons_succ] at ab1
      have HC := Lib.hid (And.intro hc (And.intro p0 (And.intro p1 p2)))
      clear htk p0 p1 p2
      rcases hbd with rfl | ⟨j, hj, rfl, hjn⟩
      · obtain ⟨v, hv, hqe⟩ : ∃ v, firstU Q ta 4 0 = some (some v) ∧ qq = some ⟨-1, v⟩ := by
          rw [if_pos (by omega)] at hqq
          cases h1 : firstU Q ta 4 0 with
          | none => rw [h1] at hqq; cases hqq
          | some x =>
            rw [h1] at hqq
            cases x with
            | none => cases hqq
            | some v => exact ⟨v, rfl, by injection hqq with h; exact h.symm⟩
        have HFV := Lib.hid hv
        have HQE := Lib.hid hqe
        clear hv hqe hqq
        go_upto_region 8 with (go_at_call 37; refine CI.out.mono ?_; rintro e w' ⟨rfl, rfl⟩)
        obtain ⟨W6, hW6⟩ : ∃ W6, W6 = wr.alloc (.cells #[.int .i64 (-1), .int .i64 0, .int .i64 0, .string ⟨#[]⟩, .slice none 0 0] 104) := ⟨_, rfl⟩
        obtain ⟨FB, hFB⟩ : ∃ FB, FB = wr.heap.size := ⟨_, rfl⟩
        rw [← hW6, ← hFB]
        have hb6 : Below wr.heap.size wr W6 := by rw [hW6]; exact (Below.refl _ _).alloc (Nat.le_refl _) _
        have fF : Blk W6 FB 104 [.int .i64 (-1), .int .i64 0, .int .i64 0, .string ⟨#[]⟩, .slice none 0 0] := by rw [hW6, hFB]; exact Blk.new _ _ _
        generalize hka : ta.kind = ka at HC
        generalize hna : ta.name = na at HC
        have HKN := Lib.hid (And.intro hka hna)
        have HT6 := Lib.hid (And.intro ((hb6.cell (p := ⟨b1, o1 + k * 3, none⟩) (lt_of_cell HC.out.2.1)).trans HC.out.2.1) (And.intro ((hb6.cell (p := ⟨b1, o1 + k * 3 + 1, none⟩) (lt_of_cell HC.out.2.2.1)).trans HC.out.2.2.1) ((hb6.cell (p := ⟨b1, o1 + k * 3 + 2, none⟩) (lt_of_cell HC.out.2.2.2)).trans HC.out.2.2.2)))
        have HP6 := Lib.hid (HPB.out.below hb6)
        have HM6 := Lib.hid (HPM.out.below hb6)
        have hul : UB < wr.heap.size ∧ MB < wr.heap.size := by have := HPM.out.lo; omega
        have HFE := Lib.hid hFB
        have HNE := Lib.hid (show FB ≠ UB ∧ FB ≠ MB from ⟨by omega, by omega⟩)
        have HF6 := Lib.hid (And.intro fF (And.intro (show MB + 2 ≤ FB by have := HPM.out.lo; omega) hb6))
        clear hul
        have CF := Lib.hid (show ∀ W, Below W6.heap.size W6 W → Calls Try.prog 18 #[.agg #[str [109], .int .i64 1, .slice none 0 0, .slice q.A q.n q.c, .slice none 0 0, .slice none 0 0, .slice none 0 0, .slice q.B q.m q.e], .agg #[.int .i64 (ka : Nat), str na, .slice B1 m1 e1]] W (FirstEPost W (some v)) from fun W hW => by
          have h := First_any 4 W q Q ta B1 m1 e1 (some v) ((HI.out.2.1.keep (Same.any HP6.out.be)).keep (Same.any hW)) ((HTK.out.keep (Same.any hb6)).keep (Same.any hW)) HFV.out
          rw [HKN.out.1, HKN.out.2] at h
          exact h)
        have MK := Lib.hid (show ∀ w', Below W6.heap.size W6 w' → (Below W6.heap.size W6 w' ∧ w'.cell? ⟨QB, 0, none⟩ = some (str [109]) ∧ w'.cell? ⟨QB, 1, none⟩ = some (.int .i64 1) ∧ w'.cell? ⟨QB, 2, none⟩ = some (.slice none 0 0) ∧ w'.cell? ⟨QB, 3, none⟩ = some (.slice q.A q.n q.c) ∧ w'.cell? ⟨QB, 4, none⟩ = some (.slice none 0 0) ∧ w'.cell? ⟨QB, 5, none⟩ = some (.slice none 0 0) ∧ w'.cell? ⟨QB, 6, none⟩ = some (.slice none 0 0) ∧ w'.cell? ⟨QB, 7, none⟩ = some (.slice q.B q.m q.e) ∧ w'.cell? ⟨BB, 2, none⟩ = some (.slice (some ⟨b1, o1, none⟩) n' bt) ∧ w'.cell? ⟨b1, o1 + k * 3, none⟩ = some (.int .i64 (ka : Nat)) ∧ w'.cell? ⟨b1, o1 + k * 3 + 1, none⟩ = some (str na) ∧ w'.cell? ⟨b1, o1 + k * 3 + 2, none⟩ = some (.slice B1 m1 e1)) from fun w' h => ⟨h, (h.cell (p := ⟨QB, 0, none⟩) ((HP6.out.qb).lt)).trans ((HP6.out.qb).cell 0), (h.cell (p := ⟨QB, 1, none⟩) ((HP6.out.qb).lt)).trans ((HP6.out.qb).cell 1), (h.cell (p := ⟨QB, 2, none⟩) ((HP6.out.qb).lt)).trans ((HP6.out.qb).cell 2), (h.cell (p := ⟨QB, 3, none⟩) ((HP6.out.qb).lt)).trans ((HP6.out.qb).cell 3), (h.cell (p := ⟨QB, 4, none⟩) ((HP6.out.qb).lt)).trans ((HP6.out.qb).cell 4), (h.cell (p := ⟨QB, 5, none⟩) ((HP6.out.qb).lt)).trans ((HP6.out.qb).cell 5), (h.cell (p := ⟨QB, 6, none⟩) ((HP6.out.qb).lt)).trans ((HP6.out.qb).cell 6), (h.cell (p := ⟨QB, 7, none⟩) ((HP6.out.qb).lt)).trans ((HP6.out.qb).cell 7), (h.cell (p := ⟨BB, 2, none⟩) (HP6.out.bb.lt)).trans (HP6.out.bb.cell 2), (h.cell (p := ⟨b1, o1 + k * 3, none⟩) (lt_of_cell HT6.out.1)).trans (HT6.out.1), (h.cell (p := ⟨b1, o1 + k * 3 + 1, none⟩) (lt_of_cell HT6.out.2.1)).trans (HT6.out.2.1), (h.cell (p := ⟨b1, o1 + k * 3 + 2, none⟩) (lt_of_cell HT6.out.2.2)).trans (HT6.out.2.2)⟩)
        clear hka hna hW6 hFB hb6 fF hc ab1 lab l4
        obtain ⟨hbg, g0, g1, g2, g3, g4, g5, g6, g7, g8, g9, g10, g11⟩ := MK.out W6 (Below.refl _ _)
        have lQ := HP6.out.qb.lt
        have lB := HP6.out.bb.lt
        have lb1 := lt_of_cell HT6.out.1
        have hbd : Below W6.heap.size W6 W6.drew := ⟨rfl, rfl, rfl, Nat.le_refl _, fun _ _ => rfl⟩
        have hba : ∀ o, Below W6.heap.size W6 (W6.alloc o).drew := fun o => ((Below.refl _ _).alloc (Nat.le_refl _) o).drew
        have i0 : (0 : Int) ≤ (k : Int) := by omega
        have i1 : (k : Int) < (n' : Int) := by omega
        go_cut [15, 16] (fun s15 s16 wc => ∃ VB A3 c3, s15 = .pointer (some ⟨VB, 0, none⟩) ∧ s16 = .int .i64 0 ∧ Hid (Blk wc VB 47 [.int .i64 v.kind, .int .i64 v.num, .string v.text, .slice A3 v.args.length c3] ∧ Below W6.heap.size W6 wc ∧ W6.heap.size ≤ VB ∧ VCells 4 wc (fun b => W6.heap.size ≤ b) [.int .i64 v.kind, .int .i64 v.num, .string v.text, .slice A3 v.args.length c3] v))
        case first =>
          go_region_held3 (fun w' => Below W6.heap.size W6 w' ∧ w'.cell? ⟨QB, 0, none⟩ = some (str [109]) ∧ w'.cell? ⟨QB, 1, none⟩ = some (.int .i64 1) ∧ w'.cell? ⟨QB, 2, none⟩ = some (.slice none 0 0) ∧ w'.cell? ⟨QB, 3, none⟩ = some (.slice q.A q.n q.c) ∧ w'.cell? ⟨QB, 4, none⟩ = some (.slice none 0 0) ∧ w'.cell? ⟨QB, 5, none⟩ = some (.slice none 0 0) ∧ w'.cell? ⟨QB, 6, none⟩ = some (.slice none 0 0) ∧ w'.cell? ⟨QB, 7, none⟩ = some (.slice q.B q.m q.e) ∧ w'.cell? ⟨BB, 2, none⟩ = some (.slice (some ⟨b1, o1, none⟩) n' bt) ∧ w'.cell? ⟨b1, o1 + k * 3, none⟩ = some (.int .i64 (ka : Nat)) ∧ w'.cell? ⟨b1, o1 + k * 3 + 1, none⟩ = some (str na) ∧ w'.cell? ⟨b1, o1 + k * 3 + 2, none⟩ = some (.slice B1 m1 e1)) (first | exact MK.out _ hbd | exact MK.out _ hbn | exact MK.out _ (hba _) | exact MK.out _ (below_allocR hbn _) | exact MK.out _ (below_set4 hbn _ _ _ _) | (refine MK.out _ ?_; assumption) | go_keep)
            (first | (go_at_call 18; (with_reducible refine (CF.out _ (by first | assumption | exact hba _)).mono ?_); unfold FirstEPost; rintro e w' ⟨hbx, A3, c3, rfl, hv3⟩; have hbn : Below W6.heap.size W6 w' := below_nextR hbx (by first | assumption | exact hba _); try (have fz : Blk w' W6.heap.size 47 [.int .i64 0, .int .i64 0, .string ⟨#[]⟩, .slice none 0 0] := ((Blk.new W6 47 [.int .i64 0, .int .i64 0, .string ⟨#[]⟩, .slice none 0 0]).drew).below hbx (by simp); have y0 := fz.cell 0; have y1 := fz.cell 1; have y2 := fz.cell 2; have y3 := fz.cell 3; have t0 := fz.frozen 0; have t1 := fz.frozen 1; have t2 := fz.frozen 2; have t3 := fz.frozen 3; have lz := fz.lt; have HFZ := Lib.hid (And.intro fz (And.intro hbx hv3)); simp only [List.getElem?_cons_zero, List.getElem?_cons_succ] at y0 y1 y2 y3; clear fz)))
          all_goals
            go_wp2_with (fail)
            go_meet
            first
              | exact ⟨_, _, _, rfl, rfl, Blk.new _ _ _, below_allocR hbn _, hbn.size, (hv3.keep (Same.alloc _ _ _)).imp fun b hb _ => by have h1 : W6.heap.size ≤ b := hb; exact h1⟩
              | exact planEnd HFZ hbn (by simp)
        case rest =>
          obtain ⟨VB, A3, c3, rfl, rfl, hcut⟩ := hcut
          have HCT := Lib.hid hcut.out
          have hbc := HCT.out.2.1
          have fFc := HF6.out.1.below hbc HF6.out.1.lt
          have hFV : FB < VB := by have h1 := HCT.out.2.2.1; have h2 := HF6.out.1.lt; omega
          have v0 := HCT.out.1.cell 0
          have v1 := HCT.out.1.cell 1
          have v2 := HCT.out.1.cell 2
          have v3 := HCT.out.1.cell 3
          have lV := HCT.out.1.lt
          have w0 := fFc.cell 0
          have w1 := fFc.cell 1
          have w2 := fFc.cell 2
          have w3 := fFc.cell 3
          have w4 := fFc.cell 4
          have z1 := fFc.frozen 1
          have z2 := fFc.frozen 2
          have z3 := fFc.frozen 3
          have z4 := fFc.frozen 4
          have lF := fFc.lt
          simp only [List.getElem?_cons_zero, List.getElem?_cons_succ] at v0 v1 v2 v3 w0 w1 w2 w3 w4
          have HFc := Lib.hid fFc
          clear hcut fFc hbd hba MK CF hbg g0 g1 g2 g3 g4 g5 g6 g7 g8 g9 g10 g11 lQ lB lb1 i0 i1
          go_upto_region 14 with (fail)
          obtain ⟨W9, hW9⟩ : ∃ W9, W9 = (((wc.setCell ⟨FB, 1, none⟩ (.int .i64 v.kind)).setCell ⟨FB, 2, none⟩ (.int .i64 v.num)).setCell ⟨FB, 3, none⟩ (.string v.text)).setCell ⟨FB, 4, none⟩ (.slice A3 v.args.length c3) := ⟨_, rfl⟩
          rw [← hW9]
          have hbM : MB + 2 ≤ FB := HF6.out.2.1
          have hb9 : Below FB W6 W9 := by
            rw [hW9]
            exact ((((hbc.mono (Nat.le_of_lt HF6.out.1.lt)).setCell (p := ⟨FB, 1, none⟩) (Nat.le_refl _) _).setCell (p := ⟨FB, 2, none⟩) (Nat.le_refl _) _).setCell (p := ⟨FB, 3, none⟩) (Nat.le_refl _) _).setCell (p := ⟨FB, 4, none⟩) (Nat.le_refl _) _
          have fF9 : Blk W9 FB 104 (.int .i64 (-1) :: [.int .i64 v.kind, .int .i64 v.num, .string v.text, .slice A3 v.args.length c3]) := by
            rw [hW9]
            exact (((HFc.out.put 1 (.int .i64 v.kind)).put 2 (.int .i64 v.num)).put 3 (.string v.text)).put 4 (.slice A3 v.args.length c3)
          have hwr : FB = wr.heap.size := HFE.out
          have HP9 := Lib.hid (HPB.out.below ((HF6.out.2.2.mono (Nat.le_refl _)).trans (by rw [← hwr]; exact hb9)))
          have HBX := Lib.hid (show Below wr.heap.size wr W9 from (HF6.out.2.2.mono (Nat.le_refl _)).trans (by rw [← hwr]; exact hb9))
          have hv9 : VCells 4 W9 (fun b => W6.heap.size ≤ b) [.int .i64 v.kind, .int .i64 v.num, .string v.text, .slice A3 v.args.length c3] v := HCT.out.2.2.2.keep fun b hb _ => by
            have hb' : W6.heap.size ≤ b := hb
            have hne : b ≠ FB := by have := HF6.out.1.lt; omega
            rw [hW9, Below.heap_setCell _ _ _ _ hne, Below.heap_setCell _ _ _ _ hne, Below.heap_setCell _ _ _ _ hne, Below.heap_setCell _ _ _ _ hne]
          have hs6 : wr.heap.size < W6.heap.size := by have := HF6.out.1.lt; omega
          have HV9 := Lib.hid (show FdCells W9 (fun b => MB + 2 ≤ b ∧ wr.heap.size ≤ b) (.int .i64 (-1) :: [.int .i64 v.kind, .int .i64 v.num, .string v.text, .slice A3 v.args.length c3]) ⟨-1, v⟩ from ⟨A3, c3, rfl, (hv9.le (by omega)).imp fun b hb _ => ⟨by have hb' : W6.heap.size ≤ b := hb; omega, by have hb' : W6.heap.size ≤ b := hb; omega⟩, by show -1 ≤ (-1 : Int); omega, by show (-1 : Int) ≤ 1000; omega⟩)
          have HF9 := Lib.hid fF9
          clear hwr hbM hW9 hb9 fF9 hv9 hs6 v0 v1 v2 v3 lV w0 w1 w2 w3 w4 z1 z2 z3 z4 lF HFc hFV hbc HCT
          generalize W9 = wx at *
          obtain ⟨F, cF, hmb0, hown0⟩ := HPM.out.mb
          obtain ⟨us, hmo0, hus⟩ := HPM.out.ub
          have hlo := (HPM.out.below HBX.out).lo
          have hlen := HPM.out.len
          have HOL := Lib.hid (fun m (hm : (Value.slice F k cF).ownBlock = some m) => (hown0.lt m hm).2)
          have hmb := hmb0.below HBX.out hmb0.lt
          have hown := hown0.keep FdCells.stable (Same.any HBX.out)
          have hmo := hmo0.below HBX.out
          clear hmb0 hown0 hmo0
          have HMB := Lib.hid (And.intro hmb (And.intro hown (And.intro hmo (And.intro hus (And.intro hlo hlen)))))
          have HFX := Lib.hid (HV9.out)
          have HFB := Lib.hid (HF9.out)
          have mm2 := hmb.cell 2
          have fm2 := hmb.frozen 2
          have lmb := hmb.lt
          have lfb := HFB.out.lt
          have ff0 := HFB.out.cell 0
          have ff1 := HFB.out.cell 1
          have ff2 := HFB.out.cell 2
          have ff3 := HFB.out.cell 3
          have ff4 := HFB.out.cell 4
          simp only [List.getElem?_cons_zero, List.getElem?_cons_succ] at mm2 ff0 ff1 ff2 ff3 ff4
          have hNf : MB + 2 ≤ wx.heap.size := hlo.2.2.2.2.2
          have hFf : FB ≠ UB ∧ FB ≠ MB := HNE.out
          have hsrc : I64 (-1) := by unfold I64; omega
          clear hmb hown hmo hus
          go_wp2_with (first
            | (refine wpList_mupdate _ rfl (.tmp 72) (.tmp 74) (.const (.bool true)) _ rfl enc_I Try.underlying137 (b := UB) (key := -1) rfl HMB.out.2.2.1 rfl hsrc ?_; intro w3 hm3 hg3; have HM3 := Lib.hid (And.intro hm3 hg3); have ff0' := (hg3.block FB lfb (fun e => by injection e with e; exact hFf.1 e)); have hF3 : Blk w3 FB 104 [.int .i64 (-1), .int .i64 v.kind, .int .i64 v.num, .string v.text, .slice A3 v.args.length c3] := ff0'.trans HFB.out; have hM3 := HMB.out.1.grown hg3 (fun e => by injection e with e; exact hlo.2.2.2.2.1 e); have x2 := hM3.cell 2; have x0 := hF3.cell 0; have x1 := hF3.cell 1; have x3 := hF3.cell 2; have x4 := hF3.cell 3; have x5 := hF3.cell 4; have lM3 := hM3.lt; have lF3 := hF3.lt; simp only [List.getElem?_cons_zero, List.getElem?_cons_succ] at x2 x0 x1 x3 x4 x5; have hown3 := HMB.out.2.1.keep FdCells.stable (Same.of_grown hg3 fun b hb _ => by intro e; injection e with e; have hb' : MB + 2 ≤ b := hb; omega); have s3 := hg3.size; have hown30 := hown3; obtain ⟨vss, ho3, ha3⟩ := hown3; rw [hlen] at ho3; have HM3b := Lib.hid hM3; clear hm3 hg3 ff0' hM3 hF3)
            | (at_builtin; refine app_Fd _ rfl (.tmp 76) (.tmp 78) rfl (ho3.alloc _) rfl (Reads.new (D := Any) _ [.int .i64 (-1), .int .i64 v.kind, .int .i64 v.num, .string v.text, .slice A3 v.args.length c3] 5 1 _ trivial rfl) rfl (by simp [Value.oneCell']) (by omega) (by simp; omega) ?_; intro v4 w4 hown4 hg4 hat4; obtain ⟨F4, cF4, rfl, hnc4⟩ := own_form hown4; have hM4 := (HM3b.out.alloc (.cells #[.int .i64 (-1), .int .i64 v.kind, .int .i64 v.num, .string v.text, .slice A3 v.args.length c3] 104)).grown hg4 (fun e => by have := (ho3.lt _ e.symm).1; omega); have y2 := hM4.cell 2; have fy2 := hM4.frozen 2; have lM4 := hM4.lt; simp only [List.getElem?_cons_zero, List.getElem?_cons_succ] at y2; clear hM4))
          have hy3 : FdCells w3 (fun b => MB + 2 ≤ b ∧ (Value.slice F k cF).ownBlock ≠ some b) [.int .i64 (-1), .int .i64 v.kind, .int .i64 v.num, .string v.text, .slice A3 v.args.length c3] ((⟨-1, v⟩ : Fld)) :=
            (FdCells.stable.keep (HFX.out) (Same.of_grown HM3.out.2 fun b hb _ => by intro e; injection e with e; have h1 := hb.1; have h2 := hlo; omega) : FdCells w3 _ _ _) |> fun h => FdCells.stable.imp h fun b hb _ => ⟨hb.1, fun e => by have := HOL.out b e; have := hb.2; omega⟩
          obtain ⟨st1, st2⟩ := PlM.step (n := n) hlo hlen HMB.out.1 HMB.out.2.2.2.1 HM3.out.1 HM3.out.2 ho3 ha3 hy3 hown4 hg4 hat4
          obtain ⟨v', R3, hv', hR3, hR2⟩ : ∃ v' R3, qq = some v' ∧ manyR (fun p => fldF P Q N T p.1 p.2) ((N'.zip T').drop (k + 1)) = some R3 ∧ R2 = R3.map (v' :: ·) := by
            rcases hcase.out with ⟨h1, _⟩ | h1
            · rw [HQE.out] at h1; cases h1
            · exact h1
          have hve : v' = ((⟨-1, v⟩ : Fld)) := by have := HQE.out; rw [hv'] at this; injection this
          exact ⟨⟨k + 1, flds ++ [(⟨-1, v⟩ : Fld)], R3, by omega, by go_num, (HP9.out).high st2 HZ.out.2.2.2.2.2 ⟨HZ.out.1, HZ.out.2.1, HZ.out.2.2.1, HZ.out.2.2.2.1, HZ.out.2.2.2.2.1⟩, st1, hR3, by rw [HR.out.2, hR2, hve]; cases R3 <;> simp⟩, by simp [intOf]; omega⟩
      · have hjT : j < T.length := by have := HN.out; omega
        obtain ⟨b0, o0, B2, m2, e2, rfl, _, s0, s1, s2, htj⟩ := (HI.out.2.2.2.2.1.keep (Same.any HPB.out.be)).cells (show j < n by have := HN.out; omega) hjT
        simp only [Nat.zero_add] at CI hqq ⊢
        obtain ⟨r, hsm, hqe⟩ : ∃ r, same12 P Q T[j] ta = some r ∧ qq = if r then some ⟨(j : Nat), zeroV⟩ else none := by
          rw [if_neg (by omega), Int.toNat_natCast, List.getElem?_eq_getElem hjT] at hqq
          simp only at hqq
          cases h1 : same12 P Q T[j] ta with
          | none => rw [h1] at hqq; cases hqq
          | some r =>
            rw [h1] at hqq
            cases r with
            | true => exact ⟨true, rfl, by injection hqq with h; exact h.symm⟩
            | false => exact ⟨false, rfl, by injection hqq with h; exact h.symm⟩
        have hjn6 : j < n := by have := HN.out; omega
        obtain ⟨s', hsf⟩ := same_of hsm
        generalize hub : T[j] = ub at s0 s1 htj hsf
        clear hub hsm hqq hjn
        have HSF := Lib.hid hsf
        have HQE0 := Lib.hid hqe
        have HTJ := Lib.hid htj
        have HD := Lib.hid (And.intro s0 (And.intro s1 s2))
        clear hsf hqe htj s0 s1 s2
        go_upto_region 12 with (go_at_call 37; refine CI.out.mono ?_; rintro e w' ⟨rfl, rfl⟩)
        obtain ⟨W6, hW6⟩ : ∃ W6, W6 = wr.alloc (.cells #[.int .i64 (j : Nat), .int .i64 0, .int .i64 0, .string ⟨#[]⟩, .slice none 0 0] 104) := ⟨_, rfl⟩
        obtain ⟨FB, hFB⟩ : ∃ FB, FB = wr.heap.size := ⟨_, rfl⟩
        rw [← hW6, ← hFB]
        have hb6 : Below wr.heap.size wr W6 := by rw [hW6]; exact (Below.refl _ _).alloc (Nat.le_refl _) _
        have fF : Blk W6 FB 104 [.int .i64 (j : Nat), .int .i64 0, .int .i64 0, .string ⟨#[]⟩, .slice none 0 0] := by rw [hW6, hFB]; exact Blk.new _ _ _
        generalize hka : ta.kind = ka at HC
        generalize hna : ta.name = na at HC
        have HKN := Lib.hid (And.intro hka hna)
        have HT6 := Lib.hid (And.intro ((hb6.cell (p := ⟨b1, o1 + k * 3, none⟩) (lt_of_cell HC.out.2.1)).trans HC.out.2.1) (And.intro ((hb6.cell (p := ⟨b1, o1 + k * 3 + 1, none⟩) (lt_of_cell HC.out.2.2.1)).trans HC.out.2.2.1) ((hb6.cell (p := ⟨b1, o1 + k * 3 + 2, none⟩) (lt_of_cell HC.out.2.2.2)).trans HC.out.2.2.2)))
        have HP6 := Lib.hid (HPB.out.below hb6)
        have HM6 := Lib.hid (HPM.out.below hb6)
        have hul : UB < wr.heap.size ∧ MB < wr.heap.size := by have := HPM.out.lo; omega
        have HFE := Lib.hid hFB
        have HNE := Lib.hid (show FB ≠ UB ∧ FB ≠ MB from ⟨by omega, by omega⟩)
        have HF6 := Lib.hid (And.intro fF (And.intro (show MB + 2 ≤ FB by have := HPM.out.lo; omega) hb6))
        clear hul
        generalize hkb : ub.kind = kb at HD
        generalize hnb : ub.name = nb at HD
        have HKM := Lib.hid (And.intro hkb hnb)
        have HS6 := Lib.hid (And.intro ((hb6.cell (p := ⟨b0, o0 + j * 3, none⟩) (lt_of_cell HD.out.1)).trans HD.out.1) (And.intro ((hb6.cell (p := ⟨b0, o0 + j * 3 + 1, none⟩) (lt_of_cell HD.out.2.1)).trans HD.out.2.1) ((hb6.cell (p := ⟨b0, o0 + j * 3 + 2, none⟩) (lt_of_cell HD.out.2.2)).trans HD.out.2.2)))
        have CF := Lib.hid (show ∀ W, Below W6.heap.size W6 W → Calls Try.prog 13 #[.agg #[str [109], .int .i64 1, .slice none 0 0, .slice p.A p.n p.c, .slice none 0 0, .slice none 0 0, .slice none 0 0, .slice p.B p.m p.e], .agg #[str [109], .int .i64 1, .slice none 0 0, .slice q.A q.n q.c, .slice none 0 0, .slice none 0 0, .slice none 0 0, .slice q.B q.m q.e], .agg #[.int .i64 (kb : Nat), str nb, .slice B2 m2 e2], .agg #[.int .i64 (ka : Nat), str na, .slice B1 m1 e1]] W (fun e w' => e = .returned (.bool r) ∧ Below W.heap.size W w') from fun W hW => by
          have h := sameC_any 12 4 4 W p P q Q ub ta B2 m2 e2 B1 m1 e1 r s' ((HI.out.1.keep (Same.any HP6.out.be)).keep (Same.any hW)) ((HI.out.2.1.keep (Same.any HP6.out.be)).keep (Same.any hW)) ((HTJ.out.keep (Same.any hb6)).keep (Same.any hW)) ((HTK.out.keep (Same.any hb6)).keep (Same.any hW)) HSF.out
          rw [HKN.out.1, HKN.out.2, HKM.out.1, HKM.out.2] at h
          exact h)
        have MK := Lib.hid (show ∀ w', Below W6.heap.size W6 w' → (Below W6.heap.size W6 w' ∧ w'.cell? ⟨PB, 0, none⟩ = some (str [109]) ∧ w'.cell? ⟨PB, 1, none⟩ = some (.int .i64 1) ∧ w'.cell? ⟨PB, 2, none⟩ = some (.slice none 0 0) ∧ w'.cell? ⟨PB, 3, none⟩ = some (.slice p.A p.n p.c) ∧ w'.cell? ⟨PB, 4, none⟩ = some (.slice none 0 0) ∧ w'.cell? ⟨PB, 5, none⟩ = some (.slice none 0 0) ∧ w'.cell? ⟨PB, 6, none⟩ = some (.slice none 0 0) ∧ w'.cell? ⟨PB, 7, none⟩ = some (.slice p.B p.m p.e) ∧ w'.cell? ⟨QB, 0, none⟩ = some (str [109]) ∧ w'.cell? ⟨QB, 1, none⟩ = some (.int .i64 1) ∧ w'.cell? ⟨QB, 2, none⟩ = some (.slice none 0 0) ∧ w'.cell? ⟨QB, 3, none⟩ = some (.slice q.A q.n q.c) ∧ w'.cell? ⟨QB, 4, none⟩ = some (.slice none 0 0) ∧ w'.cell? ⟨QB, 5, none⟩ = some (.slice none 0 0) ∧ w'.cell? ⟨QB, 6, none⟩ = some (.slice none 0 0) ∧ w'.cell? ⟨QB, 7, none⟩ = some (.slice q.B q.m q.e) ∧ w'.cell? ⟨AB, 2, none⟩ = some (.slice (some ⟨b0, o0, none⟩) n ct) ∧ w'.cell? ⟨BB, 2, none⟩ = some (.slice (some ⟨b1, o1, none⟩) n' bt) ∧ w'.cell? ⟨FB, 0, none⟩ = some (.int .i64 (j : Nat)) ∧ w'.cell? ⟨b0, o0 + j * 3, none⟩ = some (.int .i64 (kb : Nat)) ∧ w'.cell? ⟨b0, o0 + j * 3 + 1, none⟩ = some (str nb) ∧ w'.cell? ⟨b0, o0 + j * 3 + 2, none⟩ = some (.slice B2 m2 e2) ∧ w'.cell? ⟨b1, o1 + k * 3, none⟩ = some (.int .i64 (ka : Nat)) ∧ w'.cell? ⟨b1, o1 + k * 3 + 1, none⟩ = some (str na) ∧ w'.cell? ⟨b1, o1 + k * 3 + 2, none⟩ = some (.slice B1 m1 e1)) from fun w' h => ⟨h, (h.cell (p := ⟨PB, 0, none⟩) ((HP6.out.pb).lt)).trans ((HP6.out.pb).cell 0), (h.cell (p := ⟨PB, 1, none⟩) ((HP6.out.pb).lt)).trans ((HP6.out.pb).cell 1), (h.cell (p := ⟨PB, 2, none⟩) ((HP6.out.pb).lt)).trans ((HP6.out.pb).cell 2), (h.cell (p := ⟨PB, 3, none⟩) ((HP6.out.pb).lt)).trans ((HP6.out.pb).cell 3), (h.cell (p := ⟨PB, 4, none⟩) ((HP6.out.pb).lt)).trans ((HP6.out.pb).cell 4), (h.cell (p := ⟨PB, 5, none⟩) ((HP6.out.pb).lt)).trans ((HP6.out.pb).cell 5), (h.cell (p := ⟨PB, 6, none⟩) ((HP6.out.pb).lt)).trans ((HP6.out.pb).cell 6), (h.cell (p := ⟨PB, 7, none⟩) ((HP6.out.pb).lt)).trans ((HP6.out.pb).cell 7), (h.cell (p := ⟨QB, 0, none⟩) ((HP6.out.qb).lt)).trans ((HP6.out.qb).cell 0), (h.cell (p := ⟨QB, 1, none⟩) ((HP6.out.qb).lt)).trans ((HP6.out.qb).cell 1), (h.cell (p := ⟨QB, 2, none⟩) ((HP6.out.qb).lt)).trans ((HP6.out.qb).cell 2), (h.cell (p := ⟨QB, 3, none⟩) ((HP6.out.qb).lt)).trans ((HP6.out.qb).cell 3), (h.cell (p := ⟨QB, 4, none⟩) ((HP6.out.qb).lt)).trans ((HP6.out.qb).cell 4), (h.cell (p := ⟨QB, 5, none⟩) ((HP6.out.qb).lt)).trans ((HP6.out.qb).cell 5), (h.cell (p := ⟨QB, 6, none⟩) ((HP6.out.qb).lt)).trans ((HP6.out.qb).cell 6), (h.cell (p := ⟨QB, 7, none⟩) ((HP6.out.qb).lt)).trans ((HP6.out.qb).cell 7), (h.cell (p := ⟨AB, 2, none⟩) (HP6.out.ab.lt)).trans (HP6.out.ab.cell 2), (h.cell (p := ⟨BB, 2, none⟩) (HP6.out.bb.lt)).trans (HP6.out.bb.cell 2), (h.cell (p := ⟨FB, 0, none⟩) (HF6.out.1.lt)).trans (HF6.out.1.cell 0), (h.cell (p := ⟨b0, o0 + j * 3, none⟩) (lt_of_cell HS6.out.1)).trans (HS6.out.1), (h.cell (p := ⟨b0, o0 + j * 3 + 1, none⟩) (lt_of_cell HS6.out.2.1)).trans (HS6.out.2.1), (h.cell (p := ⟨b0, o0 + j * 3 + 2, none⟩) (lt_of_cell HS6.out.2.2)).trans (HS6.out.2.2), (h.cell (p := ⟨b1, o1 + k * 3, none⟩) (lt_of_cell HT6.out.1)).trans (HT6.out.1), (h.cell (p := ⟨b1, o1 + k * 3 + 1, none⟩) (lt_of_cell HT6.out.2.1)).trans (HT6.out.2.1), (h.cell (p := ⟨b1, o1 + k * 3 + 2, none⟩) (lt_of_cell HT6.out.2.2)).trans (HT6.out.2.2)⟩)
        clear hka hna hkb hnb hW6 hFB hb6 fF hc ab1 lab l4
        obtain ⟨hbg, g0, g1, g2, g3, g4, g5, g6, g7, g8, g9, g10, g11, g12, g13, g14, g15, g16, g17, g18, g19, g20, g21, g22, g23, g24⟩ := MK.out W6 (Below.refl _ _)
        have lP := HP6.out.pb.lt
        have lQ := HP6.out.qb.lt
        have lA := HP6.out.ab.lt
        have lB := HP6.out.bb.lt
        have lF := HF6.out.1.lt
        have lb1 := lt_of_cell HT6.out.1
        have lb0 := lt_of_cell HS6.out.1
        have hbd : Below W6.heap.size W6 W6.drew := ⟨rfl, rfl, rfl, Nat.le_refl _, fun _ _ => rfl⟩
        have i0 : (0 : Int) ≤ (k : Int) := by omega
        have i1 : (k : Int) < (n' : Int) := by omega
        have i2 : (0 : Int) ≤ (j : Int) := by omega
        have i3 : (j : Int) < (n : Int) := by omega
        go_region_held3 (fun w' => Below W6.heap.size W6 w' ∧ w'.cell? ⟨PB, 0, none⟩ = some (str [109]) ∧ w'.cell? ⟨PB, 1, none⟩ = some (.int .i64 1) ∧ w'.cell? ⟨PB, 2, none⟩ = some (.slice none 0 0) ∧ w'.cell? ⟨PB, 3, none⟩ = some (.slice p.A p.n p.c) ∧ w'.cell? ⟨PB, 4, none⟩ = some (.slice none 0 0) ∧ w'.cell? ⟨PB, 5, none⟩ = some (.slice none 0 0) ∧ w'.cell? ⟨PB, 6, none⟩ = some (.slice none 0 0) ∧ w'.cell? ⟨PB, 7, none⟩ = some (.slice p.B p.m p.e) ∧ w'.cell? ⟨QB, 0, none⟩ = some (str [109]) ∧ w'.cell? ⟨QB, 1, none⟩ = some (.int .i64 1) ∧ w'.cell? ⟨QB, 2, none⟩ = some (.slice none 0 0) ∧ w'.cell? ⟨QB, 3, none⟩ = some (.slice q.A q.n q.c) ∧ w'.cell? ⟨QB, 4, none⟩ = some (.slice none 0 0) ∧ w'.cell? ⟨QB, 5, none⟩ = some (.slice none 0 0) ∧ w'.cell? ⟨QB, 6, none⟩ = some (.slice none 0 0) ∧ w'.cell? ⟨QB, 7, none⟩ = some (.slice q.B q.m q.e) ∧ w'.cell? ⟨AB, 2, none⟩ = some (.slice (some ⟨b0, o0, none⟩) n ct) ∧ w'.cell? ⟨BB, 2, none⟩ = some (.slice (some ⟨b1, o1, none⟩) n' bt) ∧ w'.cell? ⟨FB, 0, none⟩ = some (.int .i64 (j : Nat)) ∧ w'.cell? ⟨b0, o0 + j * 3, none⟩ = some (.int .i64 (kb : Nat)) ∧ w'.cell? ⟨b0, o0 + j * 3 + 1, none⟩ = some (str nb) ∧ w'.cell? ⟨b0, o0 + j * 3 + 2, none⟩ = some (.slice B2 m2 e2) ∧ w'.cell? ⟨b1, o1 + k * 3, none⟩ = some (.int .i64 (ka : Nat)) ∧ w'.cell? ⟨b1, o1 + k * 3 + 1, none⟩ = some (str na) ∧ w'.cell? ⟨b1, o1 + k * 3 + 2, none⟩ = some (.slice B1 m1 e1)) (first | exact MK.out _ hbd | exact MK.out _ hbn | (refine MK.out _ ?_; assumption) | go_keep)
          (first | (go_at_call 13; (with_reducible refine (CF.out _ (by assumption)).mono ?_); rintro e w' ⟨rfl, hbx⟩; have hbn : Below W6.heap.size W6 w' := below_nextR hbx (by assumption); clear hbx))
        all_goals
          have HBN := Lib.hid hbn
          clear hbg g0 g1 g2 g3 g4 g5 g6 g7 g8 g9 g10 g11 g12 g13 g14 g15 g16 g17 g18 g19 g20 g21 g22 g23 g24 lP lQ lA lB lF lb1 lb0 hbd i0 i1 i2 i3 MK CF
        case' refine_2.refine_3.refine_3.refine_3.refine_3.refine_3.refine_3.refine_3.refine_3.refine_3.refine_3.refine_3.refine_3.refine_3.refine_1.refine_2.refine_3 => skip
        have hwr : FB = wr.heap.size := HFE.out
        have HBX := Lib.hid (show Below wr.heap.size wr w' from HF6.out.2.2.trans (hbn.mono (by have := HF6.out.2.2.size; exact this)))
        clear hwr
        have HPX := Lib.hid (HPB.out.below HBX.out)
        have HFX0 := Lib.hid (HF6.out.1.below hbn HF6.out.1.lt)
        clear hbn
        cases r with
        | false =>
          have fR := HPX.out.rb
          have r0 := fR.cell 0
          have r1 := fR.cell 1
          have r2 := fR.cell 2
          have r3 := fR.cell 3
          have z0 := fR.frozen 0
          have z1 := fR.frozen 1
          have z2 := fR.frozen 2
          have z3 := fR.frozen 3
          have lR := fR.lt
          simp only [List.getElem?_cons_zero, List.getElem?_cons_succ] at r0 r1 r2 r3
          clear fR
          go_wp2_with (fail)
          have hB := (((HPX.out.rb.put 0 (.string ⟨#[]⟩)).put 1 (.int .i64 0)).put 2 (.slice none 0 0)).put 3 (.slice none 0 0)
          have hbe := (((HPX.out.be.setCell (p := ⟨RB, 0, none⟩) HPX.out.lo.2.2.2.2 (.string ⟨#[]⟩)).setCell (p := ⟨RB, 1, none⟩) HPX.out.lo.2.2.2.2 (.int .i64 0)).setCell (p := ⟨RB, 2, none⟩) HPX.out.lo.2.2.2.2 (.slice none 0 0)).setCell (p := ⟨RB, 3, none⟩) HPX.out.lo.2.2.2.2 (.slice none 0 0)
          refine ret_blk_tmp rfl rfl hB Try.underlying99 (by kernel_rfl) rfl ?_
          have hR2 : R2 = none := by
            rcases hcase.out with ⟨_, h⟩ | ⟨v, R3, h, _⟩
            · exact h
            · rw [HQE0.out] at h; cases h
          have hRn : R = none := by rw [HR.out.2, hR2]; rfl
          rw [hRn]
          exact ⟨rfl, hbe⟩
        | true =>
          have HQE := Lib.hid (show qq = some ⟨(j : Nat), zeroV⟩ from HQE0.out)
          have HV9 := Lib.hid (show FdCells w' (fun b => MB + 2 ≤ b ∧ wr.heap.size ≤ b) [.int .i64 (j : Nat), .int .i64 0, .int .i64 0, .string ⟨#[]⟩, .slice none 0 0] ⟨(j : Nat), zeroV⟩ from ⟨none, 0, rfl, ⟨none, 0, [], rfl, ⟨by omega, by omega⟩, ⟨by omega, by omega⟩, by decide, by decide, Nat.le_refl _, Nat.zero_le _, Reads.empty, All2.nil⟩, by show -1 ≤ ((j : Nat) : Int); omega, by show ((j : Nat) : Int) ≤ 1000; omega⟩)
          clear HQE0 HTJ HTK HSF HD HC HT6 HS6 HM6 HP6
          generalize w' = wx at *
          obtain ⟨F, cF, hmb0, hown0⟩ := HPM.out.mb
          obtain ⟨us, hmo0, hus⟩ := HPM.out.ub
          have hlo := (HPM.out.below HBX.out).lo
          have hlen := HPM.out.len
          have HOL := Lib.hid (fun m (hm : (Value.slice F k cF).ownBlock = some m) => (hown0.lt m hm).2)
          have hmb := hmb0.below HBX.out hmb0.lt
          have hown := hown0.keep FdCells.stable (Same.any HBX.out)
          have hmo := hmo0.below HBX.out
          clear hmb0 hown0 hmo0
          have HMB := Lib.hid (And.intro hmb (And.intro hown (And.intro hmo (And.intro hus (And.intro hlo hlen)))))
          have HFX := Lib.hid (HV9.out)
          have HFB := Lib.hid (HFX0.out)
          have mm2 := hmb.cell 2
          have fm2 := hmb.frozen 2
          have lmb := hmb.lt
          have lfb := HFB.out.lt
          have ff0 := HFB.out.cell 0
          have ff1 := HFB.out.cell 1
          have ff2 := HFB.out.cell 2
          have ff3 := HFB.out.cell 3
          have ff4 := HFB.out.cell 4
          simp only [List.getElem?_cons_zero, List.getElem?_cons_succ] at mm2 ff0 ff1 ff2 ff3 ff4
          have hNf : MB + 2 ≤ wx.heap.size := hlo.2.2.2.2.2
          have hFf : FB ≠ UB ∧ FB ≠ MB := HNE.out
          have hsrc : I64 (((j : Nat) : Int)) := by unfold I64; omega
          clear hmb hown hmo hus
          go_wp2_with (first
            | (refine wpList_mupdate _ rfl (.tmp 72) (.tmp 74) (.const (.bool true)) _ rfl enc_I Try.underlying137 (b := UB) (key := ((j : Nat) : Int)) rfl HMB.out.2.2.1 rfl hsrc ?_; intro w3 hm3 hg3; have HM3 := Lib.hid (And.intro hm3 hg3); have ff0' := (hg3.block FB lfb (fun e => by injection e with e; exact hFf.1 e)); have hF3 : Blk w3 FB 104 [.int .i64 (j : Nat), .int .i64 0, .int .i64 0, .string ⟨#[]⟩, .slice none 0 0] := ff0'.trans HFB.out; have hM3 := HMB.out.1.grown hg3 (fun e => by injection e with e; exact hlo.2.2.2.2.1 e); have x2 := hM3.cell 2; have x0 := hF3.cell 0; have x1 := hF3.cell 1; have x3 := hF3.cell 2; have x4 := hF3.cell 3; have x5 := hF3.cell 4; have lM3 := hM3.lt; have lF3 := hF3.lt; simp only [List.getElem?_cons_zero, List.getElem?_cons_succ] at x2 x0 x1 x3 x4 x5; have hown3 := HMB.out.2.1.keep FdCells.stable (Same.of_grown hg3 fun b hb _ => by intro e; injection e with e; have hb' : MB + 2 ≤ b := hb; omega); have s3 := hg3.size; have hown30 := hown3; obtain ⟨vss, ho3, ha3⟩ := hown3; rw [hlen] at ho3; have HM3b := Lib.hid hM3; clear hm3 hg3 ff0' hM3 hF3)
            | (at_builtin; refine app_Fd _ rfl (.tmp 76) (.tmp 78) rfl (ho3.alloc _) rfl (Reads.new (D := Any) _ [.int .i64 (j : Nat), .int .i64 0, .int .i64 0, .string ⟨#[]⟩, .slice none 0 0] 5 1 _ trivial rfl) rfl (by simp [Value.oneCell']) (by omega) (by simp; omega) ?_; intro v4 w4 hown4 hg4 hat4; obtain ⟨F4, cF4, rfl, hnc4⟩ := own_form hown4; have hM4 := (HM3b.out.alloc (.cells #[.int .i64 (j : Nat), .int .i64 0, .int .i64 0, .string ⟨#[]⟩, .slice none 0 0] 104)).grown hg4 (fun e => by have := (ho3.lt _ e.symm).1; omega); have y2 := hM4.cell 2; have fy2 := hM4.frozen 2; have lM4 := hM4.lt; simp only [List.getElem?_cons_zero, List.getElem?_cons_succ] at y2; clear hM4))
          have hy3 : FdCells w3 (fun b => MB + 2 ≤ b ∧ (Value.slice F k cF).ownBlock ≠ some b) [.int .i64 (j : Nat), .int .i64 0, .int .i64 0, .string ⟨#[]⟩, .slice none 0 0] ((⟨(j : Nat), zeroV⟩ : Fld)) :=
            (FdCells.stable.keep (HFX.out) (Same.of_grown HM3.out.2 fun b hb _ => by intro e; injection e with e; have h1 := hb.1; have h2 := hlo; omega) : FdCells w3 _ _ _) |> fun h => FdCells.stable.imp h fun b hb _ => ⟨hb.1, fun e => by have := HOL.out b e; have := hb.2; omega⟩
          obtain ⟨st1, st2⟩ := PlM.step (n := n) hlo hlen HMB.out.1 HMB.out.2.2.2.1 HM3.out.1 HM3.out.2 ho3 ha3 hy3 hown4 hg4 hat4
          obtain ⟨v', R3, hv', hR3, hR2⟩ : ∃ v' R3, qq = some v' ∧ manyR (fun p => fldF P Q N T p.1 p.2) ((N'.zip T').drop (k + 1)) = some R3 ∧ R2 = R3.map (v' :: ·) := by
            rcases hcase.out with ⟨h1, _⟩ | h1
            · rw [HQE.out] at h1; cases h1
            · exact h1
          have hve : v' = ((⟨(j : Nat), zeroV⟩ : Fld)) := by have := HQE.out; rw [hv'] at this; injection this
          exact ⟨⟨k + 1, flds ++ [(⟨(j : Nat), zeroV⟩ : Fld)], R3, by omega, by go_num, (HPX.out).high st2 HZ.out.2.2.2.2.2 ⟨HZ.out.1, HZ.out.2.1, HZ.out.2.2.1, HZ.out.2.2.2.1, HZ.out.2.2.2.2.1⟩, st1, hR3, by rw [HR.out.2, hR2, hve]; cases R3 <;> simp⟩, by simp [intOf]; omega⟩
    · obtain rfl : k = n' := by omega
      have hend := manyR_end (by rw [List.length_zip]; have := HN.out; omega) HR.out.1
      have hRs : R = some flds := by rw [HR.out.2, hend]; simp
      have HRS := Lib.hid hRs
      obtain ⟨F, cF, us, hpl, hus⟩ := HPM.out.next
      have hlen := HPM.out.len
      have HL0 := Lib.hid hpl
      have HUS := Lib.hid (And.intro hus hlen)
      have ab1 := HPB.out.ab.cell 1
      have lab := HPB.out.ab.lt
      simp only [List.getElem?_cons_zero, List.getElem?_cons_succ] at ab1
      clear hend hRs hpl hus hlen HM0 HB
      go_wp2_with (fail)
      clear ab1 lab
      rename World => w1
      go_loopw [85] (fun v wr => ∃ (i : Nat) (Ls : Option Addr) (l cL : Nat), i ≤ n ∧ v = .int .i64 (i : Nat) ∧ Hid (PlB w wr PB QB AB BB RB [str [109], .int .i64 1, .slice none 0 0, .slice p.A p.n p.c, .slice none 0 0, .slice none 0 0, .slice none 0 0, .slice p.B p.m p.e] [str [109], .int .i64 1, .slice none 0 0, .slice q.A q.n q.c, .slice none 0 0, .slice none 0 0, .slice none 0 0, .slice q.B q.m q.e] [str [65], .slice (some ad) n cn, .slice At n ct, .int .i64 (mk : Nat), str [], .slice none 0 0, .int .i64 1, .int .i64 0, .string ⟨#[]⟩, .slice none 0 0, .slice none 0 0, .slice none 0 0, .slice none 0 0, .int .i64 0] [str [65], .slice Bn k bn, .slice Bt k bt, .int .i64 (mk' : Nat), str [], .slice Bm 0 bm, .int .i64 0, .int .i64 0, .string ⟨#[]⟩, .slice none 0 0, .slice none 0 0, .slice none 0 0, .slice none 0 0, .int .i64 0]) ∧ Hid (PlL MB w1.heap.size wr MB UB n k F cF flds us i Ls l cL)) (fun v _ => n - (intOf v).toNat)
      case atStart => exact ⟨0, none, 0, 0, Nat.zero_le _, rfl, HPB.out, HL0.out⟩
      case round =>
        obtain ⟨i, Ls, l, cL, hi, rfl, HPB2, HPL⟩ := hrel
        by_cases hin : i < n
        · have hli := lostF_next i (flds.map Fld.src)
          have hg := HUS.out.1 (i : Int)
          have hi64 : I64 (i : Int) := by unfold I64; omega
          by_cases hm : (i : Int) ∈ flds.map Fld.src
          · rw [if_pos hm] at hli hg
            have HG := Lib.hid (And.intro hli hg)
            clear hli hg hm
            go_wp2_with (refine wpList_mlookup _ rfl (.tmp 88) (.tmp 89) _ rfl enc_I Try.underlying137 zero_bl (b := UB) (key := (i : Int)) rfl HPL.out.ub rfl hi64 ?_; rw [HG.out.2]; dsimp only [Option.getD])
            exact ⟨⟨i + 1, Ls, l, cL, by omega, by go_num, HPB2.out, HPL.out.same HG.out.1⟩, by simp [intOf]; omega⟩
          · rw [if_neg hm] at hli hg
            have HG := Lib.hid (And.intro hli hg)
            have m3 := HPL.out.mb.cell 3
            have lm := HPL.out.mb.lt
            simp only [List.getElem?_cons_zero, List.getElem?_cons_succ] at m3
            have lr := HPL.out.lr
            have hl6 : l ≤ 6 := by have h1 := HPL.out.ll; have h2 := lostF_len i (flds.map Fld.src); omega
            have hN3 := HPL.out.lo
            clear hli hg hm
            go_wp2_with (first
              | (refine wpList_mlookup _ rfl (.tmp 88) (.tmp 89) _ rfl enc_I Try.underlying137 zero_bl (b := UB) (key := (i : Int)) rfl HPL.out.ub rfl hi64 ?_; rw [HG.out.2]; dsimp only [Option.getD])
              | (at_builtin; refine app_In _ rfl (.tmp 93) (.tmp 95) rfl (lr.alloc _) rfl (Reads.new (D := Any) _ [.int .i64 (i : Nat)] 1 1 _ trivial rfl) rfl (by simp [Value.oneCell']) (by omega) (by simp; omega) ?_; intro v4 w4 hown4 hg4 hat4; obtain ⟨L4, cL4, rfl, hnc4⟩ := own_form hown4; have hM4 := (HPL.out.mb.alloc (.cells #[.int .i64 (i : Nat)] 3)).grown hg4 (fun e => by have := (lr.lt _ e.symm).1; omega); have y2 := hM4.cell 3; have fy2 := hM4.frozen 3; have lM4 := hM4.lt; simp only [List.getElem?_cons_zero, List.getElem?_cons_succ] at y2; clear hM4))
            obtain ⟨st1, st2⟩ := HPL.out.step HG.out.1 hown4 hg4
            exact ⟨⟨i + 1, L4, l + 1, cL4, by omega, by go_num, HPB2.out.high st2 HZ.out.2.2.2.2.2 ⟨HZ.out.1, HZ.out.2.1, HZ.out.2.2.1, HZ.out.2.2.2.1, HZ.out.2.2.2.2.1⟩, st1⟩, by simp [intOf]; omega⟩
        · obtain rfl : i = n := by omega
          have fM := HPL.out.mb
          have fR := HPB2.out.rb
          have m0 := fM.cell 0
          have m1' := fM.cell 1
          have m2' := fM.cell 2
          have m3 := fM.cell 3
          have lM := fM.lt
          have r0 := fR.cell 0
          have r1 := fR.cell 1
          have r2 := fR.cell 2
          have r3 := fR.cell 3
          have z0 := fR.frozen 0
          have z1 := fR.frozen 1
          have z2 := fR.frozen 2
          have z3 := fR.frozen 3
          have lR := fR.lt
          simp only [List.getElem?_cons_zero, List.getElem?_cons_succ] at r0 r1 r2 r3 m0 m1' m2' m3
          clear fR fM
          go_wp2_with (fail)
          have hB := (((HPB2.out.rb.put 0 (str [65])).put 1 (.int .i64 (i : Nat))).put 2 (.slice F k cF)).put 3 (.slice Ls l cL)
          have hbe := (((HPB2.out.be.setCell (p := ⟨RB, 0, none⟩) HPB2.out.lo.2.2.2.2 (str [65])).setCell (p := ⟨RB, 1, none⟩) HPB2.out.lo.2.2.2.2 (.int .i64 (i : Nat))).setCell (p := ⟨RB, 2, none⟩) HPB2.out.lo.2.2.2.2 (.slice F k cF)).setCell (p := ⟨RB, 3, none⟩) HPB2.out.lo.2.2.2.2 (.slice Ls l cL)
          refine ret_blk_tmp rfl rfl hB Try.underlying99 (by kernel_rfl) rfl ?_
          rw [HRS.out]
          obtain ⟨lo, mb, ⟨vss, f1, f2⟩, cap, lr, ll, ub⟩ := HPL.out
          have hl6 : l ≤ 6 := by have h2 := lostF_len i (flds.map Fld.src); omega
          obtain ⟨l1, l2, l3⟩ := own_reads (by omega) lr
          have hz := HZ.out
          have hlen := HUS.out.2
          have hf : ∀ b, b ≠ RB → ((((wr.setCell ⟨RB, 0, none⟩ (str [65])).setCell ⟨RB, 1, none⟩ (.int .i64 (i : Nat))).setCell ⟨RB, 2, none⟩ (.slice F k cF)).setCell ⟨RB, 3, none⟩ (.slice Ls l cL)).heap[b]? = wr.heap[b]? := fun b hb => by
            rw [Below.heap_setCell _ _ _ _ hb, Below.heap_setCell _ _ _ _ hb, Below.heap_setCell _ _ _ _ hb, Below.heap_setCell _ _ _ _ hb]
          subst ll
          subst hlen
          refine ⟨⟨F, cF, Ls, cL, rfl, ⟨⟨rfl, by omega, cap.1, cap.2⟩, ⟨vss, ?_, ?_⟩, ⟨rfl, by omega, l1, l2⟩, ?_⟩⟩, hbe⟩
          · exact (f1.keep fun b hb _ => hf b (by omega)).imp (by omega) fun b hb _ => by omega
          · exact f2.imp fun x y hxy => FdCells.stable.imp (FdCells.stable.keep hxy fun b hb _ => hf b (by omega)) fun b hb _ => by omega
          · exact (l3.keep fun b hb _ => hf b (by omega)).imp (by omega) fun b hb _ => by omega
end Go.Proofs.Ytoddjdajjmcliaa
