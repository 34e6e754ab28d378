/- What (*pair).same stands on: the pair in memory, and its two closures, if 'same' itself does what it should to a depth. -/
import Derived.Test.YtoddjdajjmcliaaShEq
set_option linter.unusedVariables false
namespace Go.Sh
open Go.Mem Go.RowKit
/-- where a program's datas and actors lie -/
structure Pg where
  A : Option Addr
  n : Nat
  c : Nat
  B : Option Addr
  m : Nat
  e : Nat
def Pg.cells (p : Pg) : List Value := pvs p.A p.n p.c p.B p.m p.e
end Go.Sh
namespace Go.Proofs.Ytoddjdajjmcliaa
open Go.RowKit Go.Mem Go.Sh Go.Maps
structure PairAt (d : Nat) (w : World) (S M : Nat) (p : Pg) (P : List Dt) (q : Pg) (Q : List Dt) : Prop where
  blk : Blk w S 88 (p.cells ++ q.cells ++ [.map (some M)])
  dp : DtsAt d w (Off M) p.A p.n p.c P
  dq : DtsAt d w (Off M) q.A q.n q.c Q
  ne : S ≠ M
theorem PairAt.seen {d : Nat} {w W : World} {S M : Nat} {p q : Pg} {P Q : List Dt} {s : List Nm} (h : PairAt d w S M p P q Q) (k : SeenAt w W M s) : PairAt d W S M p P q Q :=
  ⟨h.blk.grown k.1 (fun e => h.ne (by injection e)), h.dp.keep k.same, h.dq.keep k.same, h.ne⟩
/-- what 'same' does to a depth f -/
def SameTo (f : Nat) : Prop := ∀ (dd d : Nat) (w : World) (S M : Nat) (p : Pg) (P : List Dt) (q : Pg) (Q : List Dt) (s : List Nm) (a b : Ty) (A1 : Option Addr) (m1 c1 : Nat) (A2 : Option Addr) (m2 c2 : Nat) (X : Option Addr) (cx : Nat) (x : List Nm) (Y : Option Addr) (cy : Nat) (y : List Nm) (r : Bool) (s' : List Nm),
  PairAt dd w S M p P q Q → SeenAt w w M s → TyAt d w (Off M) a.kind a.name A1 m1 c1 a → TyAt d w (Off M) b.kind b.name A2 m2 c2 b → Reads w (Off M) 1 X x.length (strs x) → x.length ≤ 1000 → Reads w (Off M) 1 Y y.length (strs y) → y.length ≤ 1000 →
  sameF P Q f s a b x y = some (r, s') →
  Calls Try.prog 28 #[.pointer (some ⟨S, 0, none⟩), .agg #[.int .i64 (a.kind : Nat), str a.name, .slice A1 m1 c1], .agg #[.int .i64 (b.kind : Nat), str b.name, .slice A2 m2 c2], .slice X x.length cx, .slice Y y.length cy] w fun e w' => e = .returned (.bool r) ∧ SeenAt w w' M s'
/-- a closure's captured cells -/
structure CapAt (w : World) (S M b2 b5 b7 b9 : Nat) (X : Option Addr) (cx : Nat) (x : List Nm) (Y : Option Addr) (cy : Nat) (y : List Nm) : Prop where
  k2 : w.cell? ⟨b2, 0, none⟩ = some (.pointer (some ⟨S, 0, none⟩))
  k5 : w.cell? ⟨b5, 1, none⟩ = some (.slice X x.length cx)
  k7 : w.cell? ⟨b7, 1, none⟩ = some (.slice Y y.length cy)
  k9 : w.cell? ⟨b9, 0, none⟩ = some (.func (.func 67) #[] #[.pointer (some ⟨b2, 0, none⟩), .pointer (some ⟨b5, 0, none⟩), .pointer (some ⟨b7, 0, none⟩)])
  ne : b2 ≠ M ∧ b5 ≠ M ∧ b7 ≠ M ∧ b9 ≠ M
  rx : Reads w (Off M) 1 X x.length (strs x) ∧ x.length ≤ 1000
  ry : Reads w (Off M) 1 Y y.length (strs y) ∧ y.length ≤ 1000
section
variable {w W : World} {S M b2 b5 b7 b9 : Nat} {X : Option Addr} {cx : Nat} {x : List Nm} {Y : Option Addr} {cy : Nat} {y : List Nm} {s : List Nm}
theorem CapAt.seen (h : CapAt w S M b2 b5 b7 b9 X cx x Y cy y) (k : SeenAt w W M s) : CapAt W S M b2 b5 b7 b9 X cx x Y cy y :=
  ⟨k.same.cell h.ne.1 h.k2, k.same.cell h.ne.2.1 h.k5, k.same.cell h.ne.2.2.1 h.k7, k.same.cell h.ne.2.2.2 h.k9, h.ne, ⟨h.rx.1.keep k.same, h.rx.2⟩, ⟨h.ry.1.keep k.same, h.ry.2⟩⟩
end
set_option maxRecDepth 100000 in
set_option maxHeartbeats 1000000 in
theorem alike1_any (f : Nat) (IH : SameTo f) (dd d : Nat) (w : World) (S M : Nat) (p : Pg) (P : List Dt) (q : Pg) (Q : List Dt) (s : List Nm) (a b : Ty) (A1 : Option Addr) (m1 c1 : Nat) (A2 : Option Addr) (m2 c2 : Nat) (b2 b5 b7 b9 : Nat) (X : Option Addr) (cx : Nat) (x : List Nm) (Y : Option Addr) (cy : Nat) (y : List Nm) (r : Bool) (s' : List Nm)
    (hp : PairAt dd w S M p P q Q) (hs : SeenAt w w M s) (ha : TyAt d w (Off M) a.kind a.name A1 m1 c1 a) (hb : TyAt d w (Off M) b.kind b.name A2 m2 c2 b) (hc : CapAt w S M b2 b5 b7 b9 X cx x Y cy y) (hf : sameF P Q f s a b x y = some (r, s')) :
    Calls Try.prog 67 #[.agg #[.int .i64 (a.kind : Nat), str a.name, .slice A1 m1 c1], .agg #[.int .i64 (b.kind : Nat), str b.name, .slice A2 m2 c2], .pointer (some ⟨b2, 0, none⟩), .pointer (some ⟨b5, 0, none⟩), .pointer (some ⟨b7, 0, none⟩)] w fun e w' => e = .returned (.bool r) ∧ SeenAt w w' M s' := by
  have hs1 := (hs.alloc (.cells #[.int .i64 (a.kind : Nat), str a.name, .slice A1 m1 c1] 34)).alloc (.cells #[.int .i64 (b.kind : Nat), str b.name, .slice A2 m2 c2] 34)
  have R := Lib.hid (IH dd d _ S M p P q Q s a b A1 m1 c1 A2 m2 c2 X cx x Y cy y r s' (hp.seen hs1) hs1.start (ha.keep hs1.same) (hb.keep hs1.same) (hc.seen hs1).rx.1 hc.rx.2 (hc.seen hs1).ry.1 hc.ry.2 hf)
  have HS := Lib.hid hs1
  have k2 := hc.k2
  have k5 := hc.k5
  have k7 := hc.k7
  have l2 := lt_of_cell k2
  have l5 := lt_of_cell k5
  have l7 := lt_of_cell k7
  clear hs1 ha hb hp hs hc hf
  generalize a.kind = k1 at R HS ⊢
  generalize a.name = x1 at R HS ⊢
  generalize b.kind = k2' at R HS ⊢
  generalize b.name = x2 at R HS ⊢
  go_enter Try.func67, Try.ntmps67
  go_wp2_with (fail)
  refine R.out.mono ?_
  rintro e w2 ⟨rfl, hs2⟩
  go_wp2_with (fail)
  go_ret
  exact ⟨rfl, HS.out.trans hs2⟩
set_option maxRecDepth 100000 in
set_option maxHeartbeats 1000000 in
theorem alike2_any (f : Nat) (IH : SameTo f) (dd d : Nat) (w : World) (S M : Nat) (p : Pg) (P : List Dt) (q : Pg) (Q : List Dt) (s : List Nm) (m n : Mk) (A1 : Option Addr) (m1 c1 : Nat) (A2 : Option Addr) (m2 c2 : Nat) (b2 b5 b7 b9 : Nat) (X : Option Addr) (cx : Nat) (x : List Nm) (Y : Option Addr) (cy : Nat) (y : List Nm) (r : Bool) (s' : List Nm)
    (hp : PairAt dd w S M p P q Q) (hs : SeenAt w w M s) (ha : TsAt d w (Off M) A1 m1 c1 m.args) (hb : TsAt d w (Off M) A2 m2 c2 n.args) (hc : CapAt w S M b2 b5 b7 b9 X cx x Y cy y) (hf : makeF (fun s t u => sameF P Q f s t u x y) s m n = some (r, s')) :
    Calls Try.prog 69 #[.agg #[str m.name, .slice A1 m1 c1], .agg #[str n.name, .slice A2 m2 c2], .pointer (some ⟨b9, 0, none⟩)] w fun e w' => e = .returned (.bool r) ∧ SeenAt w w' M s' := by
  have hs1 := (hs.alloc (.cells #[str m.name, .slice A1 m1 c1] 80)).alloc (.cells #[str n.name, .slice A2 m2 c2] 80)
  have HS := Lib.hid hs1
  have k9 := hc.k9
  have l9 := lt_of_cell k9
  unfold makeF at hf
  by_cases e : m.name = n.name
  · rw [if_pos e] at hf
    have R := Lib.hid (equalT_any d _ M A1 m1 c1 m.args A2 m2 c2 n.args (fun s t u => sameF P Q f s t u x y) 67 #[.pointer (some ⟨b2, 0, none⟩), .pointer (some ⟨b5, 0, none⟩), .pointer (some ⟨b7, 0, none⟩)] s s' r (ha.keep hs1.same) (hb.keep hs1.same) hs1.start hf (enters_of Try.func67 (by kernel_rfl) rfl)
      (fun t u s1 s2 q9 W A3 m3 c3 A4 m4 c4 hW ht hu h9 => (alike1_any f IH dd d W S M p P q Q s1 t u A3 m3 c3 A4 m4 c4 b2 b5 b7 b9 X cx x Y cy y q9 s2 ((hp.seen hs1).seen hW) hW.start ht hu ((hc.seen hs1).seen hW) h9).mono fun e w' h => ⟨h.1, hW.trans h.2⟩))
    have nq : (n.name == n.name) = true := (beq_nm _ _).trans (decide_eq_true rfl)
    rw [e] at HS R ⊢
    clear hs1 ha hb hp hs hc hf e
    generalize n.name = x1 at R HS nq ⊢
    go_enter Try.func69, Try.ntmps69
    go_wp2_with (fail)
    refine R.out.mono ?_
    rintro e w2 ⟨rfl, hs2⟩
    go_wp2_with (fail)
    go_ret
    exact ⟨rfl, HS.out.trans hs2⟩
  · rw [if_neg e] at hf
    injection hf with hf
    injection hf with h2 h3
    subst h2 h3
    have nq : (m.name == n.name) = false := (beq_nm _ _).trans (decide_eq_false e)
    clear hs1 ha hb hp hs hc e
    generalize m.name = x1 at HS nq ⊢
    generalize n.name = x2 at HS nq ⊢
    go_enter Try.func69, Try.ntmps69
    go_wp2_with (fail)
    go_ret
    exact ⟨rfl, HS.out⟩
end Go.Proofs.Ytoddjdajjmcliaa
