/- Contract of tree.Walk at a body: the texts that stand in it. -/
import Derived.Test.YtaealapgebbnlaaGreatDoorQrWalk
set_option linter.unusedVariables false
namespace Go.Md
open Go.Mem Go.RowKit
/-- an expression that names t -/
def VisCells (w : World) (D : Nat → Prop) (cs : List Value) (t : Bs) : Prop :=
  ∃ (kd : Int) (A : Option Addr) (n c : Nat), (kd = 9 ∨ kd = 12) ∧ cs = [.int .i64 kd, .int .i64 0, bst t, .slice none 0 0, .slice none 0 0, .slice A n c, .slice none 0 0, .int .i64 0]
theorem VisCells.stable : Stable 8 VisCells where
  keep := fun h _ => h
  imp := fun h _ => h
  len := fun ⟨_, _, _, _, _, e⟩ => by rw [e]; rfl
  one := fun ⟨_, _, _, _, _, e⟩ u hu => by
    subst e
    simp at hu
    rcases hu with rfl | rfl | rfl | rfl | rfl | rfl | rfl | rfl <;> rfl
def texts : Bd → List Bs
  | none => [[75]]
  | some (x, y) => [[x], [y]]
end Go.Md
namespace Go.Proofs.YtaealapgebbnlaaGreatDoor
open Go.RowKit Go.Mem Go.Md
/-- what Walk gives -/
def WalkPost (w : World) (l : List Bs) (e : Ending) (w' : World) : Prop :=
  ∃ A n c vss, e = .returned (.slice A n c) ∧ n = l.length ∧ n ≤ c ∧ c ≤ maxLen ∧ Reads w' (fun b => w.heap.size ≤ b) 8 A n (List.flatten vss) ∧ All2 (VisCells w' (fun b => w.heap.size ≤ b)) vss l ∧ Below w.heap.size w w'
set_option maxRecDepth 100000 in
set_option maxHeartbeats 4000000 in
theorem walk0 (kk : Int) (t : Bs) (hk : kk = 9 ∨ kk = 12) (w : World) : Calls Tryz.prog 50 #[.agg #[.int .i64 kk, .int .i64 0, bst t, .slice none 0 0, .slice none 0 0, .slice none 0 0, .slice none 0 0, .int .i64 0]] w (WalkPost w [t]) := by
  obtain ⟨tx, htx⟩ : ∃ tx : ByteArray, tx = ⟨t.toArray⟩ := ⟨_, rfl⟩
  rw [show bst t = .string tx from by rw [htx]]
  have HT := Lib.hid htx
  have HK := Lib.hid hk
  clear htx hk
  obtain ⟨W, hW⟩ : ∃ W, W = ((w.alloc (.cells #[.int .i64 kk, .int .i64 0, .string tx, .slice none 0 0, .slice none 0 0, .slice none 0 0, .slice none 0 0, .int .i64 0] 50)).alloc (.cells #[.slice none 0 0] 47)).alloc (.cells #[.func (.func 68) #[] #[.pointer (some ⟨w.heap.size + 1, 0, none⟩), .pointer (some ⟨w.heap.size + 1 + 1, 0, none⟩)]] 131) := ⟨_, rfl⟩
  have bW : Below w.heap.size w W := by
    rw [hW]
    exact (((Below.refl _ _).alloc (Nat.le_refl _) _).alloc (by simp) _).alloc (by simp; omega) _
  have sW : W.heap.size = w.heap.size + 1 + 1 + 1 := by rw [hW]; simp
  have hO : Blk W (w.heap.size + 1) 47 [.slice none 0 0] := by
    rw [hW]
    have := (Blk.new (w.alloc (.cells [.int .i64 kk, .int .i64 0, .string tx, .slice none 0 0, .slice none 0 0, .slice none 0 0, .slice none 0 0, .int .i64 0].toArray 50)) 47 [.slice none 0 0]).alloc (.cells #[.func (.func 68) #[] #[.pointer (some ⟨w.heap.size + 1, 0, none⟩), .pointer (some ⟨w.heap.size + 1 + 1, 0, none⟩)]] 131)
    rwa [World.size_alloc] at this
  have hV : W.cell? ⟨w.heap.size + 1 + 1, 0, none⟩ = some (.func (.func 68) #[] #[.pointer (some ⟨w.heap.size + 1, 0, none⟩), .pointer (some ⟨w.heap.size + 1 + 1, 0, none⟩)]) := by
    rw [hW]
    have := (Blk.new ((w.alloc (.cells [.int .i64 kk, .int .i64 0, .string tx, .slice none 0 0, .slice none 0 0, .slice none 0 0, .slice none 0 0, .int .i64 0].toArray 50)).alloc (.cells #[.slice none 0 0] 47)) 131 [.func (.func 68) #[] #[.pointer (some ⟨w.heap.size + 1, 0, none⟩), .pointer (some ⟨w.heap.size + 1 + 1, 0, none⟩)]]).cell 0
    rwa [World.size_alloc, World.size_alloc] at this
  have VC := Lib.hid (visit0 kk tx _ (w.heap.size + 1 + 1) (w.heap.size + 1 + 1 + 1) W hO (World.ownsRow_nil _ _ _ _) (by omega) (by omega))
  have HW := Lib.hid (And.intro bW hW)
  clear bW sW hO hV hW
  go_enter Tryz.func50, Tryz.ntmps50
  go_wp2_with (fail)
  rw [← HW.out.2]
  refine VC.out.mono ?_
  rintro e W5 ⟨rfl, g, cap, b5, o5, gr5⟩
  have FN := Lib.hid (And.intro b5 (And.intro o5 gr5))
  have c0 := b5.cell 0
  simp only [List.getElem?_cons_zero] at c0
  have l0 := lt_of_cell c0
  clear b5 o5 gr5
  go_wp2_with (fail)
  go_ret
  obtain ⟨q1, q2, q3⟩ := own_reads (by omega) FN.out.2.1
  refine ⟨some ⟨g, 0, none⟩, 1, cap, [[.int .i64 kk, .int .i64 0, .string tx, .slice none 0 0, .slice none 0 0, .slice none 0 0, .slice none 0 0, .int .i64 0]], rfl, rfl, q1, q2, ?_, ?_, Below.of_in HW.out.1 FN.out.2.2 (fun b h => h.elim (fun e => by omega) (fun e => by cases e)) HW.out.1.size⟩
  · exact q3.imp (by omega) fun b hb _ => by omega
  · refine All2.cons_mk ?_ All2.nil
    exact ⟨kk, none, 0, 0, HK.out, by rw [HT.out]⟩
set_option maxRecDepth 100000 in
set_option maxHeartbeats 4000000 in
theorem walkC (kk : Int) (t : Bs) (hk : kk = 9 ∨ kk = 12) (A : Option Addr) (c : Nat) (k1 : Int) (t1 : Bs) (hk1 : k1 = 9 ∨ k1 = 12) (w : World) (hx : Reads w Any 8 A 1 [.int .i64 k1, .int .i64 0, bst t1, .slice none 0 0, .slice none 0 0, .slice none 0 0, .slice none 0 0, .int .i64 0]) : Calls Tryz.prog 50 #[.agg #[.int .i64 kk, .int .i64 0, bst t, .slice none 0 0, .slice none 0 0, .slice A 1 c, .slice none 0 0, .int .i64 0]] w (WalkPost w [t, t1]) := by
  obtain ⟨tx, htx⟩ : ∃ tx : ByteArray, tx = ⟨t.toArray⟩ := ⟨_, rfl⟩
  rw [show bst t = .string tx from by rw [htx]]
  have HT := Lib.hid htx
  have HK := Lib.hid hk
  obtain ⟨tx1, htx1⟩ : ∃ tx : ByteArray, tx = ⟨t1.toArray⟩ := ⟨_, rfl⟩
  rw [show bst t1 = .string tx1 from by rw [htx1]] at hx
  have HT1 := Lib.hid htx1
  have HK1 := Lib.hid hk1
  have hx1 : Reads w (fun b => b < w.heap.size) 8 A 1 [.int .i64 k1, .int .i64 0, .string tx1, .slice none 0 0, .slice none 0 0, .slice none 0 0, .slice none 0 0, .int .i64 0] := hx.imp (by omega) fun b _ h => h
  clear hx htx1 hk1
  clear htx hk
  obtain ⟨W, hW⟩ : ∃ W, W = ((w.alloc (.cells #[.int .i64 kk, .int .i64 0, .string tx, .slice none 0 0, .slice none 0 0, .slice A 1 c, .slice none 0 0, .int .i64 0] 50)).alloc (.cells #[.slice none 0 0] 47)).alloc (.cells #[.func (.func 68) #[] #[.pointer (some ⟨w.heap.size + 1, 0, none⟩), .pointer (some ⟨w.heap.size + 1 + 1, 0, none⟩)]] 131) := ⟨_, rfl⟩
  have bW : Below w.heap.size w W := by
    rw [hW]
    exact (((Below.refl _ _).alloc (Nat.le_refl _) _).alloc (by simp) _).alloc (by simp; omega) _
  have sW : W.heap.size = w.heap.size + 1 + 1 + 1 := by rw [hW]; simp
  have hO : Blk W (w.heap.size + 1) 47 [.slice none 0 0] := by
    rw [hW]
    have := (Blk.new (w.alloc (.cells [.int .i64 kk, .int .i64 0, .string tx, .slice none 0 0, .slice none 0 0, .slice A 1 c, .slice none 0 0, .int .i64 0].toArray 50)) 47 [.slice none 0 0]).alloc (.cells #[.func (.func 68) #[] #[.pointer (some ⟨w.heap.size + 1, 0, none⟩), .pointer (some ⟨w.heap.size + 1 + 1, 0, none⟩)]] 131)
    rwa [World.size_alloc] at this
  have hV : W.cell? ⟨w.heap.size + 1 + 1, 0, none⟩ = some (.func (.func 68) #[] #[.pointer (some ⟨w.heap.size + 1, 0, none⟩), .pointer (some ⟨w.heap.size + 1 + 1, 0, none⟩)]) := by
    rw [hW]
    have := (Blk.new ((w.alloc (.cells [.int .i64 kk, .int .i64 0, .string tx, .slice none 0 0, .slice none 0 0, .slice A 1 c, .slice none 0 0, .int .i64 0].toArray 50)).alloc (.cells #[.slice none 0 0] 47)) 131 [.func (.func 68) #[] #[.pointer (some ⟨w.heap.size + 1, 0, none⟩), .pointer (some ⟨w.heap.size + 1 + 1, 0, none⟩)]]).cell 0
    rwa [World.size_alloc, World.size_alloc] at this
  have VC := Lib.hid (visitC kk tx A c _ _ (w.heap.size + 1 + 1 + 1) W hO (World.ownsRow_nil _ _ _ _) (by omega) (by omega) hV ⟨by omega, by omega⟩ k1 tx1 ((hx1.keep (Same.of_below bW fun _ h _ => h)).imp (by omega) fun b h _ => by omega))
  have HW := Lib.hid (And.intro bW hW)
  clear bW sW hO hV hW hx1
  go_enter Tryz.func50, Tryz.ntmps50
  go_wp2_with (fail)
  rw [← HW.out.2]
  refine VC.out.mono ?_
  rintro e W5 ⟨rfl, g, cap, b5, o5, gr5⟩
  have FN := Lib.hid (And.intro b5 (And.intro o5 gr5))
  have c0 := b5.cell 0
  simp only [List.getElem?_cons_zero] at c0
  have l0 := lt_of_cell c0
  clear b5 o5 gr5
  go_wp2_with (fail)
  go_ret
  obtain ⟨q1, q2, q3⟩ := own_reads (by omega) FN.out.2.1
  refine ⟨some ⟨g, 0, none⟩, 2, cap, [[.int .i64 kk, .int .i64 0, .string tx, .slice none 0 0, .slice none 0 0, .slice A 1 c, .slice none 0 0, .int .i64 0], [.int .i64 k1, .int .i64 0, .string tx1, .slice none 0 0, .slice none 0 0, .slice none 0 0, .slice none 0 0, .int .i64 0]], rfl, rfl, q1, q2, ?_, ?_, Below.of_in HW.out.1 FN.out.2.2 (fun b h => h.elim (fun e => by omega) (fun e => by cases e)) HW.out.1.size⟩
  · exact q3.imp (by omega) fun b hb _ => by omega
  · refine All2.cons_mk ?_ (All2.cons_mk ?_ All2.nil)
    · exact ⟨kk, A, 1, c, HK.out, by rw [HT.out]⟩
    · exact ⟨k1, none, 0, 0, HK1.out, by rw [HT1.out]⟩
theorem walk_any (b : Bd) (cs : List Value) (w : World) (h : BdCells w Any cs b) : Calls Tryz.prog 50 #[.agg cs.toArray] w (WalkPost w (texts b)) := by
  rcases h with ⟨rfl, rfl⟩ | ⟨x, y, A, c, rfl, rfl, h1, h2, h3⟩
  · exact walk0 12 [75] (.inr rfl) w
  · exact walkC 9 [x] (.inl rfl) A c 9 [y] (.inl rfl) w h3
end Go.Proofs.YtaealapgebbnlaaGreatDoor
