/- Contract of (*Shelf).Keep where there is room. · Contracts of (*Shelf).Load and Free of what was kept, and of Free where nothing is held; of Size. -/
import Derived.Test.YteojmmjanjilaaaPart43
import Derived.Test.YteojmmjanjilaaaPart5
set_option linter.unusedVariables false
namespace Go.Chunk
open Go.Mem
def nat64 (l : List Nat) : List Int := l.map fun n : Nat => (n : Int)
theorem nat64_len (l : List Nat) : (nat64 l).length = l.length := by simp [nat64]
theorem nat64_at (l : List Nat) (k : Nat) (h : k < l.length) : (nums (nat64 l))[k]? = some (.int .i64 (l[k] : Nat)) := by simp [nums, nat64, h]
theorem nat64_snoc (l : List Nat) (n : Nat) : nums (nat64 (l ++ [n])) = nums (nat64 l) ++ [.int .i64 (n : Nat)] := by simp [nums, nat64]
theorem cutF_32 (f : Nat) (bs : Bs) (h : bs.length ≤ f) : ∀ p ∈ cutF f bs, p.length ≤ 32 := by
  intro p hp
  obtain ⟨i, hi, rfl⟩ := List.mem_iff_getElem.1 hp
  exact (cutF_ok f bs h i _ (List.getElem?_eq_getElem hi)).2.1
theorem pluss_lt {H : Bs → Nat} {n M : Nat} (h : ∀ b, H b + n < M) {l : List Bs} (hl : l.length ≤ n) (b : Bs) : pluss H l b < M := by
  have := h b
  have := List.count_le_length (a := b) (l := l)
  unfold pluss
  omega
theorem KeepRel.len {s s' : Shf} {l : List Bs} {out : List Nat} (r : KeepRel s l out s') : out.length = l.length := by
  induction r with
  | nil => rfl
  | snoc _ _ ih => simp [ih]
theorem KeepRel.step {s s1 s2 : Shf} {l : List Bs} {j : Nat} {out : List Nat} {n : Nat} (hj : j < l.length) (r : KeepRel s (l.take j) out s1) (p : PutRel s1 l[j] n s2) : KeepRel s (l.take (j + 1)) (out ++ [n]) s2 := by
  rw [List.take_succ_eq_append_getElem hj]
  exact KeepRel.snoc r p
end Go.Chunk
namespace Go.Proofs.Yteojmmjanjilaaa
open Go.RowKit Go.Mem Go.Chunk Go.Maps
theorem own_keepH {w w' : World} {base : Nat} {e : TypeId} {size n : Nat} {v : Value} {xs : List Value} (h : w.ownsRow base e size v n xs) (hk : ∀ b, v.ownBlock = some b → w'.heap[b]? = w.heap[b]?) : w'.ownsRow base e size v n xs := by
  refine ⟨h.1, ?_⟩
  rcases h.2 with h0 | ⟨g, cap, cur, rfl, hb, hg, r⟩
  · exact .inl h0
  · exact .inr ⟨g, cap, cur, rfl, hb, (hk g rfl).trans hg, r⟩
theorem grown_of_alloc {w w2 : World} {o : Obj} {row : Option Nat} (h : (w.alloc o).grownBy w2 row) : w.grownBy w2 row :=
  ⟨h.os, h.tape, h.output, Nat.le_trans (by simp) h.size, fun k hk hne => (h.block k (by simp; omega) hne).trans (Below.heap_alloc w o k hk)⟩
def KeepPost (w : World) (S P N : Nat) (s : Shf) (l : List Bs) : Ending → World → Prop := fun e w' =>
  ∃ A c out s', e = .returned (.tuple #[.slice A out.length c, .int .i64 0]) ∧ out.length ≤ c ∧ c ≤ maxLen ∧ KeepRel s l out s' ∧ ShelfAt w' S P N s' ∧ GrownIn (OwnPN P N) w w' ∧ Reads w' (fun b => w.heap.size ≤ b) 1 A out.length (nums (nat64 out)) ∧ ∀ n ∈ out, n ≤ 1000000000
/-- in the midst of Keep -/
structure KeepAt (B : Nat) (w wr : World) (S P N : Nat) (s : Shf) (l : List Bs) (j : Nat) (out : List Nat) (A : Option Addr) (c : Nat) (s1 : Shf) : Prop where
  rel : KeepRel s (l.take j) out s1
  at_ : ShelfAt wr S P N s1
  gr : GrownIn (OwnPN P N) w wr
  own : wr.ownsRow B 3 1 (.slice A out.length c) out.length (nums (nat64 out))
  le : ∀ n ∈ out, n ≤ 1000000000
set_option maxRecDepth 100000 in
set_option maxHeartbeats 2000000 in
theorem keep_gen (w : World) (S P N : Nat) (s : Shf) (H : Bs → Nat) (A : Option Addr) (n c : Nat) (bs : Bs) (hs : ShelfAt w S P N s) (hk : s.Ok H) (hn5 : n ≤ 60000) (hl : ∀ (j : Nat) (out : List Nat) (s1 : Shf), KeepRel s ((cutF n bs).take j) out s1 → s1.ps.length < 500) (hH : ∀ b, H b + n < 1000000)
    (hr : Reads w (fun q => q ≠ P ∧ q ≠ N) 1 A n (u8s bs)) (hnc : n ≤ c) (hc : c ≤ maxLen) :
    Calls Try.prog 16 #[.pointer (some ⟨S, 0, none⟩), .slice A n c] w (KeepPost w S P N s (cutF n bs)) := by
  have C1 := Lib.hid (cutc_any A n c bs _ w hr hnc hc (by omega))
  have hnb : n = bs.length := by have := hr.len; rwa [u8s_length] at this
  have hcl := cutF_len n bs
  have h32 : ∀ p ∈ cutF n bs, p.length ≤ 32 := cutF_32 n bs (by omega)
  have hcl2 : (cutF n bs).length ≤ n := by omega
  have HL := Lib.hid hl
  clear hl
  generalize cutF n bs = l at C1 h32 hcl2 HL ⊢
  have HS := Lib.hid hs
  have HK := Lib.hid hk
  have H32 := Lib.hid h32
  have HH := Lib.hid hH
  obtain ⟨hlS, hlP, hlN⟩ := hs.lt
  unfold KeepPost
  clear hs hk hr hcl hnb h32 hH
  go_enter Try.func16, Try.ntmps16
  go_wp2_with (fail)
  refine C1.out.mono ?_
  rintro e w1 ⟨A1, c1, rfl, ho1, hb1⟩
  obtain ⟨vss, hvl, hc1, hc2, hrd, hall⟩ := ho1.reads BytesCell.stable (by omega)
  have HR := Lib.hid hrd
  have HA := Lib.hid hall
  have HB1 := Lib.hid hb1
  obtain ⟨m, hm⟩ : ∃ m, m = l.length := ⟨_, rfl⟩
  rw [← hm] at HR ⊢
  have Hm := Lib.hid hm
  have hmn : m ≤ n := by omega
  clear ho1 hrd hall hb1 C1 hvl hc1 hc2 hm hcl2
  go_wp2_with (fail)
  go_loopw [6, 16] (fun v6 v wr => ∃ (j k : Nat) (A2 : Option Addr) (c2 : Nat) (out : List Nat) (s1 : Shf), j ≤ m ∧ v = .int .i64 j ∧ v6 = .slice A2 k c2 ∧ k ≤ j ∧ w1.heap.size ≤ wr.heap.size ∧ Hid (k = out.length ∧ GrownIn (OwnPN P N) w1 wr ∧ KeepAt w1.heap.size w wr S P N s l j out A2 c2 s1)) (fun _ v _ => m - (intOf v).toNat)
  case atStart => exact ⟨0, 0, none, 0, [], s, Nat.zero_le _, rfl, rfl, Nat.le_refl _, Nat.le_refl _, rfl, GrownIn.refl _ _, ⟨KeepRel.nil s, HS.out.below HB1.out, GrownIn.of_below HB1.out, World.ownsRow_nil _ _ _ _, by simp⟩⟩
  case round =>
    obtain ⟨j, k, A2, c2, out, s1, hj, rfl, rfl, hkj, hsz, HI⟩ := hrel
    by_cases hlt : j < m
    · have hjl : j < l.length := by have := Hm.out; omega
      obtain ⟨b, off, cs, rfl, hD, ⟨v, rfl, hv⟩, hcell⟩ := HR.out.elem BytesCell.stable HA.out Hm.out hjl
      obtain ⟨A3, n3, c3, rfl, hn3, hc3, hr3⟩ := hv
      have g0 := hcell 0 _ rfl
      simp only [Nat.mul_one, Nat.add_zero] at g0
      have hsame : Same (fun b => w.heap.size ≤ b) w1 wr := Same.of_in HI.out.2.1 fun b hb _ => by unfold OwnPN; omega
      have g1 := hsame.cell hD g0
      have hr4 := (hr3.keep hsame).imp (D' := fun q => q ≠ P ∧ q ≠ N) (by omega) fun b hb _ => by omega
      have hok := HI.out.2.2.rel.ok HK.out
      have hps : s1.ps.length < 500 := HL.out j out s1 HI.out.2.2.rel
      have h32 := H32.out _ (List.getElem_mem hjl)
      have hn32 : n3 ≤ 32 := by have := hr4.len; rw [u8s_length] at this; omega
      have PT := Lib.hid (put_any wr S P N s1 _ A3 n3 c3 l[j] HI.out.2.2.at_ hok.1 (by omega) (.inr hps) (pluss_lt HH.out (by rw [List.length_take]; omega) _) hr4 hn32)
      have hst : ∀ s2 p, PutRel s1 l[j] p s2 → KeepRel s (l.take (j + 1)) (out ++ [p]) s2 := fun s2 p hp => HI.out.2.2.rel.step hjl hp
      generalize l[j] = x at PT hst
      have Hst := Lib.hid hst
      have HI2 := Lib.hid HI.out
      clear g0 hcell hr3 hr4 hsame hok hps h32 hst HI hD
      go_wp2_with (fail)
      refine PT.out.mono ?_
      rintro e w2 ⟨p, s2, rfl, ha2, hp2, hp9, hg2⟩
      have hO2 : w2.ownsRow w1.heap.size 3 1 (.slice A2 out.length c2) out.length (nums (nat64 out)) := own_keepH HI2.out.2.2.own fun b hb => by
        have := (HI2.out.2.2.own.lt b hb)
        exact hg2.block b this.2 (by unfold OwnPN; have := HB1.out.size; omega)
      have hk1 : k = out.length := HI2.out.1
      subst hk1
      have hsz2 := hg2.size
      have HO := Lib.hid hO2
      have HP := Lib.hid (And.intro ha2 (And.intro hp2 hg2))
      have hwn : w.heap.size ≤ wr.heap.size := HI2.out.2.2.gr.size
      clear hO2 ha2 hp2 hg2 PT
      go_wp2_with (at_builtin; refine app_int _ rfl (.tmp 39) (.tmp 41) rfl (HO.out.alloc _) rfl (Reads.new (D := Any) _ [.int .i64 (p : Nat)] 1 1 3 trivial rfl) rfl (by simp [Value.oneCell']) (by omega) (by simp; omega) ?_; intro v3 w3 hown3 hg3 hat3; obtain ⟨A9, c9, rfl, _⟩ := own_form hown3)
      have hg3' : w2.grownBy w3 (Value.slice A2 out.length c2).ownBlock := grown_of_alloc hg3
      have hgI : GrownIn (fun b => w1.heap.size ≤ b) w2 w3 := GrownIn.of_grown hg3' fun b hb => (HO.out.lt b hb).1
      have hB1s := HB1.out.size
      have ha3 : ShelfAt w3 S P N s2 := HP.out.1.grown_in hgI fun b hb => by omega
      have hnew : GrownIn (OwnPN P N) w w3 := (HI2.out.2.2.gr.trans HP.out.2.2 fun _ h => .inl h).trans hgI fun b h => .inr (by have : w1.heap.size ≤ b := h; omega)
      refine ⟨⟨j + 1, out.length + 1, A9, c9, out ++ [p], s2, by omega, by go_num, rfl, by omega, by have := hg3'.size; omega, by simp, ?_, ⟨Hst.out s2 p HP.out.2.1, ha3, hnew, ?_, ?_⟩⟩, by simp [intOf]; omega⟩
      · exact (HI2.out.2.1.trans HP.out.2.2 fun _ h => .inl h).trans hgI fun _ h => .inr h
      · rw [nat64_snoc, show (out ++ [p]).length = out.length + 1 by simp]
        exact hown3
      · intro q hq
        rcases List.mem_append.1 hq with hq | hq
        · exact HI2.out.2.2.le q hq
        · simp at hq; omega
    · have hall : l.take j = l := List.take_of_length_le (by have := Hm.out; omega)
      have h1 := HI.out.2.2.rel
      rw [hall] at h1
      have H1 := Lib.hid h1
      clear hall h1
      go_wp2_with (fail)
      go_ret2
      have hk1 := HI.out.1
      subst hk1
      obtain ⟨q1, q2, q3⟩ := own_reads (by omega) HI.out.2.2.own
      exact ⟨A2, c2, out, s1, rfl, q1, q2, H1.out, HI.out.2.2.at_, HI.out.2.2.gr, q3.imp (by omega) (fun b hb _ => Nat.le_trans HB1.out.size hb), HI.out.2.2.le⟩
theorem keep_any (w : World) (S P N : Nat) (s : Shf) (H : Bs → Nat) (A : Option Addr) (n c : Nat) (bs : Bs) (hs : ShelfAt w S P N s) (hk : s.Ok H) (hl : s.ps.length + n < 500) (hH : ∀ b, H b + n < 1000000)
    (hr : Reads w (fun q => q ≠ P ∧ q ≠ N) 1 A n (u8s bs)) (hnc : n ≤ c) (hc : c ≤ maxLen) :
    Calls Try.prog 16 #[.pointer (some ⟨S, 0, none⟩), .slice A n c] w (KeepPost w S P N s (cutF n bs)) :=
  keep_gen w S P N s H A n c bs hs hk (by omega) (fun j out s1 r => by have := (r.ok hk).2.2.2.1; have := cutF_len n bs; rw [List.length_take] at *; omega) hH hr hnc hc
end Go.Proofs.Yteojmmjanjilaaa
set_option linter.unusedVariables false
namespace Go.Proofs.Yteojmmjanjilaaa
open Go.RowKit Go.Mem Go.Chunk Go.Maps
theorem flat_take_bs (l : List Bs) (j : Nat) (h : j < l.length) : (l.take (j + 1)).flatten = (l.take j).flatten ++ l[j] := by
  rw [List.take_succ_eq_append_getElem h, List.flatten_append]
  simp
theorem flat_len_le (l : List Bs) (j : Nat) : (l.take j).flatten.length ≤ l.flatten.length := by
  have h := List.take_append_drop j l
  have : l.flatten.length = (l.take j).flatten.length + (l.drop j).flatten.length := by rw [← List.length_append, ← List.flatten_append, h]
  omega
def LoadPost (w : World) (bs : Bs) : Ending → World → Prop := fun e w' =>
  ∃ A c, e = .returned (.tuple #[.slice A bs.length c, .int .i64 0]) ∧ bs.length ≤ c ∧ c ≤ maxLen ∧ Reads w' (fun b => w.heap.size ≤ b) 1 A bs.length (u8s bs) ∧ Below w.heap.size w w'
set_option maxRecDepth 100000 in
set_option maxHeartbeats 2000000 in
theorem load_any (w : World) (S P N : Nat) (s : Shf) (H : Bs → Nat) (A : Option Addr) (n c : Nat) (l : List Bs) (out : List Nat) (hs : ShelfAt w S P N s) (hk : s.Ok H) (hnum : Nums s l out) (hr : Reads w Any 1 A n (nums (nat64 out))) (hn : n = out.length) (hn6 : n ≤ 1000000) (hle : l.flatten.length ≤ 1000000) :
    Calls Try.prog 18 #[.pointer (some ⟨S, 0, none⟩), .slice A n c] w (LoadPost w l.flatten) := by
  have HS := Lib.hid hs
  have HK := Lib.hid hk
  have HN := Lib.hid hnum
  have HR := Lib.hid hr
  have Hn := Lib.hid hn
  have Hnl := Lib.hid (show n = l.length by rw [hn]; exact hnum.1.symm)
  obtain ⟨i0, hi0, hz0, hz1, hz2⟩ := info_parts info_u8
  unfold LoadPost
  clear hs hk hnum hr hn
  go_enter Try.func18, Try.ntmps18
  go_wp2_with (fail)
  go_loopw [6, 13] (fun v6 v wr => ∃ (j k : Nat) (A2 : Option Addr) (c2 : Nat), j ≤ n ∧ v = .int .i64 j ∧ v6 = .slice A2 k c2 ∧ w.heap.size ≤ wr.heap.size ∧ Hid (k = (l.take j).flatten.length ∧ wr.ownsRow w.heap.size 5 1 (.slice A2 k c2) k (u8s (l.take j).flatten) ∧ Below w.heap.size w wr)) (fun _ v _ => n - (intOf v).toNat)
  case atStart => exact ⟨0, 0, none, 0, Nat.zero_le _, rfl, rfl, Nat.le_refl _, rfl, World.ownsRow_nil _ _ _ _, Below.refl _ _⟩
  case round =>
    obtain ⟨j, k, A2, c2, hj, rfl, rfl, hsz, HI⟩ := hrel
    by_cases hlt : j < n
    · have hjo : j < out.length := by have := Hn.out; omega
      have hjl : j < l.length := by have := Hnl.out; omega
      obtain ⟨b, off, u, rfl, hD, hu, hc⟩ := HR.out.at_ hlt
      rw [nat64_at out j hjo] at hu
      injection hu with hu
      subst hu
      have g0 := (Same.any (D := Any) HI.out.2.2).cell trivial hc
      have hnn := HN.out.2 j l[j] out[j] (List.getElem?_eq_getElem hjl) (List.getElem?_eq_getElem hjo)
      obtain ⟨x, hx, _, _⟩ := HK.out.bytes hnn
      have hsw : ShelfAt wr S P N s := HS.out.below HI.out.2.2
      have hn9 := hsw.some_ hx
      have hgx : (mget s.ps out[j]).getD ([], 0) = (l[j], x) := by rw [hx]; rfl
      have lk := hsw.look_ok out[j] hn9 hgx (c := true) (by rw [hx]; rfl) wr rfl
      have hft := flat_take_bs l j hjl
      have hfl := flat_len_le l (j + 1)
      have c0 := hsw.blk.cell 0
      simp only [List.getElem?_cons_zero] at c0
      have lS := hsw.blk.lt
      generalize hll : l[j] = p at lk hft
      generalize out[j] = q at g0 lk hn9
      rw [hft] at hfl
      have hpl : p.length ≤ 1000000 ∧ k + p.length ≤ 1000000 := by have := HI.out.1; rw [List.length_append] at hfl; omega
      have Hft := Lib.hid hft
      clear hc hnn hx hgx hft hfl hll hsw
      go_wp2_with (at_builtin; refine wpList_append_str _ rfl (.tmp 28) (.tmp 30) _ _ rfl w.heap.size _ i0 Try.underlying62 Try.underlying9 hi0 hz0 hz1 hz2 _ _ _ rfl (HI.out.2.1.alloc _) ⟨p.toArray⟩ rfl (by unfold maxLen; simp [ByteArray.size]; omega) (by simp [ByteArray.size]; omega) (by simp; omega) ?_; intro v3 w3 hown3 hg3 hat3; obtain ⟨A9, c9, rfl, _⟩ := own_form hown3)
      have hg3' : wr.grownBy w3 (Value.slice A2 k c2).ownBlock := grown_of_alloc hg3
      have hb3 := HI.out.2.2.grown hg3' HI.out.2.2.size fun q hq => (HI.out.2.1.lt q hq).1
      have hsp : (ByteArray.mk p.toArray).size = p.length := by simp [ByteArray.size]
      rw [hsp] at hown3
      refine ⟨⟨j + 1, k + p.length, A9, c9, by omega, by go_num, rfl, by have := hg3'.size; omega, ?_, ?_, hb3⟩, by simp [intOf]; omega⟩
      · rw [Hft.out, List.length_append, HI.out.1]
      · rw [Hft.out, u8s_append]
        exact hown3
    · have hall : l.take j = l := List.take_of_length_le (by have := Hnl.out; omega)
      have h1 := HI.out
      rw [hall] at h1
      have H1 := Lib.hid h1
      clear hall h1 HI
      go_wp2_with (fail)
      go_ret2
      have hk1 := H1.out.1
      subst hk1
      obtain ⟨q1, q2, q3⟩ := own_reads (by omega) H1.out.2.1
      exact ⟨A2, c2, rfl, q1, q2, q3, H1.out.2.2⟩
end Go.Proofs.Yteojmmjanjilaaa
