/- ChunkShares returns true for every input, and leaves its arguments as they were. No condition. -/
import Derived.Test.YtgcpclbkjplipaaRows
import Derived.Test.YtgcpclbkjplipaaLaw
import Derived.Test.YtgcpclbkjplipaaShelfLoad
import Derived.Test.YtgcpclbkjplipaaShelfFree
import Derived.Test.YtgcpclbkjplipaaShelfSize
import Derived.Test.YtgcpclbkjplipaaAppFull
import Derived.Lib.SlBytesConst
import Derived.Deep.CutBlock
set_option linter.unusedVariables false
namespace Go.Chunk
open Go.Mem
theorem Nums.mono {s s' : Shf} {l : List Bs} {a : List Nat} (h : Nums s l a) (k : ∀ c n, mget s.ns c = some n → mget s'.ns c = some n) : Nums s' l a := h.imp fun x y hxy => k x y hxy
theorem Nums.mono2 {s s' : Shf} {l : List Bs} {a : List Nat} (h : Nums s l a) (k : ∀ c n, c ∈ l → mget s.ns c = some n → mget s'.ns c = some n) : Nums s' l a :=
  ⟨h.1, fun i x y hx hy => k x y (List.mem_of_getElem? hx) (h.2 i x y hx hy)⟩
theorem Nums.some {s : Shf} {l : List Bs} {a : List Nat} (h : Nums s l a) : ∀ b ∈ l, (mget s.ns b).isSome := by
  intro b hb
  obtain ⟨i, hi, rfl⟩ := List.mem_iff_getElem.1 hb
  have h2 : i < a.length := by rw [← h.1]; exact hi
  rw [h.2 i _ _ (List.getElem?_eq_getElem hi) (List.getElem?_eq_getElem h2)]
  rfl
theorem empty_ok : (Shf.mk [] []).Ok (fun _ => 0) := ⟨List.nodup_nil, List.nodup_nil, fun b n h => by simp [mget] at h, fun n b h k => by simp [mget] at k, fun b h => by simp at h⟩
theorem pluss_zero (l : List Bs) (b : Bs) : pluss (fun _ => 0) l b = l.count b := by simp [pluss]
theorem plus3 (a b : List Bs) (x : Bs) : pluss (pluss (pluss (fun _ => 0) a) a) b x = 2 * a.count x + b.count x := by simp [pluss]; omega
/-- all that the law tells of the shelf, step by step -/
structure Story (a b : Bs) (la lb : List Bs) (s1 s2 s3 : Shf) (o1 o2 o3 : List Nat) (H3 : Bs → Nat) : Prop where
  n1 : Nums s1 la o1
  eq : o2 = o1
  l12 : s2.ps.length = s1.ps.length
  z12 : sizeB s2.ps = sizeB s1.ps
  ne : s1.ps.length ≠ 0
  ok3 : s3.Ok H3
  na : Nums s3 la o1
  nb : Nums s3 lb o3
  ca : ∀ x, la.count x ≤ H3 x
  h6 : ∀ x, H3 x ≤ 1000000
  ok4 : (freeL s3 o1).Ok (minuss H3 la)
  nb4 : Nums (freeL s3 o1) lb o3
  cb : ∀ x, lb.count x ≤ minuss H3 la x
  ok5 : (freeL (freeL s3 o1) o3).Ok (minuss (minuss H3 la) lb)
  na5 : Nums (freeL (freeL s3 o1) o3) la o1
  ca5 : ∀ x, la.count x ≤ minuss (minuss H3 la) lb x
  em : (freeL (freeL (freeL s3 o1) o3) o1).ps = []
theorem story {a b : Bs} {la lb : List Bs} {s1 s2 s3 : Shf} {o1 o2 o3 : List Nat} (hla : la ≠ []) (r1 : KeepRel ⟨[], []⟩ la o1 s1) (r2 : KeepRel s1 la o2 s2) (r3 : KeepRel s2 lb o3 s3) (hl : la.length ≤ 300 ∧ lb.length ≤ 300) :
    Story a b la lb s1 s2 s3 o1 o2 o3 (pluss (pluss (pluss (fun _ => 0) la) la) lb) := by
  obtain ⟨k1, n1, _, _, _⟩ := r1.ok empty_ok
  obtain ⟨k2, n2, m2, _, e2⟩ := r2.ok k1
  obtain ⟨k3, n3, m3, _, _⟩ := r3.ok k2
  obtain ⟨e3, e4⟩ := e2 n1.some
  have eo : o2 = o1 := (n1.fn m2 n2).symm
  have hne : s1.ps.length ≠ 0 := by
    obtain ⟨x, r, rfl⟩ : ∃ x r, la = x :: r := by cases la with | nil => exact absurd rfl hla | cons x r => exact ⟨x, r, rfl⟩
    obtain ⟨n, hn⟩ := Option.isSome_iff_exists.1 (n1.some x (by simp))
    obtain ⟨_, h, hp⟩ := k1.num x n hn
    intro h0
    rw [List.eq_nil_of_length_eq_zero h0] at hp
    simp [mget] at hp
  have na : Nums s3 la o1 := (n1.mono m2).mono m3
  have cnt := plus3 la lb
  have ca : ∀ x, la.count x ≤ pluss (pluss (pluss (fun _ => 0) la) la) lb x := fun x => by rw [cnt]; omega
  have h6 : ∀ x, pluss (pluss (pluss (fun _ => 0) la) la) lb x ≤ 1000000 := fun x => by
    rw [cnt]
    have := List.count_le_length (a := x) (l := la)
    have := List.count_le_length (a := x) (l := lb)
    omega
  obtain ⟨ok4, m4⟩ := k3.freeL na ca
  have hm4 : ∀ x, minuss (pluss (pluss (pluss (fun _ => 0) la) la) lb) la x = la.count x + lb.count x := fun x => by unfold minuss; rw [cnt]; omega
  have nb4 : Nums (freeL s3 o1) lb o3 := n3.mono2 fun c n hc hn => m4 c n hn (by rw [hm4]; have := List.count_pos_iff.2 hc; omega)
  have na4 : Nums (freeL s3 o1) la o1 := na.mono2 fun c n hc hn => m4 c n hn (by rw [hm4]; have := List.count_pos_iff.2 hc; omega)
  have cb : ∀ x, lb.count x ≤ minuss (pluss (pluss (pluss (fun _ => 0) la) la) lb) la x := fun x => by rw [hm4]; omega
  obtain ⟨ok5, m5⟩ := ok4.freeL nb4 cb
  have hm5 : ∀ x, minuss (minuss (pluss (pluss (pluss (fun _ => 0) la) la) lb) la) lb x = la.count x := fun x => by
    have := hm4 x
    unfold minuss at this ⊢
    omega
  have na5 : Nums (freeL (freeL s3 o1) o3) la o1 := na4.mono2 fun c n hc hn => m5 c n hn (by rw [hm5]; exact List.count_pos_iff.2 hc)
  have ca5 : ∀ x, la.count x ≤ minuss (minuss (pluss (pluss (pluss (fun _ => 0) la) la) lb) la) lb x := fun x => by rw [hm5]; omega
  obtain ⟨ok6, _⟩ := ok5.freeL na5 ca5
  refine ⟨n1, eo, e3, sizeB_of e4, hne, k3, na, n3, ca, h6, ok4, nb4, cb, ok5, na5, ca5, ok6.empty fun x => ?_⟩
  have := hm5 x
  unfold minuss at this ⊢
  omega
end Go.Chunk
namespace Go.Proofs.Ytgcpclbkjplipaa
open Go.RowKit Go.Mem Go.Chunk Go.Maps
/-- bytes, where nothing but the shelf's maps changes -/
def Ap (P N : Nat) (q : Nat) : Prop := q ≠ P ∧ q ≠ N
theorem load_q (w : World) (S P N : Nat) (s : Shf) (H : Bs → Nat) (A : Option Addr) (n c : Nat) (l : List Bs) (bs : Bs) (out : List Nat) (hs : ShelfAt w S P N s) (hk : s.Ok H) (hnum : Nums s l out) (hr : Reads w (Ap P N) 1 A n (nums (nat64 out))) (hn : n = out.length) (hn6 : n ≤ 1000000) (hle : bs.length ≤ 1000000) (hb : l.flatten = bs) :
    Calls Try.prog 24 #[.pointer (some ⟨S, 0, none⟩), .slice A n c] w (LoadPost w bs) := by
  subst hb
  exact load_any w S P N s H A n c l out hs hk hnum (hr.imp (by omega) fun _ _ _ => trivial) hn hn6 hle
theorem pieces_32 {s : Shf} {H : Bs → Nat} (h : s.Ok H) {w : World} {S P N : Nat} (hs : ShelfAt w S P N s) : ∀ p ∈ s.ps, p.2.1.length ≤ 65536 := by
  intro p hp
  have h1 := h.pc p.1 p.2.1 p.2.2 (mget_at h.kp hp)
  obtain ⟨es, clock, _, _, _, hk⟩ := hs.ns
  exact hk (p.2.1, encN p.1) (List.mem_map.2 ⟨_, mget_mem h1.1, rfl⟩)
set_option maxRecDepth 100000 in
set_option maxHeartbeats 8000000 in
theorem chunkShares_any (w : World) (X0 : Option Addr) (n0 d0 : Nat) (l0 : Bs) (hr0 : Reads w Any 1 X0 n0 (u8s l0)) (hc0 : n0 ≤ d0) (hd0 : d0 ≤ maxLen) (X1 : Option Addr) (n1 d1 : Nat) (l1 : Bs) (hr1 : Reads w Any 1 X1 n1 (u8s l1)) (hc1 : n1 ≤ d1) (hd1 : d1 ≤ maxLen) :
    Calls Try.prog 5 #[.slice X0 n0 d0, .slice X1 n1 d1] w fun e w' => e = .returned (.bool true) ∧ Below w.heap.size w w' := by
  have kc := fun (w : World) (C : Array Value) (n c : Nat) => Lib.run_convert_bytes_const (P := Try.prog) w 23 5 C n c Try.underlying23 Try.underlying5
  obtain ⟨i0, hi0, hz0, hz1, hz2⟩ := info_parts info_u8
  have HI := Lib.hid (And.intro hi0 (And.intro hz0 (And.intro hz1 hz2)))
  have HX0 := Lib.hid hr0
  have HX1 := Lib.hid hr1
  have HN0 := Lib.hid (And.intro hc0 hd0)
  have HN1 := Lib.hid (And.intro hc1 hd1)
  clear hr0 hc0 hd0 hr1 hc1 hd1 hi0 hz0 hz1 hz2
  go_enter Try.func5, Try.ntmps5
  go_wp2_with (fail)
  refine (newshelf_any w).mono ?_
  rintro e w1 ⟨S, P, N, rfl, hs, hS, hP, hN, hb⟩
  have HSh := Lib.hid hs
  have HW := Lib.hid (show w.heap.size ≤ P ∧ w.heap.size ≤ N ∧ Below w.heap.size w w1 from ⟨hP, hN, hb⟩)
  clear hs hS hP hN hb
  go_wp2_with (fail)
  -- the bytes: "x" and the first ones; the others
  obtain ⟨wa, hwa⟩ : ∃ W, W = w1.alloc (.cells #[.int .u8 120] 5 (1, 2)) := ⟨_, rfl⟩
  have hba : Below w1.heap.size w1 wa := by rw [hwa]; exact (Below.refl _ _).alloc (Nat.le_refl _) _
  have hxa : wa.cell? ⟨w1.heap.size, 0, none⟩ = some (.int .u8 120) := by
    rw [hwa, cell_of_row _ w1.heap.size 0 #[.int .u8 120] _ (1, 2) (heap_alloc_new w1 _)]
    rfl
  rw [← hwa]
  have lxa := lt_of_cell hxa
  generalize hR : w1.heap.size = R at hxa lxa ⊢
  have HRr := Lib.hid hR
  have HBa := Lib.hid hba
  have HXa := Lib.hid hxa
  clear hwa hba hxa hR
  refine (cut_any X0 n0 d0 (u8s l0) Any wa 200 (HX0.out.keep (Same.any (HW.out.2.2.trans (HBa.out.mono HW.out.2.2.size)))) (u8s_one _) HN0.out.1 HN0.out.2 (by omega)).mono ?_
  rintro e wb ⟨A0, c0, rfl, ho0, hb0⟩
  have hr0 := (own_reads (by omega) ho0).2.2
  rw [u8s_take] at hr0
  have hm0 : min n0 200 ≤ 200 := by omega
  generalize l0.take 200 = a0 at hr0
  generalize min n0 200 = m0 at hr0 hm0 ⊢
  have HR0 := Lib.hid hr0
  have HBb := Lib.hid hb0
  have hxb : wb.cell? ⟨R, 0, none⟩ = some (.int .u8 120) := (hb0.cell (p := ⟨R, 0, none⟩) lxa).trans HXa.out
  have lxb := lt_of_cell hxb
  have HXb := Lib.hid hxb
  clear ho0 hr0 hb0 hxb
  go_wp2_with (at_builtin; refine wpList_append_full (P := Try.prog) wb rfl (.tmp 22) (.tmp 24) 23 rfl 5 i0 _ 1 1 Try.underlying23 HI.out.1 HI.out.2.1 HI.out.2.2.1 HI.out.2.2.2 rfl (by omega) R 0 1 [.int .u8 120] rfl rfl (by intro j u hu; match j, hu with | 0, hu => (injection hu with hu; subst hu; exact HXb.out) | j + 1, hu => simp at hu) _ A0 m0 _ (u8s a0) rfl HR0.out (u8s_one _) (by unfold maxLen; omega) (by omega) ?_; intro A2 c2 wc hc2 hm2 hr2 hbc; have HR2 := Lib.hid (And.intro hc2 (And.intro hm2 (And.intro hr2 hbc))); clear hc2 hm2 hr2 hbc)
  obtain ⟨na, hna⟩ : ∃ na, na = 1 + m0 := ⟨_, rfl⟩
  have HR3 := Lib.hid (show na ≤ c2 ∧ c2 ≤ maxLen ∧ Reads wc (fun q => q = R ∨ wb.heap.size ≤ q) 1 A2 na (u8s (120 :: a0)) ∧ Below wb.heap.size wb wc from (by rw [hna]; exact HR2.out))
  rw [← hna]
  have hna1 : 1 ≤ na ∧ na ≤ 201 := by omega
  clear hna HR2 HR0
  have hbc1 : Below w1.heap.size w1 wc := HBa.out.trans ((HBb.out.trans (HR3.out.2.2.2.mono HBb.out.size)).mono HBa.out.size)
  have HBc := Lib.hid hbc1
  clear hbc1
  refine (cut_any X1 n1 d1 (u8s l1) Any wc 200 (HX1.out.keep (Same.any (HW.out.2.2.trans (HBc.out.mono HW.out.2.2.size)))) (u8s_one _) HN1.out.1 HN1.out.2 (by omega)).mono ?_
  rintro e w2 ⟨A3, c3, rfl, ho1, hb1⟩
  obtain ⟨hc3, hm3, hr1⟩ := own_reads (by omega) ho1
  rw [u8s_take] at hr1
  have hnb : min n1 200 ≤ 200 := by omega
  generalize l1.take 200 = bb at hr1
  generalize min n1 200 = nb at hr1 hnb hc3 ⊢
  obtain ⟨hlS, hlP, hlN⟩ := HSh.out.lt
  have hRw : w1.heap.size = R := HRr.out
  have hwb : w1.heap.size ≤ wb.heap.size := by have := HBa.out.size; have := HBb.out.size; omega
  have hcw : w1.heap.size ≤ wc.heap.size := HBc.out.size
  obtain ⟨aa, haa⟩ : ∃ aa : Bs, aa = 120 :: a0 := ⟨_, rfl⟩
  have HA := Lib.hid (show Reads w2 (Ap P N) 1 A2 na (u8s aa) by rw [haa]; exact (HR3.out.2.2.1.keep (Same.any hb1)).imp (by omega) fun q hq _ => by unfold Ap; omega)
  have HBB := Lib.hid (show Reads w2 (Ap P N) 1 A3 nb (u8s bb) from hr1.imp (by omega) fun q hq _ => by unfold Ap; omega)
  have HCA := Lib.hid (And.intro HR3.out.1 HR3.out.2.1)
  have HCB := Lib.hid (And.intro hc3 hm3)
  have HG : Hid (GrownIn (OwnPN P N) w1 w2) := (GrownIn.of_below HBc.out).trans (GrownIn.of_below (own := OwnPN P N) hb1) fun _ h => .inl h
  replace HSh := Lib.hid ((HSh.out.below HBc.out).below hb1)
  have hal : aa.length = na := by have := HA.out.len; rw [u8s_length] at this; omega
  have hbl : bb.length = nb := by have := HBB.out.len; rw [u8s_length] at this; omega
  have hfa := cutF_flat na aa (by omega)
  have hfb := cutF_flat nb bb (by omega)
  have hla := cutF_len na aa
  have hlb := cutF_len nb bb
  have h32a := cutF_32 na aa (by omega)
  have h32b := cutF_32 nb bb (by omega)
  have hne : cutF na aa ≠ [] := fun h => by rw [h, haa] at hfa; simp at hfa
  clear ho1 hr1 hb1 hc3 hm3 haa HR3 HBc HBa HBb HXa HXb HX0 HX1 HN0 HN1 HRr hRw hwb hcw lxa lxb
  obtain ⟨la, hLa⟩ : ∃ la, la = cutF na aa := ⟨_, rfl⟩
  obtain ⟨lb, hLb⟩ : ∃ lb, lb = cutF nb bb := ⟨_, rfl⟩
  have HLA := Lib.hid hLa
  have HLB := Lib.hid hLb
  rw [← hLa] at hfa hla h32a hne
  rw [← hLb] at hfb hlb h32b
  have HF := Lib.hid (show la.flatten = aa ∧ lb.flatten = bb ∧ (∀ p ∈ la, p.length ≤ 65536) ∧ (∀ p ∈ lb, p.length ≤ 65536) ∧ la ≠ [] ∧ aa.length = na ∧ bb.length = nb from ⟨hfa, hfb, fun p hp => by have := h32a p hp; omega, fun p hp => by have := h32b p hp; omega, hne, hal, hbl⟩)
  clear hfa hfb h32a h32b hne hLa hLb hal hbl hlS hlP hlN
  go_wp2_with (fail)
  have HP2 := Lib.hid (show P < w2.heap.size ∧ N < w2.heap.size from HSh.out.lt.2)
  refine (keep_any w2 S P N ⟨[], []⟩ (fun _ => 0) A2 na c2 aa HSh.out empty_ok (by show 0 + na < 500; omega) (fun b => by show 0 + na < 1000000; omega) HA.out HCA.out.1 HCA.out.2).mono ?_
  rintro e w3 ⟨Ao1, co1, o1, s1, rfl, hq1, hq2, hrel, hsh, hb, hro, hle⟩
  have hgi := hb
  replace HA := Lib.hid (HA.out.keep (Same.of_in hgi fun b hb _ => by unfold OwnPN; unfold Ap at hb; omega))
  replace HBB := Lib.hid (HBB.out.keep (Same.of_in hgi fun b hb _ => by unfold OwnPN; unfold Ap at hb; omega))
  replace HG := Lib.hid (HG.out.trans hgi fun _ h => .inl h)
  replace HSh := Lib.hid hsh
  clear hb hgi hsh
  rw [← HLA.out] at hrel
  have hlt := HSh.out.lt
  have Ro1 := Lib.hid (show Reads w3 (Ap P N) 1 Ao1 o1.length (nums (nat64 o1)) from hro.imp (by omega) fun q hq _ => by unfold Ap; have := HP2.out; omega)
  have Ko1 := Lib.hid (And.intro hrel (And.intro hle (And.intro hq1 hq2)))
  clear hro hrel hle hq1 hq2 hlt
  have ok1 := Lib.hid (Ko1.out.1.ok empty_ok)
  have l1 : s1.ps.length ≤ 201 := by have := ok1.out.2.2.2.1; simp at this; omega
  have ol1 : o1.length ≤ 201 := by have := Ko1.out.1.len; omega
  go_wp2_with (fail)
  obtain ⟨k1, hk1⟩ : ∃ k, k = s1.ps.length := ⟨_, rfl⟩
  obtain ⟨z1, hz1⟩ : ∃ z, z = sizeB s1.ps := ⟨_, rfl⟩
  refine (size_any w3 S P N s1 HSh.out (by omega) (pieces_32 ok1.out.1 HSh.out)).mono ?_
  rintro e w4 ⟨rfl, hb⟩
  have hgi : GrownIn (OwnPN P N) w3 w4 := GrownIn.of_below hb
  replace HA := Lib.hid (HA.out.keep (Same.of_in hgi fun b hb _ => by unfold OwnPN; unfold Ap at hb; omega))
  replace HBB := Lib.hid (HBB.out.keep (Same.of_in hgi fun b hb _ => by unfold OwnPN; unfold Ap at hb; omega))
  replace Ro1 := Lib.hid (Ro1.out.keep (Same.of_in hgi fun b hb _ => by unfold OwnPN; unfold Ap at hb; omega))
  replace HG := Lib.hid (HG.out.trans hgi fun _ h => .inl h)
  replace HSh := Lib.hid (HSh.out.below hb)
  clear hb hgi
  rw [← hk1, ← hz1]
  have HK1 := Lib.hid (And.intro hk1 hz1)
  clear hk1 hz1
  go_wp2_with (fail)
  have HP4 := Lib.hid (show P < w4.heap.size ∧ N < w4.heap.size from HSh.out.lt.2)
  refine (keep_any w4 S P N s1 (pluss (fun _ => 0) la) A2 na c2 aa HSh.out ok1.out.1 (by omega) (fun b => by have := List.count_le_length (a := b) (l := la); rw [pluss_zero]; omega) HA.out HCA.out.1 HCA.out.2).mono ?_
  rintro e w5 ⟨Ao2, co2, o2, s2, rfl, hq1, hq2, hrel, hsh, hb, hro, hle⟩
  have hgi := hb
  replace HA := Lib.hid (HA.out.keep (Same.of_in hgi fun b hb _ => by unfold OwnPN; unfold Ap at hb; omega))
  replace HBB := Lib.hid (HBB.out.keep (Same.of_in hgi fun b hb _ => by unfold OwnPN; unfold Ap at hb; omega))
  replace Ro1 := Lib.hid (Ro1.out.keep (Same.of_in hgi fun b hb _ => by unfold OwnPN; unfold Ap at hb; omega))
  replace HG := Lib.hid (HG.out.trans hgi fun _ h => .inl h)
  replace HSh := Lib.hid hsh
  clear hb hgi hsh
  rw [← HLA.out] at hrel
  have hlt := HSh.out.lt
  have Ro2 := Lib.hid (show Reads w5 (Ap P N) 1 Ao2 o2.length (nums (nat64 o2)) from hro.imp (by omega) fun q hq _ => by unfold Ap; have := HP4.out; omega)
  have Ko2 := Lib.hid (And.intro hrel (And.intro hle (And.intro hq1 hq2)))
  clear hro hrel hle hq1 hq2 hlt
  have ok2 := Lib.hid (Ko2.out.1.ok ok1.out.1)
  have e2 := ok2.out.2.2.2.2 ok1.out.2.1.some
  have l2 : s2.ps.length = k1 := e2.1.trans HK1.out.1.symm
  have z2 : sizeB s2.ps = z1 := (sizeB_of e2.2).trans HK1.out.2.symm
  have eo : o1 = o2 := ok1.out.2.1.fn ok2.out.2.2.1 ok2.out.2.1
  subst eo
  have hk1 : k1 ≤ 201 := by have := HK1.out.1; omega
  have HZ := Lib.hid (And.intro l2 z2)
  clear e2 l2 z2
  go_wp2_with (fail)
  refine (size_any w5 S P N s2 HSh.out (by have := HZ.out.1; omega) (pieces_32 ok2.out.1 HSh.out)).mono ?_
  rintro e w6 ⟨rfl, hb⟩
  have hgi : GrownIn (OwnPN P N) w5 w6 := GrownIn.of_below hb
  replace HA := Lib.hid (HA.out.keep (Same.of_in hgi fun b hb _ => by unfold OwnPN; unfold Ap at hb; omega))
  replace HBB := Lib.hid (HBB.out.keep (Same.of_in hgi fun b hb _ => by unfold OwnPN; unfold Ap at hb; omega))
  replace Ro1 := Lib.hid (Ro1.out.keep (Same.of_in hgi fun b hb _ => by unfold OwnPN; unfold Ap at hb; omega))
  replace Ro2 := Lib.hid (Ro2.out.keep (Same.of_in hgi fun b hb _ => by unfold OwnPN; unfold Ap at hb; omega))
  replace HG := Lib.hid (HG.out.trans hgi fun _ h => .inl h)
  replace HSh := Lib.hid (HSh.out.below hb)
  clear hb hgi
  rw [HZ.out.1, HZ.out.2]
  go_wp2_with (fail)
  have HP6 := Lib.hid (show P < w6.heap.size ∧ N < w6.heap.size from HSh.out.lt.2)
  refine (keep_any w6 S P N s2 (pluss (pluss (fun _ => 0) la) la) A3 nb c3 bb HSh.out ok2.out.1 (by have := HZ.out.1; omega) (fun b => by have := List.count_le_length (a := b) (l := la); simp only [pluss]; omega) HBB.out HCB.out.1 HCB.out.2).mono ?_
  rintro e w7 ⟨Ao3, co3, o3, s3, rfl, hq1, hq2, hrel, hsh, hb, hro, hle⟩
  have hgi := hb
  replace HA := Lib.hid (HA.out.keep (Same.of_in hgi fun b hb _ => by unfold OwnPN; unfold Ap at hb; omega))
  replace HBB := Lib.hid (HBB.out.keep (Same.of_in hgi fun b hb _ => by unfold OwnPN; unfold Ap at hb; omega))
  replace Ro1 := Lib.hid (Ro1.out.keep (Same.of_in hgi fun b hb _ => by unfold OwnPN; unfold Ap at hb; omega))
  replace Ro2 := Lib.hid (Ro2.out.keep (Same.of_in hgi fun b hb _ => by unfold OwnPN; unfold Ap at hb; omega))
  replace HG := Lib.hid (HG.out.trans hgi fun _ h => .inl h)
  replace HSh := Lib.hid hsh
  clear hb hgi hsh
  rw [← HLB.out] at hrel
  have hlt := HSh.out.lt
  have Ro3 := Lib.hid (show Reads w7 (Ap P N) 1 Ao3 o3.length (nums (nat64 o3)) from hro.imp (by omega) fun q hq _ => by unfold Ap; have := HP6.out; omega)
  have Ko3 := Lib.hid (And.intro hrel (And.intro hle (And.intro hq1 hq2)))
  clear hro hrel hle hq1 hq2 hlt
  have ST := Lib.hid (story (a := aa) (b := bb) HF.out.2.2.2.2.1 Ko1.out.1 Ko2.out.1 Ko3.out.1 (by omega))
  have ol3 : o3.length ≤ 200 := by have := Ko3.out.1.len; omega
  have hne1 : ((k1 : Int) == 0) = false := by have := ST.out.ne; have := HK1.out.1; simp; omega
  clear ok1 ok2 HLA HLB
  go_wp2_with (fail)
  have HP7 := Lib.hid (show P < w7.heap.size ∧ N < w7.heap.size from HSh.out.lt.2)
  refine (load_q w7 S P N s3 _ Ao1 o1.length co1 la aa o1 HSh.out ST.out.ok3 ST.out.na Ro1.out rfl (by omega) ((by have := HF.out.2.2.2.2.2.1; omega)) HF.out.1).mono ?_
  rintro e w8 ⟨Bp, ep, rfl, hq1, hq2, hrd, hb⟩
  have hgi : GrownIn (OwnPN P N) w7 w8 := GrownIn.of_below hb
  replace HA := Lib.hid (HA.out.keep (Same.of_in hgi fun b hb _ => by unfold OwnPN; unfold Ap at hb; omega))
  replace HBB := Lib.hid (HBB.out.keep (Same.of_in hgi fun b hb _ => by unfold OwnPN; unfold Ap at hb; omega))
  replace Ro1 := Lib.hid (Ro1.out.keep (Same.of_in hgi fun b hb _ => by unfold OwnPN; unfold Ap at hb; omega))
  replace Ro2 := Lib.hid (Ro2.out.keep (Same.of_in hgi fun b hb _ => by unfold OwnPN; unfold Ap at hb; omega))
  replace Ro3 := Lib.hid (Ro3.out.keep (Same.of_in hgi fun b hb _ => by unfold OwnPN; unfold Ap at hb; omega))
  replace HG := Lib.hid (HG.out.trans hgi fun _ h => .inl h)
  replace HSh := Lib.hid (HSh.out.below hb)
  clear hb hgi
  have Vp := Lib.hid (show Reads w8 (Ap P N) 1 Bp aa.length (u8s aa) from hrd.imp (by omega) fun q hq _ => by unfold Ap; have := HP7.out; omega)
  clear hq1 hq2 hrd
  go_wp2_with (fail)
  have HP8 := Lib.hid (show P < w8.heap.size ∧ N < w8.heap.size from HSh.out.lt.2)
  refine (load_q w8 S P N s3 _ Ao3 o3.length co3 lb bb o3 HSh.out ST.out.ok3 ST.out.nb Ro3.out rfl (by omega) ((by have := HF.out.2.2.2.2.2.2; omega)) HF.out.2.1).mono ?_
  rintro e w9 ⟨Bq, eq, rfl, hq1, hq2, hrd, hb⟩
  have hgi : GrownIn (OwnPN P N) w8 w9 := GrownIn.of_below hb
  replace HA := Lib.hid (HA.out.keep (Same.of_in hgi fun b hb _ => by unfold OwnPN; unfold Ap at hb; omega))
  replace HBB := Lib.hid (HBB.out.keep (Same.of_in hgi fun b hb _ => by unfold OwnPN; unfold Ap at hb; omega))
  replace Ro1 := Lib.hid (Ro1.out.keep (Same.of_in hgi fun b hb _ => by unfold OwnPN; unfold Ap at hb; omega))
  replace Ro2 := Lib.hid (Ro2.out.keep (Same.of_in hgi fun b hb _ => by unfold OwnPN; unfold Ap at hb; omega))
  replace Ro3 := Lib.hid (Ro3.out.keep (Same.of_in hgi fun b hb _ => by unfold OwnPN; unfold Ap at hb; omega))
  replace Vp := Lib.hid (Vp.out.keep (Same.of_in hgi fun b hb _ => by unfold OwnPN; unfold Ap at hb; omega))
  replace HG := Lib.hid (HG.out.trans hgi fun _ h => .inl h)
  replace HSh := Lib.hid (HSh.out.below hb)
  clear hb hgi
  have Vq := Lib.hid (show Reads w9 (Ap P N) 1 Bq bb.length (u8s bb) from hrd.imp (by omega) fun q hq _ => by unfold Ap; have := HP8.out; omega)
  clear hq1 hq2 hrd
  have cvp : (convert 23 9 (.slice Bp aa.length ep)).run Try.prog w9 = .ok (.string ⟨aa.toArray⟩) w9 := run_convert_reads _ _ _ _ Try.underlying23 Try.underlying5 Try.underlying9 Vp.out
  have cva : (convert 23 9 (.slice A2 na c2)).run Try.prog w9 = .ok (.string ⟨aa.toArray⟩) w9 := run_convert_reads _ _ _ _ Try.underlying23 Try.underlying5 Try.underlying9 HA.out
  have cvq : (convert 23 9 (.slice Bq bb.length eq)).run Try.prog w9 = .ok (.string ⟨bb.toArray⟩) w9 := run_convert_reads _ _ _ _ Try.underlying23 Try.underlying5 Try.underlying9 Vq.out
  have cvb : (convert 23 9 (.slice A3 nb c3)).run Try.prog w9 = .ok (.string ⟨bb.toArray⟩) w9 := run_convert_reads _ _ _ _ Try.underlying23 Try.underlying5 Try.underlying9 HBB.out
  go_wp2_with (fail)
  refine (equal_ints Ao1 Ao2 o1.length co1 o1.length co2 (nat64 o1) (nat64 o1) _ _ w9 Ro1.out Ro2.out (by omega) (by omega)).mono ?_
  rintro e w10 ⟨rfl, hb⟩
  have hgi : GrownIn (OwnPN P N) w9 w10 := GrownIn.of_below hb
  replace HA := Lib.hid (HA.out.keep (Same.of_in hgi fun b hb _ => by unfold OwnPN; unfold Ap at hb; omega))
  replace HBB := Lib.hid (HBB.out.keep (Same.of_in hgi fun b hb _ => by unfold OwnPN; unfold Ap at hb; omega))
  replace Ro1 := Lib.hid (Ro1.out.keep (Same.of_in hgi fun b hb _ => by unfold OwnPN; unfold Ap at hb; omega))
  replace Ro2 := Lib.hid (Ro2.out.keep (Same.of_in hgi fun b hb _ => by unfold OwnPN; unfold Ap at hb; omega))
  replace Ro3 := Lib.hid (Ro3.out.keep (Same.of_in hgi fun b hb _ => by unfold OwnPN; unfold Ap at hb; omega))
  replace Vp := Lib.hid (Vp.out.keep (Same.of_in hgi fun b hb _ => by unfold OwnPN; unfold Ap at hb; omega))
  replace Vq := Lib.hid (Vq.out.keep (Same.of_in hgi fun b hb _ => by unfold OwnPN; unfold Ap at hb; omega))
  replace HG := Lib.hid (HG.out.trans hgi fun _ h => .inl h)
  replace HSh := Lib.hid (HSh.out.below hb)
  clear hb hgi
  rw [decide_eq_true (rfl : nat64 o1 = nat64 o1)]
  clear cvp cva cvq cvb
  go_wp2_with (fail)
  have HP10 := Lib.hid (show P < w10.heap.size ∧ N < w10.heap.size from HSh.out.lt.2)
  refine (frees_any w10 S P N (s3) _ Ao1 o1.length co1 la o1 HSh.out ST.out.ok3 ST.out.na ST.out.ca HF.out.2.2.1 (ST.out.h6) Ro1.out rfl (by omega)).mono ?_
  rintro e w11 ⟨rfl, hsh, hb⟩
  have hgi := hb
  replace HA := Lib.hid (HA.out.keep (Same.of_in hgi fun b hb _ => by unfold OwnPN; unfold Ap at hb; omega))
  replace HBB := Lib.hid (HBB.out.keep (Same.of_in hgi fun b hb _ => by unfold OwnPN; unfold Ap at hb; omega))
  replace Ro1 := Lib.hid (Ro1.out.keep (Same.of_in hgi fun b hb _ => by unfold OwnPN; unfold Ap at hb; omega))
  replace Ro2 := Lib.hid (Ro2.out.keep (Same.of_in hgi fun b hb _ => by unfold OwnPN; unfold Ap at hb; omega))
  replace Ro3 := Lib.hid (Ro3.out.keep (Same.of_in hgi fun b hb _ => by unfold OwnPN; unfold Ap at hb; omega))
  replace Vp := Lib.hid (Vp.out.keep (Same.of_in hgi fun b hb _ => by unfold OwnPN; unfold Ap at hb; omega))
  replace Vq := Lib.hid (Vq.out.keep (Same.of_in hgi fun b hb _ => by unfold OwnPN; unfold Ap at hb; omega))
  replace HG := Lib.hid (HG.out.trans hgi fun _ h => .inl h)
  replace HSh := Lib.hid hsh
  clear hb hgi hsh
  go_wp2_with (fail)
  have HP11 := Lib.hid (show P < w11.heap.size ∧ N < w11.heap.size from HSh.out.lt.2)
  refine (frees_any w11 S P N (freeL s3 o1) _ Ao3 o3.length co3 lb o3 HSh.out ST.out.ok4 ST.out.nb4 ST.out.cb HF.out.2.2.2.1 (fun x => Nat.le_trans (by unfold minuss; omega) (ST.out.h6 x)) Ro3.out rfl (by omega)).mono ?_
  rintro e w12 ⟨rfl, hsh, hb⟩
  have hgi := hb
  replace HA := Lib.hid (HA.out.keep (Same.of_in hgi fun b hb _ => by unfold OwnPN; unfold Ap at hb; omega))
  replace HBB := Lib.hid (HBB.out.keep (Same.of_in hgi fun b hb _ => by unfold OwnPN; unfold Ap at hb; omega))
  replace Ro1 := Lib.hid (Ro1.out.keep (Same.of_in hgi fun b hb _ => by unfold OwnPN; unfold Ap at hb; omega))
  replace Ro2 := Lib.hid (Ro2.out.keep (Same.of_in hgi fun b hb _ => by unfold OwnPN; unfold Ap at hb; omega))
  replace Ro3 := Lib.hid (Ro3.out.keep (Same.of_in hgi fun b hb _ => by unfold OwnPN; unfold Ap at hb; omega))
  replace Vp := Lib.hid (Vp.out.keep (Same.of_in hgi fun b hb _ => by unfold OwnPN; unfold Ap at hb; omega))
  replace Vq := Lib.hid (Vq.out.keep (Same.of_in hgi fun b hb _ => by unfold OwnPN; unfold Ap at hb; omega))
  replace HG := Lib.hid (HG.out.trans hgi fun _ h => .inl h)
  replace HSh := Lib.hid hsh
  clear hb hgi hsh
  go_wp2_with (fail)
  have HP12 := Lib.hid (show P < w12.heap.size ∧ N < w12.heap.size from HSh.out.lt.2)
  refine (load_q w12 S P N (freeL (freeL s3 o1) o3) _ Ao2 o1.length co2 la aa o1 HSh.out ST.out.ok5 ST.out.na5 Ro2.out rfl (by omega) ((by have := HF.out.2.2.2.2.2.1; omega)) HF.out.1).mono ?_
  rintro e w13 ⟨Br, er, rfl, hq1, hq2, hrd, hb⟩
  have hgi : GrownIn (OwnPN P N) w12 w13 := GrownIn.of_below hb
  replace HA := Lib.hid (HA.out.keep (Same.of_in hgi fun b hb _ => by unfold OwnPN; unfold Ap at hb; omega))
  replace HBB := Lib.hid (HBB.out.keep (Same.of_in hgi fun b hb _ => by unfold OwnPN; unfold Ap at hb; omega))
  replace Ro1 := Lib.hid (Ro1.out.keep (Same.of_in hgi fun b hb _ => by unfold OwnPN; unfold Ap at hb; omega))
  replace Ro2 := Lib.hid (Ro2.out.keep (Same.of_in hgi fun b hb _ => by unfold OwnPN; unfold Ap at hb; omega))
  replace Ro3 := Lib.hid (Ro3.out.keep (Same.of_in hgi fun b hb _ => by unfold OwnPN; unfold Ap at hb; omega))
  replace Vp := Lib.hid (Vp.out.keep (Same.of_in hgi fun b hb _ => by unfold OwnPN; unfold Ap at hb; omega))
  replace Vq := Lib.hid (Vq.out.keep (Same.of_in hgi fun b hb _ => by unfold OwnPN; unfold Ap at hb; omega))
  replace HG := Lib.hid (HG.out.trans hgi fun _ h => .inl h)
  replace HSh := Lib.hid (HSh.out.below hb)
  clear hb hgi
  have Vr := Lib.hid (show Reads w13 (Ap P N) 1 Br aa.length (u8s aa) from hrd.imp (by omega) fun q hq _ => by unfold Ap; have := HP12.out; omega)
  clear hq1 hq2 hrd
  have cvr : (convert 23 9 (.slice Br aa.length er)).run Try.prog w13 = .ok (.string ⟨aa.toArray⟩) w13 := run_convert_reads _ _ _ _ Try.underlying23 Try.underlying5 Try.underlying9 Vr.out
  have cva : (convert 23 9 (.slice A2 na c2)).run Try.prog w13 = .ok (.string ⟨aa.toArray⟩) w13 := run_convert_reads _ _ _ _ Try.underlying23 Try.underlying5 Try.underlying9 HA.out
  go_wp2_with (fail)
  have HP13 := Lib.hid (show P < w13.heap.size ∧ N < w13.heap.size from HSh.out.lt.2)
  refine (frees_any w13 S P N (freeL (freeL s3 o1) o3) _ Ao2 o1.length co2 la o1 HSh.out ST.out.ok5 ST.out.na5 ST.out.ca5 HF.out.2.2.1 (fun x => Nat.le_trans (by unfold minuss; omega) (ST.out.h6 x)) Ro2.out rfl (by omega)).mono ?_
  rintro e w14 ⟨rfl, hsh, hb⟩
  have hgi := hb
  replace HA := Lib.hid (HA.out.keep (Same.of_in hgi fun b hb _ => by unfold OwnPN; unfold Ap at hb; omega))
  replace HBB := Lib.hid (HBB.out.keep (Same.of_in hgi fun b hb _ => by unfold OwnPN; unfold Ap at hb; omega))
  replace Ro1 := Lib.hid (Ro1.out.keep (Same.of_in hgi fun b hb _ => by unfold OwnPN; unfold Ap at hb; omega))
  replace Ro2 := Lib.hid (Ro2.out.keep (Same.of_in hgi fun b hb _ => by unfold OwnPN; unfold Ap at hb; omega))
  replace Ro3 := Lib.hid (Ro3.out.keep (Same.of_in hgi fun b hb _ => by unfold OwnPN; unfold Ap at hb; omega))
  replace Vp := Lib.hid (Vp.out.keep (Same.of_in hgi fun b hb _ => by unfold OwnPN; unfold Ap at hb; omega))
  replace Vq := Lib.hid (Vq.out.keep (Same.of_in hgi fun b hb _ => by unfold OwnPN; unfold Ap at hb; omega))
  replace Vr := Lib.hid (Vr.out.keep (Same.of_in hgi fun b hb _ => by unfold OwnPN; unfold Ap at hb; omega))
  replace HG := Lib.hid (HG.out.trans hgi fun _ h => .inl h)
  replace HSh := Lib.hid hsh
  clear hb hgi hsh
  clear cvr cva
  obtain ⟨s6, hs6⟩ : ∃ s6, s6 = freeL (freeL (freeL s3 o1) o3) o1 := ⟨_, rfl⟩
  rw [← hs6] at HSh
  have hem : s6.ps = [] := by rw [hs6]; exact ST.out.em
  obtain ⟨p6, q6⟩ := s6
  simp only at hem
  subst hem
  clear hs6
  go_wp2_with (fail)
  refine (size_any w14 S P N ⟨[], q6⟩ HSh.out (by simp) (by simp)).mono ?_
  rintro e w15 ⟨rfl, hb⟩
  have hgi : GrownIn (OwnPN P N) w14 w15 := GrownIn.of_below hb
  replace HA := Lib.hid (HA.out.keep (Same.of_in hgi fun b hb _ => by unfold OwnPN; unfold Ap at hb; omega))
  replace HBB := Lib.hid (HBB.out.keep (Same.of_in hgi fun b hb _ => by unfold OwnPN; unfold Ap at hb; omega))
  replace Ro1 := Lib.hid (Ro1.out.keep (Same.of_in hgi fun b hb _ => by unfold OwnPN; unfold Ap at hb; omega))
  replace Ro2 := Lib.hid (Ro2.out.keep (Same.of_in hgi fun b hb _ => by unfold OwnPN; unfold Ap at hb; omega))
  replace Ro3 := Lib.hid (Ro3.out.keep (Same.of_in hgi fun b hb _ => by unfold OwnPN; unfold Ap at hb; omega))
  replace Vp := Lib.hid (Vp.out.keep (Same.of_in hgi fun b hb _ => by unfold OwnPN; unfold Ap at hb; omega))
  replace Vq := Lib.hid (Vq.out.keep (Same.of_in hgi fun b hb _ => by unfold OwnPN; unfold Ap at hb; omega))
  replace Vr := Lib.hid (Vr.out.keep (Same.of_in hgi fun b hb _ => by unfold OwnPN; unfold Ap at hb; omega))
  replace HG := Lib.hid (HG.out.trans hgi fun _ h => .inl h)
  replace HSh := Lib.hid (HSh.out.below hb)
  clear hb hgi
  simp only [List.length_nil, sizeB, List.map_nil, List.sum_nil]
  go_wp2_with (fail)
  refine (frees_none w15 S P N Ao1 o1.length co1 o1 q6 HSh.out (Ro1.out.imp (by omega) fun _ _ _ => trivial) rfl (by have := Ko1.out.1.len; have := List.length_pos_iff.2 HF.out.2.2.2.2.1; omega) (by omega) Ko1.out.2.1).mono ?_
  rintro e w16 ⟨rfl, hb⟩
  have hgi : GrownIn (OwnPN P N) w15 w16 := GrownIn.of_below hb
  replace HA := Lib.hid (HA.out.keep (Same.of_in hgi fun b hb _ => by unfold OwnPN; unfold Ap at hb; omega))
  replace HBB := Lib.hid (HBB.out.keep (Same.of_in hgi fun b hb _ => by unfold OwnPN; unfold Ap at hb; omega))
  replace Ro1 := Lib.hid (Ro1.out.keep (Same.of_in hgi fun b hb _ => by unfold OwnPN; unfold Ap at hb; omega))
  replace Ro2 := Lib.hid (Ro2.out.keep (Same.of_in hgi fun b hb _ => by unfold OwnPN; unfold Ap at hb; omega))
  replace Ro3 := Lib.hid (Ro3.out.keep (Same.of_in hgi fun b hb _ => by unfold OwnPN; unfold Ap at hb; omega))
  replace Vp := Lib.hid (Vp.out.keep (Same.of_in hgi fun b hb _ => by unfold OwnPN; unfold Ap at hb; omega))
  replace Vq := Lib.hid (Vq.out.keep (Same.of_in hgi fun b hb _ => by unfold OwnPN; unfold Ap at hb; omega))
  replace Vr := Lib.hid (Vr.out.keep (Same.of_in hgi fun b hb _ => by unfold OwnPN; unfold Ap at hb; omega))
  replace HG := Lib.hid (HG.out.trans hgi fun _ h => .inl h)
  replace HSh := Lib.hid (HSh.out.below hb)
  clear hb hgi
  go_wp2_with (fail)
  go_ret
  exact ⟨rfl, Go.Mem.Below.of_in HW.out.2.2 HG.out (fun b hb => by unfold OwnPN at hb; have := HW.out.1; have := HW.out.2.1; omega) HW.out.2.2.size⟩
end Go.Proofs.Ytgcpclbkjplipaa
namespace Go.Proofs.Ytgcpclbkjplipaa.chunkShares
open Go.ChangeShapes Go.WideShapes Go.ChangeAt Go.RowKit Go.Mem Go.Law

theorem own : ownKnob Try.prog.godebug = none := by kernel_rfl
theorem laidOut : laidOutB Try.prog = true := by kernel_rfl

set_option maxRecDepth 100000 in
theorem lifted (os : Os) (started : os.Started) (H : Type) (enc : TypeId × Value → H) :
    ReturnsInHanded {} Try.checked os 5 .any (Rows.chunkSharesSpec.pre6 enc Try.prog Try.f5 Rows.chunkSharesRow.domain false) (Rows.chunkSharesSpec.post enc Try.prog Try.f5 false true false false) := by
  refine returnsInHanded_of_change (C := Try.checked) own started (by kernel_rfl) Try.func5
    (ChangeSpec.witness6 (enc := enc) (C := Try.checked) false ⟨#[], #[.slice none 0 0, .slice none 0 0], []⟩ 8 (by kernel_rfl) (by kernel_rfl) (by kernel_rfl) (by kernel_rfl)) ?_
  intro W base args ds gs before hval0 hW hcnd _
  have hval : ∀ (j : Nat) t v, Try.f5.params[j]? = some t → args[j]? = some v → Value.okWide Try.prog W .any base t v := hval0
  have hW' : DataW.Whole enc Try.prog Try.f5.params.toList Rows.chunkSharesSpec.vars false W args.toList ds gs before := hW
  obtain ⟨p, q, hA0, hV, rfl, hfz, hnd⟩ := hW
  have hA : DataW.TrodAll enc Try.prog W 0 (fun _ => true) true Try.f5.params.toList args.toList ds p := hA0
  rw [Try.params5] at hA hval
  obtain ⟨v0, vs0, d0, ds0, p0, q0, hargs, rfl, rfl, h0, r0⟩ := trodAll_cons hA
  obtain ⟨v1, vs1, d1, ds1, p1, q1, rfl, rfl, rfl, h1, r1⟩ := trodAll_cons r0
  obtain ⟨rfl, rfl, rfl⟩ := trodAll_nil r1
  obtain rfl : args = #[v0, v1] := by cases args; simp_all
  obtain ⟨rfl, rfl⟩ := trodVars_none hV
  obtain ⟨A0, n0, c0, s0, rfl, hc0, hd0, hr0⟩ := open_bytes Try.underlying23 Try.underlying5 (by kernel_rfl) (hval 0 _ v0 rfl rfl) h0
  obtain ⟨A1, n1, c1, s1, rfl, hc1, hd1, hr1⟩ := open_bytes Try.underlying23 Try.underlying5 (by kernel_rfl) (hval 1 _ v1 rfl rfl) h1
  clear hA0 hval0
  refine (chunkShares_any W A0 n0 c0 s0 hr0 hc0 hd0 A1 n1 c1 s1 hr1 hc1 hd1).mono fun e W' ⟨he, bel⟩ => ?_
  subst he
  exact ⟨_, rfl, law_post (tb := 4) laidOut Try.underlying4 (by kernel_rfl) (by kernel_rfl) rfl rfl hW' bel⟩

/-- ████ THE STATEMENT ████ -/
theorem proved : Rows.ChunkSharesSaid :=
  OpenClaim.holds_of_wide 5 Try.f5 rfl rfl rfl rfl rfl rfl rfl ⟨rfl, rfl, rfl, rfl, rfl⟩ rfl rfl rfl rfl rfl (by kernel_rfl) Try.func5 (by kernel_rfl)
    (of_decide_eq_true (by kernel_rfl)) (by unfold Func.isWrapper; first | (rw [if_pos (by decide +kernel)]; kernel_rfl) | (rw [if_neg (by decide +kernel)]; exact ⟨rfl, rfl⟩))
    (fun os started H enc _ => lifted os started H enc)
#print axioms proved
end Go.Proofs.Ytgcpclbkjplipaa.chunkShares
