/- Contract of package move's do at any deed that may be; what holds after some deeds; the helpers of Run. -/
import Derived.Test.YtckkelppdeampaaHarbPut
import Derived.Test.YtckkelppdeampaaHarbShift
import Derived.Test.YtckkelppdeampaaHarbNew
import Derived.Test.YtckkelppdeampaaSetRow
set_option linter.unusedVariables false
namespace Go.Mv
open Go.Mem
theorem run_take (s : Hb) (D : List Dv) (k : Nat) (h : k < D.length) : runF s (D.take (k + 1)) = doF (runF s (D.take k)) D[k] := by
  rw [List.take_succ_eq_append_getElem h, run_app]
  rfl
theorem runs_at {nodes : Nat} {C : List Nat} {D : List Dv} (h1 : 1 ≤ nodes ∧ nodes ≤ 8) (hC : ∀ c ∈ C, 1 ≤ c ∧ c ≤ nodes) (hD : ∀ d ∈ D, DOk nodes C.length d) (hl : D.length ≤ 400) (k : Nat) (hk : k ≤ D.length) :
    Core (runF (newF nodes C) (D.take k)) C.length k ((D.take k).foldl putS (fun _ _ => [])) ∧ Bd (runF (newF nodes C) (D.take k)) k ∧ (runF (newF nodes C) (D.take k)).nodes = nodes := by
  have hn : ∀ (D : List Dv) (s : Hb), (runF s D).nodes = s.nodes := by
    intro D
    induction D with
    | nil => intro s; rfl
    | cons d D ih => intro s; exact (ih _).trans (doF_nodes s d)
  have hcore : ∀ k, k ≤ D.length → Core (runF (newF nodes C) (D.take k)) C.length k ((D.take k).foldl putS (fun _ _ => [])) := fun k hk => by
    have := run_core (D.take k) (new_core nodes C h1 hC) (fun d hd => hD d (List.mem_of_mem_take hd))
    rw [List.length_take, Nat.min_eq_left hk, Nat.zero_add] at this
    exact this
  refine ⟨hcore k hk, ?_, hn _ _⟩
  induction k with
  | zero => simpa [runF] using new_bd nodes C
  | succ k ih =>
    have hb := ih (by omega)
    rw [run_take _ _ _ (by omega)]
    exact Bd.do_ (hcore k (by omega)) hb (by omega) (by rw [hn]; exact hD _ (List.getElem_mem _))
theorem wsum_len (ws : Ways) : wsum List.length ws = wsum (fun l => l.countP isL) ws + wsum (fun l => l.countP fun x => !isL x) ws := by
  unfold wsum
  induction ws with
  | nil => rfl
  | cons p r ih =>
    simp only [List.map_cons, List.sum_cons] at ih ⊢
    have h := List.length_eq_countP_add_countP isL (l := p.2)
    have e : p.2.countP (fun a => decide ¬isL a = true) = p.2.countP fun x => !isL x := by
      apply List.countP_congr
      intro x _
      simp
    rw [e] at h
    omega
theorem ways_bd {s : Hb} {t : Nat} (hb : Bd s t) (ht : t ≤ 400) : wsum List.length s.ways + (s.wait.map List.length).sum ≤ 170000 := by
  have h := wsum_len s.ways
  obtain ⟨b1, b2⟩ := hb
  have b3 : 402 * t ≤ 402 * 400 := Nat.mul_le_mul_left _ ht
  unfold lets at b1
  unfold nots at b2
  omega
theorem boxes_bd {s : Hb} {W t : Nat} {S : Nat → Nat → List Nat} (h : Core s W t S) (ht : t ≤ 400) (K : List (Nat × Nat)) (hK : ∀ p ∈ K, (1 ≤ p.1 ∧ p.1 ≤ s.nodes) ∧ p.2 < W) : (K.map fun p => (s.box p.1 p.2).st.length).sum ≤ 400 * K.length := by
  induction K with
  | nil => simp
  | cons p r ih =>
    have h1 := ih fun q hq => hK q (List.mem_cons_of_mem _ hq)
    obtain ⟨h2, h3⟩ := hK p (by simp)
    have h4 := h.st_le h2 h3
    simp only [List.map_cons, List.sum_cons, List.length_cons]
    omega
end Go.Mv
namespace Go.Proofs.Ytckkelppdeampaa
open Go.RowKit Go.Mem Go.Mv Go.Maps
theorem do_any (w : World) (B : Nat) (col : Nat → Mc) (m : Hm) (s : Hb) (h : HW w B col m s) (hB : B ≤ w.heap.size) {W t : Nat} {S : Nat → Nat → List Nat} (hc : Core s W t S) (hb : Bd s t) (ht : t < 400) (d : Dv) (hd : DOk s.nodes W d) (hk : 1 ≤ d.kind) :
    Calls Try.prog 12 #[.pointer (some ⟨m.T, 0, none⟩), .agg #[.int .i64 d.kind, .int .i64 d.src, .int .i64 d.dst, .int .i64 d.who, .int .i64 d.n]] w (HPost w B col m.T (doF s d)) := by
  obtain ⟨d1, d2, d3, d4, d5, d6⟩ := hd
  obtain ⟨b1, b2⟩ := hb
  have b3 : 402 * t ≤ 402 * 400 := Nat.mul_le_mul_left _ (by omega)
  by_cases k1 : d.kind = 1
  · exact do_put w B col m s h hB hc (by omega) (by omega) (by omega) d k1 ⟨d5 (by omega), d2⟩ d4
  · by_cases k2 : d.kind = 2
    · have hsz := hc.sz (by omega) (by omega) (by omega)
      exact do_shift w B col m s h hB hc (by omega) (fun a b => by have := hsz.way a b; omega) d k2 ⟨d6 (by omega), d3⟩ d4
    · exact do_come w B col m s h hB hc (by omega) (by omega) (by omega) d (by omega) ⟨d5 (by omega), d2⟩ ⟨d6 (by omega), d3⟩
theorem natv_at (l : List Nat) (k : Nat) (h : k < l.length) : (natv l)[k]? = some (.int .i64 (l[k] : Nat)) := by simp [natv, h]
set_option maxRecDepth 100000 in
theorem run1_no (w : World) (x nodes N : Nat) (h0 : 1 ≤ x) (h1 : x ≤ nodes) (hN : w.cell? ⟨N, 0, none⟩ = some (.int .i64 (nodes : Nat))) (lN : N < w.heap.size) :
    Calls Try.prog 10 #[.int .i64 (x : Nat), .pointer (some ⟨N, 0, none⟩)] w fun e w' => e = .returned (.bool false) ∧ w = w' := by
  have d0 : decide ((x : Int) < 1) = false := by simp; omega
  have d1 : decide ((nodes : Int) < (x : Int)) = false := by simp; omega
  have d2 : decide (nodes < x) = false := by simp; omega
  go_enter Try.func10, Try.ntmps10
  go_wp2_with (fail)
  go_ret
  exact ⟨by simp, rfl⟩
set_option maxRecDepth 100000 in
set_option maxHeartbeats 1000000 in
theorem indexFunc_no (w : World) (A : Option Addr) (n c : Nat) (l : List Nat) (nodes N : Nat) (hn : n = l.length) (hn8 : n ≤ 8) (hr : Reads w Any 1 A n (natv l)) (hl : ∀ x ∈ l, 1 ≤ x ∧ x ≤ nodes) (hN : w.cell? ⟨N, 0, none⟩ = some (.int .i64 (nodes : Nat))) (lN : N < w.heap.size) :
    Calls Try.prog 15 #[.slice A n c, .func (.func 10) #[] #[.pointer (some ⟨N, 0, none⟩)]] w fun e w' => e = .returned (.int .i64 (-1)) ∧ w = w' := by
  have Hn := Lib.hid hn
  have Hl := Lib.hid hl
  have HN := Lib.hid hN
  clear hn hl hN
  go_enter Try.func15, Try.ntmps15
  go_wp2_with (fail)
  go_loop [8] (fun v8 => ∃ k : Nat, k ≤ n ∧ v8 = .int .i64 k) (fun v8 => n - (intOf v8).toNat)
  case atStart => exact ⟨0, Nat.zero_le _, rfl⟩
  case round =>
    obtain ⟨k, hk, rfl⟩ := hrel
    by_cases hlt : k < n
    · obtain ⟨b, off, u, rfl, hD, hu, hc⟩ := hr.at_ hlt
      have hkl : k < l.length := by have := Hn.out; omega
      rw [natv_at l k hkl] at hu
      injection hu with hu
      subst hu
      obtain ⟨b0, b1⟩ := Hl.out _ (List.getElem_mem hkl)
      generalize l[k] = y at hc b0 b1
      have R1 := Lib.hid (run1_no w y nodes N b0 b1 HN.out lN)
      clear hr b0 b1
      go_wp2_with (fail)
      refine R1.out.mono ?_
      rintro e w' ⟨rfl, rfl⟩
      go_wp2_with (fail)
      go_round
      case rel => exact ⟨k + 1, by omega, by go_num⟩
      case measure => simp [intOf]; omega
    · clear hr
      go_wp2_with (fail)
      go_ret
      exact ⟨rfl, rfl⟩
set_option maxRecDepth 100000 in
theorem containsFunc_no (w : World) (A : Option Addr) (n c : Nat) (l : List Nat) (nodes N : Nat) (hn : n = l.length) (hn8 : n ≤ 8) (hr : Reads w Any 1 A n (natv l)) (hl : ∀ x ∈ l, 1 ≤ x ∧ x ≤ nodes) (hN : w.cell? ⟨N, 0, none⟩ = some (.int .i64 (nodes : Nat))) (lN : N < w.heap.size) :
    Calls Try.prog 9 #[.slice A n c, .func (.func 10) #[] #[.pointer (some ⟨N, 0, none⟩)]] w fun e w' => e = .returned (.bool false) ∧ w = w' := by
  have IF := Lib.hid (indexFunc_no w A n c l nodes N hn hn8 hr hl hN lN)
  clear hn hr hl hN
  go_enter Try.func9, Try.ntmps9
  go_wp2_with (fail)
  refine IF.out.mono ?_
  rintro e w' ⟨rfl, rfl⟩
  go_wp2_with (fail)
  go_ret
  exact ⟨rfl, rfl⟩
/-- the cells of deeds -/
def dvc (d : Dv) : List Value := [.int .i64 (d.kind : Nat), .int .i64 (d.src : Nat), .int .i64 (d.dst : Nat), .int .i64 (d.who : Nat), .int .i64 (d.n : Nat)]
def dvcs (l : List Dv) : List Value := (l.map dvc).flatten
theorem dvcs_at (l : List Dv) (k j : Nat) (hk : k < l.length) (hj : j < 5) : (dvcs l)[k * 5 + j]? = (dvc l[k])[j]? :=
  flatten_at (size := 5) (vss := l.map dvc) (fun c hc => by obtain ⟨d, _, rfl⟩ := List.mem_map.1 hc; rfl) (k := k) (c := dvc l[k]) (by rw [List.getElem?_map, List.getElem?_eq_getElem hk]; rfl) j hj
theorem dvcs_len (l : List Dv) : (dvcs l).length = l.length * 5 := by
  induction l with
  | nil => rfl
  | cons d r ih =>
    simp only [dvcs, List.map_cons, List.flatten_cons, List.length_append] at ih ⊢
    rw [ih]
    simp [dvc]
    omega
theorem _root_.Go.Mem.MapOf.uniq {α : Type} {enc : α → Value} {ok : α → Prop} (hi : ∀ a b, enc a = enc b → a = b) {w : World} {b : Nat} {l l' : List (α × Value)} (h : MapOf enc ok w b l) (h' : MapOf enc ok w b l') : l = l' := by
  obtain ⟨es, c, hb, -, he, -⟩ := h
  obtain ⟨es', c', hb', -, he', -⟩ := h'
  rw [hb] at hb'
  injection hb' with hb'
  injection hb' with e1 e2
  subst e1
  rw [he] at he'
  clear he
  induction l generalizing l' with
  | nil => cases l' with
    | nil => rfl
    | cons p r => simp at he'
  | cons p r ih => cases l' with
    | nil => simp at he'
    | cons q s =>
      simp only [List.map_cons, List.cons.injEq, Prod.mk.injEq] at he'
      obtain ⟨⟨e1, e2⟩, e3⟩ := he'
      rw [ih e3, show p = q from Prod.ext (hi _ _ e1) e2]
/-- the map of inboxes stays -/
theorem inb_same {w w' : World} {B B' : Nat} {col col' : Nat → Mc} {m m' : Hm} {s s' : Hb} (h : HW w B col m s) (h' : HW w' B' col' m' s') (hs : Stp w w' col col') (hT : m'.T = m.T) : m'.lI = m.lI := by
  have h1 := (hs.cst h.blk.lt h.cT).1
  have h2 := h'.blk
  unfold Blk at h2
  rw [hT, h1, h.blk] at h2
  have h3 : m.In = m'.In := by simp at h2; exact h2.2.2.2.2.1
  have h4 := h.hI.same (hs.cst h.hI.lt h.cI).1
  exact (h4.uniq encP_inj (by rw [h3]; exact h'.hI)).symm
/-- the elements' count of a channel's value -/
def lenV : Value → Nat
  | .slice _ n _ => n
  | _ => 0
theorem ways_len {lW : List ((Nat × Nat) × Value)} {ws : Ways} (hk : lW.map (·.1) = ws.map (·.1)) (hn : (ws.map (·.1)).Nodup) (he : ∀ k v c, mget lW k = some v → mget ws k = some c → lenV v = c.length) : (lW.map fun p => lenV p.2).sum = wsum List.length ws := by
  unfold wsum
  have hl : lW.length = ws.length := by have := congrArg List.length hk; simpa using this
  have : lW.map (fun p => lenV p.2) = ws.map fun p => p.2.length := by
    apply List.ext_getElem (by simpa using hl)
    intro i h1 h2
    simp only [List.length_map] at h1 h2
    rw [List.getElem_map, List.getElem_map]
    have hki : lW[i].1 = ws[i].1 := by
      have := congrArg (fun l => l[i]?) hk
      simpa [h1, h2] using this
    refine he ws[i].1 _ _ (mget_at (by rw [hk]; exact hn) ?_) (mget_at hn (List.getElem_mem h2))
    rw [← hki]
    exact List.getElem_mem h1
  rw [this]
/-- a channel's value, as it stands in the map -/
theorem HW.ent {w : World} {B : Nat} {col : Nat → Mc} {m : Hm} {s : Hb} (h : HW w B col m s) (hn : (s.ways.map (·.1)).Nodup) {p : (Nat × Nat) × Value} (hp : p ∈ m.lW) : ∃ A n c, p.2 = .slice A n c ∧ ∃ l, mget s.ways p.1 = some l ∧ n = l.length := by
  have hn' : (m.lW.map (·.1)).Nodup := by rw [h.kW]; exact hn
  have h1 := mget_at (a := p.1) (v := p.2) hn' hp
  obtain ⟨c, hc⟩ : ∃ c, mget s.ways p.1 = some c := by
    have : p.1 ∈ s.ways.map (·.1) := by rw [← h.kW]; exact List.mem_map.2 ⟨p, hp, rfl⟩
    obtain ⟨q, hq, e⟩ := List.mem_map.1 this
    exact ⟨q.2, mget_at hn (by rw [← e]; exact hq)⟩
  obtain ⟨A, cp, e, _⟩ := (h.eW _ _ _ h1 hc).1.form
  exact ⟨A, c.length, cp, e, c, hc, rfl⟩
/-- growth, and changes of what is not the simulation's -/
theorem HW.far {w w' : World} {B : Nat} {col : Nat → Mc} {m : Hm} {s : Hb} (h : HW w B col m s) (hB : B ≤ w.heap.size) (hg : GrownIn (fun b => col b = .out) w w') :
    HW w' B (recol col w.heap.size .cst) m s := by
  have kc : ∀ b, b < w.heap.size → recol col w.heap.size .cst b = col b := fun b hb => recol_old hb
  have hk : Keeps w w' col (recol col w.heap.size .cst) (fun e => e = .out) := Keeps.of_in hg fun b hb e => e
  exact {
    blk := (hk _ h.blk.lt (by rw [h.cT]; simp)).1.trans h.blk
    hA := (hk _ h.hA.lt (by rw [h.cA]; simp)).1.trans h.hA
    eA := h.eA
    hB := h.hB.same (hk _ h.hB.lt (by rw [h.cB]; simp)).1
    eB := h.eB
    hS := h.hS.same (hk _ h.hS.lt (by rw [h.cS]; simp)).1
    eS := h.eS
    hI := h.hI.same (hk _ h.hI.lt (by rw [h.cI]; simp)).1
    eI := h.eI
    bx := fun a x q1 q2 q3 => by
      obtain ⟨h1, h2, h3⟩ := h.bx a x q1 q2 q3
      obtain ⟨k1, k2⟩ := hk _ h1.blk.lt (by rw [h2]; simp)
      obtain ⟨k3, k4⟩ := hk _ h1.st.lt (by rw [h3]; simp)
      exact ⟨h1.same k1 k3, k2.trans h2, k4.trans h3⟩
    hW := h.hW.same (hk _ h.hW.lt (by rw [h.cW]; simp)).1
    kW := h.kW
    eW := fun k v c h1 h2 => (h.eW k v c h1 h2).keep hk (by simp)
    hT := (hk _ h.hT.lt (by rw [h.cWT]; simp)).1.trans h.hT
    eT := fun i row hr => by
      obtain ⟨v, h1, h2⟩ := h.eT i row hr
      exact ⟨v, h1, h2.keep hk (by simp)⟩
    hG := (hk _ h.hG.lt (by rw [h.cGT]; simp)).1.trans h.hG
    eG := fun i row hr => by
      obtain ⟨v, h1, h2⟩ := h.eG i row hr
      exact ⟨v, h1, h2.keep hk (by simp)⟩
    cT := (hk _ h.blk.lt (by rw [h.cT]; simp)).2.trans h.cT
    cA := (kc _ h.hA.lt).trans h.cA
    cB := (kc _ h.hB.lt).trans h.cB
    cS := (kc _ h.hS.lt).trans h.cS
    cI := (kc _ h.hI.lt).trans h.cI
    cW := (kc _ h.hW.lt).trans h.cW
    cWT := (kc _ h.hT.lt).trans h.cWT
    cGT := (kc _ h.hG.lt).trans h.cGT
    wl := h.wl
    gl := h.gl
    low := fun b hb => by rw [kc b (Nat.lt_of_lt_of_le hb hB)]; exact h.low b hb
    nd := h.nd
  }
theorem sub_len' {α : Type} [DecidableEq α] : ∀ (a b : List α), a.Nodup → (∀ x ∈ a, x ∈ b) → a.length ≤ b.length
  | [], b, _, _ => Nat.zero_le _
  | x :: r, b, hn, h => by
    rw [List.nodup_cons] at hn
    have hx : x ∈ b := h x (by simp)
    have h2 := sub_len' r (b.erase x) hn.2 fun y hy => by
      have : y ≠ x := fun e => hn.1 (e ▸ hy)
      exact (List.mem_erase_of_ne this).2 (h y (by simp [hy]))
    rw [List.length_erase_of_mem hx] at h2
    have : 0 < b.length := List.length_pos_of_mem hx
    simp
    omega
theorem keys_few {K : List (Nat × Nat)} {nodes W : Nat} (hn : K.Nodup) (hK : ∀ p ∈ K, (1 ≤ p.1 ∧ p.1 ≤ nodes) ∧ p.2 < W) (h8 : nodes ≤ 8) (h5 : W ≤ 5) : K.length ≤ 45 := by
  have := sub_len' K ((List.range 9).flatMap fun a => (List.range 5).map fun b => (a, b)) hn (fun p hp => by
    obtain ⟨h1, h2⟩ := hK p hp
    simp only [List.mem_flatMap, List.mem_range, List.mem_map]
    exact ⟨p.1, by omega, p.2, by omega, rfl⟩)
  have e : ((List.range 9).flatMap fun a => (List.range 5).map fun b => (a, b)).length = 45 := by decide
  omega
theorem setRow_in {own : Nat → Prop} {g : Nat} (hg : own g) {a : World} : ∀ (vs : List Value) (w : World) (o : Nat), GrownIn own a w → GrownIn own a (setRow w g o vs)
  | [], _, _, h => h
  | v :: vs, w, o, h => setRow_in hg vs _ _ (h.set (p := ⟨g, o, none⟩) hg v)
end Go.Proofs.Ytckkelppdeampaa
