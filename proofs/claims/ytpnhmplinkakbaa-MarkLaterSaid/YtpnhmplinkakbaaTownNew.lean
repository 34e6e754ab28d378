/- Contract of package mark's newWorld. -/
import Derived.Test.YtpnhmplinkakbaaTownDo
import Derived.Test.YtpnhmplinkakbaaMarkNew
set_option linter.unusedVariables false
namespace Go.Proofs.Ytpnhmplinkakbaa
open Go.RowKit Go.Mem Go.Maps

theorem info_ptr : (Try.prog.info? 23).map (fun i => (i.zero, i.size, i.bytes)) = some (some (.pointer none), 1, 8) := by kernel_rfl
theorem app_ptr (w : World) {ops : Array Oper} {rest : List Oper} {o : Oper} {a : Act} {Q : Exit → Act → World → Prop} (hgd : o.guard = none) (s x : Operand)
    (ho : o.op = .call { callee := .builtin .append, args := #[s, x], argTypes := #[111, 111] })
    {base : Nat} {v : Value} {n : Nat} {xs : List Value} (hown : w.ownsRow base 23 1 v n xs) (hs : a.eval s = v)
    {D : Nat → Prop} {A : Option Addr} {m : Nat} {news : List Value} (hr : Reads w D 1 A m news) {c : Nat} (hx : a.eval x = .slice A m c) (h1 : ∀ u ∈ news, u.oneCell' = true)
    (h63 : n + m ≤ 8796093022208) (hbase : base ≤ w.heap.size)
    (h : ∀ v' w', w'.ownsRow base 23 1 v' (n + m) (xs ++ news) → w.grownBy w' v.ownBlock → (v'.ownBlock = v.ownBlock ∨ v'.ownBlock = some w.heap.size) → wpList Try.prog ops Q rest (a.put o.dst v') w') : wpList Try.prog ops Q (o :: rest) a w := by
  obtain ⟨i0, hi0, hz0, hz1, hz2⟩ := info_parts info_ptr
  exact wpList_append_any w hgd s x _ ho base _ i0 _ 1 8 Try.underlying111 hi0 hz0 hz1 hz2 rfl (by omega) v n xs hs hown D A m c news hx hr h1 (by simp only [maxLen]; omega) (by omega) hbase h
def sd1 (n i : Nat) : Sd := ⟨peersOf n i, false, 0, List.replicate (n - 1) false, List.replicate (n - 1) []⟩
def ptrS (S : Nat) : Value := .pointer (some ⟨S, 0, none⟩)
structure NewW (w wr : World) (coins : List Int) (i T C cC : Nat) (curC : List Value) (m : Nat) (col : Nat → Col) (sv : Value) (ss : List Nat) : Prop where
  blk : Blk wr T 113 [.slice (some ⟨C, 0, none⟩) coins.length cC, sv, .map (some m)]
  hC : Blk wr C 3 curC
  hc : curC.take coins.length = nums coins
  mp : MapOf encK okK wr m []
  row : wr.ownsRow w.heap.size 23 1 sv i (ss.map ptrS)
  len : ss.length = i
  sd : ∀ (j S : Nat), ss[j]? = some S → Side wr S (fun b => col b = .rows j) (sd1 coins.length j)
  cT : col T = .base
  cC : col C = .coins
  cm : col m = .base
  csv : ∀ g, sv.ownBlock = some g → col g = .base
  low : ∀ b, b < w.heap.size → col b = .out
  bl : Below w.heap.size w wr
theorem NewW.form {w wr : World} {coins : List Int} {i T C cC : Nat} {curC : List Value} {m : Nat} {col : Nat → Col} {sv : Value} {ss : List Nat} (h : NewW w wr coins i T C cC curC m col sv ss) : ∃ A c, sv = .slice A i c := by
  obtain ⟨A, c, e, _⟩ := own_form h.row
  exact ⟨A, c, e⟩
/-- the side has been made -/
theorem NewW.side {w wr w3 : World} {coins : List Int} {i T C cC : Nat} {curC : List Value} {m : Nat} {col : Nat → Col} {sv : Value} {ss : List Nat} (h : NewW w wr coins i T C cC curC m col sv ss) (hb : Below wr.heap.size wr w3) :
    Blk w3 T 113 [.slice (some ⟨C, 0, none⟩) coins.length cC, sv, .map (some m)] ∧ w3.ownsRow w.heap.size 23 1 sv i (ss.map ptrS) :=
  ⟨h.blk.below hb h.blk.lt, own_keep h.row fun b hb' => hb.block b (h.row.lt b hb').2⟩
theorem NewW.step {w wr w3 w4 : World} {coins : List Int} {i T C cC : Nat} {curC : List Value} {m : Nat} {col : Nat → Col} {sv : Value} {ss : List Nat} (h : NewW w wr coins i T C cC curC m col sv ss) (hb : Below wr.heap.size wr w3) {S : Nat} {own' : Nat → Prop} (hs : Side w3 S own' (sd1 coins.length i)) (ho : ∀ b, own' b → wr.heap.size ≤ b)
    {o : Obj} (hg : (w3.alloc o).grownBy w4 sv.ownBlock) {v4 : Value} (hrow : w4.ownsRow w.heap.size 23 1 v4 (i + 1) (ss.map ptrS ++ [ptrS S])) (hat : v4.ownBlock = sv.ownBlock ∨ v4.ownBlock = some (w3.alloc o).heap.size) :
    ∃ col', NewW w (w4.setCell ⟨T, 1, none⟩ v4) coins (i + 1) T C cC curC m col' v4 (ss ++ [S]) := by
  have hsz := hb.size
  have hBw : w.heap.size ≤ wr.heap.size := h.bl.size
  have hg3 : w3.grownBy w4 sv.ownBlock := grown_of_alloc hg
  have nT : sv.ownBlock ≠ some T := own_ne h.row h.blk (by decide)
  have nmT : m ≠ T := by
    rintro rfl
    obtain ⟨es, clock, hb', _⟩ := h.mp
    have := h.blk
    unfold Blk at this
    rw [hb'] at this
    cases this
  have nmv : sv.ownBlock ≠ some m := by
    intro e
    rcases h.row.2 with ⟨rfl, _⟩ | ⟨g, cap, cur, rfl, _, hg', _⟩
    · simp [Value.ownBlock] at e
    · simp [Value.ownBlock] at e
      subst e
      obtain ⟨es, clock, hb', _⟩ := h.mp
      rw [hb'] at hg'
      cases hg'
  have col' : Nat → Col := fun b => b |> fun _ => .base
  let c3 := recol col wr.heap.size (.rows i)
  let c4 := recol c3 w3.heap.size .base
  have k3 : ∀ b c, b < wr.heap.size → col b = c → c4 b = c := fun b c hb' e => by
    show recol (recol col wr.heap.size (.rows i)) w3.heap.size .base b = c
    rw [recol_old (by omega), recol_old hb', e]
  have far : ∀ b, b < wr.heap.size → sv.ownBlock ≠ some b → b ≠ T → (w4.setCell ⟨T, 1, none⟩ v4).heap[b]? = wr.heap[b]? := fun b hb' h1 h2 =>
    (Below.heap_setCell w4 ⟨T, 1, none⟩ v4 b h2).trans ((hg3.block b (by omega) fun e => h1 e.symm).trans (hb.block b hb'))
  have cne : ∀ b c, col b = c → c ≠ .base → sv.ownBlock ≠ some b ∧ b ≠ T := fun b c e hc => ⟨fun e2 => hc (by rw [← e]; exact h.csv b e2), fun e2 => hc (by rw [← e, e2, h.cT])⟩
  have lC := h.hC.lt
  have lm := h.mp.lt
  have lT := h.blk.lt
  have n4T : v4.ownBlock ≠ some T := by
    intro e
    rcases hat with e2 | e2
    · exact nT (e2.symm.trans e)
    · rw [e] at e2
      injection e2 with e2
      simp at e2
      omega
  have hT4 : Blk w4 T 113 [.slice (some ⟨C, 0, none⟩) coins.length cC, sv, .map (some m)] := (h.blk.below hb lT).grown hg3 (fun e => nT e.symm)
  refine ⟨c4, ⟨hT4.put 1 v4, (far C lC (cne C _ h.cC (by simp)).1 (cne C _ h.cC (by simp)).2).trans h.hC, h.hc, h.mp.same (far m lm nmv nmT), ?_, by simp [h.len], ?_, k3 T _ lT h.cT, k3 C _ lC h.cC, k3 m _ lm h.cm, ?_, ?_, ?_⟩⟩
  · have := own_keep (w' := w4.setCell ⟨T, 1, none⟩ v4) hrow fun b hb' => Below.heap_setCell w4 ⟨T, 1, none⟩ v4 b (by rintro rfl; exact n4T hb')
    simpa using this
  · intro j S' hj
    by_cases hji : j < i
    · rw [List.getElem?_append_left (by rw [h.len]; exact hji)] at hj
      have h1 := h.sd j S' hj
      have h2 := h1.own_imp (own' := fun b => col b = .rows j ∧ b < wr.heap.size) fun b hb' e => ⟨e, hb'⟩
      exact (h2.keep fun b hb' _ => far b hb'.2 (cne b _ hb'.1 (by simp)).1 (cne b _ hb'.1 (by simp)).2).own_imp fun b _ hb' => k3 b _ hb'.2 hb'.1
    · rw [List.getElem?_append_right (by rw [h.len]; omega), h.len] at hj
      have hj0 : j - i = 0 := by
        rcases Nat.eq_zero_or_pos (j - i) with h0 | h0
        · exact h0
        · rw [List.getElem?_eq_none (by simp; omega)] at hj; cases hj
      rw [hj0] at hj
      simp at hj
      subst hj
      obtain rfl : j = i := by omega
      have h2 := hs.own_imp (own' := fun b => wr.heap.size ≤ b ∧ b < w3.heap.size) fun b hb' e => ⟨ho b e, hb'⟩
      exact (h2.keep fun b hb' _ => (Below.heap_setCell w4 ⟨T, 1, none⟩ v4 b (by show b ≠ T; omega)).trans (hg3.block b hb'.2 fun e => by have := (h.row.lt b e.symm).2; omega)).own_imp fun b _ hb' => by
        show recol (recol col wr.heap.size (.rows j)) w3.heap.size .base b = .rows j
        rw [recol_old hb'.2, recol_new hb'.1]
  · intro g hg'
    rcases hat with e | e
    · rw [e] at hg'
      exact k3 g _ (h.row.lt g hg').2 (h.csv g hg')
    · rw [e] at hg'
      injection hg' with hg'
      subst hg'
      exact recol_new (by simp)
  · intro b hb'
    exact k3 b _ (by omega) (h.low b hb')
  · have b3 : Below w.heap.size w w3 := h.bl.trans (hb.mono hBw)
    have b4 := (b3.alloc b3.size o).grown hg (by simp; omega) (fun k hk => (h.row.lt k hk).1)
    have hTB : w.heap.size ≤ T := by
      rcases Nat.lt_or_ge T w.heap.size with hl | hl
      · have := h.low T hl
        rw [h.cT] at this
        cases this
      · exact hl
    exact b4.setCell hTB v4
theorem NewW.done {w wr : World} {coins : List Int} {T C cC : Nat} {curC : List Value} {m : Nat} {col : Nat → Col} {sv : Value} {ss : List Nat} (h : NewW w wr coins coins.length T C cC curC m col sv ss) (hn : 0 < coins.length) : TownAt wr w.heap.size T col (newF coins) := by
  rcases h.row.2 with ⟨_, h0⟩ | ⟨g, cap, cur, e, hgb, hg, hnc, hcm, hcs, htake⟩
  · omega
  · have hgB : Blk wr g 23 cur.toList := by unfold Blk; simpa using hg
    refine ⟨C, cC, curC, g, cap, cur.toList, m, [], ⟨?_, h.hC, h.hc, hgB, ?_, h.mp, ⟨rfl, fun k v c h1 _ => by simp [mget_nil] at h1⟩, h.cT, h.cC, h.csv g (by rw [e]; rfl), h.cm, h.low⟩⟩
    · have := h.blk
      rw [e] at this
      simpa [newF] using this
    · intro i x hx
      have hil : i < coins.length := by
        have := (List.getElem?_eq_some_iff.1 hx).1
        simpa [newF] using this
      have ex : x = sd1 coins.length i := by
        simp [newF, hil] at hx
        exact hx.symm
      have hsl : i < ss.length := by rw [h.len]; exact hil
      refine ⟨ss[i], ?_, by rw [ex]; exact h.sd i ss[i] (List.getElem?_eq_getElem hsl)⟩
      have : (cur.toList.take (coins.length * 1))[i]? = (ss.map ptrS)[i]? := by rw [htake]
      rw [List.getElem?_take, if_pos (by omega), List.getElem?_map, List.getElem?_eq_getElem hsl] at this
      rw [this]
      rfl

theorem peers_nodup (n i : Nat) : (peersOf n i).Nodup := by
  unfold peersOf
  rw [List.nodup_iff_pairwise_ne, List.pairwise_map]
  have h1 : (List.range n).Pairwise (· ≠ ·) := List.nodup_iff_pairwise_ne.1 List.nodup_range
  exact (h1.filter _).imp fun h e => h (by omega)
theorem peers_len (n i : Nat) (hi : i < n) : (peersOf n i).length = n - 1 := by
  unfold peersOf
  rw [List.length_map, filter_ne i n hi]
  simp
  omega
def peersK (i k : Nat) : List Int := ((List.range k).filter fun j => !decide (j = i)).map fun (j : Nat) => (j : Int)
theorem peersK_succ (i k : Nat) : peersK i (k + 1) = if k = i then peersK i k else peersK i k ++ [(k : Int)] := by
  unfold peersK
  rw [List.range_succ, List.filter_append, List.map_append]
  by_cases h : k = i <;> simp [h]
theorem peersK_le (i k : Nat) : (peersK i k).length ≤ k := by
  unfold peersK
  rw [List.length_map]
  have := List.length_filter_le (fun j => !decide (j = i)) (List.range k)
  simpa using this
theorem new_start {w w1 : World} {coins : List Int} {n c1 : Nat} {A1 : Option Addr} (hn : n = coins.length) (hn0 : 0 < n) (ho : w1.ownsRow w.heap.size 3 1 (.slice A1 n c1) n (nums coins)) (hb : Below w.heap.size w w1) :
    ∃ C curC col, A1 = some ⟨C, 0, none⟩ ∧ NewW w ((w1.alloc (.map #[] 0)).alloc (.cells #[.slice A1 n c1, .slice none 0 0, .map (some w1.heap.size)] 113)) coins 0 (w1.heap.size + 1) C c1 curC w1.heap.size col (.slice none 0 0) [] := by
  rcases ho.2 with ⟨_, h0⟩ | ⟨g, cap, cur, e, hgb, hg, hnc, hcm, hcs, htake⟩
  · omega
  · injection e with e1 _ e3
    subst e1 e3 hn
    have hgB : Blk w1 g 3 cur.toList := by unfold Blk; simpa using hg
    have lg := hgB.lt
    refine ⟨g, cur.toList, fun b => if b < w.heap.size then .out else if b = g then .coins else .base, rfl, ?_⟩
    have hT := Blk.new (w1.alloc (.map #[] 0)) 113 [.slice (some ⟨g, 0, none⟩) coins.length c1, .slice none 0 0, .map (some w1.heap.size)]
    have hm : MapOf encK okK (w1.alloc (.map #[] 0)) w1.heap.size ([] : List ((Nat × Nat) × Value)) := MapOf.new w1
    have hsz := hb.size
    refine ⟨by simpa using hT, (hgB.alloc _).alloc _, by simpa using htake, hm.alloc _, World.ownsRow_nil _ _ _ _, rfl, fun j S hj => by simp at hj, ?_, ?_, ?_, fun g hg => by simp [Value.ownBlock] at hg, fun b hb' => by simp [hb'], ?_⟩
    · show (if w1.heap.size + 1 < w.heap.size then Col.out else if w1.heap.size + 1 = g then .coins else .base) = .base
      rw [if_neg (by omega), if_neg (by omega)]
    · show (if g < w.heap.size then Col.out else if g = g then .coins else .base) = .coins
      rw [if_neg (by omega), if_pos rfl]
    · show (if w1.heap.size < w.heap.size then Col.out else if w1.heap.size = g then .coins else .base) = .base
      rw [if_neg (by omega), if_neg (by omega)]
    · exact (hb.alloc hsz _).alloc (by simp; omega) _
set_option maxRecDepth 100000 in
set_option maxHeartbeats 2000000 in
theorem newWorld_any (w : World) (A : Option Addr) (n c : Nat) (coins : List Int) (hn : n = coins.length) (hn8 : n ≤ 8) (hn0 : 0 < n) (hr : Reads w Any 1 A n (nums coins)) :
    Calls Try.prog 38 #[.slice A n c] w fun e w' => ∃ T col, e = .returned (.pointer (some ⟨T, 0, none⟩)) ∧ TownAt w' w.heap.size T col (newF coins) ∧ Below w.heap.size w w' := by
  have CL := Lib.hid (clone_ints A n c coins Any w hr (by omega))
  have Hn := Lib.hid hn
  clear hr hn
  have hmm := @run_makeMap Try.prog
  go_enter Try.func38, Try.ntmps38
  go_wp2_with (fail)
  refine CL.out.mono ?_
  rintro e w1 ⟨A1, c1, rfl, ho1, hb1⟩
  go_wp2_with (fail)
  obtain ⟨C, curC, col, rfl, hN⟩ := new_start Hn.out hn0 ho1 hb1
  obtain ⟨W, hW⟩ : ∃ W, W = (w1.alloc (.map #[] 0)).alloc (.cells #[.slice (some ⟨C, 0, none⟩) n c1, .slice none 0 0, .map (some w1.heap.size)] 113) := ⟨_, rfl⟩
  rw [← hW] at hN ⊢
  generalize w1.heap.size + 1 = T at hN ⊢
  generalize w1.heap.size = m at hN ⊢
  have HN := Lib.hid hN
  clear hW hN ho1 hb1 CL hmm
  go_loopw [16] (fun i wr => ∃ k col sv ss, k ≤ n ∧ i = .int .i64 (k : Nat) ∧ Hid (NewW w wr coins k T C c1 curC m col sv ss)) (fun i _ => n - (intOf i).toNat)
  case atStart => exact ⟨0, col, _, [], Nat.zero_le _, rfl, HN⟩
  case round =>
    clear HN
    obtain ⟨k, col, sv, ss, hk, rfl, HN⟩ := hrel
    by_cases hlt : k < n
    · obtain ⟨wo, hwo⟩ : ∃ wo, wo = wr := ⟨_, rfl⟩
      subst hwo
      have hbase : w.heap.size ≤ wo.heap.size := HN.out.bl.size
      go_wp2_with (fail)
      go_loopw [5, 21] (fun v i wr => ∃ j, j ≤ n ∧ i = .int .i64 (j : Nat) ∧ wr.ownsRow wo.heap.size 3 1 v (peersK k j).length (nums (peersK k j)) ∧ Below wo.heap.size wo wr) (fun _ i _ => n - (intOf i).toNat)
      case atStart => exact ⟨0, Nat.zero_le _, rfl, World.ownsRow_nil _ _ _ _, Below.refl _ _⟩
      case round =>
        obtain ⟨j, hj, rfl, ho, hb⟩ := hrel
        have hple := peersK_le k j
        by_cases hltj : j < n
        · by_cases hjk : j = k
          · subst hjk
            have e : peersK j (j + 1) = peersK j j := by rw [peersK_succ, if_pos rfl]
            have He := Lib.hid e
            clear e
            go_wp2_with (fail)
            exact ⟨⟨j + 1, by omega, by go_num, by rw [He.out]; exact ho, hb⟩, by simp [intOf]; omega⟩
          · have hne : ((j : Int) != (k : Int)) = true := by simp; omega
            have hne' : ((j : Int) == (k : Int)) = false := by simp; omega
            have e : peersK k (j + 1) = peersK k j ++ [(j : Int)] := by rw [peersK_succ, if_neg hjk]
            have He := Lib.hid e
            clear e hjk
            go_wp2_with (at_builtin; refine app_int _ rfl (.tmp 27) (.tmp 29) rfl (ho.alloc _) rfl (Reads.new (D := Any) _ [.int .i64 (j : Nat)] 1 1 _ trivial rfl) rfl (by simp [Value.oneCell']) (by omega) (by have := hb.size; simp; omega) ?_; intro v2 w2 hown2 hg2 hat2)
            refine ⟨⟨j + 1, by omega, by go_num, by rw [He.out, List.length_append, nums_append]; exact hown2, (hb.alloc hb.size _).grown hg2 (by have := hb.size; simp; omega) (fun b hb' => (ho.lt b hb').1)⟩, by simp [intOf]; omega⟩
        · obtain rfl : j = n := by omega
          have hpl : (peersK k j).length = j - 1 := peers_len j k hlt
          obtain ⟨A5, c5, e5, h5a, h5b, hr5⟩ := Reads.of_own ho
          subst e5
          have hpn : (peersK k j).Nodup := peers_nodup j k
          have NA := Lib.hid (new_any wr A5 (peersK k j).length c5 (peersK k j) rfl (by omega) h5a hpn (hr5.imp (by omega) fun _ _ _ => trivial))
          have Hpl := Lib.hid hpl
          obtain ⟨p, hp⟩ : ∃ p, p = (peersK k j).length := ⟨_, rfl⟩
          rw [← hp] at NA ⊢
          have hb' := hb
          clear ho hr5 hpn hple hpl hp h5a h5b hltj
          go_wp2_with (fail)
          refine NA.out.mono ?_
          rintro e w3 ⟨S, rfl, hS, hb3⟩
          have hb03 : Below wo.heap.size wo w3 := hb'.trans (hb3.mono hb'.size)
          obtain ⟨hT3, hrow3⟩ := HN.out.side hb03
          obtain ⟨A6, c6, e6⟩ := HN.out.form
          subst e6
          have t1 := hT3.cell 1
          simp only [List.getElem?_cons_zero, List.getElem?_cons_succ] at t1
          have lT3 := hT3.lt
          have hS' : Side w3 S (fun b => wr.heap.size ≤ b) (sd1 coins.length k) := by
            have e1 : sd1 coins.length k = ⟨peersK k j, false, 0, List.replicate (peersK k j).length false, List.replicate (peersK k j).length []⟩ := by
              rw [Hpl.out, ← Hn.out]
              rfl
            rw [e1]
            exact hS
          have HS := Lib.hid hS'
          have HTB := Lib.hid hT3
          have Hrow := Lib.hid hrow3
          have hsz03 := hb03.size
          have hszr := hb'.size
          clear hS hS' hT3 NA hb3
          go_wp2_with (at_builtin; refine app_ptr _ rfl (.tmp 41) (.tmp 43) rfl (hrow3.alloc _) rfl (Reads.new (D := Any) _ [.pointer (some ⟨S, 0, none⟩)] 1 1 _ trivial rfl) rfl (by simp [Value.oneCell']) (by omega) (by simp; omega) ?_; intro v4 w4 hown4 hg4 hat4; obtain ⟨A8, c8, rfl, hn8⟩ := own_form hown4; have hT4 := (HTB.out.alloc (.cells #[.pointer (some ⟨S, 0, none⟩)] 23)).grown hg4 (fun e => own_ne Hrow.out HTB.out (by decide) e.symm); have y4 := hT4.cell 1; simp only [List.getElem?_cons_succ, List.getElem?_cons_zero] at y4; have f4 := hT4.frozen 1; have l4 := hT4.lt)
          obtain ⟨col', hN'⟩ := HN.out.step hb03 HS.out (fun b e => by omega) hg4 hown4 hat4
          exact ⟨⟨k + 1, col', _, _, by omega, by go_num, hN'⟩, by simp [intOf]; omega⟩
    · obtain rfl : k = n := by omega
      go_wp2_with (fail)
      go_ret
      have hN := HN.out
      have hbl := hN.bl
      have e := Hn.out
      subst e
      exact ⟨T, col, rfl, hN.done hn0, hbl⟩
end Go.Proofs.Ytpnhmplinkakbaa
