/- Contract of version.Both at two sets. -/
import Derived.Test.YtcmohbeibnfpaaaDoorVerNot
import Derived.Deep.CutBlock
set_option linter.unusedVariables false
namespace Go.Ver
theorem both_take (a b : List Rg) (k : Nat) (h : k < a.length) : bothF (a.take (k + 1)) b = bothF (a.take k) b ++ b.filterMap (cutR a[k]) := by
  unfold bothF
  rw [List.take_succ_eq_append_getElem h, List.flatMap_append, List.flatMap_cons, List.flatMap_nil, List.append_nil]
theorem both_len2 (a b : List Rg) : (bothF a b).length ≤ a.length * b.length := by
  induction a with
  | nil => simp [bothF]
  | cons x a ih =>
    have e : bothF (x :: a) b = b.filterMap (cutR x) ++ bothF a b := rfl
    have := List.length_filterMap_le (cutR x) b
    rw [e, List.length_append, List.length_cons, Nat.add_mul]
    omega
theorem acc_le {a b acc : List Rg} {x : Rg} {j i : Nat} (ha : a.length ≤ 50) (hb : b.length ≤ 50) (h : acc = bothF (a.take j) b ++ (b.take i).filterMap (cutR x)) : acc.length ≤ 3000 := by
  have h1 := both_len2 (a.take j) b
  have h2 := List.length_filterMap_le (cutR x) (b.take i)
  have h3 : (a.take j).length * b.length ≤ 50 * 50 := Nat.mul_le_mul (by rw [List.length_take]; omega) hb
  have h4 : (b.take i).length ≤ 50 := by rw [List.length_take]; omega
  rw [h, List.length_append]
  omega
theorem cut_take (x : Rg) (b : List Rg) (k : Nat) (h : k < b.length) : (b.take (k + 1)).filterMap (cutR x) = (b.take k).filterMap (cutR x) ++ (if max x.1 b[k].1 ≤ min x.2 b[k].2 then [(max x.1 b[k].1, min x.2 b[k].2)] else []) := by
  rw [List.take_succ_eq_append_getElem h, List.filterMap_append]
  congr 1
  unfold cutR
  simp only [List.filterMap_cons, List.filterMap_nil]
  split <;> rename_i h1
  · split at h1
    · cases h1
    · rename_i h2; rw [if_neg h2]
  · split at h1
    · rename_i h2
      injection h1 with h1
      rw [if_pos h2, h1]
    · cases h1
end Go.Ver
namespace Go.Proofs.YtcmohbeibnfpaaaDoor
open Go.RowKit Go.Mem Go.Ver
theorem reads_new3 (w : World) (o p : Obj) (cs : List Value) (size n : Nat) (e : TypeId) (hl : cs.length = n * size) : Reads (((w.alloc o).alloc p).alloc (.cells cs.toArray e)) Any size (some ⟨w.heap.size + 1 + 1, 0, none⟩) n cs := by
  have := Reads.new (D := Any) ((w.alloc o).alloc p) cs size n e trivial hl
  simpa using this
theorem run_max_nat (x y : Nat) (W : World) (ts : Array TypeId) (t : TypeId) : (Builtin.max_ ts t #[.int .i64 (x : Nat), .int .i64 (y : Nat)]).run Tryd.prog W = .ok (.int .i64 ((max x y : Nat) : Int)) W := by
  rw [run_max_int2]
  congr 2
  split <;> omega
theorem run_min_nat (x y : Nat) (W : World) (ts : Array TypeId) (t : TypeId) : (Builtin.min_ ts t #[.int .i64 (x : Nat), .int .i64 (y : Nat)]).run Tryd.prog W = .ok (.int .i64 ((min x y : Nat) : Int)) W := by
  rw [run_min_int2]
  congr 2
  split <;> omega
end Go.Proofs.YtcmohbeibnfpaaaDoor
