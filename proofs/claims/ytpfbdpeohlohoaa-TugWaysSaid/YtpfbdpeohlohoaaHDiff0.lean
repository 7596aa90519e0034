/- What tug.Differencing does to its items, told on trees; what lies in memory when an item is made. No condition. -/
import Derived.Test.YtpfbdpeohlohoaaHRow
import Derived.Test.YtpfbdpeohlohoaaGa1
namespace Go.Proofs.Ytpfbdpeohlohoaa.H
open Go.Proofs.Ytpfbdpeohlohoaa.Ga
open Go.Sort hiding rd
open Go.RowKit Go.Proofs.YtpfbdpeohlohoaaW.PrintWords Go.Proofs.YtpfbdpeohlohoaaW.PrintLast Go.Proofs.YtpfbdpeohlohoaaW.PrintMore
set_option linter.unusedVariables false
set_option linter.unusedSimpArgs false
/-- The items at first. -/
def lvs (l : List Int) (j : Nat) : List KT := (List.range j).map (fun i : Nat => KT.leaf (rd l (i : Int)) (i : Int))
theorem lvs_succ (l : List Int) (j : Nat) : lvs l (j + 1) = lvs l j ++ [KT.leaf (rd l (j : Int)) (j : Int)] := by simp [lvs, List.range_succ]
theorem lvs_length (l : List Int) (j : Nat) : (lvs l j).length = j := by simp [lvs]
/-- The items after some rounds. -/
def kkr : Nat → List KT → Int → List KT
  | 0, ts, _ => ts
  | n + 1, ts, made => match ts.mergeSort KT.le with
    | a :: b :: rest => kkr n (rest ++ [KT.node (wrap64 (a.worth - b.worth)) made a b]) (wrap64 (made + 1))
    | _ => ts
def flipAll (l : List Int) : List Int := l.map (fun x => wrap64 (1 - x))
def kkEnd (l : List Int) : List KT → Option (Int × List Int × Int)
  | [t] => (t.place (List.replicate l.length 0) 0).bind fun out => if rd out 0 = 1 then some (t.worth, flipAll out, 0) else some (t.worth, out, 0)
  | _ => none
def tug_Differencing.f (k : Nat) (l0 : List Int) : Option (Int × List Int × Int) := (tug_check.f k l0 14).bind fun t5 => (if t5 = 0 then (if 0 < l0.length ∧ l0.length < 1000 then kkEnd l0 (kkr (l0.length - 1) (lvs l0 l0.length) (l0.length : Int)) else none) else some (0, [], t5))
theorem tug_Differencing.mono : ∀ a0 k, LeO (tug_Differencing.f k a0) (tug_Differencing.f (k + 1) a0) := by
  intro a0 k
  unfold tug_Differencing.f
  repeat' first
    | (with_reducible exact tug_check.mono _ _ _)
    | (with_reducible exact LeO.refl _)
    | (with_reducible exact LeO.none _)
    | (with_reducible refine LeO.ite ?_ ?_)
    | (with_reducible refine LeO.bind ?_ (fun _ => ?_))
/-- The items' numbers: all below the next one, no two alike. -/
def Fresh (ts : List KT) (made : Int) : Prop := (ts.map KT.made).Nodup ∧ ∀ t ∈ ts, t.made < made
theorem Fresh.next {ts rest : List KT} {a b : KT} {made : Int} {p : Int} (h : Fresh ts made) (e : ts.mergeSort KT.le = a :: b :: rest) : Fresh (rest ++ [KT.node p made a b]) (made + 1) := by
  have hp : (a :: b :: rest).Perm ts := by rw [← e]; exact List.mergeSort_perm _ _
  obtain ⟨h1, h2⟩ := h
  have h3 : ((a :: b :: rest).map KT.made).Nodup := (hp.map KT.made).nodup_iff.2 h1
  have h4 : ∀ t ∈ rest, t.made < made := fun t ht => h2 t (hp.mem_iff.1 (by simp [ht]))
  refine ⟨?_, fun t ht => ?_⟩
  · rw [List.map_append, List.nodup_append]
    simp only [List.map_cons, List.nodup_cons] at h3
    refine ⟨h3.2.2, by simp, ?_⟩
    intro x hx y hy hxy
    obtain ⟨t, ht, rfl⟩ := List.mem_map.1 hx
    simp at hy
    have := h4 t ht
    subst hy
    simp only [KT.made] at hxy
    unfold KT.made at *
    omega
  · rcases List.mem_append.1 ht with ht | ht
    · have := h4 t ht; omega
    · simp at ht
      subst ht
      show made < made + 1
      omega
theorem lvs_fresh (l : List Int) (j : Nat) : Fresh (lvs l j) (j : Int) := by
  refine ⟨?_, fun t ht => ?_⟩
  · unfold lvs
    rw [List.map_map]
    rw [List.nodup_iff_pairwise_ne, List.pairwise_map]
    exact (List.nodup_iff_pairwise_ne.1 List.nodup_range).imp (fun {a b} h e => h (Int.ofNat.inj (show (a : Int) = (b : Int) from by simpa [KT.made] using e)))
  · unfold lvs at ht
    obtain ⟨i, hi, rfl⟩ := List.mem_map.1 ht
    have := List.mem_range.1 hi
    simp [KT.made]
    omega
/-! ### Making an item -/
section
variable {base : Nat} {w : World} {v : Value} {xs : List (KT × Nat)}
theorem leaf_ready (HO : IRow base w v xs) (p i : Int) :
    IRow base ((w.alloc (.cells #[.int .i64 p, .int .i64 i, .int .i64 i, .pointer none, .pointer none] 63)).alloc (.cells #[.pointer (some ⟨w.heap.size, 0, none⟩)] 59)) v xs ∧
    (KT.leaf p i).At ((w.alloc (.cells #[.int .i64 p, .int .i64 i, .int .i64 i, .pointer none, .pointer none] 63)).alloc (.cells #[.pointer (some ⟨w.heap.size, 0, none⟩)] 59)) w.heap.size ∧
    ((w.alloc (.cells #[.int .i64 p, .int .i64 i, .int .i64 i, .pointer none, .pointer none] 63)).alloc (.cells #[.pointer (some ⟨w.heap.size, 0, none⟩)] 59)).cell? ⟨w.heap.size + 1, 0, none⟩ = some (kptr (KT.leaf p i, w.heap.size)) := by
  refine ⟨(HO.alloc _).alloc _, blk_alloc (heap_alloc_new w _) _, ?_⟩
  have h := heap_alloc_new (w.alloc (.cells #[.int .i64 p, .int .i64 i, .int .i64 i, .pointer none, .pointer none] 63)) (.cells #[.pointer (some ⟨w.heap.size, 0, none⟩)] 59)
  have z : (w.alloc (.cells #[.int .i64 p, .int .i64 i, .int .i64 i, .pointer none, .pointer none] 63)).heap.size = w.heap.size + 1 := by simp
  rw [z] at h
  exact (blk_cell h 0).trans rfl
theorem node_ready (HO : IRow base w v xs) (p i : Int) {a b : KT} {ga gb : Nat} (ha : a.At w ga) (hb : b.At w gb) :
    IRow base ((w.alloc (.cells #[.int .i64 p, .int .i64 i, .int .i64 (-1), .pointer (some ⟨ga, 0, none⟩), .pointer (some ⟨gb, 0, none⟩)] 63)).alloc (.cells #[.pointer (some ⟨w.heap.size, 0, none⟩)] 59)) v xs ∧
    (KT.node p i a b).At ((w.alloc (.cells #[.int .i64 p, .int .i64 i, .int .i64 (-1), .pointer (some ⟨ga, 0, none⟩), .pointer (some ⟨gb, 0, none⟩)] 63)).alloc (.cells #[.pointer (some ⟨w.heap.size, 0, none⟩)] 59)) w.heap.size ∧
    ((w.alloc (.cells #[.int .i64 p, .int .i64 i, .int .i64 (-1), .pointer (some ⟨ga, 0, none⟩), .pointer (some ⟨gb, 0, none⟩)] 63)).alloc (.cells #[.pointer (some ⟨w.heap.size, 0, none⟩)] 59)).cell? ⟨w.heap.size + 1, 0, none⟩ = some (kptr (KT.node p i a b, w.heap.size)) := by
  have hk := (Kp.alloc w (.cells #[.int .i64 p, .int .i64 i, .int .i64 (-1), .pointer (some ⟨ga, 0, none⟩), .pointer (some ⟨gb, 0, none⟩)] 63)).trans (Kp.alloc _ (.cells #[.pointer (some ⟨w.heap.size, 0, none⟩)] 59))
  refine ⟨(HO.alloc _).alloc _, ⟨ga, gb, blk_alloc (heap_alloc_new w _) _, ha.keep hk, hb.keep hk⟩, ?_⟩
  have h := heap_alloc_new (w.alloc (.cells #[.int .i64 p, .int .i64 i, .int .i64 (-1), .pointer (some ⟨ga, 0, none⟩), .pointer (some ⟨gb, 0, none⟩)] 63)) (.cells #[.pointer (some ⟨w.heap.size, 0, none⟩)] 59)
  have z : (w.alloc (.cells #[.int .i64 p, .int .i64 i, .int .i64 (-1), .pointer (some ⟨ga, 0, none⟩), .pointer (some ⟨gb, 0, none⟩)] 63)).heap.size = w.heap.size + 1 := by simp
  rw [z] at h
  exact (blk_cell h 0).trans rfl
end
end Go.Proofs.Ytpfbdpeohlohoaa.H
