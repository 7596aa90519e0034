/- The items of tug.Differencing as trees, their row in memory; the walks of value.before, of the comparing closure, of item.place, of an append and of the library's sort. No condition. -/
import Derived.Test.YtpfbdpeohlohoaaHSort
import Derived.BigRegion
import Derived.BigQuiet
import Derived.Deep.RegionHeld3
import Derived.Laws.EntriesVeiled
import Derived.Outline
import Derived.Shelf.SlSortCmp.Kit1
import Derived.Lib.BufferWrite
import Derived.Shelf.SlSortCmp.Whole1
import Derived.Sort.LotA
namespace Go.Proofs.Ytpfbdpeohlohoaa.H
open Go.RowKit Go.Sort Go.Proofs.YtpfbdpeohlohoaaW.PrintWords Go.Proofs.YtpfbdpeohlohoaaW.PrintLast Go.Proofs.YtpfbdpeohlohoaaW.PrintMore
set_option linter.unusedVariables false
set_option linter.unusedSimpArgs false

inductive KT where
  | leaf (p i : Int)
  | node (p i : Int) (a b : KT)
deriving Inhabited
def KT.worth : KT → Int
  | .leaf p _ => p
  | .node p _ _ _ => p
def KT.made : KT → Int
  | .leaf _ i => i
  | .node _ i _ _ => i
def KT.pull : KT → Int
  | .leaf _ i => i
  | .node _ _ _ _ => -1
/-- a comes ahead of b. -/
def KT.lt (a b : KT) : Bool := decide (b.worth < a.worth) || (decide (a.worth = b.worth) && decide (a.made < b.made))
def KT.cf (a b : KT) : Int := if KT.lt a b then -1 else 1
/-- An item lies in block g. -/
def KT.At (w : World) : KT → Nat → Prop
  | .leaf p i, g => w.heap[g]? = some (.cells #[.int .i64 p, .int .i64 i, .int .i64 i, .pointer none, .pointer none] 63 (0, 0))
  | .node p i a b, g => ∃ ga gb, w.heap[g]? = some (.cells #[.int .i64 p, .int .i64 i, .int .i64 (-1), .pointer (some ⟨ga, 0, none⟩), .pointer (some ⟨gb, 0, none⟩)] 63 (0, 0)) ∧ a.At w ga ∧ b.At w gb
/-- No item's block is turned. -/
def Kp (w w' : World) : Prop := ∀ (g : Nat) (c : Array Value) (f : Nat × Nat), w.heap[g]? = some (Obj.cells c 63 f) → w'.heap[g]? = w.heap[g]?
theorem Kp.blk {w w' : World} {g : Nat} {c : Array Value} {f : Nat × Nat} (h : Kp w w') (ht : w.heap[g]? = some (Obj.cells c 63 f)) : w'.heap[g]? = some (Obj.cells c 63 f) := (h g c f ht).trans ht
theorem gr_trans {a b c : World} {row : Option Nat} (h : a.grownBy b row) (k : b.grownBy c row) : a.grownBy c row :=
  ⟨k.os.trans h.os, k.tape.trans h.tape, k.output.trans h.output, Nat.le_trans h.size k.size, fun i hi hne => (k.block i (Nat.lt_of_lt_of_le hi h.size) hne).trans (h.block i hi hne)⟩
theorem Kp.refl (w : World) : Kp w w := fun _ _ _ _ => rfl
theorem Kp.trans {w w1 w2 : World} (h1 : Kp w w1) (h2 : Kp w1 w2) : Kp w w2 := fun g c f h => (h2 g c f ((h1 g c f h).trans h)).trans (h1 g c f h)
theorem Kp.below {w w' : World} (h : Below w.heap.size w w') : Kp w w' := fun g c f h1 => h.block g (Array.getElem?_eq_some_iff.1 h1).1
theorem Kp.drew (w : World) : Kp w w.drew := fun _ _ _ _ => rfl
theorem Kp.alloc (w : World) (o : Obj) : Kp w (w.alloc o) := fun g c f h => by
  have := (Array.getElem?_eq_some_iff.1 h).1
  show (w.heap.push o)[g]? = _
  rw [Array.getElem?_push, if_neg (Nat.ne_of_lt this)]
theorem Kp.grown {w w' : World} {k : Nat} {c : Array Value} {e : TypeId} {f : Nat × Nat} (h : w.grownBy w' (some k)) (hk : w.heap[k]? = some (.cells c e f)) (he : e ≠ 63) : Kp w w' := fun g c1 f1 h1 => h.block g (Array.getElem?_eq_some_iff.1 h1).1 (by
  intro e1
  cases e1
  rw [h1] at hk
  cases hk
  exact he rfl)
theorem Kp.grown0 {w w' : World} (h : w.grownBy w' none) : Kp w w' := fun g c1 f1 h1 => h.block g (Array.getElem?_eq_some_iff.1 h1).1 (by simp)
theorem KT.At.keep {w w' : World} (h : Kp w w') : ∀ {t : KT} {g : Nat}, t.At w g → t.At w' g
  | .leaf p i, g, ht => (h g _ _ ht).trans ht
  | .node p i a b, g, ⟨ga, gb, h1, h2, h3⟩ => ⟨ga, gb, (h g _ _ h1).trans h1, KT.At.keep h h2, KT.At.keep h h3⟩
theorem KT.At.cells {w : World} {t : KT} {g : Nat} (h : t.At w g) : ∃ p3 p4, w.heap[g]? = some (.cells #[.int .i64 t.worth, .int .i64 t.made, .int .i64 t.pull, p3, p4] 63 (0, 0)) := by
  cases t with
  | leaf p i => exact ⟨_, _, h⟩
  | node p i a b =>
    obtain ⟨ga, gb, h1, _⟩ := h
    exact ⟨_, _, h1⟩

set_option maxHeartbeats 2000000 in
set_option maxRecDepth 100000 in
theorem before_calls (p i q j : Int) (w : World) :
    Calls Try.prog 46 #[.agg #[.int .i64 p, .int .i64 i], .agg #[.int .i64 q, .int .i64 j]] w fun e w' => e = .returned (.bool (decide (q < p) || (decide (p = q) && decide (i < j)))) ∧ ∃ n os, w' = grow (w.drewN n) os := by
  go_enter Try.func46, Try.ntmps46
  go_wp2
  all_goals
    go_ret
    refine ⟨?_, 0, _, (alloc_eq_grow _ _).trans ((congrArg (fun x => grow x _) (alloc_eq_grow w _)).trans (grow_grow _ _ _))⟩
    simp_all

set_option maxHeartbeats 2000000 in
set_option maxRecDepth 100000 in
/-- The comparing closure: in whatever world in which both items lie. -/
theorem cmp_calls (a b : KT) (ga gb : Nat) (w : World) (ha : a.At w ga) (hb : b.At w gb) :
    Calls Try.prog 45 #[.pointer (some ⟨ga, 0, none⟩), .pointer (some ⟨gb, 0, none⟩)] w fun e w' => e = .returned (.int .i64 (KT.cf a b)) ∧ ∃ n os, w' = grow (w.drewN n) os := by
  obtain ⟨a3, a4, hA⟩ := ha.cells
  obtain ⟨b3, b4, hB⟩ := hb.cells
  have eA0 := (blk_cell hA 0).trans (rfl : _ = some (Value.int .i64 a.worth))
  have eA1 := (blk_cell hA 1).trans (rfl : _ = some (Value.int .i64 a.made))
  have eB0 := (blk_cell hB 0).trans (rfl : _ = some (Value.int .i64 b.worth))
  have eB1 := (blk_cell hB 1).trans (rfl : _ = some (Value.int .i64 b.made))
  have hc : KT.cf a b = if (decide (b.worth < a.worth) || (decide (a.worth = b.worth) && decide (a.made < b.made))) = true then -1 else 1 := rfl
  rw [hc]
  generalize a.worth = p at *
  generalize a.made = i at *
  generalize b.worth = q at *
  generalize b.made = j at *
  clear hA hB ha hb hc
  have HC := Aside0.mk (fun W => before_calls p i q j W)
  generalize hd : (decide (q < p) || (decide (p = q) && decide (i < j))) = d at HC ⊢
  clear hd
  cases d
  all_goals
    go_enter Try.func45, Try.ntmps45
    go_wp2
    go_region_with (go_at_call 46; refine (HC.out _).mono ?_; rintro e w' ⟨rfl, n, os, rfl⟩)
    all_goals
      go_wp2
      go_ret
      exact ⟨rfl, _, _, rfl⟩

/-- The pulls of an item are put on sides. -/
def KT.place : KT → List Int → Int → Option (List Int)
  | .leaf p i, l, s => if 0 ≤ i ∧ i < (l.length : Int) then some (l.set i.toNat s) else none
  | .node p i a b, l, s => (a.place l s).bind fun l1 => b.place l1 (wrap64 (1 - s))
theorem own_block {base e go n m c : Nat} {w : World} {xs : List Value} (h : w.ownsRow base e 1 (.slice (some ⟨go, 0, none⟩) n c) m xs) : ∃ cur, w.heap[go]? = some (Obj.cells cur e (0, 0)) := by
  obtain ⟨h1, h2⟩ := h
  rcases h2 with ⟨e1, _⟩ | ⟨g, cap, cur, e1, hb, hh, _⟩
  · cases e1
  · injection e1 with e2 _ e3
    injection e2 with e2
    injection e2 with e2 _ _
    subst e2
    exact ⟨cur, hh⟩
/-- The row of sides, and no item's block turned. -/
structure PSt (base go n c : Nat) (w W : World) (l : List Int) : Prop where
  kp : Kp w W
  lt : go < w.heap.size
  gr : w.grownBy W (some go)
  row : Kd.R (Kd.int .i64) 3 W base (fun k => k = go) (.slice (some ⟨go, 0, none⟩) n c) l

set_option maxHeartbeats 2000000 in
set_option maxRecDepth 100000 in
theorem place_calls (base go n c : Nat) : ∀ (t : KT) (g : Nat) (l l' : List Int) (s : Int) (w : World), t.At w g → Kd.R (Kd.int .i64) 3 w base (fun k => k = go) (.slice (some ⟨go, 0, none⟩) n c) l → t.place l s = some l' →
    Calls Try.prog 47 #[.pointer (some ⟨g, 0, none⟩), .slice (some ⟨go, 0, none⟩) n c, .int .i64 s] w fun e w' => e = .returned (.tuple #[]) ∧ PSt base go n c w w' l' := by
  intro t
  induction t with
  | leaf p i =>
    intro g l l' s w ht hr h
    unfold KT.place at h
    by_cases c1 : 0 ≤ i ∧ i < (l.length : Int)
    · rw [if_pos c1] at h
      obtain ⟨q1, q2⟩ := c1
      simp only [Option.some.injEq] at h
      subst h
      have eP := (blk_cell ht 2).trans (rfl : _ = some (Value.int .i64 i))
      have q2 : i < (n : Int) := by rw [(Kd.R_reads' hr).1]; exact q2
      obtain ⟨hs, hf⟩ := Kd.R_celln 0 hr i q1 q2
      have HR := Aside0.mk hr
      have HT := Aside0.mk ht
      clear hr ht
      go_enter Try.func47, Try.ntmps47
      go_wp2
      (first | go_end0 | refine bodyPost_ret (results_none rfl _ _ _) rfl ?_)
      have hown := Kd.own_of_R HR.out
      have hlt := own_lt hown go rfl
      have hgr := Go.Lib.grownBy_setCell w go i.toNat (.int .i64 s)
      obtain ⟨cur, hcur⟩ := own_block hown
      exact ⟨rfl, Kp.grown hgr hcur (by decide), hlt, hgr, (Kd.R_putn HR.out i s)⟩
    · rw [if_neg c1] at h
      exact absurd h (by simp)
  | node p i a b iha ihb =>
    intro g l l' s w ht0 hr h
    obtain ⟨ga, gb, ht, hta, htb⟩ := ht0
    unfold KT.place at h
    obtain ⟨l1, h1, h2⟩ := Option.bind_eq_some_iff.mp h
    have IHa := Aside0.mk (iha ga l l1 s w hta hr h1)
    have IHb := Aside0.mk (fun W (hk : Kp w W) hR => ihb gb l1 l' (wrap64 (1 - s)) W (htb.keep hk) hR h2)
    clear h h1 h2 iha ihb
    have eP := (blk_cell ht 2).trans (rfl : _ = some (Value.int .i64 (-1)))
    have eA := (blk_cell ht 3).trans (rfl : _ = some (Value.pointer (some ⟨ga, 0, none⟩)))
    have HT := Aside0.mk ht
    obtain ⟨y, hy⟩ : ∃ j_ : Int, wrap64 (1 - s) = j_ := ⟨_, rfl⟩
    have hyw : IntKind.i64.wrap (1 - s) = y := (i64_w _).trans hy
    rw [hy] at IHb
    clear hr hta htb ht
    go_enter Try.func47, Try.ntmps47
    go_wp2_with (first | (go_at_call 47; (first | (refine (IHb.out _ HP.out.kp HP.out.row).mono ?_; rintro e w6 ⟨rfl, hp⟩; have HQ := Aside0.mk hp; clear hp) | (refine IHa.out.mono ?_; rintro e w5 ⟨rfl, hp⟩; have eB := (blk_cell (Kp.blk hp.kp HT.out) 4).trans (rfl : _ = some (Value.pointer (some ⟨gb, 0, none⟩))); have HP := Aside0.mk hp; clear hp))))
    (first | go_end0 | refine bodyPost_ret (results_none rfl _ _ _) rfl ?_)
    exact ⟨rfl, HP.out.kp.trans HQ.out.kp, HP.out.lt, gr_trans HP.out.gr HQ.out.gr, HQ.out.row⟩
end Go.Proofs.Ytpfbdpeohlohoaa.H
namespace Go.Proofs.Ytpfbdpeohlohoaa.H
open Go.RowKit Go.Sort Go.Proofs.YtpfbdpeohlohoaaW.PrintWords Go.Proofs.YtpfbdpeohlohoaaW.PrintLast Go.Proofs.YtpfbdpeohlohoaaW.PrintMore
set_option linter.unusedVariables false
set_option linter.unusedSimpArgs false

def kptr (x : KT × Nat) : Value := .pointer (some ⟨x.2, 0, none⟩)
def IRow (base : Nat) (w : World) (v : Value) (xs : List (KT × Nat)) : Prop :=
  (∀ x ∈ xs, x.1.At w x.2) ∧ ((v = .slice none 0 0 ∧ xs = []) ∨ ∃ (g off cap : Nat) (cur : Array Value), v = .slice (some ⟨g, off, none⟩) xs.length cap ∧ base ≤ g ∧ w.heap[g]? = some (Obj.cells cur 59 (0, 0)) ∧ xs.length ≤ cap ∧ off + cap ≤ cur.size ∧ (cur.toList.drop off).take xs.length = xs.map kptr)

theorem IRow.keep {base : Nat} {w w' : World} {v : Value} {xs : List (KT × Nat)} (h : IRow base w v xs) (hk : Kp w w') (hb : ∀ g, g < w.heap.size → base ≤ g → (∃ cur, w.heap[g]? = some (Obj.cells cur 59 (0, 0))) → w'.heap[g]? = w.heap[g]?) : IRow base w' v xs := by
  obtain ⟨h1, h2⟩ := h
  refine ⟨fun x hx => (h1 x hx).keep hk, ?_⟩
  rcases h2 with h2 | ⟨g, off, cap, cur, e1, e2, e3, e4, e5, e6⟩
  · exact .inl h2
  · exact .inr ⟨g, off, cap, cur, e1, e2, (hb g (blk_lt e3) e2 ⟨_, e3⟩).trans e3, e4, e5, e6⟩
theorem IRow.below {base : Nat} {w w' : World} {v : Value} {xs : List (KT × Nat)} (h : IRow base w v xs) (hb : Below w.heap.size w w') : IRow base w' v xs := h.keep (Kp.below hb) (fun g hg _ _ => hb.block g hg)
theorem IRow.drew {base : Nat} {w : World} {v : Value} {xs : List (KT × Nat)} (h : IRow base w v xs) : IRow base w.drew v xs := h.keep (Kp.drew w) (fun g hg _ _ => rfl)
theorem IRow.drewN {base : Nat} {w : World} {v : Value} {xs : List (KT × Nat)} (h : IRow base w v xs) (n : Nat) : IRow base (w.drewN n) v xs := h.keep (fun _ _ _ _ => rfl) (fun g hg _ _ => rfl)
theorem IRow.alloc {base : Nat} {w : World} {v : Value} {xs : List (KT × Nat)} (h : IRow base w v xs) (o : Obj) : IRow base (w.alloc o) v xs := h.keep (Kp.alloc w o) (fun g hg _ _ => by
  show (w.heap.push o)[g]? = _
  rw [Array.getElem?_push, if_neg (Nat.ne_of_lt hg)])
theorem IRow.nil (base : Nat) (w : World) : IRow base w (.slice none 0 0) [] := ⟨fun x hx => by simp at hx, .inl ⟨rfl, rfl⟩⟩
/-- The shape of a row that holds something. -/
theorem IRow.form {base : Nat} {w : World} {v : Value} {xs : List (KT × Nat)} (h : IRow base w v xs) (hp : 0 < xs.length) : ∃ g off cap, v = .slice (some ⟨g, off, none⟩) xs.length cap ∧ base ≤ g ∧ g < w.heap.size ∧ xs.length ≤ cap := by
  rcases h.2 with ⟨_, h2⟩ | ⟨g, off, cap, cur, e1, e2, e3, e4, e5, e6⟩
  · simp [h2] at hp
  · exact ⟨g, off, cap, e1, e2, blk_lt e3, e4⟩
theorem IRow.at_ {base : Nat} {w : World} {g off n cap : Nat} {xs : List (KT × Nat)} (h : IRow base w (.slice (some ⟨g, off, none⟩) n cap) xs) (j : Nat) (hj : j < xs.length) : w.cell? ⟨g, off + j, none⟩ = some (kptr xs[j]) ∧ w.frozen? ⟨g, off + j, none⟩ = false ∧ (xs[j]).1.At w (xs[j]).2 := by
  rcases h.2 with ⟨h2, _⟩ | ⟨g', off', cap', cur, e1, e2, e3, e4, e5, e6⟩
  · cases h2
  · injection e1 with a1 a2 a3
    injection a1 with a1
    injection a1 with b1 b2 _
    subst b1 b2 a3
    refine ⟨?_, by simp [World.frozen?, e3], h.1 _ (List.getElem_mem hj)⟩
    rw [blk_cell e3]
    have h3 : ((cur.toList.drop off).take xs.length)[j]? = (xs.map kptr)[j]? := by rw [e6]
    rw [List.getElem?_take_of_lt hj, List.getElem?_drop, Array.getElem?_toList] at h3
    rw [h3]
    simp [hj]
theorem IRow.len {base : Nat} {w : World} {g off n cap : Nat} {xs : List (KT × Nat)} (h : IRow base w (.slice (some ⟨g, off, none⟩) n cap) xs) : n = xs.length ∧ xs.length ≤ cap := by
  rcases h.2 with ⟨h2, _⟩ | ⟨g', off', cap', cur, e1, e2, e3, e4, e5, e6⟩
  · cases h2
  · injection e1 with a1 a2 a3
    subst a2 a3
    exact ⟨rfl, e4⟩
/-- All but the first two. -/
theorem IRow.drop2 {base : Nat} {w : World} {g off n cap : Nat} {xs : List (KT × Nat)} (h : IRow base w (.slice (some ⟨g, off, none⟩) n cap) xs) (hn : 2 ≤ n) : IRow base w (.slice (some ⟨g, off + 2, none⟩) (n - 2) (cap - 2)) (xs.drop 2) := by
  obtain ⟨h1, h2⟩ := h
  refine ⟨fun x hx => h1 x (List.mem_of_mem_drop hx), ?_⟩
  rcases h2 with ⟨h2, _⟩ | ⟨g', off', cap', cur, e1, e2, e3, e4, e5, e6⟩
  · cases h2
  · injection e1 with a1 a2 a3
    injection a1 with a1
    injection a1 with b1 b2 _
    subst b1 b2 a3
    refine .inr ⟨g, off + 2, cap - 2, cur, by simp [a2], e2, e3, by simp; omega, by omega, ?_⟩
    rw [List.map_drop, ← e6, List.length_drop, ← List.drop_drop]
    generalize cur.toList.drop off = l
    rw [List.drop_take]
/-- .. where the slice's room ends there: its address stays. -/
theorem IRow.drop2z {base : Nat} {w : World} {g off n cap : Nat} {a b : KT × Nat} {xs : List (KT × Nat)} (h : IRow base w (.slice (some ⟨g, off, none⟩) n cap) (a :: b :: xs)) (hn : n = xs.length + 2) (hc : cap = 2) : IRow base w (.slice (some ⟨g, off, none⟩) 0 0) xs := by
  obtain ⟨h1, h2⟩ := h
  refine ⟨fun x hx => h1 x (by simp [hx]), ?_⟩
  rcases h2 with ⟨h2, _⟩ | ⟨g', off', cap', cur, e1, e2, e3, e4, e5, e6⟩
  · cases h2
  · injection e1 with a1 a2 a3
    injection a1 with a1
    injection a1 with b1 b2 _
    subst b1 b2 a3
    have hz : xs.length = 0 := by simp at e4; omega
    have hx : xs = [] := List.length_eq_zero_iff.1 hz
    subst hx
    exact .inr ⟨g, off, 0, cur, rfl, e2, e3, by simp, by omega, by simp⟩

theorem kinfo59 : (Try.prog.info? 59).map (fun i => (i.zero, i.size, i.bytes)) = some (some (.pointer none), 1, 8) := by kernel_rfl
theorem IRow.of_own {base b2 : Nat} {w1 : World} {v1 : Value} {m : Nat} {xs : List (KT × Nat)} (h : w1.ownsRow b2 59 1 v1 m (xs.map kptr)) (hm : m = xs.length) (hb : base ≤ b2) (hp : 0 < xs.length) (hat : ∀ x ∈ xs, x.1.At w1 x.2) : IRow base w1 v1 xs := by
  obtain ⟨_, h2⟩ := h
  refine ⟨hat, ?_⟩
  rcases h2 with ⟨_, h2⟩ | ⟨g, cap, cur, e1, e2, e3, e4, e5, e6, e7⟩
  · omega
  · exact .inr ⟨g, 0, cap, cur, by rw [e1, hm], by omega, e3, by omega, by omega, by rw [List.drop_zero, ← hm]; simpa using e7⟩
theorem run_irow (base : Nat) (ty : TypeId) (w : World) (v : Value) (xs : List (KT × Nat)) (x : KT × Nat) (xb : Nat) (HO : IRow base w v xs) (hx : x.1.At w x.2) (hc : w.cell? ⟨xb, 0, none⟩ = some (kptr x)) (hl : xs.length < 1000) (hbase : base ≤ w.heap.size) :
    ∃ v1 w1, (Builtin.append_ #[58, 58] ty #[v, .slice (some ⟨xb, 0, none⟩) 1 1]).run Try.prog w = .ok v1 w1 ∧ IRow base w1 v1 (xs ++ [x]) ∧ Kp w w1 ∧ (∀ b0 w0, Below b0 w0 w → b0 ≤ base → b0 ≤ w.heap.size → Below b0 w0 w1) := by
  obtain ⟨i0, hi0, hzz⟩ := Option.map_eq_some_iff.1 kinfo59
  simp only [Prod.mk.injEq] at hzz
  obtain ⟨hz0, hz1, hz2⟩ := hzz
  have hnews : ∀ j u, [kptr x][j]? = some u → w.cell? ((⟨xb, 0, none⟩ : Addr).add j) = some u := by
    intro j u hj
    match j, hj with
    | 0, hj =>
      simp at hj
      subst hj
      simpa [Addr.add] using hc
  have h1c : ∀ u ∈ [kptr x], u.oneCell' = true := by
    intro u hu
    simp at hu
    subst hu
    rfl
  have hgrow : ∀ v1 w1, w1.ownsRow base 59 1 v1 (xs.length + 1) (xs.map kptr ++ [kptr x]) → w.grownBy w1 none → IRow base w1 v1 (xs ++ [x]) ∧ Kp w w1 ∧ (∀ b0 w0, Below b0 w0 w → b0 ≤ base → b0 ≤ w.heap.size → Below b0 w0 w1) := by
    intro v1 w1 hown hg
    have hk := Kp.grown0 hg
    refine ⟨IRow.of_own (by simpa using hown) (by simp) (Nat.le_refl _) (by simp) ?_, hk, fun b0 w0 hb _ hs => hb.grown hg hs (fun k hk => by cases hk)⟩
    intro y hy
    rcases List.mem_append.1 hy with hy | hy
    · exact (HO.1 y hy).keep hk
    · simp at hy
      subst hy
      exact hx.keep hk
  rcases HO.2 with ⟨rfl, rfl⟩ | ⟨g, off, cap, cur, rfl, e2, e3, e4, e5, e6⟩
  · obtain ⟨v1, w1, hr, h2, h3, h4, h5⟩ := run_append_own_at (P := Try.prog) w base 58 ty 59 i0 (.pointer none) 1 8 Try.underlying58 hi0 hz0 hz1 hz2 rfl (by decide) (.slice none 0 0) 0 [] ⟨rfl, .inl ⟨rfl, rfl⟩⟩ ⟨xb, 0, none⟩ 1 1 [kptr x] rfl hnews h1c (by simp only [maxLen]; omega) (by omega) hbase
    exact ⟨v1, w1, hr, hgrow v1 w1 h2 h3⟩
  · by_cases hroom : xs.length + 1 ≤ cap
    · have hr := run_append_room_cells (P := Try.prog) w 58 ty 59 i0 Try.underlying58 hi0 g off xs.length cap ⟨xb, 0, none⟩ 1 1 [kptr x] (by rw [hz1]; rfl) hnews h1c hroom (by
        intro j hj
        simp at hj
        subst hj
        rw [hz1, blk_cell e3]
        simp
        omega) (by
        intro j hj
        simp [World.frozen?, e3])
      rw [hz1, Nat.mul_one] at hr
      refine ⟨_, _, hr, ?_⟩
      show IRow base (w.setCell ⟨g, off + xs.length, none⟩ (kptr x)) _ _ ∧ _
      have hg := Go.Lib.grownBy_setCell w g (off + xs.length) (kptr x)
      have hk : Kp w (w.setCell ⟨g, off + xs.length, none⟩ (kptr x)) := Kp.grown hg e3 (by decide)
      refine ⟨⟨?_, .inr ⟨g, off, cap, _, by simp, e2, heap_setCell_same w g _ _ _ _ e3, by simpa using hroom, by simpa using e5, ?_⟩⟩, hk, fun b0 w0 hb h0 hs => hb.grown hg hs (fun k hk => by cases hk; omega)⟩
      · intro y hy
        rcases List.mem_append.1 hy with hy | hy
        · exact (HO.1 y hy).keep hk
        · simp at hy
          subst hy
          exact hx.keep hk
      · rw [List.map_append, ← e6, Array.toList_setIfInBounds]
        simp only [List.length_append, List.length_cons, List.length_nil, List.map_cons, List.map_nil, Nat.zero_add]
        apply List.ext_getElem?
        intro j
        have hcl : off + cap ≤ cur.toList.length := by simpa using e5
        by_cases hj : j < xs.length
        · rw [List.getElem?_take_of_lt (by omega), List.getElem?_drop, List.getElem?_set_ne (by omega), List.getElem?_append_left (by simp; omega), List.getElem?_take_of_lt hj, List.getElem?_drop]
        · by_cases hj2 : j = xs.length
          · subst hj2
            rw [List.getElem?_take_of_lt (by omega), List.getElem?_drop, List.getElem?_set_self (by omega), List.getElem?_append_right (by simp; omega)]
            have : (List.take xs.length (List.drop off cur.toList)).length = xs.length := by rw [List.length_take, List.length_drop]; omega
            rw [this]
            simp
          · rw [List.getElem?_take_eq_none (by omega), List.getElem?_eq_none]
            simp
            omega
    · obtain ⟨v1, w1, hr, h2, h3⟩ := run_append_arg_grows (P := Try.prog) w 58 ty 59 i0 (.pointer none) 1 8 Try.underlying58 hi0 hz0 hz1 hz2 rfl (by decide) ⟨g, off, none⟩ xs.length cap (xs.map kptr) (by simp) (by
        intro j u hj
        have hj2 : j < xs.length := by
          have := (List.getElem?_eq_some_iff.1 hj).1
          simpa using this
        have h4 := (HO.at_ j hj2).1
        simp only [List.getElem?_map, List.getElem?_eq_getElem hj2, Option.map_some] at hj
        rw [← hj, ← h4, Addr.add_lit]) ⟨xb, 0, none⟩ 1 1 [kptr x] rfl hnews (by omega) (by simp only [maxLen]; omega) (by omega)
      refine ⟨v1, w1, hr, hgrow v1 w1 ?_ h3⟩
      obtain ⟨q1, q2⟩ := h2
      refine ⟨q1, ?_⟩
      rcases q2 with q2 | ⟨g1, cap1, cur1, p1, p2, p3⟩
      · exact .inl q2
      · exact .inr ⟨g1, cap1, cur1, p1, by omega, p3⟩

def KT.le (a b : KT) : Bool := !(KT.lt b a)
theorem KT.cf_lt (a b : KT) : decide (KT.cf a b < 0) = KT.lt a b := by
  unfold KT.cf
  cases KT.lt a b <;> rfl
theorem KT.lt_iff (a b : KT) : KT.lt a b = true ↔ (b.worth < a.worth ∨ (a.worth = b.worth ∧ a.made < b.made)) := by simp [KT.lt]
theorem KT.nlt_iff (a b : KT) : KT.lt a b = false ↔ (a.worth < b.worth ∨ (a.worth = b.worth ∧ b.made ≤ a.made)) := by
  rw [← Bool.not_eq_true, KT.lt_iff]
  omega
theorem KT.swo {α : Type} [Inhabited α] (f : α → KT) : SWO (fun x y : α => KT.lt (f x) (f y)) where
  irrefl x := by rw [KT.nlt_iff]; omega
  trans x y z h1 h2 := by rw [KT.lt_iff] at *; omega
  ntrans x y z h1 h2 := by rw [KT.nlt_iff] at *; omega
section
variable {α : Type} [Inhabited α] {enc : α → Value} {w : World} {g off q : Nat} {os : Array Obj} {cur : Array Value} {e : TypeId}
theorem swo_grown (d : Array α) : w.grownBy (sortWorld enc w g off q d os) (some g) := by
  refine ⟨rfl, rfl, rfl, by simp [sortWorld], fun k hk hne => ?_⟩
  unfold sortWorld
  rw [heap_grow_old _ _ (by simpa using hk)]
  have : g ≠ k := fun e => hne (by rw [e])
  simp [putRow, mapBlock, Sort.ahead, Array.getElem?_modify, this]
theorem swo_heap (d : Array α) (hb : w.heap[g]? = some (.cells cur e (0, 0))) : (sortWorld enc w g off q d os).heap[g]? = some (.cells (putCells enc off d cur) e (0, 0)) := by
  have hg : g < w.heap.size := (Array.getElem?_eq_some_iff.1 hb).1
  unfold sortWorld
  rw [heap_grow_old _ _ (by simpa using hg)]
  simp [putRow, mapBlock, Sort.ahead, Array.getElem?_modify, hb, onCells]
theorem swo_take (cur : Array Value) (d : Array α) (h : off + d.size ≤ cur.size) : ((putCells enc off d cur).toList.drop off).take d.size = d.toList.map enc := by
  apply List.ext_getElem?
  intro j
  by_cases hj : j < d.size
  · rw [List.getElem?_take_of_lt hj, List.getElem?_drop, Array.getElem?_toList]
    simp [putCells, hj, show off + j < cur.size by omega]
  · rw [List.getElem?_take_eq_none (by omega), List.getElem?_eq_none (by simp; omega)]
end

theorem kt_sort (base : Nat) (w : World) (g off cap : Nat) (xs : List (KT × Nat)) (HO : IRow base w (.slice (some ⟨g, off, none⟩) xs.length cap) xs) (hp : 0 < xs.length) (hl : xs.length < 1000) (hnd : (xs.map (fun x => x.1.made)).Nodup) :
    Calls Try.prog 44 #[.slice (some ⟨g, off, none⟩) xs.length cap, .func (.func 45) #[] #[]] w fun e w' => e = .returned (.tuple #[]) ∧ ∃ ys : List (KT × Nat), ys.map (fun x => x.1) = (xs.map (fun x => x.1)).mergeSort KT.le ∧ ys.length = xs.length ∧ IRow base w' (.slice (some ⟨g, off, none⟩) xs.length cap) ys ∧ Kp w w' ∧ w.grownBy w' (some g) ∧ base ≤ g := by
  letI : Inhabited (Fin xs.length) := ⟨⟨0, hp⟩⟩
  obtain ⟨hat, h2⟩ := HO
  rcases h2 with ⟨h2, _⟩ | ⟨g', off', cap', cur, e1, e2, e3, e4, e5, e6⟩
  · cases h2
  injection e1 with a1 a2 a3
  injection a1 with a1
  injection a1 with b1 b2 _
  subst b1 b2 a3
  have HO : IRow base w (.slice (some ⟨g, off, none⟩) xs.length cap) xs := ⟨hat, .inr ⟨g, off, cap, cur, rfl, e2, e3, e4, e5, e6⟩⟩
  let enc : Fin xs.length → Value := fun i => kptr xs[i]
  let cf : Fin xs.length → Fin xs.length → Int := fun i j => KT.cf xs[i].1 xs[j].1
  have hlt : ∀ i j, ltOf cf i j = KT.lt xs[i].1 xs[j].1 := fun i j => KT.cf_lt _ _
  have hlt2 : ltOf cf = fun i j => KT.lt xs[i].1 xs[j].1 := funext fun i => funext fun j => hlt i j
  have hO : SWO (ltOf cf) := by
    rw [hlt2]
    exact KT.swo (fun i : Fin xs.length => xs[i].1)
  have eg : ∀ args w, (callFunc 45 args).run Try.prog w = .ok (.enter 45 args) w := fun args w => enters_ (P := Try.prog) Try.func45 (by kernel_rfl) rfl args w
  have hkp : ∀ (d : Array (Fin xs.length)) (q : Nat) (os : Array Obj), Kp w (sortWorld enc w g off q d os) := fun d q os => Kp.grown (swo_grown d) e3 (by decide)
  have hcmp : CmpLays1 Try.prog 45 #[] enc cf g off (Array.ofFn (fun i : Fin xs.length => i)).size w := by
    intro m os dk hdk x y
    exact cmp_calls xs[x].1 xs[y].1 xs[x].2 xs[y].2 _ ((hat _ (List.getElem_mem x.isLt)).keep (hkp dk m os)) ((hat _ (List.getElem_mem y.isLt)).keep (hkp dk m os))
  have hH : Holds enc w g off (Array.ofFn (fun i : Fin xs.length => i)) := by
    intro j hj
    have hj' : j < xs.length := by simpa using hj
    have := HO.at_ j hj'
    refine ⟨?_, this.2.1⟩
    rw [this.1, getElem!_pos _ j hj]
    simp [enc]
  have hs := Any.slices_SortFunc lays_F6_f44 enc (fun _ => rfl) cf hO 45 #[] g off cap (Array.ofFn fun i => i) w eg hcmp hH (blk_lt e3) (by simp; omega)
  rw [Array.size_ofFn] at hs
  refine hs.mono ?_
  rintro e w' ⟨he, d', n, os, hpi, hso, rfl⟩
  refine ⟨he, ?_⟩
  have hT : ∀ x y, (ltOf cf) x y = false → (ltOf cf) y x = false → x = y := by
    intro x y h1 h2
    rw [hlt] at h1 h2
    rw [KT.nlt_iff] at h1 h2
    have hm : (xs[x]).1.made = (xs[y]).1.made := by omega
    have h3 : (xs.map (fun x => x.1.made))[x.val]'(by simp) = (xs.map (fun x => x.1.made))[y.val]'(by simp) := by simpa using hm
    exact Fin.ext ((List.getElem_inj hnd).1 h3)
  have hu := sorted_unique_holds hO hT (Array.ofFn fun i => i) d' (by rw [Array.size_ofFn]; exact hpi) (by rw [Array.size_ofFn]; exact hso)
  have hsz : d'.size = xs.length := by
    have := hpi.1
    simpa using this
  let ys : List (KT × Nat) := d'.toList.map (fun i => xs[i])
  have hyl : ys.length = xs.length := by simp [ys, hsz]
  refine ⟨ys, ?_, hyl, ⟨?_, .inr ⟨g, off, cap, _, by rw [hyl], e2, swo_heap d' e3, by omega, by simpa [putCells] using e5, ?_⟩⟩, hkp d' n os, swo_grown d', e2⟩
  · have h4 : ys.map (fun x => x.1) = d'.toList.map (fun i => xs[i].1) := by simp [ys]
    rw [h4, hu]
    have h5 := List.map_mergeSort (r := fun x y => !(ltOf cf) y x) (s := KT.le) (f := fun i : Fin xs.length => xs[i].1) (l := (Array.ofFn fun i : Fin xs.length => i).toList) (by
      intro a _ b _
      rw [hlt]
      rfl)
    rw [h5]
    congr 1
    apply List.ext_getElem
    · simp
    · intro i h1 h2
      simp
  · intro x hx
    obtain ⟨i, _, rfl⟩ := List.mem_map.1 hx
    exact (hat _ (List.getElem_mem i.isLt)).keep (hkp d' n os)
  · have h6 := swo_take (enc := enc) cur d' (off := off) (by omega)
    have h7 : d'.toList.map enc = ys.map kptr := by simp [ys, enc]
    rw [hyl, ← h7, ← h6, hsz]

section
variable {ops : Array Oper} {rest : List Oper} {o : Oper} {a : Act} {W : World}
/-- An append of one item, in a plain region. -/
theorem irow_wp {Q : Exit → Act → World → Prop} (base : Nat) (hgd : o.guard = none) (s x : Operand)
    (ho : o.op = .call { callee := .builtin .append, args := #[s, x], argTypes := #[58, 58] })
    (v : Value) (xs : List (KT × Nat)) (p : KT × Nat) (xb : Nat) (hs : a.eval s = v) (hx : a.eval x = .slice (some ⟨xb, 0, none⟩) 1 1)
    (HO : IRow base W v xs) (hp : p.1.At W p.2) (hc : W.cell? ⟨xb, 0, none⟩ = some (kptr p)) (hl : xs.length < 1000) (hbase : base ≤ W.heap.size)
    (h : ∀ v1 w1, IRow base w1 v1 (xs ++ [p]) → Kp W w1 → (∀ b0 w0, Below b0 w0 W → b0 ≤ base → b0 ≤ W.heap.size → Below b0 w0 w1) → wpList Try.prog ops Q rest (a.put o.dst v1) w1) :
    wpList Try.prog ops Q (o :: rest) a W := by
  refine wpList_plain hgd fun K hK => ?_
  obtain ⟨v1, w1, hr, h2, h3, h4⟩ := run_irow base o.type W v xs p xb HO hp hc hl hbase
  unfold Oper.wp execOp
  simp only [ho, resolve, invoke, builtin, Sem.run_bind, Sem.run_pure, Result.andThen_ok, List.map_toArray, List.map_cons, List.map_nil, hs, hx, hr]
  exact hK _ _ (h v1 w1 h2 h3 h4)
/-- .. in a region that draws its order. -/
theorem irow_step {K : Act → World → Prop} {Q : Exit → Act → World → Prop} {E : Prop} (base : Nat) (hg : o.guard = none) (s x : Operand)
    (ho : o.op = .call { callee := .builtin .append, args := #[s, x], argTypes := #[58, 58] })
    (v : Value) (xs : List (KT × Nat)) (p : KT × Nat) (xb : Nat) (hs : a.eval s = v) (hx : a.eval x = .slice (some ⟨xb, 0, none⟩) 1 1)
    (HO : IRow base W v xs) (hp : p.1.At W p.2) (hc : W.cell? ⟨xb, 0, none⟩ = some (kptr p)) (hl : xs.length < 1000) (hbase : base ≤ W.heap.size)
    (h : ∀ v1 w1, IRow base w1 v1 (xs ++ [p]) → Kp W w1 → (∀ b0 w0, Below b0 w0 W → b0 ≤ base → b0 ≤ W.heap.size → Below b0 w0 w1) → K (a.put o.dst v1) w1) :
    if Region.wanted o (yielded ops a.tmps) = true then Oper.wp Try.prog o a W K Q else E := by
  have hw : Region.wanted o (yielded ops a.tmps) = true := by simp [Region.wanted, hg]
  rw [if_pos hw]
  obtain ⟨v1, w1, hr, h2, h3, h4⟩ := run_irow base o.type W v xs p xb HO hp hc hl hbase
  unfold Oper.wp execOp
  simp only [ho, resolve, invoke, builtin, Sem.run_bind, Sem.run_pure, Result.andThen_ok, List.map_toArray, List.map_cons, List.map_nil, hs, hx, hr]
  exact h v1 w1 h2 h3 h4
end
end Go.Proofs.Ytpfbdpeohlohoaa.H
