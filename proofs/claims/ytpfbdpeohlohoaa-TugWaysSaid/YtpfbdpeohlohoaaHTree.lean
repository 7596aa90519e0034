/- The items of tug.Differencing as trees; the walks of value.before, of the comparing closure and of item.place. -/
import Derived.Test.YtpfbdpeohlohoaaHSort
import Derived.BigRegion
import Derived.BigQuiet
import Derived.Deep.RegionHeld3
import Derived.Laws.EntriesVeiled
import Derived.Outline
import Derived.Shelf.SlSortCmp.Kit1
import Derived.Lib.BufferWrite
namespace Go.Proofs.Ytpfbdpeohlohoaa.H
open Go.RowKit Go.Sort Go.Proofs.YtpfbdpeohlohoaaW.PrintWords Go.Proofs.YtpfbdpeohlohoaaW.PrintLast Go.Proofs.YtpfbdpeohlohoaaW.PrintMore
set_option linter.unusedVariables false
set_option linter.unusedSimpArgs false

inductive KT where
  | leaf (p i : Int)
  | node (p i : Int) (a b : KT)
deriving Inhabited
def KT.worth : KT → Int
  | .leaf p _ => p
  | .node p _ _ _ => p
def KT.made : KT → Int
  | .leaf _ i => i
  | .node _ i _ _ => i
def KT.pull : KT → Int
  | .leaf _ i => i
  | .node _ _ _ _ => -1
/-- a comes ahead of b. -/
def KT.lt (a b : KT) : Bool := decide (b.worth < a.worth) || (decide (a.worth = b.worth) && decide (a.made < b.made))
def KT.cf (a b : KT) : Int := if KT.lt a b then -1 else 1
/-- An item lies in block g. -/
def KT.At (w : World) : KT → Nat → Prop
  | .leaf p i, g => w.heap[g]? = some (.cells #[.int .i64 p, .int .i64 i, .int .i64 i, .pointer none, .pointer none] 63 (0, 0))
  | .node p i a b, g => ∃ ga gb, w.heap[g]? = some (.cells #[.int .i64 p, .int .i64 i, .int .i64 (-1), .pointer (some ⟨ga, 0, none⟩), .pointer (some ⟨gb, 0, none⟩)] 63 (0, 0)) ∧ a.At w ga ∧ b.At w gb
/-- No item's block is turned. -/
def Kp (w w' : World) : Prop := ∀ (g : Nat) (c : Array Value) (f : Nat × Nat), w.heap[g]? = some (Obj.cells c 63 f) → w'.heap[g]? = w.heap[g]?
theorem Kp.blk {w w' : World} {g : Nat} {c : Array Value} {f : Nat × Nat} (h : Kp w w') (ht : w.heap[g]? = some (Obj.cells c 63 f)) : w'.heap[g]? = some (Obj.cells c 63 f) := (h g c f ht).trans ht
theorem gr_trans {a b c : World} {row : Option Nat} (h : a.grownBy b row) (k : b.grownBy c row) : a.grownBy c row :=
  ⟨k.os.trans h.os, k.tape.trans h.tape, k.output.trans h.output, Nat.le_trans h.size k.size, fun i hi hne => (k.block i (Nat.lt_of_lt_of_le hi h.size) hne).trans (h.block i hi hne)⟩
theorem Kp.refl (w : World) : Kp w w := fun _ _ _ _ => rfl
theorem Kp.trans {w w1 w2 : World} (h1 : Kp w w1) (h2 : Kp w1 w2) : Kp w w2 := fun g c f h => (h2 g c f ((h1 g c f h).trans h)).trans (h1 g c f h)
theorem Kp.below {w w' : World} (h : Below w.heap.size w w') : Kp w w' := fun g c f h1 => h.block g (Array.getElem?_eq_some_iff.1 h1).1
theorem Kp.drew (w : World) : Kp w w.drew := fun _ _ _ _ => rfl
theorem Kp.alloc (w : World) (o : Obj) : Kp w (w.alloc o) := fun g c f h => by
  have := (Array.getElem?_eq_some_iff.1 h).1
  show (w.heap.push o)[g]? = _
  rw [Array.getElem?_push, if_neg (Nat.ne_of_lt this)]
theorem Kp.grown {w w' : World} {k : Nat} {c : Array Value} {e : TypeId} {f : Nat × Nat} (h : w.grownBy w' (some k)) (hk : w.heap[k]? = some (.cells c e f)) (he : e ≠ 63) : Kp w w' := fun g c1 f1 h1 => h.block g (Array.getElem?_eq_some_iff.1 h1).1 (by
  intro e1
  cases e1
  rw [h1] at hk
  cases hk
  exact he rfl)
theorem Kp.grown0 {w w' : World} (h : w.grownBy w' none) : Kp w w' := fun g c1 f1 h1 => h.block g (Array.getElem?_eq_some_iff.1 h1).1 (by simp)
theorem KT.At.keep {w w' : World} (h : Kp w w') : ∀ {t : KT} {g : Nat}, t.At w g → t.At w' g
  | .leaf p i, g, ht => (h g _ _ ht).trans ht
  | .node p i a b, g, ⟨ga, gb, h1, h2, h3⟩ => ⟨ga, gb, (h g _ _ h1).trans h1, KT.At.keep h h2, KT.At.keep h h3⟩
theorem KT.At.cells {w : World} {t : KT} {g : Nat} (h : t.At w g) : ∃ p3 p4, w.heap[g]? = some (.cells #[.int .i64 t.worth, .int .i64 t.made, .int .i64 t.pull, p3, p4] 63 (0, 0)) := by
  cases t with
  | leaf p i => exact ⟨_, _, h⟩
  | node p i a b =>
    obtain ⟨ga, gb, h1, _⟩ := h
    exact ⟨_, _, h1⟩

set_option maxHeartbeats 2000000 in
set_option maxRecDepth 100000 in
theorem before_calls (p i q j : Int) (w : World) :
    Calls Try.prog 46 #[.agg #[.int .i64 p, .int .i64 i], .agg #[.int .i64 q, .int .i64 j]] w fun e w' => e = .returned (.bool (decide (q < p) || (decide (p = q) && decide (i < j)))) ∧ ∃ n os, w' = grow (w.drewN n) os := by
  go_enter Try.func46, Try.ntmps46
  go_wp2
  all_goals
    go_ret
    refine ⟨?_, 0, _, (alloc_eq_grow _ _).trans ((congrArg (fun x => grow x _) (alloc_eq_grow w _)).trans (grow_grow _ _ _))⟩
    simp_all

set_option maxHeartbeats 2000000 in
set_option maxRecDepth 100000 in
/-- The comparing closure: in whatever world in which both items lie. -/
theorem cmp_calls (a b : KT) (ga gb : Nat) (w : World) (ha : a.At w ga) (hb : b.At w gb) :
    Calls Try.prog 45 #[.pointer (some ⟨ga, 0, none⟩), .pointer (some ⟨gb, 0, none⟩)] w fun e w' => e = .returned (.int .i64 (KT.cf a b)) ∧ ∃ n os, w' = grow (w.drewN n) os := by
  obtain ⟨a3, a4, hA⟩ := ha.cells
  obtain ⟨b3, b4, hB⟩ := hb.cells
  have eA0 := (blk_cell hA 0).trans (rfl : _ = some (Value.int .i64 a.worth))
  have eA1 := (blk_cell hA 1).trans (rfl : _ = some (Value.int .i64 a.made))
  have eB0 := (blk_cell hB 0).trans (rfl : _ = some (Value.int .i64 b.worth))
  have eB1 := (blk_cell hB 1).trans (rfl : _ = some (Value.int .i64 b.made))
  have hc : KT.cf a b = if (decide (b.worth < a.worth) || (decide (a.worth = b.worth) && decide (a.made < b.made))) = true then -1 else 1 := rfl
  rw [hc]
  generalize a.worth = p at *
  generalize a.made = i at *
  generalize b.worth = q at *
  generalize b.made = j at *
  clear hA hB ha hb hc
  have HC := Aside0.mk (fun W => before_calls p i q j W)
  generalize hd : (decide (q < p) || (decide (p = q) && decide (i < j))) = d at HC ⊢
  clear hd
  cases d
  all_goals
    go_enter Try.func45, Try.ntmps45
    go_wp2
    go_region_with (go_at_call 46; refine (HC.out _).mono ?_; rintro e w' ⟨rfl, n, os, rfl⟩)
    all_goals
      go_wp2
      go_ret
      exact ⟨rfl, _, _, rfl⟩

/-- The pulls of an item are put on sides. -/
def KT.place : KT → List Int → Int → Option (List Int)
  | .leaf p i, l, s => if 0 ≤ i ∧ i < (l.length : Int) then some (l.set i.toNat s) else none
  | .node p i a b, l, s => (a.place l s).bind fun l1 => b.place l1 (wrap64 (1 - s))
theorem own_block {base e go n m c : Nat} {w : World} {xs : List Value} (h : w.ownsRow base e 1 (.slice (some ⟨go, 0, none⟩) n c) m xs) : ∃ cur, w.heap[go]? = some (Obj.cells cur e (0, 0)) := by
  obtain ⟨h1, h2⟩ := h
  rcases h2 with ⟨e1, _⟩ | ⟨g, cap, cur, e1, hb, hh, _⟩
  · cases e1
  · injection e1 with e2 _ e3
    injection e2 with e2
    injection e2 with e2 _ _
    subst e2
    exact ⟨cur, hh⟩
/-- The row of sides, and no item's block turned. -/
structure PSt (base go n c : Nat) (w W : World) (l : List Int) : Prop where
  kp : Kp w W
  lt : go < w.heap.size
  gr : w.grownBy W (some go)
  row : Kd.R (Kd.int .i64) 3 W base (fun k => k = go) (.slice (some ⟨go, 0, none⟩) n c) l

set_option maxHeartbeats 2000000 in
set_option maxRecDepth 100000 in
theorem place_calls (base go n c : Nat) : ∀ (t : KT) (g : Nat) (l l' : List Int) (s : Int) (w : World), t.At w g → Kd.R (Kd.int .i64) 3 w base (fun k => k = go) (.slice (some ⟨go, 0, none⟩) n c) l → t.place l s = some l' →
    Calls Try.prog 47 #[.pointer (some ⟨g, 0, none⟩), .slice (some ⟨go, 0, none⟩) n c, .int .i64 s] w fun e w' => e = .returned (.tuple #[]) ∧ PSt base go n c w w' l' := by
  intro t
  induction t with
  | leaf p i =>
    intro g l l' s w ht hr h
    unfold KT.place at h
    by_cases c1 : 0 ≤ i ∧ i < (l.length : Int)
    · rw [if_pos c1] at h
      obtain ⟨q1, q2⟩ := c1
      simp only [Option.some.injEq] at h
      subst h
      have eP := (blk_cell ht 2).trans (rfl : _ = some (Value.int .i64 i))
      have q2 : i < (n : Int) := by rw [(Kd.R_reads' hr).1]; exact q2
      obtain ⟨hs, hf⟩ := Kd.R_celln 0 hr i q1 q2
      have HR := Aside0.mk hr
      have HT := Aside0.mk ht
      clear hr ht
      go_enter Try.func47, Try.ntmps47
      go_wp2
      (first | go_end0 | refine bodyPost_ret (results_none rfl _ _ _) rfl ?_)
      have hown := Kd.own_of_R HR.out
      have hlt := own_lt hown go rfl
      have hgr := Go.Lib.grownBy_setCell w go i.toNat (.int .i64 s)
      obtain ⟨cur, hcur⟩ := own_block hown
      exact ⟨rfl, Kp.grown hgr hcur (by decide), hlt, hgr, (Kd.R_putn HR.out i s)⟩
    · rw [if_neg c1] at h
      exact absurd h (by simp)
  | node p i a b iha ihb =>
    intro g l l' s w ht0 hr h
    obtain ⟨ga, gb, ht, hta, htb⟩ := ht0
    unfold KT.place at h
    obtain ⟨l1, h1, h2⟩ := Option.bind_eq_some_iff.mp h
    have IHa := Aside0.mk (iha ga l l1 s w hta hr h1)
    have IHb := Aside0.mk (fun W (hk : Kp w W) hR => ihb gb l1 l' (wrap64 (1 - s)) W (htb.keep hk) hR h2)
    clear h h1 h2 iha ihb
    have eP := (blk_cell ht 2).trans (rfl : _ = some (Value.int .i64 (-1)))
    have eA := (blk_cell ht 3).trans (rfl : _ = some (Value.pointer (some ⟨ga, 0, none⟩)))
    have HT := Aside0.mk ht
    obtain ⟨y, hy⟩ : ∃ j_ : Int, wrap64 (1 - s) = j_ := ⟨_, rfl⟩
    have hyw : IntKind.i64.wrap (1 - s) = y := (i64_w _).trans hy
    rw [hy] at IHb
    clear hr hta htb ht
    go_enter Try.func47, Try.ntmps47
    go_wp2_with (first | (go_at_call 47; (first | (refine (IHb.out _ HP.out.kp HP.out.row).mono ?_; rintro e w6 ⟨rfl, hp⟩; have HQ := Aside0.mk hp; clear hp) | (refine IHa.out.mono ?_; rintro e w5 ⟨rfl, hp⟩; have eB := (blk_cell (Kp.blk hp.kp HT.out) 4).trans (rfl : _ = some (Value.pointer (some ⟨gb, 0, none⟩))); have HP := Aside0.mk hp; clear hp))))
    (first | go_end0 | refine bodyPost_ret (results_none rfl _ _ _) rfl ?_)
    exact ⟨rfl, HP.out.kp.trans HQ.out.kp, HP.out.lt, gr_trans HP.out.gr HQ.out.gr, HQ.out.row⟩
end Go.Proofs.Ytpfbdpeohlohoaa.H
