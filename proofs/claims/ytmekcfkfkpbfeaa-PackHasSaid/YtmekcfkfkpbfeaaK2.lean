/- Rows of monomials; the library's sort and membership at them; the walk of pack.least. -/
import Derived.Test.YtmekcfkfkpbfeaaK1
import Derived.Shelf.SlSortCmp.WholeK
import Derived.Shelf.Small.Bits
import Derived.Laws.EntriesVeiled
namespace Go.Proofs.Ytmekcfkfkpbfeaa.H
open Go.Sort hiding rd
open Go.RowKit Go.Proofs.YtmekcfkfkpbfeaaW.PrintWords Go.Proofs.YtmekcfkfkpbfeaaW.PrintLast Go.Proofs.YtmekcfkfkpbfeaaW.PrintMore
attribute [local go_sem] max2_int min2_int max_two min_two max_three min_three max_four min_four
set_option linter.unusedVariables false
set_option linter.unusedSimpArgs false
/-- The kind of a monomial: four cells. -/
def K4 : Kd M4 where
  sz := 4
  E := []
  K := fun _ x cs => cs = enc x
  M := fun _ _ _ x cs => cs = enc x
  K_len := fun h => by rw [h]; rfl
  K_one := fun {w x cs} h u hu => by
    rw [h] at hu
    simp only [enc, List.mem_cons, List.not_mem_nil, or_false] at hu
    rcases hu with rfl | rfl | rfl | rfl <;> rfl
  K_below := fun _ h => h
  K_of_M := fun h => h
  M_mono := fun _ h => h
  M_bound := fun h => h
  M_move := fun _ h => h
  M_lower := fun _ h => h
theorem enc_length (x : M4) : (enc x).length = 4 := rfl
theorem enc_one (x : M4) : ∀ v ∈ enc x, v.oneCell' = true := K4.K_one (w := default) (x := x) rfl
def flat (xs : List M4) : List Value := xs.flatMap enc
theorem flat_length (xs : List M4) : (flat xs).length = xs.length * 4 := by
  induction xs with
  | nil => rfl
  | cons x xs ih =>
    unfold flat at *
    rw [List.flatMap_cons, List.length_append, ih, enc_length, List.length_cons]
    omega
theorem flat_get (xs : List M4) (j i : Nat) (hi : i < 4) : (flat xs)[j * 4 + i]? = (xs[j]?).bind (fun m => (enc m)[i]?) := by
  induction xs generalizing j with
  | nil => simp [flat]
  | cons x xs ih =>
    unfold flat at *
    rw [List.flatMap_cons]
    cases j with
    | zero =>
      rw [List.getElem?_append_left (by rw [enc_length]; omega), Nat.zero_mul, Nat.zero_add]
      rfl
    | succ j =>
      rw [List.getElem?_append_right (by rw [enc_length]; omega), enc_length, show (j + 1) * 4 + i - 4 = j * 4 + i by omega, ih]
      rfl
theorem ext4 {l r : List Value} (hn : ∃ n, l.length = n * 4) (hl : l.length = r.length) (h : ∀ j i, i < 4 → l[j * 4 + i]? = r[j * 4 + i]?) : l = r := by
  apply List.ext_getElem?
  intro t
  have := h (t / 4) (t % 4) (Nat.mod_lt _ (by omega))
  rwa [show t / 4 * 4 + t % 4 = t by omega] at this
theorem reps4 {xs : List M4} {cs : List Value} (h : Reps (fun (x : M4) (cs : List Value) => cs = enc x) 4 xs cs) : cs = flat xs := by
  refine ext4 ⟨_, h.1⟩ (by rw [h.1, flat_length]) (fun j i hi => ?_)
  rw [flat_get _ _ _ hi]
  rcases Nat.lt_or_ge j xs.length with hj | hj
  · have h2 := h.2 j _ (List.getElem?_eq_getElem hj)
    rw [List.getElem?_eq_getElem hj, Option.bind_some, ← h2, List.getElem?_take_of_lt hi, List.getElem?_drop]
  · rw [List.getElem?_eq_none (by have := h.1; omega), List.getElem?_eq_none hj]
    rfl
theorem reps4_flat (xs : List M4) : Reps (fun (x : M4) (cs : List Value) => cs = enc x) 4 xs (flat xs) := by
  refine ⟨flat_length xs, fun j p hj => ?_⟩
  refine ext4 ⟨1, ?_⟩ ?_ (fun q i hi => ?_)
  · have := (List.getElem?_eq_some_iff.1 hj).1
    rw [List.length_take, List.length_drop, flat_length]; omega
  · have := (List.getElem?_eq_some_iff.1 hj).1
    rw [List.length_take, List.length_drop, flat_length, enc_length]; omega
  · rcases q with _ | q
    · rw [Nat.zero_mul, Nat.zero_add, List.getElem?_take_of_lt hi, List.getElem?_drop, flat_get _ _ _ hi, hj]
      rfl
    · rw [List.getElem?_eq_none (by rw [List.length_take]; omega), List.getElem?_eq_none (by rw [enc_length]; omega)]
theorem own4 {e : Nat} {w : World} {base : Nat} {ok : Nat → Prop} {v : Value} {xs : List M4} (h : K4.R e w base ok v xs) : w.ownsRow base e 4 v xs.length (flat xs) := by
  obtain ⟨_, inner, ho, hr⟩ := h
  rw [← reps4 hr]
  exact ho
theorem R4_of_own {e : Nat} {w : World} {base : Nat} {ok : Nat → Prop} {v : Value} {xs : List M4} (ho : w.ownsRow base e 4 v xs.length (flat xs)) (hok : ∀ k, v.ownBlock = some k → ok k) : K4.R e w base ok v xs := ⟨hok, flat xs, ho, reps4_flat xs⟩
/-- A row of monomials as it is read. -/
def Rows (w : World) (A : Option Addr) (xs : List M4) : Prop := xs = [] ∨ ∃ g, A = some ⟨g, 0, none⟩ ∧ g < w.heap.size ∧ ∀ j m, xs[j]? = some m → ∀ i u, (enc m)[i]? = some u → w.cell? ⟨g, j * 4 + i, none⟩ = some u
theorem Rows.below {w w1 : World} {A : Option Addr} {xs : List M4} (h : Rows w A xs) (hb : Below w.heap.size w w1) : Rows w1 A xs := by
  rcases h with h | ⟨g, h1, h2, h3⟩
  · exact .inl h
  · exact .inr ⟨g, h1, Nat.lt_of_lt_of_le h2 hb.size, fun j m hj i u hu => pw_cell_below hb (h3 j m hj i u hu)⟩
theorem rows_of_R {e : Nat} {w : World} {base : Nat} {ok : Nat → Prop} {v : Value} {xs : List M4} (h : K4.R e w base ok v xs) : ∃ A c, v = .slice A xs.length c ∧ xs.length ≤ c ∧ Rows w A xs ∧ ∀ k, v.ownBlock = some k → base ≤ k := by
  have hb := Kd.R_base h
  have ho := own4 h
  obtain ⟨h1, h2⟩ := ho
  rcases h2 with ⟨rfl, h2⟩ | ⟨g, cap, cur, rfl, hbase, hh, h3, h4, h5, h6⟩
  · exact ⟨none, 0, by rw [h2], by omega, .inl (List.length_eq_zero_iff.mp h2), hb⟩
  · refine ⟨_, cap, rfl, h3, .inr ⟨g, rfl, blk_lt hh, fun j m hj i u hu => ?_⟩, hb⟩
    have hi : i < 4 := (List.getElem?_eq_some_iff.1 hu).1
    have hjl := (List.getElem?_eq_some_iff.1 hj).1
    have h7 : (cur.toList.take (xs.length * 4))[j * 4 + i]? = some u := by rw [h6, flat_get _ _ _ hi, hj]; exact hu
    rw [List.getElem?_take_of_lt (by omega)] at h7
    rw [blk_cell hh, ← Array.getElem?_toList]
    exact h7
/-- The cells of element j. -/
theorem Rows.elem {w : World} {A : Option Addr} {xs : List M4} (h : Rows w A xs) (j : Nat) (m : M4) (hj : xs[j]? = some m) : ∃ g, A = some ⟨g, 0, none⟩ ∧ g < w.heap.size ∧ w.cell? ⟨g, j * 4, none⟩ = some (.int .i64 m.1) ∧ w.cell? ⟨g, j * 4 + 1, none⟩ = some (.int .i64 m.2.1) ∧ w.cell? ⟨g, j * 4 + 2, none⟩ = some (.int .i64 m.2.2.1) ∧ w.cell? ⟨g, j * 4 + 3, none⟩ = some (.int .i64 m.2.2.2) := by
  rcases h with rfl | ⟨g, h1, h2, h3⟩
  · simp at hj
  · exact ⟨g, h1, h2, h3 j m hj 0 _ rfl, h3 j m hj 1 _ rfl, h3 j m hj 2 _ rfl, h3 j m hj 3 _ rfl⟩
set_option maxRecDepth 100000 in
theorem ContainsFunc_nil (fg : FuncId) (cb : Array Value) (A : Option Addr) (c : Nat) (w : World) : Calls Try.prog 70 #[.slice A 0 c, .func (.func fg) #[] cb] w fun e w' => e = .returned (.bool false) ∧ w' = w := by
  go_enter Try.func70, Try.ntmps70
  go_wp2
  refine wp_loop_rounds 1 ?_
  simp only [Code.rounds]
  go_wp2
  go_ret
  exact ⟨rfl, rfl⟩
/-- slices.ContainsFunc: some element satisfies p. -/
theorem ContainsFunc_calls (p : M4 → Bool) (fg : FuncId) (fn : Func) (hfb : Try.prog.funcs[fg]? = some fn) (hnb : (fn.name == "runtime.NumGoroutine") = false) (hbb : fn.body.isSome = true) (cb : Array Value) (A : Option Addr) (c : Nat) (xs : List M4) (w : World) (hr : Rows w A xs) (hl : xs.length < 1000000000)
    (hp : ∀ (W : World) (x : M4), Below w.heap.size w W → Calls Try.prog fg (#[mv x] ++ cb) W fun e w' => e = .returned (.bool (p x)) ∧ Below w.heap.size w w') :
    Calls Try.prog 70 #[.slice A xs.length c, .func (.func fg) #[] cb] w fun e w' => e = .returned (.bool (xs.any p)) ∧ Below w.heap.size w w' := by
  rcases hr with rfl | ⟨g, rfl, hg, hc⟩
  · refine (ContainsFunc_nil fg cb A c w).mono ?_
    rintro e w' ⟨rfl, rfl⟩
    exact ⟨rfl, Below.refl _ _⟩
  · have eb : ∀ args w, (callFunc fg args).run Try.prog w = .ok (.enter fg args) w := fun args w => enters_ (P := Try.prog) hfb hnb hbb args w
    have h := AnyQ.slices_ContainsFunc laysH8 4 Try.isAgg76 Try.sizeOf76 enc enc_length p fg cb eb g 0 xs.length c xs w hp (Nat.le_refl _) (by omega) hg (fun j hj i v hv => by
      rw [Nat.zero_add]
      refine hc j xs[j]! ?_ i v hv
      rw [getElem!_pos xs j hj, List.getElem?_eq_getElem hj])
    rw [List.take_length] at h
    exact h
set_option maxRecDepth 100000 in
theorem Contains_nil (x : M4) (A : Option Addr) (c : Nat) (w : World) : Calls Try.prog 95 #[.slice A 0 c, mv x] w fun e w' => e = .returned (.bool false) ∧ Below w.heap.size w w' := by
  unfold mv
  obtain ⟨x0, x1, x2, x3⟩ := x
  dsimp only
  go_enter Try.func95, Try.ntmps95
  go_wp2
  refine wp_loop_rounds 1 ?_
  simp only [Code.rounds]
  go_wp2
  go_ret
  exact ⟨rfl, by repeat (first | exact Below.refl _ _ | apply below_alloc | apply below_drew1)⟩
theorem eqlAtM : EqlAt Try.prog 76 (fun x => .agg (enc x).toArray) (fun x y => decide (x = y)) := ⟨fun x y w => eqlM x y w, GuardAt.agg _ guardM⟩
/-- slices.Contains. -/
theorem Contains_calls (x : M4) (A : Option Addr) (c : Nat) (xs : List M4) (w : World) (hr : Rows w A xs) (hl : xs.length < 1000000000) :
    Calls Try.prog 95 #[.slice A xs.length c, mv x] w fun e w' => e = .returned (.bool (xs.any fun y => decide (x = y))) ∧ Below w.heap.size w w' := by
  rcases hr with rfl | ⟨g, rfl, hg, hc⟩
  · exact Contains_nil x A c w
  · have h := AnyQ.slices_Contains laysQ7 4 Try.isAgg76 Try.sizeOf76 enc enc_length (fun x y => decide (x = y)) eqlAtM g 0 xs.length c xs x w (Nat.le_refl _) (by omega) (fun j hj i v hv => by
      rw [Nat.zero_add]
      refine hc j xs[j]! ?_ i v hv
      rw [getElem!_pos xs j hj, List.getElem?_eq_getElem hj])
    rw [List.take_length] at h
    exact h
end Go.Proofs.Ytmekcfkfkpbfeaa.H
namespace Go.Proofs.Ytmekcfkfkpbfeaa.H
open Go.Sort hiding rd
open Go.RowKit Go.Proofs.YtmekcfkfkpbfeaaW.PrintWords Go.Proofs.YtmekcfkfkpbfeaaW.PrintLast Go.Proofs.YtmekcfkfkpbfeaaW.PrintMore
set_option linter.unusedVariables false
set_option linter.unusedSimpArgs false
theorem c3_lt {x y r : Int} (h : c3 x y r < 0) : x < y ∨ (x = y ∧ r < 0) := by
  unfold c3 at h
  split at h
  · exact .inl (by assumption)
  · split at h
    · omega
    · exact .inr ⟨by omega, h⟩
theorem c3_ltI {x y r : Int} : c3 x y r < 0 ↔ x < y ∨ (x = y ∧ r < 0) := by
  refine ⟨c3_lt, fun h => ?_⟩
  unfold c3
  split
  · omega
  · split <;> omega
/-- a comes ahead of b. -/
def lt4 (a b : M4) : Prop := a.1 < b.1 ∨ (a.1 = b.1 ∧ (a.2.1 < b.2.1 ∨ (a.2.1 = b.2.1 ∧ (a.2.2.1 < b.2.2.1 ∨ (a.2.2.1 = b.2.2.1 ∧ a.2.2.2 < b.2.2.2)))))
theorem cmp4_lt (a b : M4) : cmp4 a b < 0 ↔ lt4 a b := by
  unfold cmp4 lt4
  rw [c3_ltI, c3_ltI, c3_ltI, c3_ltI]
  omega
theorem ltOf_cmp4 (a b : M4) : ltOf cmp4 a b = true ↔ lt4 a b := by
  unfold ltOf
  rw [decide_eq_true_iff, cmp4_lt]
theorem ltOf_cmp4_no (a b : M4) : ltOf cmp4 a b = false ↔ ¬ lt4 a b := by
  rw [← ltOf_cmp4, Bool.not_eq_true]
theorem lt4_swo : SWO (ltOf cmp4) where
  irrefl x := by rw [ltOf_cmp4_no]; unfold lt4; omega
  trans x y z h1 h2 := by rw [ltOf_cmp4] at *; unfold lt4 at *; omega
  ntrans x y z h1 h2 := by rw [ltOf_cmp4_no] at *; unfold lt4 at *; omega
theorem lt4_tri {a b : M4} (h1 : ¬ lt4 a b) (h2 : ¬ lt4 b a) : a = b := by
  obtain ⟨a0, a1, a2, a3⟩ := a
  obtain ⟨b0, b1, b2, b3⟩ := b
  unfold lt4 at *
  dsimp only at *
  simp only [Prod.mk.injEq]
  omega
/-- Put in its place. -/
def ins4 (x : M4) : List M4 → List M4
  | [] => [x]
  | y :: ys => if ltOf cmp4 y x = true then y :: ins4 x ys else x :: y :: ys
/-- In lexicographic order. -/
def sort4 : List M4 → List M4
  | [] => []
  | x :: xs => ins4 x (sort4 xs)
theorem ins4_perm (x : M4) : ∀ l, (ins4 x l).Perm (x :: l)
  | [] => List.Perm.refl _
  | y :: ys => by
    unfold ins4
    split
    · exact ((ins4_perm x ys).cons y).trans (List.Perm.swap x y ys)
    · exact List.Perm.refl _
theorem sort4_perm : ∀ xs, (sort4 xs).Perm xs
  | [] => List.Perm.refl _
  | x :: xs => (ins4_perm x _).trans ((sort4_perm xs).cons x)
theorem sort4_length (xs : List M4) : (sort4 xs).length = xs.length := (sort4_perm xs).length_eq
theorem ins4_sorted (x : M4) : ∀ l, l.Pairwise (fun a b => ltOf cmp4 b a = false) → (ins4 x l).Pairwise (fun a b => ltOf cmp4 b a = false)
  | [], _ => List.pairwise_singleton _ _
  | y :: ys, h => by
    obtain ⟨h1, h2⟩ := List.pairwise_cons.1 h
    unfold ins4
    split
    · rename_i hlt
      refine List.pairwise_cons.2 ⟨fun z hz => ?_, ins4_sorted x ys h2⟩
      rcases List.mem_cons.1 ((ins4_perm x ys).mem_iff.1 hz) with rfl | hz
      · rw [ltOf_cmp4_no]
        rw [ltOf_cmp4] at hlt
        unfold lt4 at *
        omega
      · exact h1 z hz
    · rename_i hlt
      rw [Bool.not_eq_true] at hlt
      refine List.pairwise_cons.2 ⟨fun z hz => ?_, h⟩
      rcases List.mem_cons.1 hz with rfl | hz
      · exact hlt
      · exact lt4_swo.ntrans _ _ _ (h1 z hz) hlt
theorem sort4_sorted : ∀ xs, (sort4 xs).Pairwise (fun a b => ltOf cmp4 b a = false)
  | [] => List.Pairwise.nil
  | x :: xs => ins4_sorted x _ (sort4_sorted xs)
theorem sorted_eq {l r : List M4} (hp : l.Perm r) (hl : l.Pairwise (fun a b => ltOf cmp4 b a = false)) (hr : r.Pairwise (fun a b => ltOf cmp4 b a = false)) : l = r :=
  List.Perm.eq_of_pairwise (le := fun a b => ltOf cmp4 b a = false) (fun a b _ _ h1 h2 => lt4_tri ((ltOf_cmp4_no _ _).1 h2) ((ltOf_cmp4_no _ _).1 h1)) hl hr hp
theorem ms_sort4 (xs : List M4) : xs.mergeSort (fun x y => !(ltOf cmp4 y x)) = sort4 xs := by
  refine sorted_eq ((List.mergeSort_perm _ _).trans (sort4_perm xs).symm) ?_ (sort4_sorted xs)
  have h := List.pairwise_mergeSort (le := fun x y => !(ltOf cmp4 y x)) (fun a b c h1 h2 => by
    simp only [Bool.not_eq_true'] at *
    exact lt4_swo.ntrans _ _ _ h2 h1) (fun a b => by
    cases h1 : ltOf cmp4 b a with
    | false => rfl
    | true =>
      cases h2 : ltOf cmp4 a b with
      | false => simp
      | true =>
        rw [ltOf_cmp4] at h1 h2
        unfold lt4 at *
        omega) xs
  refine h.imp (fun {a b} h1 => ?_)
  simpa using h1
theorem flatK_flat (d : Array M4) : (flatK enc 4 d).toList = flat d.toList := by
  refine ext4 ⟨d.size, by simp⟩ (by simp [flat_length]) (fun j i hi => ?_)
  rw [flat_get _ _ _ hi]
  by_cases hj : j < d.size
  · have ht : j * 4 + i < d.size * 4 := by omega
    have h1 : (flatK enc 4 d)[j * 4 + i]? = some ((flatK enc 4 d)[j * 4 + i]!) := by
      rw [getElem!_pos (flatK enc 4 d) (j * 4 + i) (by simpa using ht), Array.getElem?_eq_getElem]
    rw [Array.getElem?_toList, h1, get_flatK _ _ _ _ ht, show (j * 4 + i) / 4 = j by omega, show (j * 4 + i) % 4 = i by omega, Array.getElem?_toList, Array.getElem?_eq_getElem hj, Option.bind_some, getElem!_pos d j hj, List.getElem!_eq_getElem?_getD]
    rw [List.getElem?_eq_getElem (by rw [enc_length]; exact hi)]
    rfl
  · rw [List.getElem?_eq_none (by simp; omega), List.getElem?_eq_none (by simp; omega)]
    rfl
section
variable {w : World} {g n cap q : Nat} {os : Array Obj} {cur : Array Value} {e : TypeId}
theorem swk_holds {d : Array M4} (hb : w.heap[g]? = some (.cells cur e (0, 0))) (ht : cur.toList.take (d.size * 4) = flat d.toList) : HoldsK enc 4 w g 0 d := by
  intro j hj
  rw [size_flatK] at hj
  refine ⟨?_, by simp [World.frozen?, hb]⟩
  have h1 : (cur.toList.take (d.size * 4))[j]? = (flat d.toList)[j]? := by rw [ht]
  rw [List.getElem?_take_of_lt hj, ← flatK_flat, Array.getElem?_toList, Array.getElem?_toList] at h1
  simp only [World.cell?, hb, Nat.zero_add]
  simp only [Option.isSome_none, Bool.false_eq_true, if_false]
  rw [h1, Array.getElem?_eq_getElem (by rw [size_flatK]; exact hj), getElem!_pos (flatK enc 4 d) j (by rw [size_flatK]; exact hj)]
  rfl
theorem swk_heap (d : Array M4) (hb : w.heap[g]? = some (.cells cur e (0, 0))) : (sortWorldK enc 4 w g 0 q d os).heap[g]? = some (.cells (putCells id 0 (flatK enc 4 d) cur) e (0, 0)) := by
  have hg : g < w.heap.size := (Array.getElem?_eq_some_iff.1 hb).1
  unfold sortWorldK
  rw [heap_grow_old _ _ (by rw [size_putRowK]; exact hg)]
  simp [putRowK, putRow, mapBlock, Sort.ahead, Array.getElem?_modify, hb, onCells]
theorem swk_grown (d : Array M4) : w.grownBy (sortWorldK enc 4 w g 0 q d os) (some g) := by
  refine ⟨rfl, rfl, rfl, by simp [sortWorldK, putRowK, putRow, mapBlock, Sort.ahead], fun k hk hne => ?_⟩
  unfold sortWorldK
  rw [heap_grow_old _ _ (by rw [size_putRowK]; exact hk)]
  have : g ≠ k := fun e => hne (by rw [e])
  simp [putRowK, putRow, mapBlock, Sort.ahead, Array.getElem?_modify, this]
theorem swk_take (cur : Array Value) (d : Array Value) (h : d.size ≤ cur.size) : (putCells id 0 d cur).toList.take d.size = d.toList := by
  apply List.ext_getElem?
  intro j
  by_cases hj : j < d.size
  · rw [List.getElem?_take_of_lt hj, Array.getElem?_toList]
    simp [putCells, hj, show j < cur.size by omega]
  · rw [List.getElem?_take_eq_none (by omega), List.getElem?_eq_none (by simp; omega)]
theorem swk_own {base : Nat} (d : Array M4) (hn : d.size = n) (hbase : base ≤ g) (hb : w.heap[g]? = some (.cells cur e (0, 0))) (h1 : n ≤ cap) (h2 : cap ≤ maxLen) (h3 : cur.size = cap * 4) :
    (sortWorldK enc 4 w g 0 q d os).ownsRow base e 4 (.slice (some ⟨g, 0, none⟩) n cap) n (flat d.toList) := by
  refine ⟨by rw [flat_length]; simp [hn], .inr ⟨g, cap, _, rfl, hbase, swk_heap d hb, h1, h2, by simp [putCells, h3], ?_⟩⟩
  have h := swk_take cur (flatK enc 4 d) (by rw [size_flatK]; omega)
  rw [size_flatK, hn] at h
  rw [h, flatK_flat]
end
theorem compare_lays (blk off size : Nat) (w : World) : CmpLays Try.prog 77 #[] enc 4 cmp4 blk off size w := by
  intro m os dk hdk x y
  refine (compare_calls x y (sortWorldK enc 4 w blk off m dk os)).mono ?_
  rintro e w' ⟨rfl, h⟩
  exact ⟨rfl, h.grown⟩
set_option maxRecDepth 100000 in
set_option maxHeartbeats 4000000 in
theorem insertion_nil (cb : Value) (w : World) : Calls Try.prog 117 #[.slice none 0 0, .int .i64 0, .int .i64 0, cb] w fun e w' => e = .returned (.tuple #[]) ∧ w' = w := by
  go_enter Try.func117, Try.ntmps117
  go_wp2
  refine wp_loop_rounds 1 ?_
  simp only [Code.rounds]
  go_wp2
  go_end0
  exact ⟨rfl, rfl⟩
set_option maxRecDepth 100000 in
set_option maxHeartbeats 4000000 in
theorem pdq_nil (cb : Value) (l : Int) (w : World) : Calls Try.prog 104 #[.slice none 0 0, .int .i64 0, .int .i64 0, .int .i64 l, cb] w fun e w' => e = .returned (.tuple #[]) ∧ w' = w := by
  go_enter Try.func104, Try.ntmps104
  go_wp2
  refine wp_loop_rounds 1 ?_
  simp only [Code.rounds]
  go_wp2_with (go_at_call 117; refine (insertion_nil _ _).mono ?_; rintro e w' ⟨rfl, rfl⟩)
  exact bodyPost_ret (results_none rfl _ _ _) rfl ⟨rfl, rfl⟩
set_option maxRecDepth 100000 in
set_option maxHeartbeats 4000000 in
theorem sort_nil (cb : Value) (w : World) : Calls Try.prog 96 #[.slice none 0 0, cb] w fun e w' => e = .returned (.tuple #[]) ∧ w' = w := by
  have hl : ∀ w, Calls Try.prog 101 #[.int .u64 0] w fun e w' => e = .returned (.int .i64 0) ∧ w' = w := fun w => by
    have h := Any.bits_Len (SlLaysF0.n15.bits (P := Try.prog) (ρ := laysF6_ren) { laysF6 with }) (0 : Int) w (by omega) (by omega)
    exact h
  go_enter Try.func96, Try.ntmps96
  go_wp2_with (first | (go_at_call 101; refine (hl _).mono ?_; rintro e w' ⟨rfl, rfl⟩) | (go_at_call 104; refine (pdq_nil _ _ _).mono ?_; rintro e w' ⟨rfl, rfl⟩))
  go_end0
  exact ⟨rfl, rfl⟩
/-- slices.SortFunc by pack.compare, at a row of the call's own. -/
theorem sort_calls (w W : World) (A : Option Addr) (c : Nat) (l : List M4) (hl : l.length < 1000000000) (hnil : l = [] → A = none ∧ c = 0) (HO : K4.R 76 W w.heap.size (fun _ => True) (.slice A l.length c) l) (hb : RowKit.Below w.heap.size w W) :
    Calls Try.prog 96 #[.slice A l.length c, .func (.func 77) #[] #[]] W fun e w' => e = .returned (.tuple #[]) ∧ K4.R 76 w' w.heap.size (fun _ => True) (.slice A l.length c) (sort4 l) ∧ RowKit.Below w.heap.size w w' := by
  by_cases h0 : l = []
  · subst h0
    obtain ⟨rfl, rfl⟩ := hnil rfl
    refine (sort_nil _ W).mono ?_
    rintro e w' ⟨rfl, rfl⟩
    exact ⟨rfl, HO, hb⟩
  have hpos : 0 < l.length := List.length_pos_iff.mpr h0
  have hown := own4 HO
  obtain ⟨h1, h2⟩ := hown
  rcases h2 with ⟨e, h⟩ | ⟨g, cap, cur, e, hbase, hh, h3, h4, h5, h6⟩
  · omega
  injection e with e1 _ e3
  subst e1
  subst e3
  have hd : l.toArray.toList = l := rfl
  have hsz0 : l.toArray.size = l.length := by simp
  have hH : HoldsK enc 4 W g 0 l.toArray := swk_holds hh (by rw [hsz0]; exact h6)
  have eg : ∀ args w, (callFunc 77 args).run Try.prog w = .ok (.enter 77 args) w := fun args w => enters_ (P := Try.prog) Try.func77 rfl (by kernel_rfl) args w
  have hs := AnyQ.slices_SortFunc laysF6 4 Try.isAgg76 Try.sizeOf76 enc enc_length enc_one cmp4 lt4_swo 77 #[] g 0 c l.toArray W eg (compare_lays _ _ _ _) hH (blk_lt hh) (by rw [hsz0]; omega)
  rw [hsz0] at hs
  refine hs.mono ?_
  rintro e w' ⟨he, d', q, os, hpi, hso, rfl⟩
  have hT : ∀ x y, (ltOf cmp4) x y = false → (ltOf cmp4) y x = false → x = y := by
    intro x y h1 h2
    rw [ltOf_cmp4_no] at h1 h2
    exact lt4_tri h1 h2
  have hu := sorted_unique_holds lt4_swo hT l.toArray d' (by rw [hsz0]; exact hpi) (by rw [hsz0]; exact hso)
  have hsz : d'.size = l.length := by
    have := hpi.1
    omega
  have h7 := swk_own (q := q) (os := os) d' hsz hbase hh h3 h4 h5
  rw [hu, show l.toArray.toList = l from rfl, ms_sort4] at h7
  refine ⟨he, ?_, hb.grown (swk_grown d') hb.size (fun k hk => by cases hk; exact hbase)⟩
  exact R4_of_own (ok := fun _ => True) (xs := sort4 l) (by rw [sort4_length]; exact h7) (fun _ _ => trivial)
end Go.Proofs.Ytmekcfkfkpbfeaa.H
namespace Go.Proofs.Ytmekcfkfkpbfeaa.H
open Go.RowKit Go.Proofs.YtmekcfkfkpbfeaaW.PrintWords Go.Proofs.YtmekcfkfkpbfeaaW.PrintLast Go.Proofs.YtmekcfkfkpbfeaaW.PrintMore
attribute [local go_sem] max2_int min2_int max_two min_two max_three min_three max_four min_four
set_option linter.unusedVariables false
set_option linter.unusedSimpArgs false
/-- Another one of l is below x. -/
def hit (below : M4 → M4 → Bool) (l : List M4) (x : M4) : Bool := l.any fun y => !decide (y = x) && below y x
/-- x is in l. -/
def isin (x : M4) (l : List M4) : Bool := l.any fun y => decide (x = y)
def keep (below : M4 → M4 → Bool) (l out : List M4) (x : M4) : List M4 := if hit below l x = true then out else if isin x out = true then out else out ++ [x]
def picked (below : M4 → M4 → Bool) (l : List M4) : List M4 := l.foldl (keep below l) []
def least (below : M4 → M4 → Bool) (l : List M4) : List M4 := sort4 (picked below l)
theorem fold_len (below : M4 → M4 → Bool) (l : List M4) : ∀ (xs out : List M4), (xs.foldl (keep below l) out).length ≤ out.length + xs.length
  | [], out => by simp
  | x :: xs, out => by
    rw [List.foldl_cons]
    have h := fold_len below l xs (keep below l out x)
    have h2 : (keep below l out x).length ≤ out.length + 1 := by
      unfold keep
      split
      · omega
      · split
        · omega
        · simp
    rw [List.length_cons]
    omega
theorem fold_snoc (below : M4 → M4 → Bool) (l : List M4) (k : Nat) (x : M4) (h : l[k]? = some x) : (l.take (k + 1)).foldl (keep below l) [] = keep below l ((l.take k).foldl (keep below l) []) x := by
  obtain ⟨hk, e⟩ := List.getElem?_eq_some_iff.1 h
  rw [List.take_succ_eq_append_getElem hk, List.foldl_append, e]
  rfl
theorem info76 : (Try.prog.info? 76).map (fun i => (i.zero, i.size, i.bytes)) = some (some (.agg #[.int .i64 0, .int .i64 0, .int .i64 0, .int .i64 0]), 4, 32) := by kernel_rfl
theorem hit_calls (fb : FuncId) (fn : Func) (hfb : Try.prog.funcs[fb]? = some fn) (hnb : (fn.name == "runtime.NumGoroutine") = false) (hbb : fn.body.isSome = true) (below : M4 → M4 → Bool) (hb : Compares fb below) (A : Option Addr) (c : Nat) (xs : List M4) (x : M4) (px pb : Nat) (W : World)
    (hr : Rows W A xs) (hl : xs.length < 1000000000) (hx : BoxAt W px x) (hp : W.cell? ⟨pb, 0, none⟩ = some (.func (.func fb) #[] #[])) :
    Calls Try.prog 70 #[.slice A xs.length c, .func (.func 94) #[] #[.pointer (some ⟨px, 0, none⟩), .pointer (some ⟨pb, 0, none⟩)]] W fun e w' => e = .returned (.bool (hit below xs x)) ∧ Below W.heap.size W w' :=
  ContainsFunc_calls (fun y => !decide (y = x) && below y x) 94 _ Try.func94 rfl (by kernel_rfl) _ A c xs W hr hl (fun W1 y hB => (other_calls fb fn hfb hnb hbb below hb y x px pb W1 (hx.below hB) (pw_cell_below hB hp)).mono fun e w2 ⟨he, hL⟩ => ⟨he, below_step hB hL.below⟩)
theorem heap_below {w w1 : World} {g : Nat} {o : Obj} (h : w.heap[g]? = some o) (hb : Below w.heap.size w w1) : w1.heap[g]? = some o := (hb.block g (blk_lt h)).trans h
set_option maxRecDepth 100000 in
set_option maxHeartbeats 8000000 in
theorem least_calls (fb : FuncId) (fn : Func) (hfb : Try.prog.funcs[fb]? = some fn) (hnb : (fn.name == "runtime.NumGoroutine") = false) (hbb : fn.body.isSome = true) (below : M4 → M4 → Bool) (hb : Compares fb below) (A : Option Addr) (c : Nat) (xs : List M4) (w : World)
    (hr : Rows w A xs) (hl : xs.length < 1000000000) :
    Calls Try.prog 76 #[.slice A xs.length c, .func (.func fb) #[] #[], .func (.func 77) #[] #[]] w fun e w' => ∃ v, e = .returned v ∧ K4.R 76 w' w.heap.size (fun _ => True) v (least below xs) ∧ Below w.heap.size w w' := by
  have HH := Aside0.mk (fun A c x px pb W h1 h2 h3 => hit_calls fb fn hfb hnb hbb below hb A c xs x px pb W h1 hl h2 h3)
  have HR := Aside0.mk hr
  have HL := Aside0.mk hl
  clear hfb hnb hbb hb hr hl
  have HB := Aside0.mk (below_alloc (Below.refl w.heap.size w) (.cells #[.func (.func fb) #[] #[]] 101))
  have HP := Aside0.mk (heap_alloc_new w (.cells #[.func (.func fb) #[] #[]] 101))
  go_enter Try.func76, Try.ntmps76
  go_wp2
  go_loopw [7, 12] (fun v7 v12 w' => ∃ (k : Nat) (out : List M4), k ≤ xs.length ∧ v12 = .int .i64 (k : Int) ∧ Aside0 (out = (xs.take k).foldl (keep below xs) []) ∧ Aside0 (K4.R 76 w' w.heap.size (fun _ => True) v7 out) ∧ Aside0 (out = [] → v7 = .slice none 0 0) ∧ Aside0 (Below w.heap.size w w') ∧ Aside0 (w'.heap[w.heap.size]? = some (.cells #[.func (.func fb) #[] #[]] 101 (0, 0)))) (fun _ v12 _ => xs.length - (intOf v12).toNat)
  case atStart => exact ⟨0, [], Nat.zero_le _, rfl, ⟨rfl⟩, ⟨Kd.R_nil _ _ _ _ _⟩, ⟨fun _ => rfl⟩, HB, HP⟩
  case round =>
    clear HB HP
    obtain ⟨k, out, hk, rfl, HO1, HO, HN, HB, HP⟩ := hrel
    by_cases hlt : k < xs.length
    · have hltb : decide ((k : Int) < (xs.length : Int)) = true := decide_eq_true (by omega)
      obtain ⟨x, hxk⟩ : ∃ x, xs[k]? = some x := ⟨_, List.getElem?_eq_getElem hlt⟩
      have HXK := Aside0.mk hxk
      clear hxk
      obtain ⟨g, hg, hgl, x0, x1, x2, x3⟩ := (HR.out.below HB.out).elem k x HXK.out
      subst hg
      have hk0 : (0 : Int) ≤ (k : Int) := by omega
      obtain ⟨A7, c7, hu7, hc7, hr7, _⟩ := rows_of_R HO.out
      subst hu7
      have HR7 := Aside0.mk hr7
      have HC7 := Aside0.mk hc7
      have HKL := Aside0.mk (fold_len below xs (xs.take k) [])
      have HOL : Aside0 (out.length < 1000000000) := ⟨by
        have h1 := HKL.out
        rw [← HO1.out, List.length_take] at h1
        have h2 := HL.out
        simp only [List.length_nil] at h1
        omega⟩
      have hB1 := Aside0.mk (boxAt_new wr x 76)
      have hR1 := Aside0.mk ((HR.out.below HB.out).below (below_alloc (Below.refl _ _) (.cells #[.int .i64 x.1, .int .i64 x.2.1, .int .i64 x.2.2.1, .int .i64 x.2.2.2] 76)))
      have hP1 := Aside0.mk ((blk_cell (heap_below HP.out (below_alloc (Below.refl _ _) (.cells #[.int .i64 x.1, .int .i64 x.2.1, .int .i64 x.2.2.1, .int .i64 x.2.2.2] 76))) 0).trans rfl)
      have H70 := Aside0.mk (HH.out (some ⟨g, 0, none⟩) c x wr.heap.size w.heap.size _ hR1.out hB1.out hP1.out)
      have H95 := Aside0.mk (fun W h => Contains_calls x A7 c7 out W h HOL.out)
      have HS : Aside0 ((xs.take (k + 1)).foldl (keep below xs) [] = if hit below xs x = true then out else if (out.any fun y => decide (x = y)) = true then out else out ++ [x]) := ⟨by rw [fold_snoc below xs k x HXK.out, ← HO1.out]; rfl⟩
      have hxl : xs.length < 1000000000 := HL.out
      unfold mv at H95
      clear hr7 hc7 hR1 hP1
      obtain ⟨m0, m1, m2, m3⟩ := x
      dsimp only at x0 x1 x2 x3 hB1 H70 H95
      generalize hit below xs (m0, m1, m2, m3) = b1 at H70 HS
      generalize (out.any fun y => decide ((m0, m1, m2, m3) = y)) = b2 at H95 HS
      cases b1 with
      | true =>
        go_wp2_with (go_at_call 70; refine H70.out.mono ?_; rintro e w2 ⟨rfl, hb2⟩; have HB2 := Aside0.mk (below_step (below_alloc HB.out _) hb2); have HB3 := Aside0.mk hb2; clear hb2)
        go_roundw
        case rel => exact ⟨k + 1, out, by omega, by go_num, ⟨by rw [HS.out]; rfl⟩, ⟨Kd.R_below (Kd.R_alloc HO.out _) HB3.out⟩, HN, HB2, ⟨heap_below (heap_below HP.out (below_alloc (Below.refl _ _) _)) HB3.out⟩⟩
        case measure => simp [intOf]; omega
      | false =>
        cases b2 with
        | true =>
          go_wp2_with (first | (go_at_call 70; refine H70.out.mono ?_; rintro e w2 ⟨rfl, hb2⟩; have HB2 := Aside0.mk (below_step (below_alloc HB.out _) hb2); have HB3 := Aside0.mk hb2; have HX2 := Aside0.mk (hB1.out.below hb2); obtain ⟨z0, z1, z2, z3⟩ := HX2.out; clear hb2) | (go_at_call 95; refine (H95.out _ ((HR7.out.below (below_alloc (Below.refl _ _) _)).below HB3.out)).mono ?_; rintro e w3 ⟨rfl, hb3⟩; have HB4 := Aside0.mk hb3; clear hb3 z0 z1 z2 z3))
          go_roundw
          case rel => exact ⟨k + 1, out, by omega, by go_num, ⟨by rw [HS.out]; rfl⟩, ⟨Kd.R_below (Kd.R_below (Kd.R_alloc HO.out _) HB3.out) HB4.out⟩, HN, ⟨below_step HB2.out HB4.out⟩, ⟨heap_below (heap_below (heap_below HP.out (below_alloc (Below.refl _ _) _)) HB3.out) HB4.out⟩⟩
          case measure => simp [intOf]; omega
        | false =>
          go_wp2_with (first | (go_at_call 70; refine H70.out.mono ?_; rintro e w2 ⟨rfl, hb2⟩; have HB2 := Aside0.mk (below_step (below_alloc HB.out _) hb2); have HB3 := Aside0.mk hb2; have HX2 := Aside0.mk (hB1.out.below hb2); obtain ⟨z0, z1, z2, z3⟩ := HX2.out; clear hb2) | (go_at_call 95; refine (H95.out _ ((HR7.out.below (below_alloc (Below.refl _ _) _)).below HB3.out)).mono ?_; rintro e w3 ⟨rfl, hb3⟩; have HB4 := Aside0.mk hb3; clear z0 z1 z2 z3; obtain ⟨z0, z1, z2, z3⟩ := HX2.out.below hb3; clear hb3) | (at_builtin; refine Kd.R_append K4 (w0 := w) w.heap.size rfl (.tmp 26) (.tmp 28) 71 76 (.agg #[.int .i64 0, .int .i64 0, .int .i64 0, .int .i64 0]) 32 rfl Try.underlying71 info76 rfl (by decide) (by omega) (.slice A7 out.length c7) out (m0, m1, m2, m3) (enc (m0, m1, m2, m3)) (fun _ => True) (fun _ => False) rfl rfl ?aP (fun _ h => h.elim) (fun _ _ => trivial) ?aO ?aB ?aS ?aL ?_; (case aP => exact rfl); (case aO => exact Kd.R_below (Kd.R_below (Kd.R_alloc HO.out _) HB3.out) HB4.out); (case aB => exact below_step HB2.out HB4.out); (case aS => exact (below_step HB2.out HB4.out).size); (case aL => have := HOL.out; omega); intro v1 w4 ho hb hg hat; have HO2 := Aside0.mk ho; have HB5 := Aside0.mk hb; have HG := Aside0.mk hg; clear ho hb hg hat))
          go_roundw
          case rel => exact ⟨k + 1, out ++ [(m0, m1, m2, m3)], by omega, by go_num, ⟨by rw [HS.out]; rfl⟩, HO2, ⟨fun h => absurd h (by simp)⟩, HB5, ⟨blk_grown (heap_below (heap_below (heap_below HP.out (below_alloc (Below.refl _ _) _)) HB3.out) HB4.out) HG.out (Kd.R_ne (Kd.R_below (Kd.R_below (Kd.R_alloc HO.out _) HB3.out) HB4.out) (heap_below (heap_below (heap_below HP.out (below_alloc (Below.refl _ _) _)) HB3.out) HB4.out) (by decide))⟩⟩
          case measure => simp [intOf]; omega
    · have hltb : decide ((k : Int) < (xs.length : Int)) = false := decide_eq_false (by omega)
      obtain rfl : k = xs.length := by omega
      obtain ⟨A7, c7, hu7, hc7, hr7, _⟩ := rows_of_R HO.out
      subst hu7
      have HE : Aside0 (out = picked below xs) := ⟨by rw [HO1.out, List.take_length]; rfl⟩
      have HKL := Aside0.mk (fold_len below xs (xs.take xs.length) [])
      have HOL : Aside0 (out.length < 1000000000) := ⟨by
        have h1 := HKL.out
        rw [← HO1.out, List.length_take] at h1
        have h2 := HL.out
        simp only [List.length_nil] at h1
        omega⟩
      have HN2 : Aside0 (out = [] → A7 = none ∧ c7 = 0) := ⟨fun h => by
        have h1 := HN.out h
        injection h1 with e1 e2 e3
        exact ⟨e1, e3⟩⟩
      clear hr7 hc7
      go_wp2_with (go_at_call 96; refine (sort_calls w _ A7 c7 out HOL.out HN2.out HO.out HB.out).mono ?_; rintro e w2 ⟨rfl, ho2, hb2⟩; have HO2 := Aside0.mk ho2; have HB2 := Aside0.mk hb2; clear ho2 hb2)
      go_ret
      exact ⟨_, rfl, by unfold least; rw [← HE.out]; exact HO2.out, HB2.out⟩
end Go.Proofs.Ytmekcfkfkpbfeaa.H
