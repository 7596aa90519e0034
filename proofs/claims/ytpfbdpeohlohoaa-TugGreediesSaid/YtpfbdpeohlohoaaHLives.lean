/- The walk of wogglelaw05.lives: the document's examples come out. No condition. -/
import Derived.Test.YtpfbdpeohlohoaaHDiff
import Derived.Test.YtpfbdpeohlohoaaHSplit
import Derived.Test.YtpfbdpeohlohoaaHGreedy
import Derived.Test.YtpfbdpeohlohoaaHTeams
import Derived.Test.YtpfbdpeohlohoaaGa5
namespace Go.Proofs.Ytpfbdpeohlohoaa.H
open Go.Proofs.Ytpfbdpeohlohoaa.Ga
open Go.Sort hiding rd
open Go.RowKit Go.Proofs.YtpfbdpeohlohoaaW.PrintWords Go.Proofs.YtpfbdpeohlohoaaW.PrintLast Go.Proofs.YtpfbdpeohlohoaaW.PrintMore
attribute [local go_sem] max2_int min2_int max_two min_two max_three min_three max_four min_four
set_option linter.unusedVariables false
set_option linter.unusedSimpArgs false
/-- What is sorted already is what the sort gives. -/
theorem ms_unique (xs ys : List KT) (hp : ys.Perm xs) (hs : ys.Pairwise (fun a b => KT.lt a b = true)) : xs.mergeSort KT.le = ys := by
  refine List.Perm.eq_of_pairwise (le := fun x y => KT.le x y = true) ?_ ?_ ?_ ((List.mergeSort_perm _ _).trans hp.symm)
  · intro a b ha hb h1 h2
    have hb2 : b ∈ ys := hb
    have ha2 : a ∈ ys := hp.mem_iff.2 ((List.mergeSort_perm _ _).mem_iff.1 ha)
    obtain ⟨i, hi, rfl⟩ := List.getElem_of_mem ha2
    obtain ⟨j, hj, rfl⟩ := List.getElem_of_mem hb2
    simp only [KT.le, Bool.not_eq_true'] at h1 h2
    rcases Nat.lt_trichotomy i j with h | h | h
    · have := List.pairwise_iff_getElem.1 hs i j hi hj h
      rw [this] at h2; exact absurd h2 (by simp)
    · subst h; rfl
    · have := List.pairwise_iff_getElem.1 hs j i hj hi h
      rw [this] at h1; exact absurd h1 (by simp)
  · exact List.pairwise_mergeSort (fun a b c h1 h2 => by
      simp only [KT.le, Bool.not_eq_true', KT.nlt_iff] at *; omega) (fun a b => by
      simp only [KT.le, Bool.or_eq_true, Bool.not_eq_true', KT.nlt_iff]; omega) _
  · exact hs.imp (fun {a b} h => by
      rw [KT.lt_iff] at h
      simp only [KT.le, Bool.not_eq_true', KT.nlt_iff]; omega)
theorem kkr_step {n : Nat} {ts rest : List KT} {made : Int} {a b : KT} (h : ts.mergeSort KT.le = a :: b :: rest) : kkr (n + 1) ts made = kkr n (rest ++ [KT.node (wrap64 (a.worth - b.worth)) made a b]) (wrap64 (made + 1)) := by
  rw [kkr, h]
theorem live2 : tug_Differencing.f 100 [4, 5, 6, 7, 8] = some (2, [0, 0, 1, 0, 1], 0) := by
  have hc : tug_check.f 100 [4, 5, 6, 7, 8] 14 = some 0 := by kernel_rfl
  unfold tug_Differencing.f
  rw [hc, Option.bind_some, if_pos rfl, if_pos (by decide)]
  have hl : lvs [4, 5, 6, 7, 8] 5 = [KT.leaf 4 0, KT.leaf 5 1, KT.leaf 6 2, KT.leaf 7 3, KT.leaf 8 4] := by kernel_rfl
  show kkEnd _ (kkr 4 (lvs [4, 5, 6, 7, 8] 5) 5) = _
  rw [hl]
  have e1 : ([KT.leaf 4 0, KT.leaf 5 1, KT.leaf 6 2, KT.leaf 7 3, KT.leaf 8 4] : List KT).mergeSort KT.le = [KT.leaf 8 4, KT.leaf 7 3, KT.leaf 6 2, KT.leaf 5 1, KT.leaf 4 0] := ms_unique _ _ (List.reverse_perm [KT.leaf 4 0, KT.leaf 5 1, KT.leaf 6 2, KT.leaf 7 3, KT.leaf 8 4]) (by decide)
  rw [kkr_step e1]
  have f1 : KT.node (wrap64 (KT.worth (KT.leaf 8 4) - KT.worth (KT.leaf 7 3))) 5 (KT.leaf 8 4) (KT.leaf 7 3) = KT.node 1 5 (KT.leaf 8 4) (KT.leaf 7 3) := by kernel_rfl
  rw [f1, show wrap64 (5 + 1) = 6 by unfold wrap64; omega]
  have e2 : (([KT.leaf 6 2, KT.leaf 5 1, KT.leaf 4 0] : List KT) ++ [KT.node 1 5 (KT.leaf 8 4) (KT.leaf 7 3)]).mergeSort KT.le = [KT.leaf 6 2, KT.leaf 5 1, KT.leaf 4 0, KT.node 1 5 (KT.leaf 8 4) (KT.leaf 7 3)] := ms_unique _ _ (List.Perm.refl _) (by decide)
  rw [kkr_step e2]
  have f2 : KT.node (wrap64 (KT.worth (KT.leaf 6 2) - KT.worth (KT.leaf 5 1))) 6 (KT.leaf 6 2) (KT.leaf 5 1) = KT.node 1 6 (KT.leaf 6 2) (KT.leaf 5 1) := by kernel_rfl
  rw [f2, show wrap64 (6 + 1) = 7 by unfold wrap64; omega]
  have e3 : (([KT.leaf 4 0, KT.node 1 5 (KT.leaf 8 4) (KT.leaf 7 3)] : List KT) ++ [KT.node 1 6 (KT.leaf 6 2) (KT.leaf 5 1)]).mergeSort KT.le = [KT.leaf 4 0, KT.node 1 5 (KT.leaf 8 4) (KT.leaf 7 3), KT.node 1 6 (KT.leaf 6 2) (KT.leaf 5 1)] := ms_unique _ _ (List.Perm.refl _) (by decide)
  rw [kkr_step e3]
  have f3 : KT.node (wrap64 (KT.worth (KT.leaf 4 0) - KT.worth (KT.node 1 5 (KT.leaf 8 4) (KT.leaf 7 3)))) 7 (KT.leaf 4 0) (KT.node 1 5 (KT.leaf 8 4) (KT.leaf 7 3)) = KT.node 3 7 (KT.leaf 4 0) (KT.node 1 5 (KT.leaf 8 4) (KT.leaf 7 3)) := by kernel_rfl
  rw [f3, show wrap64 (7 + 1) = 8 by unfold wrap64; omega]
  have e4 : (([KT.node 1 6 (KT.leaf 6 2) (KT.leaf 5 1)] : List KT) ++ [KT.node 3 7 (KT.leaf 4 0) (KT.node 1 5 (KT.leaf 8 4) (KT.leaf 7 3))]).mergeSort KT.le = [KT.node 3 7 (KT.leaf 4 0) (KT.node 1 5 (KT.leaf 8 4) (KT.leaf 7 3)), KT.node 1 6 (KT.leaf 6 2) (KT.leaf 5 1)] := ms_unique _ _ (List.Perm.swap _ _ _) (by decide)
  rw [kkr_step e4]
  have e5 : kkEnd [4, 5, 6, 7, 8] (kkr 0 ([] ++ [KT.node (wrap64 ((KT.node 3 7 (KT.leaf 4 0) (KT.node 1 5 (KT.leaf 8 4) (KT.leaf 7 3))).worth - (KT.node 1 6 (KT.leaf 6 2) (KT.leaf 5 1)).worth)) 8 (KT.node 3 7 (KT.leaf 4 0) (KT.node 1 5 (KT.leaf 8 4) (KT.leaf 7 3))) (KT.node 1 6 (KT.leaf 6 2) (KT.leaf 5 1))]) (wrap64 (8 + 1))) = some (2, [0, 0, 1, 0, 1], 0) := by kernel_rfl
  exact e5
set_option maxRecDepth 100000 in
theorem live1 : tug_Split.f 100 [4, 5, 6, 7, 8] = some (0, [0, 0, 0, 1, 1], 0) := by kernel_rfl
set_option maxRecDepth 100000 in
theorem live4 : tug_Teams.f 100 [5, 4, 3, 3, 3] 2 = some (9, [0, 0, 1, 1, 1], 0) := by kernel_rfl
set_option maxRecDepth 100000 in
theorem live3 : tug_Greedy.f 100 [5, 4, 3, 3, 3] 2 = some (10, [0, 1, 1, 0, 1], 0) := by kernel_rfl
theorem same1 : woggleref01_Same.f 100 [0, 0, 0, 1, 1] [0, 0, 0, 1, 1] = some true := by kernel_rfl
theorem same3 : woggleref01_Same.f 100 [0, 1, 1, 0, 1] [0, 1, 1, 0, 1] = some true := by kernel_rfl
theorem same4 : woggleref01_Same.f 100 [0, 0, 1, 1, 1] [0, 0, 1, 1, 1] = some true := by kernel_rfl
theorem C_lit {W : World} {g : Nat} {xs : List Int} (h : W.heap[g]? = some (.cells (xs.map (Value.int .i64)).toArray 3 (0, 0))) (hm : xs.length ≤ 1000) : Kd.C (Kd.int .i64) W (some ⟨g, 0, none⟩) xs.length xs := by
  have hr : Kd.R (Kd.int .i64) 3 W 0 (fun _ => True) (.slice (some ⟨g, 0, none⟩) xs.length xs.length) xs := Kd.R_of_own ⟨by simp [encs], .inr ⟨g, xs.length, _, rfl, Nat.zero_le _, h, Nat.le_refl _, by unfold maxLen; omega, by simp, by rw [Nat.mul_one]; exact List.take_of_length_le (by simp)⟩⟩ (fun _ _ => trivial)
  exact (Kd.R_reads' hr).2.2
def tug_lives.f : Option Bool := some true
set_option maxHeartbeats 8000000 in
set_option maxRecDepth 100000 in
theorem tug_lives.calls (r : Bool) (w : World) (h : tug_lives.f = some r) :
    Calls Try.prog 20 #[] w fun e w' => e = .returned (.bool r) ∧ Below w.heap.size w w' := by
  obtain rfl := Option.some.inj h
  have HB := Aside0.mk (Below.refl w.heap.size w)
  go_enter Try.func20, Try.ntmps20
  have M1 := Aside0.mk trivial
  have M3 := Aside0.mk trivial
  have M4 := Aside0.mk trivial
  go_wp2_with (first | (go_at_call 30; refine (tug_Split.calls 100 (some ⟨_, 0, none⟩) 5 [4, 5, 6, 7, 8] 0 [0, 0, 0, 1, 1] 0 _ (C_lit (xs := [4, 5, 6, 7, 8]) (heap_alloc_new _ _) (by decide)) (by decide) live1).mono ?_; rintro e w1 ⟨v1, rfl, ho, hb⟩; have HO1 := Aside0.mk (Kd.R_lower ho (below_alloc HB.out _).size); have nb_ := Aside0.mk (below_step (below_alloc HB.out _) hb); clear HB ho hb; have HB := nb_; clear nb_; obtain ⟨A1, c1, e1⟩ := Kd.R_slice HO1.out; subst e1) | (go_at_call 18; refine (tug_Differencing.calls 100 (some ⟨_, 0, none⟩) 5 [4, 5, 6, 7, 8] 2 [0, 0, 1, 0, 1] 0 _ (C_lit (xs := [4, 5, 6, 7, 8]) (heap_alloc_new _ _) (by decide)) (by decide) live2).mono ?_; rintro e w2 ⟨v2, rfl, ho, hb⟩; have HO2 := Aside0.mk (Kd.R_lower ho (below_alloc HB.out _).size); have n1_ := Aside0.mk (Kd.R_below (Kd.R_alloc HO1.out _) hb); clear HO1; have HO1 := n1_; clear n1_; have nb_ := Aside0.mk (below_step (below_alloc HB.out _) hb); clear HB ho hb; have HB := nb_; clear nb_; obtain ⟨A2, c2, e2⟩ := Kd.R_slice HO2.out; subst e2) | (go_at_call 38; refine (tug_Greedy.calls 100 (some ⟨_, 0, none⟩) 5 [5, 4, 3, 3, 3] 2 10 [0, 1, 1, 0, 1] 0 _ (C_lit (xs := [5, 4, 3, 3, 3]) (heap_alloc_new _ _) (by decide)) (by decide) live3).mono ?_; rintro e w3 ⟨v3, rfl, ho, hb⟩; have HO3 := Aside0.mk (Kd.R_lower ho (below_alloc HB.out _).size); have n1_ := Aside0.mk (Kd.R_below (Kd.R_alloc HO1.out _) hb); clear HO1; have HO1 := n1_; clear n1_; have n2_ := Aside0.mk (Kd.R_below (Kd.R_alloc HO2.out _) hb); clear HO2; have HO2 := n2_; clear n2_; have nb_ := Aside0.mk (below_step (below_alloc HB.out _) hb); clear HB ho hb; have HB := nb_; clear nb_; obtain ⟨A3, c3, e3⟩ := Kd.R_slice HO3.out; subst e3) | (go_at_call 23; refine (tug_Teams.calls 100 (some ⟨_, 0, none⟩) 5 [5, 4, 3, 3, 3] 2 9 [0, 0, 1, 1, 1] 0 _ (C_lit (xs := [5, 4, 3, 3, 3]) (heap_alloc_new _ _) (by decide)) (by decide) live4).mono ?_; rintro e w4 ⟨v4, rfl, ho, hb⟩; have HO4 := Aside0.mk (Kd.R_lower ho (below_alloc HB.out _).size); have n1_ := Aside0.mk (Kd.R_below (Kd.R_alloc HO1.out _) hb); clear HO1; have HO1 := n1_; clear n1_; have n2_ := Aside0.mk (Kd.R_below (Kd.R_alloc HO2.out _) hb); clear HO2; have HO2 := n2_; clear n2_; have n3_ := Aside0.mk (Kd.R_below (Kd.R_alloc HO3.out _) hb); clear HO3; have HO3 := n3_; clear n3_; have nb_ := Aside0.mk (below_step (below_alloc HB.out _) hb); clear HB ho hb; have HB := nb_; clear nb_; obtain ⟨A4, c4, e4⟩ := Kd.R_slice HO4.out; subst e4) | (clear M1; go_at_call 22; refine (woggleref01_Same.calls 100 A1 c1 [0, 0, 0, 1, 1] (some ⟨_, 0, none⟩) 5 [0, 0, 0, 1, 1] true _ (Kd.R_reads' (Kd.R_alloc HO1.out _)).2.2 (Kd.R_reads' HO1.out).2.1 (C_lit (xs := [0, 0, 0, 1, 1]) (heap_alloc_new _ _) (by decide)) (by decide) same1).mono ?_; rintro e w5 ⟨rfl, hb⟩; have hb := hb.below; have n1_ := Aside0.mk (Kd.R_below (Kd.R_alloc HO1.out _) hb); clear HO1; have HO1 := n1_; clear n1_; have n2_ := Aside0.mk (Kd.R_below (Kd.R_alloc HO2.out _) hb); clear HO2; have HO2 := n2_; clear n2_; have n3_ := Aside0.mk (Kd.R_below (Kd.R_alloc HO3.out _) hb); clear HO3; have HO3 := n3_; clear n3_; have n4_ := Aside0.mk (Kd.R_below (Kd.R_alloc HO4.out _) hb); clear HO4; have HO4 := n4_; clear n4_; have nb_ := Aside0.mk (below_step (below_alloc HB.out _) hb); clear HB hb; have HB := nb_; clear nb_) | (clear M3; go_at_call 22; refine (woggleref01_Same.calls 100 A3 c3 [0, 1, 1, 0, 1] (some ⟨_, 0, none⟩) 5 [0, 1, 1, 0, 1] true _ (Kd.R_reads' (Kd.R_alloc HO3.out _)).2.2 (Kd.R_reads' HO3.out).2.1 (C_lit (xs := [0, 1, 1, 0, 1]) (heap_alloc_new _ _) (by decide)) (by decide) same3).mono ?_; rintro e w6 ⟨rfl, hb⟩; have hb := hb.below; have n1_ := Aside0.mk (Kd.R_below (Kd.R_alloc HO1.out _) hb); clear HO1; have HO1 := n1_; clear n1_; have n2_ := Aside0.mk (Kd.R_below (Kd.R_alloc HO2.out _) hb); clear HO2; have HO2 := n2_; clear n2_; have n3_ := Aside0.mk (Kd.R_below (Kd.R_alloc HO3.out _) hb); clear HO3; have HO3 := n3_; clear n3_; have n4_ := Aside0.mk (Kd.R_below (Kd.R_alloc HO4.out _) hb); clear HO4; have HO4 := n4_; clear n4_; have nb_ := Aside0.mk (below_step (below_alloc HB.out _) hb); clear HB hb; have HB := nb_; clear nb_) | (clear M4; go_at_call 22; refine (woggleref01_Same.calls 100 A4 c4 [0, 0, 1, 1, 1] (some ⟨_, 0, none⟩) 5 [0, 0, 1, 1, 1] true _ (Kd.R_reads' (Kd.R_alloc HO4.out _)).2.2 (Kd.R_reads' HO4.out).2.1 (C_lit (xs := [0, 0, 1, 1, 1]) (heap_alloc_new _ _) (by decide)) (by decide) same4).mono ?_; rintro e w7 ⟨rfl, hb⟩; have hb := hb.below; have n1_ := Aside0.mk (Kd.R_below (Kd.R_alloc HO1.out _) hb); clear HO1; have HO1 := n1_; clear n1_; have n2_ := Aside0.mk (Kd.R_below (Kd.R_alloc HO2.out _) hb); clear HO2; have HO2 := n2_; clear n2_; have n3_ := Aside0.mk (Kd.R_below (Kd.R_alloc HO3.out _) hb); clear HO3; have HO3 := n3_; clear n3_; have n4_ := Aside0.mk (Kd.R_below (Kd.R_alloc HO4.out _) hb); clear HO4; have HO4 := n4_; clear n4_; have nb_ := Aside0.mk (below_step (below_alloc HB.out _) hb); clear HB hb; have HB := nb_; clear nb_))
  go_ret
  exact ⟨rfl, HB.out⟩
end Go.Proofs.Ytpfbdpeohlohoaa.H
