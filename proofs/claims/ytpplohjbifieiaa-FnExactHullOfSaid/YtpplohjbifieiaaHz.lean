/- HullOf: program and reference give the same. -/
import Derived.Test.YtpplohjbifieiaaHj
namespace Go.Proofs.Ytpplohjbifieiaa.PD
open Go.RowKit Go.Proofs.YtpplohjbifieiaaW.PrintWords Go.Proofs.YtpplohjbifieiaaW.PrintLast Go.Proofs.YtpplohjbifieiaaW.PrintMore
open Poly (Pt det sub)
open Hull Go.Sort Go.Lib

/-- what is told of the corners -/
noncomputable def told (V : List S40) : List S40 × Int := if (V.length : Int) < 3 then ([], 5) else if polyB (pts V) = true then (V, 0) else ([], 3)
theorem told_len (V : List S40) : (told V).1.length ≤ 12 := by
  unfold told
  split
  · simp
  · split
    · rename_i h
      have : PolyOk (pts V) := by
        rcases Classical.em (PolyOk (pts V)) with k | k
        · exact k
        · rw [polyB_false k] at h; cases h
      have := this.n12
      rwa [pts_len] at this
    · simp

/-- the sorted points, each once -/
def sorted (L : List S40) : List S40 := compact (L.mergeSort leP)
theorem sorted_mem (L : List S40) (x : S40) : x ∈ sorted L ↔ x ∈ L := by
  unfold sorted
  rw [mem_compact, List.mem_mergeSort]
theorem sorted_lt (L : List S40) : (sorted L).Pairwise (fun a b => lt (pt a) (pt b)) := strict_of _ (sorted_of L)
theorem sorted_len (L : List S40) : (sorted L).length ≤ L.length := by
  have : (compact (L.mergeSort leP)).length ≤ (L.mergeSort leP).length := by
    unfold compact compactUpTo
    rw [List.length_map]
    exact Nat.le_trans (List.length_filter_le _ _) (by simp)
  rwa [List.length_mergeSort] at this

theorem impl_hull_ev (L : List S40) (hn : L.length ≤ 100000) (hb : ∀ e ∈ L, Bd 1000000 (pt e)) : Ev (fun k => impl_hull.f k L) (told (corners (sorted L))) := by
  have hD : ∀ e ∈ sorted L, Bd 1000000 (pt e) := fun e he => hb e ((sorted_mem L e).mp he)
  have hl := sorted_len L
  have c1 : slices_Clone_impl_Point_impl_Point.f L = some L := by unfold slices_Clone_impl_Point_impl_Point.f; rw [if_pos (by omega)]
  have c2 : slices_SortFunc_impl_Point_impl_Point_at_impl_pointOrder.f L = some (L.mergeSort leP) := by unfold slices_SortFunc_impl_Point_impl_Point_at_impl_pointOrder.f; rw [if_pos (by omega)]
  have c3 : slices_Compact_impl_Point_impl_Point.f (L.mergeSort leP) = some (sorted L) := by
    unfold slices_Compact_impl_Point_impl_Point.f
    rw [if_pos (by rw [List.length_mergeSort]; omega)]
    rfl
  have c5 : slices_Reverse_impl_Point_impl_Point.f (sorted L) = some (sorted L).reverse := rfl
  have e4 := chain_ev (sorted L) hD (by omega)
  have e6 := chain_ev (sorted L).reverse (fun e he => hD e (List.mem_reverse.mp he)) (by rw [List.length_reverse]; omega)
  have l4 : (run [] (sorted L)).tail.reverse.length ≤ 100000 := by
    have := (run_len (sorted L) []).1
    simp at this ⊢
    omega
  have l6 : (run [] (sorted L).reverse).tail.reverse.length ≤ 100000 := by
    have := (run_len (sorted L).reverse []).1
    simp at this ⊢
    omega
  have e7 : Ev (fun k => slices_Concat_impl_Point_impl_Point.f k [(run [] (sorted L)).tail.reverse, (run [] (sorted L).reverse).tail.reverse]) (corners (sorted L)) := concatP_ev _ _ (show (run [] (sorted L)).tail.reverse.length + (run [] (sorted L).reverse).tail.reverse.length ≤ 1000000 by omega)
  unfold impl_hull.f
  refine Ev.bind0 c1 (Ev.bind0 c2 (Ev.bind0 c3 (Ev.bind e4 (Ev.bind0 c5 (Ev.bind e6 (Ev.bind e7 ?_))))))
  have hcl : (corners (sorted L)).length < 1000000000000 := by unfold corners; rw [List.length_append]; omega
  unfold told
  by_cases h3 : ((corners (sorted L)).length : Int) < 3
  · rw [if_pos h3]
    exact Ev.pos h3 (Ev.pure _)
  · rw [if_neg h3]
    refine Ev.neg h3 (Ev.bind (isP_ev _ hcl) ?_)
    by_cases hp : polyB (pts (corners (sorted L))) = true
    · rw [if_pos hp]
      exact Ev.of (fun k => by simp [hp])
    · rw [if_neg hp]
      exact Ev.of (fun k => by simp [hp])

theorem told_ev (L W : List S40) (h : Ev (fun k => spec_l09Hull.f k L) W) : Ev (fun k => spec_l09Told.f k L) (told W) := by
  unfold spec_l09Told.f told
  refine Ev.bind h ?_
  by_cases h3 : (W.length : Int) < 3
  · rw [if_pos h3]
    exact Ev.pos h3 (Ev.pure _)
  · rw [if_neg h3]
    refine Ev.neg h3 (Ev.bind (is_ev W) ?_)
    by_cases hp : polyB (pts W) = true
    · rw [if_pos hp]
      exact Ev.of (fun k => by simp [hp])
    · rw [if_neg hp]
      exact Ev.of (fun k => by simp [hp])

theorem spec_hull_ev (L : List S40) (hn : L.length ≤ 100000) (hb : ∀ e ∈ L, Bd 1000000 (pt e)) : Ev (fun k => spec_l09Told.f k L) (told (corners (sorted L))) := by
  have hmem := sorted_mem L
  have hlt := sorted_lt L
  have hlen := sorted_len L
  have hIn : In (sorted L) = In L := by
    funext p
    unfold In
    simp only [hmem]
  generalize sorted L = D at hmem hlt hlen hIn ⊢
  cases D with
  | nil =>
    have hL : L = [] := by
      cases L with
      | nil => rfl
      | cons a L => exact absurd ((hmem a).mpr List.mem_cons_self) (by simp)
    subst hL
    have : told (corners []) = told ([] : List S40) := rfl
    rw [this]
    refine told_ev _ _ ?_
    unfold spec_l09Hull.f
    exact Ev.pos rfl (Ev.pure _)
  | cons d D =>
    have hdL : d ∈ L := (hmem d).mp List.mem_cons_self
    have hpos : 0 < L.length := List.length_pos_of_mem hdL
    have hmin : ∀ e ∈ L, e = d ∨ lt (pt d) (pt e) := fun e he => by
      rcases List.mem_cons.mp ((hmem e).mpr he) with k | k
      · exact .inl k
      · exact .inr ((List.pairwise_cons.mp hlt).1 e k)
    have start : ∀ W, Ev (fun k => spec_l09Hull.l1 k L [d] d.f0 d.f1) W → Ev (fun k => spec_l09Hull.f k L) W := fun W h => by
      unfold spec_l09Hull.f
      refine Ev.neg (by omega) (Ev.pos (by omega) ?_)
      have hr : rd_T40 L 0 = L[0] := rdAt (i := 0) (List.getElem?_eq_getElem hpos)
      rw [hr]
      exact first_ev L hn d hdL hmin h L.length 0 L[0] (by omega) (List.getElem_mem _) (fun j hj h => by omega)
    have h1 : rd_T40 [d] (wrap64 ((([d] : List S40).length : Int) - 1)) = d := by
      rw [w64 (by simp) (by simp)]
      rfl
    cases D with
    | nil =>
      have hall : ∀ e ∈ L, e = d := fun e he => by simpa using (hmem e).mpr he
      have : told (corners [d]) = told [d] := by
        have e : corners [d] = [] := rfl
        rw [e]
        unfold told
        rw [if_pos (by simp), if_pos (by simp)]
      rw [this]
      refine told_ev _ _ (start _ ?_)
      refine Ev.step (fun k => by rw [spec_l09Hull.l1]) ?_
      rw [h1]
      refine Ev.pos (by rw [w64 (by simp) (by simp)]; simp) (Ev.pos (by rw [w64 (by simp) (by simp)]; simp) ?_)
      exact alone_ev L hn [d] d d hall L.length 0 ⟨0, 0⟩ (by omega)
    | cons d2 D =>
      obtain ⟨v, hv⟩ : ∃ v, (d :: d2 :: D).getLast? = some v := ⟨_, List.getLast?_eq_some_getLast (List.cons_ne_nil _ _)⟩
      have hvD : v ∈ d2 :: D := by
        rw [List.getLast?_cons_cons] at hv
        exact List.mem_of_getLast? hv
      have hne : d ≠ v := fun e => lt_irr (pt v) (by have := (List.pairwise_cons.mp hlt).1 v hvD; rwa [e] at this)
      obtain ⟨h0, c0, cm, cs, cn, cl⟩ := corners_ok (d :: d2 :: D) d v rfl hv hne hlt
      generalize corners (d :: d2 :: D) = V at h0 c0 cm cs cn cl ⊢
      rw [hIn] at cs
      refine told_ev _ _ (start _ ?_)
      have := around_ev L V hn hb (fun e he => (hmem e).mp (cm e he)) h0 (by omega) cs cn (V.length - 1) 0 (by omega)
      rw [List.take_add_one, List.getElem?_eq_getElem h0, c0] at this
      exact this

theorem iinP_eq (x y : Int) : impl_IsPoint.f x y = some (fitB x y 1000000) := by
  have h : ∀ a : Int, impl_isCoord.f a = some (inB a (-1000000) 1000000) := fun a => by unfold impl_isCoord.f; rw [iin_eq]; rfl
  unfold impl_IsPoint.f fitB
  rw [h, h]
  simp only [Option.bind_some]
  cases inB x (-1000000) 1000000 <;> simp
theorem out_eq (x y : Int) : impl_points_1.f x y = some (!fitB x y 1000000) := by
  unfold impl_points_1.f
  rw [iinP_eq]
  rfl
/-- the first that is not small, or -1 -/
theorem index_far (L : List S40) (hmax : L.length < 1000000000000) : ∀ d i, i + d = L.length → (∀ j, j < i → Bd 1000000 (cyc (pts L) j)) →
    ∃ r : Int, Ev (fun k => slices_IndexFunc_impl_Point_impl_Point_at_impl_points_1.l0 k L (L.length : Int) (i : Int)) r ∧ (0 ≤ r ↔ ¬ ∀ j, j < L.length → Bd 1000000 (cyc (pts L) j)) := by
  intro d
  induction d with
  | zero =>
    intro i hi hf
    refine ⟨-1, Ev.step (fun k => by rw [slices_IndexFunc_impl_Point_impl_Point_at_impl_points_1.l0]) (Ev.neg (by omega) (Ev.pure _)), by omega, fun h => (h fun j hj => hf j (by omega)).elim⟩
  | succ d ih =>
    intro i hi hf
    have hlt : i < L.length := by omega
    by_cases hb : Bd 1000000 (cyc (pts L) i)
    · obtain ⟨r, hr, hq⟩ := ih (i + 1) (by omega) (fun j hj => by
        rcases Nat.lt_or_ge j i with h | h
        · exact hf j h
        · obtain rfl : j = i := by omega
          exact hb)
      refine ⟨r, Ev.step (fun k => by rw [slices_IndexFunc_impl_Point_impl_Point_at_impl_points_1.l0]) ?_, hq⟩
      refine Ev.pos (by omega) (Ev.pos (by omega) (Ev.pos (by omega) ?_))
      rw [rd_x hlt, rd_y hlt, out_eq, fitB_iff.2 hb]
      refine Ev.bind0 rfl (Ev.neg (by simp) ?_)
      rw [wnext i (by omega)]; exact hr
    · refine ⟨i, Ev.step (fun k => by rw [slices_IndexFunc_impl_Point_impl_Point_at_impl_points_1.l0]) ?_, fun _ h => hb (h i hlt), fun _ => by omega⟩
      refine Ev.pos (by omega) (Ev.pos (by omega) (Ev.pos (by omega) ?_))
      rw [rd_x hlt, rd_y hlt, out_eq]
      have hf' : fitB (cyc (pts L) i).x (cyc (pts L) i).y 1000000 = false := by
        cases hq : fitB (cyc (pts L) i).x (cyc (pts L) i).y 1000000 with
        | false => rfl
        | true => exact absurd (fitB_iff.1 hq) hb
      rw [hf']
      exact Ev.bind0 rfl (Ev.pos (by simp) (Ev.pure _))
open Classical in
theorem contains_far (L : List S40) (hmax : L.length < 1000000000000) : Ev (fun k => slices_ContainsFunc_impl_Point_impl_Point_at_impl_points_1.f k L) (decide (¬ ∀ j, j < L.length → Bd 1000000 (cyc (pts L) j))) := by
  obtain ⟨r, hr, hq⟩ := index_far L hmax L.length 0 (by omega) (fun j hj => by omega)
  unfold slices_ContainsFunc_impl_Point_impl_Point_at_impl_points_1.f slices_IndexFunc_impl_Point_impl_Point_at_impl_points_1.f
  refine Ev.bind hr ((Ev.pure _).eq ?_)
  rw [decide_eq_decide]; exact hq

/-- all are points -/
def All (L : List S40) : Prop := ∀ j, j < L.length → Bd 1000000 (cyc (pts L) j)
open Classical in
theorem points_ev (L : List S40) (hmax : L.length < 1000000000000) : Ev (fun k => impl_points.f k L) (decide (All L)) := by
  unfold impl_points.f
  refine Ev.bind (contains_far L hmax) ((Ev.pure _).eq ?_)
  unfold All
  by_cases h : ∀ j, j < L.length → Bd 1000000 (cyc (pts L) j)
  · rw [decide_eq_false (not_not_intro h)]; exact (@decide_eq_true _ (_) h).symm
  · rw [decide_eq_true h]; exact (@decide_eq_false _ (_) h).symm
theorem code_loop (L : List S40) (hmax : L.length < 1000000000000) : ∀ d i, i + d = L.length → (∀ j, j < i → Bd 1000000 (cyc (pts L) j)) →
    ∃ r : Int, Ev (fun k => spec_l01Code.l0 k L (i : Int)) r ∧ (All L → r = 0) ∧ (¬ All L → r = 1) := by
  intro d
  induction d with
  | zero =>
    intro i hi hf
    exact ⟨0, Ev.step (fun k => by rw [spec_l01Code.l0]) (Ev.neg (by omega) (Ev.pure _)), fun _ => rfl, fun h => absurd (fun j hj => hf j (by omega)) h⟩
  | succ d ih =>
    intro i hi hf
    have hlt : i < L.length := by omega
    by_cases hb : Bd 1000000 (cyc (pts L) i)
    · obtain ⟨r, hr, hq⟩ := ih (i + 1) (by omega) (fun j hj => by
        rcases Nat.lt_or_ge j i with h | h
        · exact hf j h
        · obtain rfl : j = i := by omega
          exact hb)
      refine ⟨r, Ev.step (fun k => by rw [spec_l01Code.l0]) ?_, hq⟩
      refine Ev.pos (by omega) (Ev.pos (by omega) ?_)
      rw [rd_x hlt, rd_y hlt, is_eq, fitB_iff.2 hb]
      refine Ev.bind0 rfl (Ev.pos rfl ?_)
      rw [wnext i (by omega)]; exact hr
    · refine ⟨1, Ev.step (fun k => by rw [spec_l01Code.l0]) ?_, fun h => absurd (h i hlt) hb, fun _ => rfl⟩
      refine Ev.pos (by omega) (Ev.pos (by omega) ?_)
      rw [rd_x hlt, rd_y hlt, is_eq]
      have hf' : fitB (cyc (pts L) i).x (cyc (pts L) i).y 1000000 = false := by
        cases hq : fitB (cyc (pts L) i).x (cyc (pts L) i).y 1000000 with
        | false => rfl
        | true => exact absurd (fitB_iff.1 hq) hb
      rw [hf']
      exact Ev.bind0 rfl (Ev.neg (by simp) (Ev.pure _))
theorem all_bd {L : List S40} (h : All L) : ∀ e ∈ L, Bd 1000000 (pt e) := by
  intro e he
  obtain ⟨i, hi, rfl⟩ := List.getElem_of_mem he
  have := h i hi
  rw [← rd_cyc L i hi] at this
  have hr : rd_T40 L (i : Int) = L[i] := rdAt (List.getElem?_eq_getElem hi)
  rwa [hr] at this

/-- program and reference give the same -/
theorem both_hull (L : List S40) (hmax : L.length ≤ 1000000000) : ∃ R : List S40 × Int, R.1.length ≤ 12 ∧ Ev (fun k => spec_HullOf.f k L) R ∧ Ev (fun k => impl_HullOf.f k L) R := by
  classical
  unfold spec_HullOf.f impl_HullOf.f spec_l01Points.f spec_l01Code.f
  obtain ⟨r, hr, h1, h2⟩ := code_loop L (by omega) L.length 0 (by omega) (fun j hj => by omega)
  by_cases ha : All L
  · obtain rfl := h1 ha
    by_cases hc : (L.length : Int) > 100
    · refine ⟨([], 2), by simp, Ev.bind (Ev.bind hr (Ev.pos rfl (Ev.pos hc (Ev.pure _)))) (Ev.neg (by simp) (Ev.pure _)), Ev.bind (points_ev L (by omega)) ?_⟩
      rw [decide_eq_true ha]
      exact Ev.pos rfl (Ev.pos hc (Ev.pure _))
    · refine ⟨told (corners (sorted L)), told_len _, Ev.bind (Ev.bind hr (Ev.pos rfl (Ev.neg hc (Ev.pure _)))) (Ev.pos rfl (Ev.bind (spec_hull_ev L (by omega) (all_bd ha)) (Ev.pure _))), Ev.bind (points_ev L (by omega)) ?_⟩
      rw [decide_eq_true ha]
      exact Ev.pos rfl (Ev.neg hc (Ev.bind (impl_hull_ev L (by omega) (all_bd ha)) (Ev.pure _)))
  · obtain rfl := h2 ha
    refine ⟨([], 1), by simp, Ev.bind (Ev.bind hr (Ev.neg (by simp) (Ev.pure _))) (Ev.neg (by simp) (Ev.pure _)), Ev.bind (points_ev L (by omega)) ?_⟩
    rw [decide_eq_false ha]
    exact Ev.neg (by simp) (Ev.pure _)
end Go.Proofs.Ytpplohjbifieiaa.PD
